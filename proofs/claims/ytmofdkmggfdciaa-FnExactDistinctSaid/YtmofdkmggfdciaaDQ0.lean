/- What functions compute, and that they do; part 0 of Q; by a program (dec.py). No condition. -/
import Derived.Test.YtmofdkmggfdciaaXQ
namespace Go.Proofs.Ytmofdkmggfdciaa.XQ
open Go.Proofs.Ytmofdkmggfdciaa.R
set_option linter.unusedVariables false
set_option maxRecDepth 100000

/-! ### 75: laws.szIntS -/
noncomputable def F_laws_szIntS (x : List E_i64 × Int) : Option (Int) :=
  bif (decide ((Go.IntKind.wrap .i64 (x.2 - ((List.length x.1 : Nat) : Int))) < (0 : Int))) then some (-1 : Int) else some (Go.IntKind.wrap .i64 (x.2 - ((List.length x.1 : Nat) : Int)))
noncomputable def f75B : Code := match Try.f75.body with
  | some c => c
  | none => .skip
noncomputable def f75K : C.Sem := tab []
noncomputable def f75P : Lp := fun i s {_R} κ => none
theorem k75 : Contract C Try.prog f75K := contract_tab _ (fun p hp => by cases hp)
theorem ev75 (x : List E_i64 × Int) : evalB C f75K f75P 75 Try.f75 f75B ⟨[.v false [(.sl 3 ts_i64)] [false], .v false [(.int .i64)] [false]], [⟨false, [(.int .i64)], [false]⟩], false⟩ [(.sl 3 ts_i64), (.int .i64)] [(.int .i64)] x = F_laws_szIntS x := by kernel_rfl
theorem ok75 : ContractAt C Try.prog 75 F_laws_szIntS := fn_sound (lp := f75P) tok mixed k75 (by kernel_rfl) (fn := Try.f75) (c := f75B) (sg := ⟨[.v false [(.sl 3 ts_i64)] [false], .v false [(.int .i64)] [false]], [⟨false, [(.int .i64)], [false]⟩], false⟩) Try.func75 (by decide) (by kernel_rfl) (by kernel_rfl) (by kernel_rfl) (fun c' hc' => by
    rw [show loopsOf f75B = [] by kernel_rfl] at hc'
    cases hc') (by decide) (by decide) (fun x y h => (ev75 x).trans h)

/-! ### 123: laws.szKeyS -/
noncomputable def F_laws_szKeyS (x : List E_LKey × Int) : Option (Int) :=
  bif (decide ((Go.IntKind.wrap .i64 (x.2 - ((List.length x.1 : Nat) : Int))) < (0 : Int))) then some (-1 : Int) else some (Go.IntKind.wrap .i64 (x.2 - ((List.length x.1 : Nat) : Int)))
noncomputable def f123B : Code := match Try.f123.body with
  | some c => c
  | none => .skip
noncomputable def f123K : C.Sem := tab []
noncomputable def f123P : Lp := fun i s {_R} κ => none
theorem k123 : Contract C Try.prog f123K := contract_tab _ (fun p hp => by cases hp)
theorem ev123 (x : List E_LKey × Int) : evalB C f123K f123P 123 Try.f123 f123B ⟨[.v false [(.sl 179 ts_LKey)] [false], .v false [(.int .i64)] [false]], [⟨false, [(.int .i64)], [false]⟩], false⟩ [(.sl 179 ts_LKey), (.int .i64)] [(.int .i64)] x = F_laws_szKeyS x := by kernel_rfl
theorem ok123 : ContractAt C Try.prog 123 F_laws_szKeyS := fn_sound (lp := f123P) tok mixed k123 (by kernel_rfl) (fn := Try.f123) (c := f123B) (sg := ⟨[.v false [(.sl 179 ts_LKey)] [false], .v false [(.int .i64)] [false]], [⟨false, [(.int .i64)], [false]⟩], false⟩) Try.func123 (by decide) (by kernel_rfl) (by kernel_rfl) (by kernel_rfl) (fun c' hc' => by
    rw [show loopsOf f123B = [] by kernel_rfl] at hc'
    cases hc') (by decide) (by decide) (fun x y h => (ev123 x).trans h)

/-! ### 113: laws.szKeySS -/
abbrev T_laws_szKeySS_5 : Type := List E_s_LKey × Int × Int
noncomputable def S_laws_szKeySS_5 {R : Type} (k0 : (Int × Int) → Option R) (k1 : Int → Option R) (again : T_laws_szKeySS_5 → Option R) (t5 : T_laws_szKeySS_5) : Option R :=
  bif (decide (t5.2.2 < ((List.length t5.1 : Nat) : Int))) then if (0 : Int) ≤ t5.2.2 then if t5.2.2 < ((List.length t5.1 : Nat) : Int) then Option.bind (F_laws_szKeyS ((rd_s_LKey t5.1 t5.2.2), t5.2.1)) fun r1 => bif (decide (r1 < (0 : Int))) then k0 (r1, (-1 : Int)) else again (t5.1, r1, (Go.IntKind.wrap .i64 (t5.2.2 + (1 : Int)))) else none else none else k1 t5.2.1
noncomputable def L_laws_szKeySS_5 {R : Type} (k0 : (Int × Int) → Option R) (k1 : Int → Option R) (t : T_laws_szKeySS_5) : Option R := iter (S_laws_szKeySS_5 k0 k1) FUEL t
noncomputable def F_laws_szKeySS (x : List E_s_LKey × Int) : Option (Int) :=
  bif (decide ((Go.IntKind.wrap .i64 (x.2 - ((List.length x.1 : Nat) : Int))) < (0 : Int))) then some (-1 : Int) else L_laws_szKeySS_5 (fun x2 => some x2.2) (fun x3 => some x3) (x.1, (Go.IntKind.wrap .i64 (x.2 - ((List.length x.1 : Nat) : Int))), (0 : Int))
noncomputable def f113B : Code := match Try.f113.body with
  | some c => c
  | none => .skip
noncomputable def f113K : C.Sem := tab [⟨123, F_laws_szKeyS⟩]
def f113h5_0 : List Sh := [.v (.sl 171 ts_s_LKey), .v (.int .i64), .dead, .dead, .dead, .v (.int .i64), .dead, .dead, .dead, .dead, .dead, .dead, .dead, .dead, .dead, .dead, .dead, .dead, .dead, .dead, .dead, .dead, .dead, .dead, .dead, .dead, .dead]
def f113o5_0 : List (Nat × OSh) := []
def f113e5_0 (t : List E_s_LKey × Int × Int) : St := ⟨[.val (.sl 171 ts_s_LKey) t.1, .val (.int .i64) t.2.1, .dead, .dead, .dead, .val (.int .i64) t.2.2, .dead, .dead, .dead, .dead, .dead, .dead, .dead, .dead, .dead, .dead, .dead, .dead, .dead, .dead, .dead, .dead, .dead, .dead, .dead, .dead, .dead], []⟩
def f113x5_0 (t : Int × Int) : St := ⟨[.dead, .val (.int .i64) t.1, .dead, .dead, .val (.int .i64) t.2, .dead, .dead, .dead, .dead, .dead, .dead, .dead, .dead, .dead, .dead, .dead, .dead, .dead, .dead, .dead, .dead, .dead, .dead, .dead, .dead, .dead, .dead], []⟩
def f113x5_1 (t : Int) : St := ⟨[.dead, .val (.int .i64) t, .dead, .dead, .dead, .dead, .dead, .dead, .dead, .dead, .dead, .dead, .dead, .dead, .dead, .dead, .dead, .dead, .dead, .dead, .dead, .dead, .dead, .dead, .dead, .dead, .dead], []⟩
def f113u5_0 (s : St) : Option (List E_s_LKey × Int × Int) := (unS f113h5_0 f113o5_0 s).map fun v => (v.1.1, v.1.2.1, v.1.2.2.2.2.2.1)
theorem f113un5_0 : ∀ (s : St) (t : List E_s_LKey × Int × Int), f113u5_0 s = some t → f113e5_0 t = s := fun s v h => by
  obtain ⟨u, hu, rfl⟩ := Option.map_eq_some_iff.1 h
  exact (show f113e5_0 (u.1.1, u.1.2.1, u.1.2.2.2.2.2.1) = mkS f113h5_0 f113o5_0 u by kernel_rfl).trans (mkS_un f113h5_0 f113o5_0 s u hu)
def f113u5 : St → Option (List E_s_LKey × Int × Int) := f113u5_0
def f113e5 : (List E_s_LKey × Int × Int) → St := f113e5_0
theorem f113un5 : ∀ (s : St) (t : List E_s_LKey × Int × Int), f113u5 s = some t → f113e5 t = s := f113un5_0
noncomputable def f113P : Lp := fun i s {_R} κ => bif Nat.beq i 5 then (f113u5 s).bind fun t => L_laws_szKeySS_5 (fun t => κ (none) (f113x5_0 t)) (fun t => κ (some 0) (f113x5_1 t)) t else none
noncomputable def f113c5 : Code := (loopsOf f113B).getD 0 .skip
theorem f113A5 : C.live 113 (firstRegion f113c5) = some ([0, 1, 5], [1, 4]) := by kernel_rfl
theorem f113B5 {R : Type} (κ : Option Nat → St → Option R) (s : St) : f113P (firstRegion f113c5) s κ = (f113u5 s).bind fun t => iter (S_laws_szKeySS_5 (fun t => κ (none) (f113x5_0 t)) (fun t => κ (some 0) (f113x5_1 t))) FUEL t := by kernel_rfl
theorem f113C5 {R : Type} (κ : Option Nat → St → Option R) (again : St → Option R) (t : T_laws_szKeySS_5) : stepL C f113K f113P 113 f113c5 [0, 1, 5] [1, 4] κ again (f113e5 t) = S_laws_szKeySS_5 (fun t => κ (none) (f113x5_0 t)) (fun t => κ (some 0) (f113x5_1 t)) (fun t => again (f113e5 t)) t := by kernel_rfl
theorem f113ok5 : LoopOk C f113K f113P 113 f113c5 := loop_ok f113A5 f113e5 f113u5 f113un5 (fun {_R} κ => S_laws_szKeySS_5 (fun t => κ (none) (f113x5_0 t)) (fun t => κ (some 0) (f113x5_1 t))) (fun {_R} κ s => f113B5 κ s) (fun {_R} κ again t => f113C5 κ again t)
theorem k113 : Contract C Try.prog f113K := contract_tab _ (fun p hp => by
    simp only [List.mem_cons, List.mem_nil_iff, or_false] at hp
    rcases hp with rfl
    · exact ok123)
theorem ev113 (x : List E_s_LKey × Int) : evalB C f113K f113P 113 Try.f113 f113B ⟨[.v false [(.sl 171 ts_s_LKey)] [false], .v false [(.int .i64)] [false]], [⟨false, [(.int .i64)], [false]⟩], false⟩ [(.sl 171 ts_s_LKey), (.int .i64)] [(.int .i64)] x = F_laws_szKeySS x := by kernel_rfl
theorem ok113 : ContractAt C Try.prog 113 F_laws_szKeySS := fn_sound (lp := f113P) tok mixed k113 (by kernel_rfl) (fn := Try.f113) (c := f113B) (sg := ⟨[.v false [(.sl 171 ts_s_LKey)] [false], .v false [(.int .i64)] [false]], [⟨false, [(.int .i64)], [false]⟩], false⟩) Try.func113 (by decide) (by kernel_rfl) (by kernel_rfl) (by kernel_rfl) (fun c' hc' => by
    rw [show loopsOf f113B = [f113c5] by kernel_rfl] at hc'
    simp only [List.mem_cons, List.mem_nil_iff, or_false] at hc'
    rcases hc' with rfl
    · exact f113ok5) (by decide) (by decide) (fun x y h => (ev113 x).trans h)

/-! ### 98: laws.szNode -/
noncomputable def F_laws_szNode (x : List E_s_LKey × Int) : Option (Int) :=
  Option.bind (F_laws_szKeySS (x.1, x.2)) fun r1 => bif (decide (r1 < (0 : Int))) then some (-1 : Int) else some r1
noncomputable def f98B : Code := match Try.f98.body with
  | some c => c
  | none => .skip
noncomputable def f98K : C.Sem := tab [⟨113, F_laws_szKeySS⟩]
noncomputable def f98P : Lp := fun i s {_R} κ => none
theorem k98 : Contract C Try.prog f98K := contract_tab _ (fun p hp => by
    simp only [List.mem_cons, List.mem_nil_iff, or_false] at hp
    rcases hp with rfl
    · exact ok113)
theorem ev98 (x : List E_s_LKey × Int) : evalB C f98K f98P 98 Try.f98 f98B ⟨[.v true [(.sl 171 ts_s_LKey)] [false], .v false [(.int .i64)] [false]], [⟨false, [(.int .i64)], [false]⟩], false⟩ [(.sl 171 ts_s_LKey), (.int .i64)] [(.int .i64)] x = F_laws_szNode x := by kernel_rfl
theorem ok98 : ContractAt C Try.prog 98 F_laws_szNode := fn_sound (lp := f98P) tok mixed k98 (by kernel_rfl) (fn := Try.f98) (c := f98B) (sg := ⟨[.v true [(.sl 171 ts_s_LKey)] [false], .v false [(.int .i64)] [false]], [⟨false, [(.int .i64)], [false]⟩], false⟩) Try.func98 (by decide) (by kernel_rfl) (by kernel_rfl) (by kernel_rfl) (fun c' hc' => by
    rw [show loopsOf f98B = [] by kernel_rfl] at hc'
    cases hc') (by decide) (by decide) (fun x y h => (ev98 x).trans h)

/-! ### 76: laws.szNodeS -/
abbrev T_laws_szNodeS_5 : Type := List E_LNode × Int × Int
noncomputable def S_laws_szNodeS_5 {R : Type} (k0 : (Int × Int) → Option R) (k1 : Int → Option R) (again : T_laws_szNodeS_5 → Option R) (t5 : T_laws_szNodeS_5) : Option R :=
  bif (decide (t5.2.2 < ((List.length t5.1 : Nat) : Int))) then if (0 : Int) ≤ t5.2.2 then if t5.2.2 < ((List.length t5.1 : Nat) : Int) then Option.bind (F_laws_szNode ((rd_LNode t5.1 t5.2.2), t5.2.1)) fun r1 => bif (decide (r1 < (0 : Int))) then k0 (r1, (-1 : Int)) else again (t5.1, r1, (Go.IntKind.wrap .i64 (t5.2.2 + (1 : Int)))) else none else none else k1 t5.2.1
noncomputable def L_laws_szNodeS_5 {R : Type} (k0 : (Int × Int) → Option R) (k1 : Int → Option R) (t : T_laws_szNodeS_5) : Option R := iter (S_laws_szNodeS_5 k0 k1) FUEL t
noncomputable def F_laws_szNodeS (x : List E_LNode × Int) : Option (Int) :=
  bif (decide ((Go.IntKind.wrap .i64 (x.2 - ((List.length x.1 : Nat) : Int))) < (0 : Int))) then some (-1 : Int) else L_laws_szNodeS_5 (fun x2 => some x2.2) (fun x3 => some x3) (x.1, (Go.IntKind.wrap .i64 (x.2 - ((List.length x.1 : Nat) : Int))), (0 : Int))
noncomputable def f76B : Code := match Try.f76.body with
  | some c => c
  | none => .skip
noncomputable def f76K : C.Sem := tab [⟨98, F_laws_szNode⟩]
def f76h5_0 : List Sh := [.v (.sl 155 ts_LNode), .v (.int .i64), .dead, .dead, .dead, .v (.int .i64), .dead, .dead, .dead, .dead, .dead, .dead, .dead, .dead, .dead, .dead, .dead, .dead, .dead, .dead, .dead, .dead, .dead, .dead, .dead, .dead, .dead]
def f76o5_0 : List (Nat × OSh) := []
def f76e5_0 (t : List E_LNode × Int × Int) : St := ⟨[.val (.sl 155 ts_LNode) t.1, .val (.int .i64) t.2.1, .dead, .dead, .dead, .val (.int .i64) t.2.2, .dead, .dead, .dead, .dead, .dead, .dead, .dead, .dead, .dead, .dead, .dead, .dead, .dead, .dead, .dead, .dead, .dead, .dead, .dead, .dead, .dead], []⟩
def f76x5_0 (t : Int × Int) : St := ⟨[.dead, .val (.int .i64) t.1, .dead, .dead, .val (.int .i64) t.2, .dead, .dead, .dead, .dead, .dead, .dead, .dead, .dead, .dead, .dead, .dead, .dead, .dead, .dead, .dead, .dead, .dead, .dead, .dead, .dead, .dead, .dead], []⟩
def f76x5_1 (t : Int) : St := ⟨[.dead, .val (.int .i64) t, .dead, .dead, .dead, .dead, .dead, .dead, .dead, .dead, .dead, .dead, .dead, .dead, .dead, .dead, .dead, .dead, .dead, .dead, .dead, .dead, .dead, .dead, .dead, .dead, .dead], []⟩
def f76u5_0 (s : St) : Option (List E_LNode × Int × Int) := (unS f76h5_0 f76o5_0 s).map fun v => (v.1.1, v.1.2.1, v.1.2.2.2.2.2.1)
theorem f76un5_0 : ∀ (s : St) (t : List E_LNode × Int × Int), f76u5_0 s = some t → f76e5_0 t = s := fun s v h => by
  obtain ⟨u, hu, rfl⟩ := Option.map_eq_some_iff.1 h
  exact (show f76e5_0 (u.1.1, u.1.2.1, u.1.2.2.2.2.2.1) = mkS f76h5_0 f76o5_0 u by kernel_rfl).trans (mkS_un f76h5_0 f76o5_0 s u hu)
def f76u5 : St → Option (List E_LNode × Int × Int) := f76u5_0
def f76e5 : (List E_LNode × Int × Int) → St := f76e5_0
theorem f76un5 : ∀ (s : St) (t : List E_LNode × Int × Int), f76u5 s = some t → f76e5 t = s := f76un5_0
noncomputable def f76P : Lp := fun i s {_R} κ => bif Nat.beq i 5 then (f76u5 s).bind fun t => L_laws_szNodeS_5 (fun t => κ (none) (f76x5_0 t)) (fun t => κ (some 0) (f76x5_1 t)) t else none
noncomputable def f76c5 : Code := (loopsOf f76B).getD 0 .skip
theorem f76A5 : C.live 76 (firstRegion f76c5) = some ([0, 1, 5], [1, 4]) := by kernel_rfl
theorem f76B5 {R : Type} (κ : Option Nat → St → Option R) (s : St) : f76P (firstRegion f76c5) s κ = (f76u5 s).bind fun t => iter (S_laws_szNodeS_5 (fun t => κ (none) (f76x5_0 t)) (fun t => κ (some 0) (f76x5_1 t))) FUEL t := by kernel_rfl
theorem f76C5 {R : Type} (κ : Option Nat → St → Option R) (again : St → Option R) (t : T_laws_szNodeS_5) : stepL C f76K f76P 76 f76c5 [0, 1, 5] [1, 4] κ again (f76e5 t) = S_laws_szNodeS_5 (fun t => κ (none) (f76x5_0 t)) (fun t => κ (some 0) (f76x5_1 t)) (fun t => again (f76e5 t)) t := by kernel_rfl
theorem f76ok5 : LoopOk C f76K f76P 76 f76c5 := loop_ok f76A5 f76e5 f76u5 f76un5 (fun {_R} κ => S_laws_szNodeS_5 (fun t => κ (none) (f76x5_0 t)) (fun t => κ (some 0) (f76x5_1 t))) (fun {_R} κ s => f76B5 κ s) (fun {_R} κ again t => f76C5 κ again t)
theorem k76 : Contract C Try.prog f76K := contract_tab _ (fun p hp => by
    simp only [List.mem_cons, List.mem_nil_iff, or_false] at hp
    rcases hp with rfl
    · exact ok98)
theorem ev76 (x : List E_LNode × Int) : evalB C f76K f76P 76 Try.f76 f76B ⟨[.v false [(.sl 155 ts_LNode)] [false], .v false [(.int .i64)] [false]], [⟨false, [(.int .i64)], [false]⟩], false⟩ [(.sl 155 ts_LNode), (.int .i64)] [(.int .i64)] x = F_laws_szNodeS x := by kernel_rfl
theorem ok76 : ContractAt C Try.prog 76 F_laws_szNodeS := fn_sound (lp := f76P) tok mixed k76 (by kernel_rfl) (fn := Try.f76) (c := f76B) (sg := ⟨[.v false [(.sl 155 ts_LNode)] [false], .v false [(.int .i64)] [false]], [⟨false, [(.int .i64)], [false]⟩], false⟩) Try.func76 (by decide) (by kernel_rfl) (by kernel_rfl) (by kernel_rfl) (fun c' hc' => by
    rw [show loopsOf f76B = [f76c5] by kernel_rfl] at hc'
    simp only [List.mem_cons, List.mem_nil_iff, or_false] at hc'
    rcases hc' with rfl
    · exact f76ok5) (by decide) (by decide) (fun x y h => (ev76 x).trans h)

/-! ### 37: laws.szTree -/
noncomputable def F_laws_szTree (x : List E_i64 × List E_LNode × Int) : Option (Int) :=
  Option.bind (F_laws_szIntS (x.1, x.2.2)) fun r1 => bif (decide (r1 < (0 : Int))) then some (-1 : Int) else Option.bind (F_laws_szNodeS (x.2.1, r1)) fun r2 => bif (decide (r2 < (0 : Int))) then some (-1 : Int) else some r2
noncomputable def f37B : Code := match Try.f37.body with
  | some c => c
  | none => .skip
noncomputable def f37K : C.Sem := tab [⟨75, F_laws_szIntS⟩, ⟨76, F_laws_szNodeS⟩]
noncomputable def f37P : Lp := fun i s {_R} κ => none
theorem k37 : Contract C Try.prog f37K := contract_tab _ (fun p hp => by
    simp only [List.mem_cons, List.mem_nil_iff, or_false] at hp
    rcases hp with rfl | rfl
    · exact ok75
    · exact ok76)
theorem ev37 (x : List E_i64 × List E_LNode × Int) : evalB C f37K f37P 37 Try.f37 f37B ⟨[.v true [(.sl 3 ts_i64), (.sl 155 ts_LNode)] [false, false], .v false [(.int .i64)] [false]], [⟨false, [(.int .i64)], [false]⟩], false⟩ [(.sl 3 ts_i64), (.sl 155 ts_LNode), (.int .i64)] [(.int .i64)] x = F_laws_szTree x := by kernel_rfl
theorem ok37 : ContractAt C Try.prog 37 F_laws_szTree := fn_sound (lp := f37P) tok mixed k37 (by kernel_rfl) (fn := Try.f37) (c := f37B) (sg := ⟨[.v true [(.sl 3 ts_i64), (.sl 155 ts_LNode)] [false, false], .v false [(.int .i64)] [false]], [⟨false, [(.int .i64)], [false]⟩], false⟩) Try.func37 (by decide) (by kernel_rfl) (by kernel_rfl) (by kernel_rfl) (fun c' hc' => by
    rw [show loopsOf f37B = [] by kernel_rfl] at hc'
    cases hc') (by decide) (by decide) (fun x y h => (ev37 x).trans h)

/-! ### 38: laws.szAgeS -/
noncomputable def F_laws_szAgeS (x : List E_LAge × Int) : Option (Int) :=
  bif (decide ((Go.IntKind.wrap .i64 (x.2 - ((List.length x.1 : Nat) : Int))) < (0 : Int))) then some (-1 : Int) else some (Go.IntKind.wrap .i64 (x.2 - ((List.length x.1 : Nat) : Int)))
noncomputable def f38B : Code := match Try.f38.body with
  | some c => c
  | none => .skip
noncomputable def f38K : C.Sem := tab []
noncomputable def f38P : Lp := fun i s {_R} κ => none
theorem k38 : Contract C Try.prog f38K := contract_tab _ (fun p hp => by cases hp)
theorem ev38 (x : List E_LAge × Int) : evalB C f38K f38P 38 Try.f38 f38B ⟨[.v false [(.sl 136 ts_LAge)] [false], .v false [(.int .i64)] [false]], [⟨false, [(.int .i64)], [false]⟩], false⟩ [(.sl 136 ts_LAge), (.int .i64)] [(.int .i64)] x = F_laws_szAgeS x := by kernel_rfl
theorem ok38 : ContractAt C Try.prog 38 F_laws_szAgeS := fn_sound (lp := f38P) tok mixed k38 (by kernel_rfl) (fn := Try.f38) (c := f38B) (sg := ⟨[.v false [(.sl 136 ts_LAge)] [false], .v false [(.int .i64)] [false]], [⟨false, [(.int .i64)], [false]⟩], false⟩) Try.func38 (by decide) (by kernel_rfl) (by kernel_rfl) (by kernel_rfl) (fun c' hc' => by
    rw [show loopsOf f38B = [] by kernel_rfl] at hc'
    cases hc') (by decide) (by decide) (fun x y h => (ev38 x).trans h)

/-! ### 39: laws.szCellS -/
noncomputable def F_laws_szCellS (x : List E_LCell × Int) : Option (Int) :=
  bif (decide ((Go.IntKind.wrap .i64 (x.2 - ((List.length x.1 : Nat) : Int))) < (0 : Int))) then some (-1 : Int) else some (Go.IntKind.wrap .i64 (x.2 - ((List.length x.1 : Nat) : Int)))
noncomputable def f39B : Code := match Try.f39.body with
  | some c => c
  | none => .skip
noncomputable def f39K : C.Sem := tab []
noncomputable def f39P : Lp := fun i s {_R} κ => none
theorem k39 : Contract C Try.prog f39K := contract_tab _ (fun p hp => by cases hp)
theorem ev39 (x : List E_LCell × Int) : evalB C f39K f39P 39 Try.f39 f39B ⟨[.v false [(.sl 140 ts_LCell)] [false], .v false [(.int .i64)] [false]], [⟨false, [(.int .i64)], [false]⟩], false⟩ [(.sl 140 ts_LCell), (.int .i64)] [(.int .i64)] x = F_laws_szCellS x := by kernel_rfl
theorem ok39 : ContractAt C Try.prog 39 F_laws_szCellS := fn_sound (lp := f39P) tok mixed k39 (by kernel_rfl) (fn := Try.f39) (c := f39B) (sg := ⟨[.v false [(.sl 140 ts_LCell)] [false], .v false [(.int .i64)] [false]], [⟨false, [(.int .i64)], [false]⟩], false⟩) Try.func39 (by decide) (by kernel_rfl) (by kernel_rfl) (by kernel_rfl) (fun c' hc' => by
    rw [show loopsOf f39B = [] by kernel_rfl] at hc'
    cases hc') (by decide) (by decide) (fun x y h => (ev39 x).trans h)

/-! ### 77: laws.szVol -/
noncomputable def F_laws_szVol (x : ByteArray × Int × Int × Bool × Int) : Option (Int) :=
  bif (decide ((Go.IntKind.wrap .i64 (x.2.2.2.2 - ((ByteArray.size x.1 : Nat) : Int))) < (0 : Int))) then some (-1 : Int) else some (Go.IntKind.wrap .i64 (x.2.2.2.2 - ((ByteArray.size x.1 : Nat) : Int)))
noncomputable def f77B : Code := match Try.f77.body with
  | some c => c
  | none => .skip
noncomputable def f77K : C.Sem := tab []
noncomputable def f77P : Lp := fun i s {_R} κ => none
theorem k77 : Contract C Try.prog f77K := contract_tab _ (fun p hp => by cases hp)
theorem ev77 (x : ByteArray × Int × Int × Bool × Int) : evalB C f77K f77P 77 Try.f77 f77B ⟨[.v true [.str, (.int .i64), (.int .i64), .bool] [false, false, false, false], .v false [(.int .i64)] [false]], [⟨false, [(.int .i64)], [false]⟩], false⟩ [.str, (.int .i64), (.int .i64), .bool, (.int .i64)] [(.int .i64)] x = F_laws_szVol x := by kernel_rfl
theorem ok77 : ContractAt C Try.prog 77 F_laws_szVol := fn_sound (lp := f77P) tok mixed k77 (by kernel_rfl) (fn := Try.f77) (c := f77B) (sg := ⟨[.v true [.str, (.int .i64), (.int .i64), .bool] [false, false, false, false], .v false [(.int .i64)] [false]], [⟨false, [(.int .i64)], [false]⟩], false⟩) Try.func77 (by decide) (by kernel_rfl) (by kernel_rfl) (by kernel_rfl) (fun c' hc' => by
    rw [show loopsOf f77B = [] by kernel_rfl] at hc'
    cases hc') (by decide) (by decide) (fun x y h => (ev77 x).trans h)

/-! ### 40: laws.szVolS -/
abbrev T_laws_szVolS_5 : Type := List E_LVol × Int × Int
noncomputable def S_laws_szVolS_5 {R : Type} (k0 : (Int × Int) → Option R) (k1 : Int → Option R) (again : T_laws_szVolS_5 → Option R) (t5 : T_laws_szVolS_5) : Option R :=
  bif (decide (t5.2.2 < ((List.length t5.1 : Nat) : Int))) then if (0 : Int) ≤ t5.2.2 then if t5.2.2 < ((List.length t5.1 : Nat) : Int) then Option.bind (F_laws_szVol ((rd_LVol t5.1 t5.2.2).1, (rd_LVol t5.1 t5.2.2).2.1, (rd_LVol t5.1 t5.2.2).2.2.1, (rd_LVol t5.1 t5.2.2).2.2.2, t5.2.1)) fun r1 => bif (decide (r1 < (0 : Int))) then k0 (r1, (-1 : Int)) else again (t5.1, r1, (Go.IntKind.wrap .i64 (t5.2.2 + (1 : Int)))) else none else none else k1 t5.2.1
noncomputable def L_laws_szVolS_5 {R : Type} (k0 : (Int × Int) → Option R) (k1 : Int → Option R) (t : T_laws_szVolS_5) : Option R := iter (S_laws_szVolS_5 k0 k1) FUEL t
noncomputable def F_laws_szVolS (x : List E_LVol × Int) : Option (Int) :=
  bif (decide ((Go.IntKind.wrap .i64 (x.2 - ((List.length x.1 : Nat) : Int))) < (0 : Int))) then some (-1 : Int) else L_laws_szVolS_5 (fun x2 => some x2.2) (fun x3 => some x3) (x.1, (Go.IntKind.wrap .i64 (x.2 - ((List.length x.1 : Nat) : Int))), (0 : Int))
noncomputable def f40B : Code := match Try.f40.body with
  | some c => c
  | none => .skip
noncomputable def f40K : C.Sem := tab [⟨77, F_laws_szVol⟩]
def f40h5_0 : List Sh := [.v (.sl 124 ts_LVol), .v (.int .i64), .dead, .dead, .dead, .v (.int .i64), .dead, .dead, .dead, .dead, .dead, .dead, .dead, .dead, .dead, .dead, .dead, .dead, .dead, .dead, .dead, .dead, .dead, .dead, .dead, .dead, .dead]
def f40o5_0 : List (Nat × OSh) := []
def f40e5_0 (t : List E_LVol × Int × Int) : St := ⟨[.val (.sl 124 ts_LVol) t.1, .val (.int .i64) t.2.1, .dead, .dead, .dead, .val (.int .i64) t.2.2, .dead, .dead, .dead, .dead, .dead, .dead, .dead, .dead, .dead, .dead, .dead, .dead, .dead, .dead, .dead, .dead, .dead, .dead, .dead, .dead, .dead], []⟩
def f40x5_0 (t : Int × Int) : St := ⟨[.dead, .val (.int .i64) t.1, .dead, .dead, .val (.int .i64) t.2, .dead, .dead, .dead, .dead, .dead, .dead, .dead, .dead, .dead, .dead, .dead, .dead, .dead, .dead, .dead, .dead, .dead, .dead, .dead, .dead, .dead, .dead], []⟩
def f40x5_1 (t : Int) : St := ⟨[.dead, .val (.int .i64) t, .dead, .dead, .dead, .dead, .dead, .dead, .dead, .dead, .dead, .dead, .dead, .dead, .dead, .dead, .dead, .dead, .dead, .dead, .dead, .dead, .dead, .dead, .dead, .dead, .dead], []⟩
def f40u5_0 (s : St) : Option (List E_LVol × Int × Int) := (unS f40h5_0 f40o5_0 s).map fun v => (v.1.1, v.1.2.1, v.1.2.2.2.2.2.1)
theorem f40un5_0 : ∀ (s : St) (t : List E_LVol × Int × Int), f40u5_0 s = some t → f40e5_0 t = s := fun s v h => by
  obtain ⟨u, hu, rfl⟩ := Option.map_eq_some_iff.1 h
  exact (show f40e5_0 (u.1.1, u.1.2.1, u.1.2.2.2.2.2.1) = mkS f40h5_0 f40o5_0 u by kernel_rfl).trans (mkS_un f40h5_0 f40o5_0 s u hu)
def f40u5 : St → Option (List E_LVol × Int × Int) := f40u5_0
def f40e5 : (List E_LVol × Int × Int) → St := f40e5_0
theorem f40un5 : ∀ (s : St) (t : List E_LVol × Int × Int), f40u5 s = some t → f40e5 t = s := f40un5_0
noncomputable def f40P : Lp := fun i s {_R} κ => bif Nat.beq i 5 then (f40u5 s).bind fun t => L_laws_szVolS_5 (fun t => κ (none) (f40x5_0 t)) (fun t => κ (some 0) (f40x5_1 t)) t else none
noncomputable def f40c5 : Code := (loopsOf f40B).getD 0 .skip
theorem f40A5 : C.live 40 (firstRegion f40c5) = some ([0, 1, 5], [1, 4]) := by kernel_rfl
theorem f40B5 {R : Type} (κ : Option Nat → St → Option R) (s : St) : f40P (firstRegion f40c5) s κ = (f40u5 s).bind fun t => iter (S_laws_szVolS_5 (fun t => κ (none) (f40x5_0 t)) (fun t => κ (some 0) (f40x5_1 t))) FUEL t := by kernel_rfl
theorem f40C5 {R : Type} (κ : Option Nat → St → Option R) (again : St → Option R) (t : T_laws_szVolS_5) : stepL C f40K f40P 40 f40c5 [0, 1, 5] [1, 4] κ again (f40e5 t) = S_laws_szVolS_5 (fun t => κ (none) (f40x5_0 t)) (fun t => κ (some 0) (f40x5_1 t)) (fun t => again (f40e5 t)) t := by kernel_rfl
theorem f40ok5 : LoopOk C f40K f40P 40 f40c5 := loop_ok f40A5 f40e5 f40u5 f40un5 (fun {_R} κ => S_laws_szVolS_5 (fun t => κ (none) (f40x5_0 t)) (fun t => κ (some 0) (f40x5_1 t))) (fun {_R} κ s => f40B5 κ s) (fun {_R} κ again t => f40C5 κ again t)
theorem k40 : Contract C Try.prog f40K := contract_tab _ (fun p hp => by
    simp only [List.mem_cons, List.mem_nil_iff, or_false] at hp
    rcases hp with rfl
    · exact ok77)
theorem ev40 (x : List E_LVol × Int) : evalB C f40K f40P 40 Try.f40 f40B ⟨[.v false [(.sl 124 ts_LVol)] [false], .v false [(.int .i64)] [false]], [⟨false, [(.int .i64)], [false]⟩], false⟩ [(.sl 124 ts_LVol), (.int .i64)] [(.int .i64)] x = F_laws_szVolS x := by kernel_rfl
theorem ok40 : ContractAt C Try.prog 40 F_laws_szVolS := fn_sound (lp := f40P) tok mixed k40 (by kernel_rfl) (fn := Try.f40) (c := f40B) (sg := ⟨[.v false [(.sl 124 ts_LVol)] [false], .v false [(.int .i64)] [false]], [⟨false, [(.int .i64)], [false]⟩], false⟩) Try.func40 (by decide) (by kernel_rfl) (by kernel_rfl) (by kernel_rfl) (fun c' hc' => by
    rw [show loopsOf f40B = [f40c5] by kernel_rfl] at hc'
    simp only [List.mem_cons, List.mem_nil_iff, or_false] at hc'
    rcases hc' with rfl
    · exact f40ok5) (by decide) (by decide) (fun x y h => (ev40 x).trans h)

/-! ### 14: laws.szPool -/
noncomputable def F_laws_szPool (x : List E_i64 × List E_LNode × List E_LAge × List E_LCell × List E_LVol × Int × Int) : Option (Int) :=
  Option.bind (F_laws_szTree (x.1, x.2.1, x.2.2.2.2.2.2)) fun r1 => bif (decide (r1 < (0 : Int))) then some (-1 : Int) else Option.bind (F_laws_szAgeS (x.2.2.1, r1)) fun r2 => bif (decide (r2 < (0 : Int))) then some (-1 : Int) else Option.bind (F_laws_szCellS (x.2.2.2.1, r2)) fun r3 => bif (decide (r3 < (0 : Int))) then some (-1 : Int) else Option.bind (F_laws_szVolS (x.2.2.2.2.1, r3)) fun r4 => bif (decide (r4 < (0 : Int))) then some (-1 : Int) else some r4
noncomputable def f14B : Code := match Try.f14.body with
  | some c => c
  | none => .skip
noncomputable def f14K : C.Sem := tab [⟨37, F_laws_szTree⟩, ⟨38, F_laws_szAgeS⟩, ⟨39, F_laws_szCellS⟩, ⟨40, F_laws_szVolS⟩]
noncomputable def f14P : Lp := fun i s {_R} κ => none
theorem k14 : Contract C Try.prog f14K := contract_tab _ (fun p hp => by
    simp only [List.mem_cons, List.mem_nil_iff, or_false] at hp
    rcases hp with rfl | rfl | rfl | rfl
    · exact ok37
    · exact ok38
    · exact ok39
    · exact ok40)
theorem ev14 (x : List E_i64 × List E_LNode × List E_LAge × List E_LCell × List E_LVol × Int × Int) : evalB C f14K f14P 14 Try.f14 f14B ⟨[.v true [(.sl 3 ts_i64), (.sl 155 ts_LNode), (.sl 136 ts_LAge), (.sl 140 ts_LCell), (.sl 124 ts_LVol), (.int .i64)] [false, false, false, false, false, false], .v false [(.int .i64)] [false]], [⟨false, [(.int .i64)], [false]⟩], false⟩ [(.sl 3 ts_i64), (.sl 155 ts_LNode), (.sl 136 ts_LAge), (.sl 140 ts_LCell), (.sl 124 ts_LVol), (.int .i64), (.int .i64)] [(.int .i64)] x = F_laws_szPool x := by kernel_rfl
theorem ok14 : ContractAt C Try.prog 14 F_laws_szPool := fn_sound (lp := f14P) tok mixed k14 (by kernel_rfl) (fn := Try.f14) (c := f14B) (sg := ⟨[.v true [(.sl 3 ts_i64), (.sl 155 ts_LNode), (.sl 136 ts_LAge), (.sl 140 ts_LCell), (.sl 124 ts_LVol), (.int .i64)] [false, false, false, false, false, false], .v false [(.int .i64)] [false]], [⟨false, [(.int .i64)], [false]⟩], false⟩) Try.func14 (by decide) (by kernel_rfl) (by kernel_rfl) (by kernel_rfl) (fun c' hc' => by
    rw [show loopsOf f14B = [] by kernel_rfl] at hc'
    cases hc') (by decide) (by decide) (fun x y h => (ev14 x).trans h)

/-! ### 124: spec.LessKey -/
noncomputable def F_spec_LessKey (x : Int × Int × Int × Int × Int × Int × Int × Int × Int × Int) : Option (Bool) :=
  bif (x.1 != x.2.2.2.2.2.1) then some (decide (x.1 < x.2.2.2.2.2.1)) else some (decide (x.2.1 < x.2.2.2.2.2.2.1))
noncomputable def f124B : Code := match Try.f124.body with
  | some c => c
  | none => .skip
noncomputable def f124K : C.Sem := tab []
noncomputable def f124P : Lp := fun i s {_R} κ => none
theorem k124 : Contract C Try.prog f124K := contract_tab _ (fun p hp => by cases hp)
theorem ev124 (x : Int × Int × Int × Int × Int × Int × Int × Int × Int × Int) : evalB C f124K f124P 124 Try.f124 f124B ⟨[.v true [(.int .i64), (.int .i64), (.int .i64), (.int .i64), (.int .i64)] [false, false, false, false, false], .v true [(.int .i64), (.int .i64), (.int .i64), (.int .i64), (.int .i64)] [false, false, false, false, false]], [⟨false, [.bool], [false]⟩], false⟩ [(.int .i64), (.int .i64), (.int .i64), (.int .i64), (.int .i64), (.int .i64), (.int .i64), (.int .i64), (.int .i64), (.int .i64)] [.bool] x = F_spec_LessKey x := by kernel_rfl
theorem ok124 : ContractAt C Try.prog 124 F_spec_LessKey := fn_sound (lp := f124P) tok mixed k124 (by kernel_rfl) (fn := Try.f124) (c := f124B) (sg := ⟨[.v true [(.int .i64), (.int .i64), (.int .i64), (.int .i64), (.int .i64)] [false, false, false, false, false], .v true [(.int .i64), (.int .i64), (.int .i64), (.int .i64), (.int .i64)] [false, false, false, false, false]], [⟨false, [.bool], [false]⟩], false⟩) Try.func124 (by decide) (by kernel_rfl) (by kernel_rfl) (by kernel_rfl) (fun c' hc' => by
    rw [show loopsOf f124B = [] by kernel_rfl] at hc'
    cases hc') (by decide) (by decide) (fun x y h => (ev124 x).trans h)

/-! ### 125: spec.SameSpot -/
noncomputable def F_spec_SameSpot (x : Int × Int × Int × Int × Int × Int × Int × Int × Int × Int) : Option (Bool) :=
  Option.bind (bif (x.1 == x.2.2.2.2.2.1) then some (x.2.1 == x.2.2.2.2.2.2.1) else some false) fun u1 => some u1
noncomputable def f125B : Code := match Try.f125.body with
  | some c => c
  | none => .skip
noncomputable def f125K : C.Sem := tab []
noncomputable def f125P : Lp := fun i s {_R} κ => none
theorem k125 : Contract C Try.prog f125K := contract_tab _ (fun p hp => by cases hp)
theorem ev125 (x : Int × Int × Int × Int × Int × Int × Int × Int × Int × Int) : evalB C f125K f125P 125 Try.f125 f125B ⟨[.v true [(.int .i64), (.int .i64), (.int .i64), (.int .i64), (.int .i64)] [false, false, false, false, false], .v true [(.int .i64), (.int .i64), (.int .i64), (.int .i64), (.int .i64)] [false, false, false, false, false]], [⟨false, [.bool], [false]⟩], false⟩ [(.int .i64), (.int .i64), (.int .i64), (.int .i64), (.int .i64), (.int .i64), (.int .i64), (.int .i64), (.int .i64), (.int .i64)] [.bool] x = F_spec_SameSpot x := by kernel_rfl
theorem ok125 : ContractAt C Try.prog 125 F_spec_SameSpot := fn_sound (lp := f125P) tok mixed k125 (by kernel_rfl) (fn := Try.f125) (c := f125B) (sg := ⟨[.v true [(.int .i64), (.int .i64), (.int .i64), (.int .i64), (.int .i64)] [false, false, false, false, false], .v true [(.int .i64), (.int .i64), (.int .i64), (.int .i64), (.int .i64)] [false, false, false, false, false]], [⟨false, [.bool], [false]⟩], false⟩) Try.func125 (by decide) (by kernel_rfl) (by kernel_rfl) (by kernel_rfl) (fun c' hc' => by
    rw [show loopsOf f125B = [] by kernel_rfl] at hc'
    cases hc') (by decide) (by decide) (fun x y h => (ev125 x).trans h)

/-! ### 114: spec.SetPut -/
abbrev T_spec_SetPut_4 : Type := List E_Key × Bool × Int × Int × Int × Int × Int × Int × List E_Key
noncomputable def S_spec_SetPut_4 {R : Type} (k0 : (Bool × Int × Int × Int × Int × Int × List E_Key) → Option R) (again : T_spec_SetPut_4 → Option R) (t4 : T_spec_SetPut_4) : Option R :=
  bif (decide (t4.2.2.1 < ((List.length t4.1 : Nat) : Int))) then Option.bind (bif (!t4.2.1) then if (0 : Int) ≤ t4.2.2.1 then if t4.2.2.1 < ((List.length t4.1 : Nat) : Int) then Option.bind (F_spec_LessKey ((rd_Key t4.1 t4.2.2.1).1, (rd_Key t4.1 t4.2.2.1).2.1, (rd_Key t4.1 t4.2.2.1).2.2.1, (rd_Key t4.1 t4.2.2.1).2.2.2.1, (rd_Key t4.1 t4.2.2.1).2.2.2.2, t4.2.2.2.1, t4.2.2.2.2.1, t4.2.2.2.2.2.1, t4.2.2.2.2.2.2.1, t4.2.2.2.2.2.2.2.1)) fun r2 => some (!r2) else none else none else some false) fun u1 => bif u1 then if (List.length t4.2.2.2.2.2.2.2.2 + List.length ([(t4.2.2.2.1, t4.2.2.2.2.1, t4.2.2.2.2.2.1, t4.2.2.2.2.2.2.1, t4.2.2.2.2.2.2.2.1)] : List E_Key)) * 40 < 140737488355328 then if (0 : Int) ≤ t4.2.2.1 then if t4.2.2.1 < ((List.length t4.1 : Nat) : Int) then Option.bind (F_spec_SameSpot ((rd_Key t4.1 t4.2.2.1).1, (rd_Key t4.1 t4.2.2.1).2.1, (rd_Key t4.1 t4.2.2.1).2.2.1, (rd_Key t4.1 t4.2.2.1).2.2.2.1, (rd_Key t4.1 t4.2.2.1).2.2.2.2, t4.2.2.2.1, t4.2.2.2.2.1, t4.2.2.2.2.2.1, t4.2.2.2.2.2.2.1, t4.2.2.2.2.2.2.2.1)) fun r3 => bif (!r3) then if (0 : Int) ≤ t4.2.2.1 then if t4.2.2.1 < ((List.length t4.1 : Nat) : Int) then if (List.length (t4.2.2.2.2.2.2.2.2 ++ ([(t4.2.2.2.1, t4.2.2.2.2.1, t4.2.2.2.2.2.1, t4.2.2.2.2.2.2.1, t4.2.2.2.2.2.2.2.1)] : List E_Key)) + List.length ([((rd_Key t4.1 t4.2.2.1).1, (rd_Key t4.1 t4.2.2.1).2.1, (rd_Key t4.1 t4.2.2.1).2.2.1, (rd_Key t4.1 t4.2.2.1).2.2.2.1, (rd_Key t4.1 t4.2.2.1).2.2.2.2)] : List E_Key)) * 40 < 140737488355328 then again (t4.1, true, (Go.IntKind.wrap .i64 (t4.2.2.1 + (1 : Int))), t4.2.2.2.1, t4.2.2.2.2.1, t4.2.2.2.2.2.1, t4.2.2.2.2.2.2.1, t4.2.2.2.2.2.2.2.1, ((t4.2.2.2.2.2.2.2.2 ++ ([(t4.2.2.2.1, t4.2.2.2.2.1, t4.2.2.2.2.2.1, t4.2.2.2.2.2.2.1, t4.2.2.2.2.2.2.2.1)] : List E_Key)) ++ ([((rd_Key t4.1 t4.2.2.1).1, (rd_Key t4.1 t4.2.2.1).2.1, (rd_Key t4.1 t4.2.2.1).2.2.1, (rd_Key t4.1 t4.2.2.1).2.2.2.1, (rd_Key t4.1 t4.2.2.1).2.2.2.2)] : List E_Key))) else none else none else none else again (t4.1, true, (Go.IntKind.wrap .i64 (t4.2.2.1 + (1 : Int))), t4.2.2.2.1, t4.2.2.2.2.1, t4.2.2.2.2.2.1, t4.2.2.2.2.2.2.1, t4.2.2.2.2.2.2.2.1, (t4.2.2.2.2.2.2.2.2 ++ ([(t4.2.2.2.1, t4.2.2.2.2.1, t4.2.2.2.2.2.1, t4.2.2.2.2.2.2.1, t4.2.2.2.2.2.2.2.1)] : List E_Key))) else none else none else none else if (0 : Int) ≤ t4.2.2.1 then if t4.2.2.1 < ((List.length t4.1 : Nat) : Int) then Option.bind (F_spec_SameSpot ((rd_Key t4.1 t4.2.2.1).1, (rd_Key t4.1 t4.2.2.1).2.1, (rd_Key t4.1 t4.2.2.1).2.2.1, (rd_Key t4.1 t4.2.2.1).2.2.2.1, (rd_Key t4.1 t4.2.2.1).2.2.2.2, t4.2.2.2.1, t4.2.2.2.2.1, t4.2.2.2.2.2.1, t4.2.2.2.2.2.2.1, t4.2.2.2.2.2.2.2.1)) fun r4 => bif (!r4) then if (0 : Int) ≤ t4.2.2.1 then if t4.2.2.1 < ((List.length t4.1 : Nat) : Int) then if (List.length t4.2.2.2.2.2.2.2.2 + List.length ([((rd_Key t4.1 t4.2.2.1).1, (rd_Key t4.1 t4.2.2.1).2.1, (rd_Key t4.1 t4.2.2.1).2.2.1, (rd_Key t4.1 t4.2.2.1).2.2.2.1, (rd_Key t4.1 t4.2.2.1).2.2.2.2)] : List E_Key)) * 40 < 140737488355328 then again (t4.1, t4.2.1, (Go.IntKind.wrap .i64 (t4.2.2.1 + (1 : Int))), t4.2.2.2.1, t4.2.2.2.2.1, t4.2.2.2.2.2.1, t4.2.2.2.2.2.2.1, t4.2.2.2.2.2.2.2.1, (t4.2.2.2.2.2.2.2.2 ++ ([((rd_Key t4.1 t4.2.2.1).1, (rd_Key t4.1 t4.2.2.1).2.1, (rd_Key t4.1 t4.2.2.1).2.2.1, (rd_Key t4.1 t4.2.2.1).2.2.2.1, (rd_Key t4.1 t4.2.2.1).2.2.2.2)] : List E_Key))) else none else none else none else again (t4.1, t4.2.1, (Go.IntKind.wrap .i64 (t4.2.2.1 + (1 : Int))), t4.2.2.2.1, t4.2.2.2.2.1, t4.2.2.2.2.2.1, t4.2.2.2.2.2.2.1, t4.2.2.2.2.2.2.2.1, t4.2.2.2.2.2.2.2.2) else none else none else k0 (t4.2.1, t4.2.2.2.1, t4.2.2.2.2.1, t4.2.2.2.2.2.1, t4.2.2.2.2.2.2.1, t4.2.2.2.2.2.2.2.1, t4.2.2.2.2.2.2.2.2)
noncomputable def L_spec_SetPut_4 {R : Type} (k0 : (Bool × Int × Int × Int × Int × Int × List E_Key) → Option R) (t : T_spec_SetPut_4) : Option R := iter (S_spec_SetPut_4 k0) FUEL t
noncomputable def F_spec_SetPut (x : List E_Key × Int × Int × Int × Int × Int) : Option (List E_Key) :=
  L_spec_SetPut_4 (fun x5 => bif (!x5.1) then if (List.length x5.2.2.2.2.2.2 + List.length ([(x5.2.1, x5.2.2.1, x5.2.2.2.1, x5.2.2.2.2.1, x5.2.2.2.2.2.1)] : List E_Key)) * 40 < 140737488355328 then some (x5.2.2.2.2.2.2 ++ ([(x5.2.1, x5.2.2.1, x5.2.2.2.1, x5.2.2.2.2.1, x5.2.2.2.2.2.1)] : List E_Key)) else none else some x5.2.2.2.2.2.2) (x.1, false, (0 : Int), x.2.1, x.2.2.1, x.2.2.2.1, x.2.2.2.2.1, x.2.2.2.2.2, ([] : List E_Key))
noncomputable def f114B : Code := match Try.f114.body with
  | some c => c
  | none => .skip
noncomputable def f114K : C.Sem := tab [⟨124, F_spec_LessKey⟩, ⟨125, F_spec_SameSpot⟩]
def f114h4_0 : List Sh := [.v (.sl 86 ts_Key), .dead, .dead, .box 3 0, .dead, .own 10000000, .v .bool, .v (.int .i64), .dead, .dead, .dead, .dead, .dead, .dead, .dead, .dead, .dead, .dead, .dead, .dead, .dead, .dead, .dead, .dead, .dead, .dead, .dead, .dead, .dead, .dead, .dead, .dead, .dead, .dead, .dead, .dead, .dead, .dead, .dead, .dead, .dead, .dead, .dead, .dead, .dead, .dead, .dead, .dead, .dead, .dead, .dead]
def f114o4_0 : List (Nat × OSh) := [(3, .box [.v (.int .i64), .v (.int .i64), .v (.int .i64), .v (.int .i64), .v (.int .i64)]), (10000000, .root true 86 ts_Key)]
def f114e4_0 (t : List E_Key × Bool × Int × Int × Int × Int × Int × Int × List E_Key) : St := ⟨[.val (.sl 86 ts_Key) t.1, .dead, .dead, .box 3 0, .dead, .own 10000000, .val .bool t.2.1, .val (.int .i64) t.2.2.1, .dead, .dead, .dead, .dead, .dead, .dead, .dead, .dead, .dead, .dead, .dead, .dead, .dead, .dead, .dead, .dead, .dead, .dead, .dead, .dead, .dead, .dead, .dead, .dead, .dead, .dead, .dead, .dead, .dead, .dead, .dead, .dead, .dead, .dead, .dead, .dead, .dead, .dead, .dead, .dead, .dead, .dead, .dead], [(3, .box [.val (.int .i64) t.2.2.2.1, .val (.int .i64) t.2.2.2.2.1, .val (.int .i64) t.2.2.2.2.2.1, .val (.int .i64) t.2.2.2.2.2.2.1, .val (.int .i64) t.2.2.2.2.2.2.2.1]), (10000000, .root true 86 ts_Key t.2.2.2.2.2.2.2.2)]⟩
def f114x4_0 (t : Bool × Int × Int × Int × Int × Int × List E_Key) : St := ⟨[.dead, .dead, .dead, .box 3 0, .dead, .own 10000000, .val .bool t.1, .dead, .dead, .dead, .dead, .dead, .dead, .dead, .dead, .dead, .dead, .dead, .dead, .dead, .dead, .dead, .dead, .dead, .dead, .dead, .dead, .dead, .dead, .dead, .dead, .dead, .dead, .dead, .dead, .dead, .dead, .dead, .dead, .dead, .dead, .dead, .dead, .dead, .dead, .dead, .dead, .dead, .dead, .dead, .dead], [(3, .box [.val (.int .i64) t.2.1, .val (.int .i64) t.2.2.1, .val (.int .i64) t.2.2.2.1, .val (.int .i64) t.2.2.2.2.1, .val (.int .i64) t.2.2.2.2.2.1]), (10000000, .root true 86 ts_Key t.2.2.2.2.2.2)]⟩
def f114u4_0 (s : St) : Option (List E_Key × Bool × Int × Int × Int × Int × Int × Int × List E_Key) := (unS f114h4_0 f114o4_0 s).map fun v => (v.1.1, v.1.2.2.2.2.2.2.1, v.1.2.2.2.2.2.2.2.1, v.2.1.1, v.2.1.2.1, v.2.1.2.2.1, v.2.1.2.2.2.1, v.2.1.2.2.2.2.1, v.2.2.1)
theorem f114un4_0 : ∀ (s : St) (t : List E_Key × Bool × Int × Int × Int × Int × Int × Int × List E_Key), f114u4_0 s = some t → f114e4_0 t = s := fun s v h => by
  obtain ⟨u, hu, rfl⟩ := Option.map_eq_some_iff.1 h
  exact (show f114e4_0 (u.1.1, u.1.2.2.2.2.2.2.1, u.1.2.2.2.2.2.2.2.1, u.2.1.1, u.2.1.2.1, u.2.1.2.2.1, u.2.1.2.2.2.1, u.2.1.2.2.2.2.1, u.2.2.1) = mkS f114h4_0 f114o4_0 u by kernel_rfl).trans (mkS_un f114h4_0 f114o4_0 s u hu)
def f114u4 : St → Option (List E_Key × Bool × Int × Int × Int × Int × Int × Int × List E_Key) := f114u4_0
def f114e4 : (List E_Key × Bool × Int × Int × Int × Int × Int × Int × List E_Key) → St := f114e4_0
theorem f114un4 : ∀ (s : St) (t : List E_Key × Bool × Int × Int × Int × Int × Int × Int × List E_Key), f114u4 s = some t → f114e4 t = s := f114un4_0
noncomputable def f114P : Lp := fun i s {_R} κ => bif Nat.beq i 4 then (f114u4 s).bind fun t => L_spec_SetPut_4 (fun t => κ (some 0) (f114x4_0 t)) t else none
noncomputable def f114c4 : Code := (loopsOf f114B).getD 0 .skip
theorem f114A4 : C.live 114 (firstRegion f114c4) = some ([0, 3, 5, 6, 7, 18, 19, 20, 21, 22, 23, 24], [3, 5, 6]) := by kernel_rfl
theorem f114B4 {R : Type} (κ : Option Nat → St → Option R) (s : St) : f114P (firstRegion f114c4) s κ = (f114u4 s).bind fun t => iter (S_spec_SetPut_4 (fun t => κ (some 0) (f114x4_0 t))) FUEL t := by kernel_rfl
theorem f114C4 {R : Type} (κ : Option Nat → St → Option R) (again : St → Option R) (t : T_spec_SetPut_4) : stepL C f114K f114P 114 f114c4 [0, 3, 5, 6, 7, 18, 19, 20, 21, 22, 23, 24] [3, 5, 6] κ again (f114e4 t) = S_spec_SetPut_4 (fun t => κ (some 0) (f114x4_0 t)) (fun t => again (f114e4 t)) t := by kernel_rfl
theorem f114ok4 : LoopOk C f114K f114P 114 f114c4 := loop_ok f114A4 f114e4 f114u4 f114un4 (fun {_R} κ => S_spec_SetPut_4 (fun t => κ (some 0) (f114x4_0 t))) (fun {_R} κ s => f114B4 κ s) (fun {_R} κ again t => f114C4 κ again t)
theorem k114 : Contract C Try.prog f114K := contract_tab _ (fun p hp => by
    simp only [List.mem_cons, List.mem_nil_iff, or_false] at hp
    rcases hp with rfl | rfl
    · exact ok124
    · exact ok125)
theorem ev114 (x : List E_Key × Int × Int × Int × Int × Int) : evalB C f114K f114P 114 Try.f114 f114B ⟨[.v false [(.sl 86 ts_Key)] [false], .v true [(.int .i64), (.int .i64), (.int .i64), (.int .i64), (.int .i64)] [false, false, false, false, false]], [⟨false, [(.sl 86 ts_Key)], [true]⟩], false⟩ [(.sl 86 ts_Key), (.int .i64), (.int .i64), (.int .i64), (.int .i64), (.int .i64)] [(.sl 86 ts_Key)] x = F_spec_SetPut x := by kernel_rfl
theorem ok114 : ContractAt C Try.prog 114 F_spec_SetPut := fn_sound (lp := f114P) tok mixed k114 (by kernel_rfl) (fn := Try.f114) (c := f114B) (sg := ⟨[.v false [(.sl 86 ts_Key)] [false], .v true [(.int .i64), (.int .i64), (.int .i64), (.int .i64), (.int .i64)] [false, false, false, false, false]], [⟨false, [(.sl 86 ts_Key)], [true]⟩], false⟩) Try.func114 (by decide) (by kernel_rfl) (by kernel_rfl) (by kernel_rfl) (fun c' hc' => by
    rw [show loopsOf f114B = [f114c4] by kernel_rfl] at hc'
    simp only [List.mem_cons, List.mem_nil_iff, or_false] at hc'
    rcases hc' with rfl
    · exact f114ok4) (by decide) (by decide) (fun x y h => (ev114 x).trans h)

/-! ### 99: spec.MergeSets -/
abbrev T_spec_MergeSets_3 : Type := List E_Key × Int × List E_Key
noncomputable def S_spec_MergeSets_3 {R : Type} (k0 : List E_Key → Option R) (again : T_spec_MergeSets_3 → Option R) (t3 : T_spec_MergeSets_3) : Option R :=
  bif (decide (t3.2.1 < ((List.length t3.1 : Nat) : Int))) then if (0 : Int) ≤ t3.2.1 then if t3.2.1 < ((List.length t3.1 : Nat) : Int) then Option.bind (F_spec_SetPut (t3.2.2, (rd_Key t3.1 t3.2.1).1, (rd_Key t3.1 t3.2.1).2.1, (rd_Key t3.1 t3.2.1).2.2.1, (rd_Key t3.1 t3.2.1).2.2.2.1, (rd_Key t3.1 t3.2.1).2.2.2.2)) fun r1 => again (t3.1, (Go.IntKind.wrap .i64 (t3.2.1 + (1 : Int))), r1) else none else none else k0 t3.2.2
noncomputable def L_spec_MergeSets_3 {R : Type} (k0 : List E_Key → Option R) (t : T_spec_MergeSets_3) : Option R := iter (S_spec_MergeSets_3 k0) FUEL t
noncomputable def F_spec_MergeSets (x : List E_Key × List E_Key) : Option (List E_Key) :=
  if (List.length ([] : List E_Key) + List.length x.1) * 40 < 140737488355328 then L_spec_MergeSets_3 (fun x2 => some x2) (x.2, (0 : Int), (([] : List E_Key) ++ x.1)) else none
noncomputable def f99B : Code := match Try.f99.body with
  | some c => c
  | none => .skip
noncomputable def f99K : C.Sem := tab [⟨114, F_spec_SetPut⟩]
def f99h3_0 : List Sh := [.dead, .v (.sl 86 ts_Key), .dead, .dead, .dead, .own 10000000, .v (.int .i64), .dead, .dead, .dead, .dead, .dead, .dead, .dead, .dead, .dead, .dead, .dead, .dead, .dead, .dead, .dead, .dead]
def f99o3_0 : List (Nat × OSh) := [(10000000, .root true 86 ts_Key)]
def f99e3_0 (t : List E_Key × Int × List E_Key) : St := ⟨[.dead, .val (.sl 86 ts_Key) t.1, .dead, .dead, .dead, .own 10000000, .val (.int .i64) t.2.1, .dead, .dead, .dead, .dead, .dead, .dead, .dead, .dead, .dead, .dead, .dead, .dead, .dead, .dead, .dead, .dead], [(10000000, .root true 86 ts_Key t.2.2)]⟩
def f99x3_0 (t : List E_Key) : St := ⟨[.dead, .dead, .dead, .dead, .dead, .own 10000000, .dead, .dead, .dead, .dead, .dead, .dead, .dead, .dead, .dead, .dead, .dead, .dead, .dead, .dead, .dead, .dead, .dead], [(10000000, .root true 86 ts_Key t)]⟩
def f99u3_0 (s : St) : Option (List E_Key × Int × List E_Key) := (unS f99h3_0 f99o3_0 s).map fun v => (v.1.2.1, v.1.2.2.2.2.2.2.1, v.2.1)
theorem f99un3_0 : ∀ (s : St) (t : List E_Key × Int × List E_Key), f99u3_0 s = some t → f99e3_0 t = s := fun s v h => by
  obtain ⟨u, hu, rfl⟩ := Option.map_eq_some_iff.1 h
  exact (show f99e3_0 (u.1.2.1, u.1.2.2.2.2.2.2.1, u.2.1) = mkS f99h3_0 f99o3_0 u by kernel_rfl).trans (mkS_un f99h3_0 f99o3_0 s u hu)
def f99u3 : St → Option (List E_Key × Int × List E_Key) := f99u3_0
def f99e3 : (List E_Key × Int × List E_Key) → St := f99e3_0
theorem f99un3 : ∀ (s : St) (t : List E_Key × Int × List E_Key), f99u3 s = some t → f99e3 t = s := f99un3_0
noncomputable def f99P : Lp := fun i s {_R} κ => bif Nat.beq i 3 then (f99u3 s).bind fun t => L_spec_MergeSets_3 (fun t => κ (some 0) (f99x3_0 t)) t else none
noncomputable def f99c3 : Code := (loopsOf f99B).getD 0 .skip
theorem f99A3 : C.live 99 (firstRegion f99c3) = some ([1, 5, 6], [5]) := by kernel_rfl
theorem f99B3 {R : Type} (κ : Option Nat → St → Option R) (s : St) : f99P (firstRegion f99c3) s κ = (f99u3 s).bind fun t => iter (S_spec_MergeSets_3 (fun t => κ (some 0) (f99x3_0 t))) FUEL t := by kernel_rfl
theorem f99C3 {R : Type} (κ : Option Nat → St → Option R) (again : St → Option R) (t : T_spec_MergeSets_3) : stepL C f99K f99P 99 f99c3 [1, 5, 6] [5] κ again (f99e3 t) = S_spec_MergeSets_3 (fun t => κ (some 0) (f99x3_0 t)) (fun t => again (f99e3 t)) t := by kernel_rfl
theorem f99ok3 : LoopOk C f99K f99P 99 f99c3 := loop_ok f99A3 f99e3 f99u3 f99un3 (fun {_R} κ => S_spec_MergeSets_3 (fun t => κ (some 0) (f99x3_0 t))) (fun {_R} κ s => f99B3 κ s) (fun {_R} κ again t => f99C3 κ again t)
theorem k99 : Contract C Try.prog f99K := contract_tab _ (fun p hp => by
    simp only [List.mem_cons, List.mem_nil_iff, or_false] at hp
    rcases hp with rfl
    · exact ok114)
theorem ev99 (x : List E_Key × List E_Key) : evalB C f99K f99P 99 Try.f99 f99B ⟨[.v false [(.sl 86 ts_Key)] [false], .v false [(.sl 86 ts_Key)] [false]], [⟨false, [(.sl 86 ts_Key)], [true]⟩], false⟩ [(.sl 86 ts_Key), (.sl 86 ts_Key)] [(.sl 86 ts_Key)] x = F_spec_MergeSets x := by kernel_rfl
theorem ok99 : ContractAt C Try.prog 99 F_spec_MergeSets := fn_sound (lp := f99P) tok mixed k99 (by kernel_rfl) (fn := Try.f99) (c := f99B) (sg := ⟨[.v false [(.sl 86 ts_Key)] [false], .v false [(.sl 86 ts_Key)] [false]], [⟨false, [(.sl 86 ts_Key)], [true]⟩], false⟩) Try.func99 (by decide) (by kernel_rfl) (by kernel_rfl) (by kernel_rfl) (fun c' hc' => by
    rw [show loopsOf f99B = [f99c3] by kernel_rfl] at hc'
    simp only [List.mem_cons, List.mem_nil_iff, or_false] at hc'
    rcases hc' with rfl
    · exact f99ok3) (by decide) (by decide) (fun x y h => (ev99 x).trans h)

/-! ### 100: spec.Drop -/
abbrev T_spec_Drop_3 : Type := List E_Key × Int × List E_Key
noncomputable def S_spec_Drop_3 {R : Type} (k0 : List E_Key → Option R) (again : T_spec_Drop_3 → Option R) (t3 : T_spec_Drop_3) : Option R :=
  bif (decide (t3.2.1 < ((List.length t3.1 : Nat) : Int))) then if (0 : Int) ≤ t3.2.1 then if t3.2.1 < ((List.length t3.1 : Nat) : Int) then bif ((rd_Key t3.1 t3.2.1).2.2.1 != (0 : Int)) then if (0 : Int) ≤ t3.2.1 then if t3.2.1 < ((List.length t3.1 : Nat) : Int) then if (List.length t3.2.2 + List.length ([((rd_Key t3.1 t3.2.1).1, (rd_Key t3.1 t3.2.1).2.1, (rd_Key t3.1 t3.2.1).2.2.1, (rd_Key t3.1 t3.2.1).2.2.2.1, (rd_Key t3.1 t3.2.1).2.2.2.2)] : List E_Key)) * 40 < 140737488355328 then again (t3.1, (Go.IntKind.wrap .i64 (t3.2.1 + (1 : Int))), (t3.2.2 ++ ([((rd_Key t3.1 t3.2.1).1, (rd_Key t3.1 t3.2.1).2.1, (rd_Key t3.1 t3.2.1).2.2.1, (rd_Key t3.1 t3.2.1).2.2.2.1, (rd_Key t3.1 t3.2.1).2.2.2.2)] : List E_Key))) else none else none else none else again (t3.1, (Go.IntKind.wrap .i64 (t3.2.1 + (1 : Int))), t3.2.2) else none else none else k0 t3.2.2
noncomputable def L_spec_Drop_3 {R : Type} (k0 : List E_Key → Option R) (t : T_spec_Drop_3) : Option R := iter (S_spec_Drop_3 k0) FUEL t
noncomputable def F_spec_Drop (x : List E_Key) : Option (List E_Key) :=
  L_spec_Drop_3 (fun x1 => some x1) (x, (0 : Int), ([] : List E_Key))
noncomputable def f100B : Code := match Try.f100.body with
  | some c => c
  | none => .skip
noncomputable def f100K : C.Sem := tab []
def f100h3_0 : List Sh := [.v (.sl 86 ts_Key), .dead, .dead, .own 10000000, .v (.int .i64), .dead, .dead, .dead, .dead, .dead, .dead, .dead, .dead, .dead, .dead, .dead, .dead, .dead, .dead, .dead, .dead, .dead, .dead, .dead, .dead, .dead]
def f100o3_0 : List (Nat × OSh) := [(10000000, .root true 86 ts_Key)]
def f100e3_0 (t : List E_Key × Int × List E_Key) : St := ⟨[.val (.sl 86 ts_Key) t.1, .dead, .dead, .own 10000000, .val (.int .i64) t.2.1, .dead, .dead, .dead, .dead, .dead, .dead, .dead, .dead, .dead, .dead, .dead, .dead, .dead, .dead, .dead, .dead, .dead, .dead, .dead, .dead, .dead], [(10000000, .root true 86 ts_Key t.2.2)]⟩
def f100x3_0 (t : List E_Key) : St := ⟨[.dead, .dead, .dead, .own 10000000, .dead, .dead, .dead, .dead, .dead, .dead, .dead, .dead, .dead, .dead, .dead, .dead, .dead, .dead, .dead, .dead, .dead, .dead, .dead, .dead, .dead, .dead], [(10000000, .root true 86 ts_Key t)]⟩
def f100u3_0 (s : St) : Option (List E_Key × Int × List E_Key) := (unS f100h3_0 f100o3_0 s).map fun v => (v.1.1, v.1.2.2.2.2.1, v.2.1)
theorem f100un3_0 : ∀ (s : St) (t : List E_Key × Int × List E_Key), f100u3_0 s = some t → f100e3_0 t = s := fun s v h => by
  obtain ⟨u, hu, rfl⟩ := Option.map_eq_some_iff.1 h
  exact (show f100e3_0 (u.1.1, u.1.2.2.2.2.1, u.2.1) = mkS f100h3_0 f100o3_0 u by kernel_rfl).trans (mkS_un f100h3_0 f100o3_0 s u hu)
def f100u3 : St → Option (List E_Key × Int × List E_Key) := f100u3_0
def f100e3 : (List E_Key × Int × List E_Key) → St := f100e3_0
theorem f100un3 : ∀ (s : St) (t : List E_Key × Int × List E_Key), f100u3 s = some t → f100e3 t = s := f100un3_0
noncomputable def f100P : Lp := fun i s {_R} κ => bif Nat.beq i 3 then (f100u3 s).bind fun t => L_spec_Drop_3 (fun t => κ (some 0) (f100x3_0 t)) t else none
noncomputable def f100c3 : Code := (loopsOf f100B).getD 0 .skip
theorem f100A3 : C.live 100 (firstRegion f100c3) = some ([0, 3, 4], [3]) := by kernel_rfl
theorem f100B3 {R : Type} (κ : Option Nat → St → Option R) (s : St) : f100P (firstRegion f100c3) s κ = (f100u3 s).bind fun t => iter (S_spec_Drop_3 (fun t => κ (some 0) (f100x3_0 t))) FUEL t := by kernel_rfl
theorem f100C3 {R : Type} (κ : Option Nat → St → Option R) (again : St → Option R) (t : T_spec_Drop_3) : stepL C f100K f100P 100 f100c3 [0, 3, 4] [3] κ again (f100e3 t) = S_spec_Drop_3 (fun t => κ (some 0) (f100x3_0 t)) (fun t => again (f100e3 t)) t := by kernel_rfl
theorem f100ok3 : LoopOk C f100K f100P 100 f100c3 := loop_ok f100A3 f100e3 f100u3 f100un3 (fun {_R} κ => S_spec_Drop_3 (fun t => κ (some 0) (f100x3_0 t))) (fun {_R} κ s => f100B3 κ s) (fun {_R} κ again t => f100C3 κ again t)
theorem k100 : Contract C Try.prog f100K := contract_tab _ (fun p hp => by cases hp)
theorem ev100 (x : List E_Key) : evalB C f100K f100P 100 Try.f100 f100B ⟨[.v false [(.sl 86 ts_Key)] [false]], [⟨false, [(.sl 86 ts_Key)], [true]⟩], false⟩ [(.sl 86 ts_Key)] [(.sl 86 ts_Key)] x = F_spec_Drop x := by kernel_rfl
theorem ok100 : ContractAt C Try.prog 100 F_spec_Drop := fn_sound (lp := f100P) tok mixed k100 (by kernel_rfl) (fn := Try.f100) (c := f100B) (sg := ⟨[.v false [(.sl 86 ts_Key)] [false]], [⟨false, [(.sl 86 ts_Key)], [true]⟩], false⟩) Try.func100 (by decide) (by kernel_rfl) (by kernel_rfl) (by kernel_rfl) (fun c' hc' => by
    rw [show loopsOf f100B = [f100c3] by kernel_rfl] at hc'
    simp only [List.mem_cons, List.mem_nil_iff, or_false] at hc'
    rcases hc' with rfl
    · exact f100ok3) (by decide) (by decide) (fun x y h => (ev100 x).trans h)

/-! ### 78: spec.NodeKeys -/
abbrev T_spec_NodeKeys_3 : Type := Int × List E_s_Key × List E_Key
noncomputable def S_spec_NodeKeys_3 {R : Type} (k0 : List E_Key → Option R) (again : T_spec_NodeKeys_3 → Option R) (t3 : T_spec_NodeKeys_3) : Option R :=
  bif (decide (t3.1 < ((List.length t3.2.1 : Nat) : Int))) then if (0 : Int) ≤ t3.1 then if t3.1 < ((List.length t3.2.1 : Nat) : Int) then Option.bind (F_spec_MergeSets (t3.2.2, (rd_s_Key t3.2.1 t3.1))) fun r1 => again ((Go.IntKind.wrap .i64 (t3.1 + (1 : Int))), t3.2.1, r1) else none else none else k0 t3.2.2
noncomputable def L_spec_NodeKeys_3 {R : Type} (k0 : List E_Key → Option R) (t : T_spec_NodeKeys_3) : Option R := iter (S_spec_NodeKeys_3 k0) FUEL t
noncomputable def F_spec_NodeKeys (x : List E_s_Key) : Option (List E_Key) :=
  L_spec_NodeKeys_3 (fun x2 => Option.bind (F_spec_Drop x2) fun r3 => some r3) ((0 : Int), x, ([] : List E_Key))
noncomputable def f78B : Code := match Try.f78.body with
  | some c => c
  | none => .skip
noncomputable def f78K : C.Sem := tab [⟨99, F_spec_MergeSets⟩, ⟨100, F_spec_Drop⟩]
def f78h3_0 : List Sh := [.dead, .box 1 0, .dead, .own 10000000, .v (.int .i64), .dead, .dead, .dead, .dead, .dead, .dead, .dead, .dead, .dead, .dead, .dead, .dead, .dead, .dead, .dead, .dead, .dead]
def f78o3_0 : List (Nat × OSh) := [(1, .box [.v (.sl 83 ts_s_Key)]), (10000000, .root true 86 ts_Key)]
def f78e3_0 (t : Int × List E_s_Key × List E_Key) : St := ⟨[.dead, .box 1 0, .dead, .own 10000000, .val (.int .i64) t.1, .dead, .dead, .dead, .dead, .dead, .dead, .dead, .dead, .dead, .dead, .dead, .dead, .dead, .dead, .dead, .dead, .dead], [(1, .box [.val (.sl 83 ts_s_Key) t.2.1]), (10000000, .root true 86 ts_Key t.2.2)]⟩
def f78x3_0 (t : List E_Key) : St := ⟨[.dead, .dead, .dead, .own 10000000, .dead, .dead, .dead, .dead, .dead, .dead, .dead, .dead, .dead, .dead, .dead, .dead, .dead, .dead, .dead, .dead, .dead, .dead], [(10000000, .root true 86 ts_Key t)]⟩
def f78u3_0 (s : St) : Option (Int × List E_s_Key × List E_Key) := (unS f78h3_0 f78o3_0 s).map fun v => (v.1.2.2.2.2.1, v.2.1.1, v.2.2.1)
theorem f78un3_0 : ∀ (s : St) (t : Int × List E_s_Key × List E_Key), f78u3_0 s = some t → f78e3_0 t = s := fun s v h => by
  obtain ⟨u, hu, rfl⟩ := Option.map_eq_some_iff.1 h
  exact (show f78e3_0 (u.1.2.2.2.2.1, u.2.1.1, u.2.2.1) = mkS f78h3_0 f78o3_0 u by kernel_rfl).trans (mkS_un f78h3_0 f78o3_0 s u hu)
def f78u3 : St → Option (Int × List E_s_Key × List E_Key) := f78u3_0
def f78e3 : (Int × List E_s_Key × List E_Key) → St := f78e3_0
theorem f78un3 : ∀ (s : St) (t : Int × List E_s_Key × List E_Key), f78u3 s = some t → f78e3 t = s := f78un3_0
noncomputable def f78P : Lp := fun i s {_R} κ => bif Nat.beq i 3 then (f78u3 s).bind fun t => L_spec_NodeKeys_3 (fun t => κ (some 0) (f78x3_0 t)) t else none
noncomputable def f78c3 : Code := (loopsOf f78B).getD 0 .skip
theorem f78A3 : C.live 78 (firstRegion f78c3) = some ([1, 3, 4], [3]) := by kernel_rfl
theorem f78B3 {R : Type} (κ : Option Nat → St → Option R) (s : St) : f78P (firstRegion f78c3) s κ = (f78u3 s).bind fun t => iter (S_spec_NodeKeys_3 (fun t => κ (some 0) (f78x3_0 t))) FUEL t := by kernel_rfl
theorem f78C3 {R : Type} (κ : Option Nat → St → Option R) (again : St → Option R) (t : T_spec_NodeKeys_3) : stepL C f78K f78P 78 f78c3 [1, 3, 4] [3] κ again (f78e3 t) = S_spec_NodeKeys_3 (fun t => κ (some 0) (f78x3_0 t)) (fun t => again (f78e3 t)) t := by kernel_rfl
theorem f78ok3 : LoopOk C f78K f78P 78 f78c3 := loop_ok f78A3 f78e3 f78u3 f78un3 (fun {_R} κ => S_spec_NodeKeys_3 (fun t => κ (some 0) (f78x3_0 t))) (fun {_R} κ s => f78B3 κ s) (fun {_R} κ again t => f78C3 κ again t)
theorem k78 : Contract C Try.prog f78K := contract_tab _ (fun p hp => by
    simp only [List.mem_cons, List.mem_nil_iff, or_false] at hp
    rcases hp with rfl | rfl
    · exact ok99
    · exact ok100)
theorem ev78 (x : List E_s_Key) : evalB C f78K f78P 78 Try.f78 f78B ⟨[.v true [(.sl 83 ts_s_Key)] [false]], [⟨false, [(.sl 86 ts_Key)], [true]⟩], false⟩ [(.sl 83 ts_s_Key)] [(.sl 86 ts_Key)] x = F_spec_NodeKeys x := by kernel_rfl
theorem ok78 : ContractAt C Try.prog 78 F_spec_NodeKeys := fn_sound (lp := f78P) tok mixed k78 (by kernel_rfl) (fn := Try.f78) (c := f78B) (sg := ⟨[.v true [(.sl 83 ts_s_Key)] [false]], [⟨false, [(.sl 86 ts_Key)], [true]⟩], false⟩) Try.func78 (by decide) (by kernel_rfl) (by kernel_rfl) (by kernel_rfl) (fun c' hc' => by
    rw [show loopsOf f78B = [f78c3] by kernel_rfl] at hc'
    simp only [List.mem_cons, List.mem_nil_iff, or_false] at hc'
    rcases hc' with rfl
    · exact f78ok3) (by decide) (by decide) (fun x y h => (ev78 x).trans h)

/-! ### 41: spec.TreeKeys -/
abbrev T_spec_TreeKeys_3 : Type := Int × List E_i64 × List E_Node × List E_Key
noncomputable def S_spec_TreeKeys_3 {R : Type} (k0 : List E_Key → Option R) (again : T_spec_TreeKeys_3 → Option R) (t3 : T_spec_TreeKeys_3) : Option R :=
  bif (decide (t3.1 < ((List.length t3.2.2.1 : Nat) : Int))) then if (0 : Int) ≤ t3.1 then if t3.1 < ((List.length t3.2.2.1 : Nat) : Int) then Option.bind (F_spec_NodeKeys (rd_Node t3.2.2.1 t3.1)) fun r1 => if (List.length t3.2.2.2 + List.length r1) * 40 < 140737488355328 then again ((Go.IntKind.wrap .i64 (t3.1 + (1 : Int))), t3.2.1, t3.2.2.1, (t3.2.2.2 ++ r1)) else none else none else none else k0 t3.2.2.2
noncomputable def L_spec_TreeKeys_3 {R : Type} (k0 : List E_Key → Option R) (t : T_spec_TreeKeys_3) : Option R := iter (S_spec_TreeKeys_3 k0) FUEL t
noncomputable def F_spec_TreeKeys (x : List E_i64 × List E_Node) : Option (List E_Key) :=
  L_spec_TreeKeys_3 (fun x2 => some x2) ((0 : Int), x.1, x.2, ([] : List E_Key))
noncomputable def f41B : Code := match Try.f41.body with
  | some c => c
  | none => .skip
noncomputable def f41K : C.Sem := tab [⟨78, F_spec_NodeKeys⟩]
def f41h3_0 : List Sh := [.dead, .box 1 0, .dead, .own 10000000, .v (.int .i64), .dead, .dead, .dead, .dead, .dead, .dead, .dead, .dead, .dead, .dead, .dead, .dead, .dead, .dead, .dead, .dead, .dead]
def f41o3_0 : List (Nat × OSh) := [(1, .box [.v (.sl 3 ts_i64), .v (.sl 128 ts_Node)]), (10000000, .root true 86 ts_Key)]
def f41e3_0 (t : Int × List E_i64 × List E_Node × List E_Key) : St := ⟨[.dead, .box 1 0, .dead, .own 10000000, .val (.int .i64) t.1, .dead, .dead, .dead, .dead, .dead, .dead, .dead, .dead, .dead, .dead, .dead, .dead, .dead, .dead, .dead, .dead, .dead], [(1, .box [.val (.sl 3 ts_i64) t.2.1, .val (.sl 128 ts_Node) t.2.2.1]), (10000000, .root true 86 ts_Key t.2.2.2)]⟩
def f41x3_0 (t : List E_Key) : St := ⟨[.dead, .dead, .dead, .own 10000000, .dead, .dead, .dead, .dead, .dead, .dead, .dead, .dead, .dead, .dead, .dead, .dead, .dead, .dead, .dead, .dead, .dead, .dead], [(10000000, .root true 86 ts_Key t)]⟩
def f41u3_0 (s : St) : Option (Int × List E_i64 × List E_Node × List E_Key) := (unS f41h3_0 f41o3_0 s).map fun v => (v.1.2.2.2.2.1, v.2.1.1, v.2.1.2.1, v.2.2.1)
theorem f41un3_0 : ∀ (s : St) (t : Int × List E_i64 × List E_Node × List E_Key), f41u3_0 s = some t → f41e3_0 t = s := fun s v h => by
  obtain ⟨u, hu, rfl⟩ := Option.map_eq_some_iff.1 h
  exact (show f41e3_0 (u.1.2.2.2.2.1, u.2.1.1, u.2.1.2.1, u.2.2.1) = mkS f41h3_0 f41o3_0 u by kernel_rfl).trans (mkS_un f41h3_0 f41o3_0 s u hu)
def f41u3 : St → Option (Int × List E_i64 × List E_Node × List E_Key) := f41u3_0
def f41e3 : (Int × List E_i64 × List E_Node × List E_Key) → St := f41e3_0
theorem f41un3 : ∀ (s : St) (t : Int × List E_i64 × List E_Node × List E_Key), f41u3 s = some t → f41e3 t = s := f41un3_0
noncomputable def f41P : Lp := fun i s {_R} κ => bif Nat.beq i 3 then (f41u3 s).bind fun t => L_spec_TreeKeys_3 (fun t => κ (some 0) (f41x3_0 t)) t else none
noncomputable def f41c3 : Code := (loopsOf f41B).getD 0 .skip
theorem f41A3 : C.live 41 (firstRegion f41c3) = some ([1, 3, 4], [3]) := by kernel_rfl
theorem f41B3 {R : Type} (κ : Option Nat → St → Option R) (s : St) : f41P (firstRegion f41c3) s κ = (f41u3 s).bind fun t => iter (S_spec_TreeKeys_3 (fun t => κ (some 0) (f41x3_0 t))) FUEL t := by kernel_rfl
theorem f41C3 {R : Type} (κ : Option Nat → St → Option R) (again : St → Option R) (t : T_spec_TreeKeys_3) : stepL C f41K f41P 41 f41c3 [1, 3, 4] [3] κ again (f41e3 t) = S_spec_TreeKeys_3 (fun t => κ (some 0) (f41x3_0 t)) (fun t => again (f41e3 t)) t := by kernel_rfl
theorem f41ok3 : LoopOk C f41K f41P 41 f41c3 := loop_ok f41A3 f41e3 f41u3 f41un3 (fun {_R} κ => S_spec_TreeKeys_3 (fun t => κ (some 0) (f41x3_0 t))) (fun {_R} κ s => f41B3 κ s) (fun {_R} κ again t => f41C3 κ again t)
theorem k41 : Contract C Try.prog f41K := contract_tab _ (fun p hp => by
    simp only [List.mem_cons, List.mem_nil_iff, or_false] at hp
    rcases hp with rfl
    · exact ok78)
theorem ev41 (x : List E_i64 × List E_Node) : evalB C f41K f41P 41 Try.f41 f41B ⟨[.v true [(.sl 3 ts_i64), (.sl 128 ts_Node)] [false, false]], [⟨false, [(.sl 86 ts_Key)], [true]⟩], false⟩ [(.sl 3 ts_i64), (.sl 128 ts_Node)] [(.sl 86 ts_Key)] x = F_spec_TreeKeys x := by kernel_rfl
theorem ok41 : ContractAt C Try.prog 41 F_spec_TreeKeys := fn_sound (lp := f41P) tok mixed k41 (by kernel_rfl) (fn := Try.f41) (c := f41B) (sg := ⟨[.v true [(.sl 3 ts_i64), (.sl 128 ts_Node)] [false, false]], [⟨false, [(.sl 86 ts_Key)], [true]⟩], false⟩) Try.func41 (by decide) (by kernel_rfl) (by kernel_rfl) (by kernel_rfl) (fun c' hc' => by
    rw [show loopsOf f41B = [f41c3] by kernel_rfl] at hc'
    simp only [List.mem_cons, List.mem_nil_iff, or_false] at hc'
    rcases hc' with rfl
    · exact f41ok3) (by decide) (by decide) (fun x y h => (ev41 x).trans h)

/-! ### 126: spec.KeysOf -/
abbrev T_spec_KeysOf_4 : Type := Int × Int × List E_Key × List E_Key
noncomputable def S_spec_KeysOf_4 {R : Type} (k0 : List E_Key → Option R) (again : T_spec_KeysOf_4 → Option R) (t4 : T_spec_KeysOf_4) : Option R :=
  bif (decide (t4.2.1 < ((List.length t4.2.2.2 : Nat) : Int))) then if (0 : Int) ≤ t4.2.1 then if t4.2.1 < ((List.length t4.2.2.2 : Nat) : Int) then bif ((rd_Key t4.2.2.2 t4.2.1).1 == t4.1) then if (0 : Int) ≤ t4.2.1 then if t4.2.1 < ((List.length t4.2.2.2 : Nat) : Int) then if (List.length t4.2.2.1 + List.length ([((rd_Key t4.2.2.2 t4.2.1).1, (rd_Key t4.2.2.2 t4.2.1).2.1, (rd_Key t4.2.2.2 t4.2.1).2.2.1, (rd_Key t4.2.2.2 t4.2.1).2.2.2.1, (rd_Key t4.2.2.2 t4.2.1).2.2.2.2)] : List E_Key)) * 40 < 140737488355328 then again (t4.1, (Go.IntKind.wrap .i64 (t4.2.1 + (1 : Int))), (t4.2.2.1 ++ ([((rd_Key t4.2.2.2 t4.2.1).1, (rd_Key t4.2.2.2 t4.2.1).2.1, (rd_Key t4.2.2.2 t4.2.1).2.2.1, (rd_Key t4.2.2.2 t4.2.1).2.2.2.1, (rd_Key t4.2.2.2 t4.2.1).2.2.2.2)] : List E_Key)), t4.2.2.2) else none else none else none else again (t4.1, (Go.IntKind.wrap .i64 (t4.2.1 + (1 : Int))), t4.2.2.1, t4.2.2.2) else none else none else k0 t4.2.2.1
noncomputable def L_spec_KeysOf_4 {R : Type} (k0 : List E_Key → Option R) (t : T_spec_KeysOf_4) : Option R := iter (S_spec_KeysOf_4 k0) FUEL t
noncomputable def F_spec_KeysOf (x : List E_i64 × List E_Node × Int) : Option (List E_Key) :=
  Option.bind (F_spec_TreeKeys (x.1, x.2.1)) fun r1 => L_spec_KeysOf_4 (fun x2 => some x2) (x.2.2, (0 : Int), ([] : List E_Key), r1)
noncomputable def f126B : Code := match Try.f126.body with
  | some c => c
  | none => .skip
noncomputable def f126K : C.Sem := tab [⟨41, F_spec_TreeKeys⟩]
def f126h4_0 : List Sh := [.dead, .v (.int .i64), .dead, .dead, .dead, .own 10000000, .own 10000001, .v (.int .i64), .dead, .dead, .dead, .dead, .dead, .dead, .dead, .dead, .dead, .dead, .dead, .dead, .dead, .dead, .dead, .dead, .dead, .dead, .dead, .dead, .dead, .dead, .dead, .dead]
def f126o4_0 : List (Nat × OSh) := [(10000000, .root true 86 ts_Key), (10000001, .root true 86 ts_Key)]
def f126e4_0 (t : Int × Int × List E_Key × List E_Key) : St := ⟨[.dead, .val (.int .i64) t.1, .dead, .dead, .dead, .own 10000000, .own 10000001, .val (.int .i64) t.2.1, .dead, .dead, .dead, .dead, .dead, .dead, .dead, .dead, .dead, .dead, .dead, .dead, .dead, .dead, .dead, .dead, .dead, .dead, .dead, .dead, .dead, .dead, .dead, .dead], [(10000000, .root true 86 ts_Key t.2.2.1), (10000001, .root true 86 ts_Key t.2.2.2)]⟩
def f126x4_0 (t : List E_Key) : St := ⟨[.dead, .dead, .dead, .dead, .dead, .own 10000000, .dead, .dead, .dead, .dead, .dead, .dead, .dead, .dead, .dead, .dead, .dead, .dead, .dead, .dead, .dead, .dead, .dead, .dead, .dead, .dead, .dead, .dead, .dead, .dead, .dead, .dead], [(10000000, .root true 86 ts_Key t)]⟩
def f126u4_0 (s : St) : Option (Int × Int × List E_Key × List E_Key) := (unS f126h4_0 f126o4_0 s).map fun v => (v.1.2.1, v.1.2.2.2.2.2.2.2.1, v.2.1, v.2.2.1)
theorem f126un4_0 : ∀ (s : St) (t : Int × Int × List E_Key × List E_Key), f126u4_0 s = some t → f126e4_0 t = s := fun s v h => by
  obtain ⟨u, hu, rfl⟩ := Option.map_eq_some_iff.1 h
  exact (show f126e4_0 (u.1.2.1, u.1.2.2.2.2.2.2.2.1, u.2.1, u.2.2.1) = mkS f126h4_0 f126o4_0 u by kernel_rfl).trans (mkS_un f126h4_0 f126o4_0 s u hu)
def f126u4 : St → Option (Int × Int × List E_Key × List E_Key) := f126u4_0
def f126e4 : (Int × Int × List E_Key × List E_Key) → St := f126e4_0
theorem f126un4 : ∀ (s : St) (t : Int × Int × List E_Key × List E_Key), f126u4 s = some t → f126e4 t = s := f126un4_0
noncomputable def f126P : Lp := fun i s {_R} κ => bif Nat.beq i 4 then (f126u4 s).bind fun t => L_spec_KeysOf_4 (fun t => κ (some 0) (f126x4_0 t)) t else none
noncomputable def f126c4 : Code := (loopsOf f126B).getD 0 .skip
theorem f126A4 : C.live 126 (firstRegion f126c4) = some ([1, 5, 6, 7], [5]) := by kernel_rfl
theorem f126B4 {R : Type} (κ : Option Nat → St → Option R) (s : St) : f126P (firstRegion f126c4) s κ = (f126u4 s).bind fun t => iter (S_spec_KeysOf_4 (fun t => κ (some 0) (f126x4_0 t))) FUEL t := by kernel_rfl
theorem f126C4 {R : Type} (κ : Option Nat → St → Option R) (again : St → Option R) (t : T_spec_KeysOf_4) : stepL C f126K f126P 126 f126c4 [1, 5, 6, 7] [5] κ again (f126e4 t) = S_spec_KeysOf_4 (fun t => κ (some 0) (f126x4_0 t)) (fun t => again (f126e4 t)) t := by kernel_rfl
theorem f126ok4 : LoopOk C f126K f126P 126 f126c4 := loop_ok f126A4 f126e4 f126u4 f126un4 (fun {_R} κ => S_spec_KeysOf_4 (fun t => κ (some 0) (f126x4_0 t))) (fun {_R} κ s => f126B4 κ s) (fun {_R} κ again t => f126C4 κ again t)
theorem k126 : Contract C Try.prog f126K := contract_tab _ (fun p hp => by
    simp only [List.mem_cons, List.mem_nil_iff, or_false] at hp
    rcases hp with rfl
    · exact ok41)
theorem ev126 (x : List E_i64 × List E_Node × Int) : evalB C f126K f126P 126 Try.f126 f126B ⟨[.v true [(.sl 3 ts_i64), (.sl 128 ts_Node)] [false, false], .v false [(.int .i64)] [false]], [⟨false, [(.sl 86 ts_Key)], [true]⟩], false⟩ [(.sl 3 ts_i64), (.sl 128 ts_Node), (.int .i64)] [(.sl 86 ts_Key)] x = F_spec_KeysOf x := by kernel_rfl
theorem ok126 : ContractAt C Try.prog 126 F_spec_KeysOf := fn_sound (lp := f126P) tok mixed k126 (by kernel_rfl) (fn := Try.f126) (c := f126B) (sg := ⟨[.v true [(.sl 3 ts_i64), (.sl 128 ts_Node)] [false, false], .v false [(.int .i64)] [false]], [⟨false, [(.sl 86 ts_Key)], [true]⟩], false⟩) Try.func126 (by decide) (by kernel_rfl) (by kernel_rfl) (by kernel_rfl) (fun c' hc' => by
    rw [show loopsOf f126B = [f126c4] by kernel_rfl] at hc'
    simp only [List.mem_cons, List.mem_nil_iff, or_false] at hc'
    rcases hc' with rfl
    · exact f126ok4) (by decide) (by decide) (fun x y h => (ev126 x).trans h)

/-! ### 127: spec.l7Has -/
abbrev T_spec_l7Has_2 : Type := List E_i64 × Int × Int
noncomputable def S_spec_l7Has_2 {R : Type} (k0 : Bool → Option R) (k1 : Unit → Option R) (again : T_spec_l7Has_2 → Option R) (t2 : T_spec_l7Has_2) : Option R :=
  bif (decide (t2.2.2 < ((List.length t2.1 : Nat) : Int))) then if (0 : Int) ≤ t2.2.2 then if t2.2.2 < ((List.length t2.1 : Nat) : Int) then bif ((rd_i64 t2.1 t2.2.2) == t2.2.1) then k0 true else again (t2.1, t2.2.1, (Go.IntKind.wrap .i64 (t2.2.2 + (1 : Int)))) else none else none else k1 ()
noncomputable def L_spec_l7Has_2 {R : Type} (k0 : Bool → Option R) (k1 : Unit → Option R) (t : T_spec_l7Has_2) : Option R := iter (S_spec_l7Has_2 k0 k1) FUEL t
noncomputable def F_spec_l7Has (x : List E_i64 × Int) : Option (Bool) :=
  L_spec_l7Has_2 (fun x1 => some x1) (fun x2 => some false) (x.1, x.2, (0 : Int))
noncomputable def f127B : Code := match Try.f127.body with
  | some c => c
  | none => .skip
noncomputable def f127K : C.Sem := tab []
def f127h2_0 : List Sh := [.v (.sl 3 ts_i64), .v (.int .i64), .dead, .dead, .dead, .v (.int .i64), .dead, .dead, .dead, .dead, .dead, .dead, .dead, .dead, .dead, .dead, .dead, .dead]
def f127o2_0 : List (Nat × OSh) := []
def f127e2_0 (t : List E_i64 × Int × Int) : St := ⟨[.val (.sl 3 ts_i64) t.1, .val (.int .i64) t.2.1, .dead, .dead, .dead, .val (.int .i64) t.2.2, .dead, .dead, .dead, .dead, .dead, .dead, .dead, .dead, .dead, .dead, .dead, .dead], []⟩
def f127x2_0 (t : Bool) : St := ⟨[.dead, .dead, .dead, .dead, .val .bool t, .dead, .dead, .dead, .dead, .dead, .dead, .dead, .dead, .dead, .dead, .dead, .dead, .dead], []⟩
def f127x2_1 (t : Unit) : St := ⟨[.dead, .dead, .dead, .dead, .dead, .dead, .dead, .dead, .dead, .dead, .dead, .dead, .dead, .dead, .dead, .dead, .dead, .dead], []⟩
def f127u2_0 (s : St) : Option (List E_i64 × Int × Int) := (unS f127h2_0 f127o2_0 s).map fun v => (v.1.1, v.1.2.1, v.1.2.2.2.2.2.1)
theorem f127un2_0 : ∀ (s : St) (t : List E_i64 × Int × Int), f127u2_0 s = some t → f127e2_0 t = s := fun s v h => by
  obtain ⟨u, hu, rfl⟩ := Option.map_eq_some_iff.1 h
  exact (show f127e2_0 (u.1.1, u.1.2.1, u.1.2.2.2.2.2.1) = mkS f127h2_0 f127o2_0 u by kernel_rfl).trans (mkS_un f127h2_0 f127o2_0 s u hu)
def f127u2 : St → Option (List E_i64 × Int × Int) := f127u2_0
def f127e2 : (List E_i64 × Int × Int) → St := f127e2_0
theorem f127un2 : ∀ (s : St) (t : List E_i64 × Int × Int), f127u2 s = some t → f127e2 t = s := f127un2_0
noncomputable def f127P : Lp := fun i s {_R} κ => bif Nat.beq i 2 then (f127u2 s).bind fun t => L_spec_l7Has_2 (fun t => κ (none) (f127x2_0 t)) (fun t => κ (some 0) (f127x2_1 t)) t else none
noncomputable def f127c2 : Code := (loopsOf f127B).getD 0 .skip
theorem f127A2 : C.live 127 (firstRegion f127c2) = some ([0, 1, 5], [4]) := by kernel_rfl
theorem f127B2 {R : Type} (κ : Option Nat → St → Option R) (s : St) : f127P (firstRegion f127c2) s κ = (f127u2 s).bind fun t => iter (S_spec_l7Has_2 (fun t => κ (none) (f127x2_0 t)) (fun t => κ (some 0) (f127x2_1 t))) FUEL t := by kernel_rfl
theorem f127C2 {R : Type} (κ : Option Nat → St → Option R) (again : St → Option R) (t : T_spec_l7Has_2) : stepL C f127K f127P 127 f127c2 [0, 1, 5] [4] κ again (f127e2 t) = S_spec_l7Has_2 (fun t => κ (none) (f127x2_0 t)) (fun t => κ (some 0) (f127x2_1 t)) (fun t => again (f127e2 t)) t := by kernel_rfl
theorem f127ok2 : LoopOk C f127K f127P 127 f127c2 := loop_ok f127A2 f127e2 f127u2 f127un2 (fun {_R} κ => S_spec_l7Has_2 (fun t => κ (none) (f127x2_0 t)) (fun t => κ (some 0) (f127x2_1 t))) (fun {_R} κ s => f127B2 κ s) (fun {_R} κ again t => f127C2 κ again t)
theorem k127 : Contract C Try.prog f127K := contract_tab _ (fun p hp => by cases hp)
theorem ev127 (x : List E_i64 × Int) : evalB C f127K f127P 127 Try.f127 f127B ⟨[.v false [(.sl 3 ts_i64)] [false], .v false [(.int .i64)] [false]], [⟨false, [.bool], [false]⟩], false⟩ [(.sl 3 ts_i64), (.int .i64)] [.bool] x = F_spec_l7Has x := by kernel_rfl
theorem ok127 : ContractAt C Try.prog 127 F_spec_l7Has := fn_sound (lp := f127P) tok mixed k127 (by kernel_rfl) (fn := Try.f127) (c := f127B) (sg := ⟨[.v false [(.sl 3 ts_i64)] [false], .v false [(.int .i64)] [false]], [⟨false, [.bool], [false]⟩], false⟩) Try.func127 (by decide) (by kernel_rfl) (by kernel_rfl) (by kernel_rfl) (fun c' hc' => by
    rw [show loopsOf f127B = [f127c2] by kernel_rfl] at hc'
    simp only [List.mem_cons, List.mem_nil_iff, or_false] at hc'
    rcases hc' with rfl
    · exact f127ok2) (by decide) (by decide) (fun x y h => (ev127 x).trans h)

/-! ### 115: spec.l8Near -/
abbrev T_spec_l8Near_5 : Type := List E_i64 × Bool × Int × Int × Int × Int × Int × Int × Int × Int × Int × Int × Int × List E_Key
noncomputable def S_spec_l8Near_5 {R : Type} (k0 : (Bool × Int × Int × Int × Int × Int × Int × Int × Int × Int × Int) → Option R) (again : T_spec_l8Near_5 → Option R) (t5 : T_spec_l8Near_5) : Option R :=
  bif (decide (t5.2.2.1 < ((List.length t5.2.2.2.2.2.2.2.2.2.2.2.2.2 : Nat) : Int))) then if (0 : Int) ≤ t5.2.2.1 then if t5.2.2.1 < ((List.length t5.2.2.2.2.2.2.2.2.2.2.2.2.2 : Nat) : Int) then Option.bind (F_spec_l7Has (t5.1, (rd_Key t5.2.2.2.2.2.2.2.2.2.2.2.2.2 t5.2.2.1).2.1)) fun r2 => Option.bind (bif r2 then Option.bind (bif (!t5.2.1) then some true else if (0 : Int) ≤ t5.2.2.1 then if t5.2.2.1 < ((List.length t5.2.2.2.2.2.2.2.2.2.2.2.2.2 : Nat) : Int) then some (decide ((rd_Key t5.2.2.2.2.2.2.2.2.2.2.2.2.2 t5.2.2.1).2.1 > t5.2.2.2.2.2.2.2.2.2.1)) else none else none) fun u4 => some u4 else some false) fun u3 => bif u3 then if (0 : Int) ≤ t5.2.2.1 then if t5.2.2.1 < ((List.length t5.2.2.2.2.2.2.2.2.2.2.2.2.2 : Nat) : Int) then again (t5.1, true, (Go.IntKind.wrap .i64 (t5.2.2.1 + (1 : Int))), t5.2.2.2.1, t5.2.2.2.2.1, t5.2.2.2.2.2.1, t5.2.2.2.2.2.2.1, t5.2.2.2.2.2.2.2.1, (rd_Key t5.2.2.2.2.2.2.2.2.2.2.2.2.2 t5.2.2.1).1, (rd_Key t5.2.2.2.2.2.2.2.2.2.2.2.2.2 t5.2.2.1).2.1, (rd_Key t5.2.2.2.2.2.2.2.2.2.2.2.2.2 t5.2.2.1).2.2.1, (rd_Key t5.2.2.2.2.2.2.2.2.2.2.2.2.2 t5.2.2.1).2.2.2.1, (rd_Key t5.2.2.2.2.2.2.2.2.2.2.2.2.2 t5.2.2.1).2.2.2.2, t5.2.2.2.2.2.2.2.2.2.2.2.2.2) else none else none else again (t5.1, t5.2.1, (Go.IntKind.wrap .i64 (t5.2.2.1 + (1 : Int))), t5.2.2.2.1, t5.2.2.2.2.1, t5.2.2.2.2.2.1, t5.2.2.2.2.2.2.1, t5.2.2.2.2.2.2.2.1, t5.2.2.2.2.2.2.2.2.1, t5.2.2.2.2.2.2.2.2.2.1, t5.2.2.2.2.2.2.2.2.2.2.1, t5.2.2.2.2.2.2.2.2.2.2.2.1, t5.2.2.2.2.2.2.2.2.2.2.2.2.1, t5.2.2.2.2.2.2.2.2.2.2.2.2.2) else none else none else k0 (t5.2.1, t5.2.2.2.1, t5.2.2.2.2.1, t5.2.2.2.2.2.1, t5.2.2.2.2.2.2.1, t5.2.2.2.2.2.2.2.1, t5.2.2.2.2.2.2.2.2.1, t5.2.2.2.2.2.2.2.2.2.1, t5.2.2.2.2.2.2.2.2.2.2.1, t5.2.2.2.2.2.2.2.2.2.2.2.1, t5.2.2.2.2.2.2.2.2.2.2.2.2.1)
noncomputable def L_spec_l8Near_5 {R : Type} (k0 : (Bool × Int × Int × Int × Int × Int × Int × Int × Int × Int × Int) → Option R) (t : T_spec_l8Near_5) : Option R := iter (S_spec_l8Near_5 k0) FUEL t
noncomputable def F_spec_l8Near (x : List E_i64 × List E_Node × Int × List E_i64) : Option (Int × Int × Int × Int × Int × Bool) :=
  Option.bind (F_spec_KeysOf (x.1, x.2.1, x.2.2.1)) fun r1 => L_spec_l8Near_5 (fun x5 => some (x5.2.2.2.2.2.2.1, x5.2.2.2.2.2.2.2.1, x5.2.2.2.2.2.2.2.2.1, x5.2.2.2.2.2.2.2.2.2.1, x5.2.2.2.2.2.2.2.2.2.2, x5.1)) (x.2.2.2, false, (0 : Int), (0 : Int), (0 : Int), (0 : Int), (0 : Int), (0 : Int), (0 : Int), (0 : Int), (0 : Int), (0 : Int), (0 : Int), r1)
noncomputable def f115B : Code := match Try.f115.body with
  | some c => c
  | none => .skip
noncomputable def f115K : C.Sem := tab [⟨126, F_spec_KeysOf⟩, ⟨127, F_spec_l7Has⟩]
def f115h5_0 : List Sh := [.dead, .dead, .v (.sl 3 ts_i64), .dead, .dead, .dead, .box 6 0, .dead, .box 8 0, .v .bool, .own 10000000, .v (.int .i64), .dead, .dead, .dead, .dead, .dead, .dead, .dead, .dead, .dead, .dead, .dead, .dead, .dead, .dead, .dead, .dead, .dead, .dead, .dead, .dead, .dead, .dead, .dead, .dead, .dead, .dead, .dead, .dead, .dead, .dead, .dead, .dead, .dead, .dead, .dead, .dead, .dead]
def f115o5_0 : List (Nat × OSh) := [(6, .box [.v (.int .i64), .v (.int .i64), .v (.int .i64), .v (.int .i64), .v (.int .i64)]), (8, .box [.v (.int .i64), .v (.int .i64), .v (.int .i64), .v (.int .i64), .v (.int .i64)]), (10000000, .root true 86 ts_Key)]
def f115e5_0 (t : List E_i64 × Bool × Int × Int × Int × Int × Int × Int × Int × Int × Int × Int × Int × List E_Key) : St := ⟨[.dead, .dead, .val (.sl 3 ts_i64) t.1, .dead, .dead, .dead, .box 6 0, .dead, .box 8 0, .val .bool t.2.1, .own 10000000, .val (.int .i64) t.2.2.1, .dead, .dead, .dead, .dead, .dead, .dead, .dead, .dead, .dead, .dead, .dead, .dead, .dead, .dead, .dead, .dead, .dead, .dead, .dead, .dead, .dead, .dead, .dead, .dead, .dead, .dead, .dead, .dead, .dead, .dead, .dead, .dead, .dead, .dead, .dead, .dead, .dead], [(6, .box [.val (.int .i64) t.2.2.2.1, .val (.int .i64) t.2.2.2.2.1, .val (.int .i64) t.2.2.2.2.2.1, .val (.int .i64) t.2.2.2.2.2.2.1, .val (.int .i64) t.2.2.2.2.2.2.2.1]), (8, .box [.val (.int .i64) t.2.2.2.2.2.2.2.2.1, .val (.int .i64) t.2.2.2.2.2.2.2.2.2.1, .val (.int .i64) t.2.2.2.2.2.2.2.2.2.2.1, .val (.int .i64) t.2.2.2.2.2.2.2.2.2.2.2.1, .val (.int .i64) t.2.2.2.2.2.2.2.2.2.2.2.2.1]), (10000000, .root true 86 ts_Key t.2.2.2.2.2.2.2.2.2.2.2.2.2)]⟩
def f115x5_0 (t : Bool × Int × Int × Int × Int × Int × Int × Int × Int × Int × Int) : St := ⟨[.dead, .dead, .dead, .dead, .dead, .dead, .box 6 0, .dead, .box 8 0, .val .bool t.1, .dead, .dead, .dead, .dead, .dead, .dead, .dead, .dead, .dead, .dead, .dead, .dead, .dead, .dead, .dead, .dead, .dead, .dead, .dead, .dead, .dead, .dead, .dead, .dead, .dead, .dead, .dead, .dead, .dead, .dead, .dead, .dead, .dead, .dead, .dead, .dead, .dead, .dead, .dead], [(6, .box [.val (.int .i64) t.2.1, .val (.int .i64) t.2.2.1, .val (.int .i64) t.2.2.2.1, .val (.int .i64) t.2.2.2.2.1, .val (.int .i64) t.2.2.2.2.2.1]), (8, .box [.val (.int .i64) t.2.2.2.2.2.2.1, .val (.int .i64) t.2.2.2.2.2.2.2.1, .val (.int .i64) t.2.2.2.2.2.2.2.2.1, .val (.int .i64) t.2.2.2.2.2.2.2.2.2.1, .val (.int .i64) t.2.2.2.2.2.2.2.2.2.2])]⟩
def f115u5_0 (s : St) : Option (List E_i64 × Bool × Int × Int × Int × Int × Int × Int × Int × Int × Int × Int × Int × List E_Key) := (unS f115h5_0 f115o5_0 s).map fun v => (v.1.2.2.1, v.1.2.2.2.2.2.2.2.2.2.1, v.1.2.2.2.2.2.2.2.2.2.2.2.1, v.2.1.1, v.2.1.2.1, v.2.1.2.2.1, v.2.1.2.2.2.1, v.2.1.2.2.2.2.1, v.2.2.1.1, v.2.2.1.2.1, v.2.2.1.2.2.1, v.2.2.1.2.2.2.1, v.2.2.1.2.2.2.2.1, v.2.2.2.1)
theorem f115un5_0 : ∀ (s : St) (t : List E_i64 × Bool × Int × Int × Int × Int × Int × Int × Int × Int × Int × Int × Int × List E_Key), f115u5_0 s = some t → f115e5_0 t = s := fun s v h => by
  obtain ⟨u, hu, rfl⟩ := Option.map_eq_some_iff.1 h
  exact (show f115e5_0 (u.1.2.2.1, u.1.2.2.2.2.2.2.2.2.2.1, u.1.2.2.2.2.2.2.2.2.2.2.2.1, u.2.1.1, u.2.1.2.1, u.2.1.2.2.1, u.2.1.2.2.2.1, u.2.1.2.2.2.2.1, u.2.2.1.1, u.2.2.1.2.1, u.2.2.1.2.2.1, u.2.2.1.2.2.2.1, u.2.2.1.2.2.2.2.1, u.2.2.2.1) = mkS f115h5_0 f115o5_0 u by kernel_rfl).trans (mkS_un f115h5_0 f115o5_0 s u hu)
def f115u5 : St → Option (List E_i64 × Bool × Int × Int × Int × Int × Int × Int × Int × Int × Int × Int × Int × List E_Key) := f115u5_0
def f115e5 : (List E_i64 × Bool × Int × Int × Int × Int × Int × Int × Int × Int × Int × Int × Int × List E_Key) → St := f115e5_0
theorem f115un5 : ∀ (s : St) (t : List E_i64 × Bool × Int × Int × Int × Int × Int × Int × Int × Int × Int × Int × Int × List E_Key), f115u5 s = some t → f115e5 t = s := f115un5_0
noncomputable def f115P : Lp := fun i s {_R} κ => bif Nat.beq i 5 then (f115u5 s).bind fun t => L_spec_l8Near_5 (fun t => κ (some 0) (f115x5_0 t)) t else none
noncomputable def f115c5 : Code := (loopsOf f115B).getD 0 .skip
theorem f115A5 : C.live 115 (firstRegion f115c5) = some ([2, 6, 8, 9, 10, 11, 30, 31, 32, 33, 34, 35, 36, 37, 38, 39, 40, 41], [6, 8, 9]) := by kernel_rfl
theorem f115B5 {R : Type} (κ : Option Nat → St → Option R) (s : St) : f115P (firstRegion f115c5) s κ = (f115u5 s).bind fun t => iter (S_spec_l8Near_5 (fun t => κ (some 0) (f115x5_0 t))) FUEL t := by kernel_rfl
theorem f115C5 {R : Type} (κ : Option Nat → St → Option R) (again : St → Option R) (t : T_spec_l8Near_5) : stepL C f115K f115P 115 f115c5 [2, 6, 8, 9, 10, 11, 30, 31, 32, 33, 34, 35, 36, 37, 38, 39, 40, 41] [6, 8, 9] κ again (f115e5 t) = S_spec_l8Near_5 (fun t => κ (some 0) (f115x5_0 t)) (fun t => again (f115e5 t)) t := by kernel_rfl
theorem f115ok5 : LoopOk C f115K f115P 115 f115c5 := loop_ok f115A5 f115e5 f115u5 f115un5 (fun {_R} κ => S_spec_l8Near_5 (fun t => κ (some 0) (f115x5_0 t))) (fun {_R} κ s => f115B5 κ s) (fun {_R} κ again t => f115C5 κ again t)
theorem k115 : Contract C Try.prog f115K := contract_tab _ (fun p hp => by
    simp only [List.mem_cons, List.mem_nil_iff, or_false] at hp
    rcases hp with rfl | rfl
    · exact ok126
    · exact ok127)
theorem ev115 (x : List E_i64 × List E_Node × Int × List E_i64) : evalB C f115K f115P 115 Try.f115 f115B ⟨[.v true [(.sl 3 ts_i64), (.sl 128 ts_Node)] [false, false], .v false [(.int .i64)] [false], .v false [(.sl 3 ts_i64)] [false]], [⟨true, [(.int .i64), (.int .i64), (.int .i64), (.int .i64), (.int .i64)], [false, false, false, false, false]⟩, ⟨false, [.bool], [false]⟩], false⟩ [(.sl 3 ts_i64), (.sl 128 ts_Node), (.int .i64), (.sl 3 ts_i64)] [(.int .i64), (.int .i64), (.int .i64), (.int .i64), (.int .i64), .bool] x = F_spec_l8Near x := by kernel_rfl
theorem ok115 : ContractAt C Try.prog 115 F_spec_l8Near := fn_sound (lp := f115P) tok mixed k115 (by kernel_rfl) (fn := Try.f115) (c := f115B) (sg := ⟨[.v true [(.sl 3 ts_i64), (.sl 128 ts_Node)] [false, false], .v false [(.int .i64)] [false], .v false [(.sl 3 ts_i64)] [false]], [⟨true, [(.int .i64), (.int .i64), (.int .i64), (.int .i64), (.int .i64)], [false, false, false, false, false]⟩, ⟨false, [.bool], [false]⟩], false⟩) Try.func115 (by decide) (by kernel_rfl) (by kernel_rfl) (by kernel_rfl) (fun c' hc' => by
    rw [show loopsOf f115B = [f115c5] by kernel_rfl] at hc'
    simp only [List.mem_cons, List.mem_nil_iff, or_false] at hc'
    rcases hc' with rfl
    · exact f115ok5) (by decide) (by decide) (fun x y h => (ev115 x).trans h)

/-! ### 128: spec.AgeAt -/
abbrev T_spec_AgeAt_2 : Type := List E_Age × Int × Int
noncomputable def S_spec_AgeAt_2 {R : Type} (k0 : Int → Option R) (k1 : Unit → Option R) (again : T_spec_AgeAt_2 → Option R) (t2 : T_spec_AgeAt_2) : Option R :=
  bif (decide (t2.2.2 < ((List.length t2.1 : Nat) : Int))) then if (0 : Int) ≤ t2.2.2 then if t2.2.2 < ((List.length t2.1 : Nat) : Int) then bif ((rd_Age t2.1 t2.2.2).1 == t2.2.1) then k0 t2.2.2 else again (t2.1, t2.2.1, (Go.IntKind.wrap .i64 (t2.2.2 + (1 : Int)))) else none else none else k1 ()
noncomputable def L_spec_AgeAt_2 {R : Type} (k0 : Int → Option R) (k1 : Unit → Option R) (t : T_spec_AgeAt_2) : Option R := iter (S_spec_AgeAt_2 k0 k1) FUEL t
noncomputable def F_spec_AgeAt (x : List E_Age × Int) : Option (Int) :=
  L_spec_AgeAt_2 (fun x1 => some x1) (fun x2 => some (-1 : Int)) (x.1, x.2, (0 : Int))
noncomputable def f128B : Code := match Try.f128.body with
  | some c => c
  | none => .skip
noncomputable def f128K : C.Sem := tab []
def f128h2_0 : List Sh := [.v (.sl 134 ts_Age), .v (.int .i64), .dead, .dead, .dead, .v (.int .i64), .dead, .dead, .dead, .dead, .dead, .dead, .dead, .dead, .dead, .dead, .dead, .dead, .dead, .dead]
def f128o2_0 : List (Nat × OSh) := []
def f128e2_0 (t : List E_Age × Int × Int) : St := ⟨[.val (.sl 134 ts_Age) t.1, .val (.int .i64) t.2.1, .dead, .dead, .dead, .val (.int .i64) t.2.2, .dead, .dead, .dead, .dead, .dead, .dead, .dead, .dead, .dead, .dead, .dead, .dead, .dead, .dead], []⟩
def f128x2_0 (t : Int) : St := ⟨[.dead, .dead, .dead, .dead, .val (.int .i64) t, .dead, .dead, .dead, .dead, .dead, .dead, .dead, .dead, .dead, .dead, .dead, .dead, .dead, .dead, .dead], []⟩
def f128x2_1 (t : Unit) : St := ⟨[.dead, .dead, .dead, .dead, .dead, .dead, .dead, .dead, .dead, .dead, .dead, .dead, .dead, .dead, .dead, .dead, .dead, .dead, .dead, .dead], []⟩
def f128u2_0 (s : St) : Option (List E_Age × Int × Int) := (unS f128h2_0 f128o2_0 s).map fun v => (v.1.1, v.1.2.1, v.1.2.2.2.2.2.1)
theorem f128un2_0 : ∀ (s : St) (t : List E_Age × Int × Int), f128u2_0 s = some t → f128e2_0 t = s := fun s v h => by
  obtain ⟨u, hu, rfl⟩ := Option.map_eq_some_iff.1 h
  exact (show f128e2_0 (u.1.1, u.1.2.1, u.1.2.2.2.2.2.1) = mkS f128h2_0 f128o2_0 u by kernel_rfl).trans (mkS_un f128h2_0 f128o2_0 s u hu)
def f128u2 : St → Option (List E_Age × Int × Int) := f128u2_0
def f128e2 : (List E_Age × Int × Int) → St := f128e2_0
theorem f128un2 : ∀ (s : St) (t : List E_Age × Int × Int), f128u2 s = some t → f128e2 t = s := f128un2_0
noncomputable def f128P : Lp := fun i s {_R} κ => bif Nat.beq i 2 then (f128u2 s).bind fun t => L_spec_AgeAt_2 (fun t => κ (none) (f128x2_0 t)) (fun t => κ (some 0) (f128x2_1 t)) t else none
noncomputable def f128c2 : Code := (loopsOf f128B).getD 0 .skip
theorem f128A2 : C.live 128 (firstRegion f128c2) = some ([0, 1, 5], [4]) := by kernel_rfl
theorem f128B2 {R : Type} (κ : Option Nat → St → Option R) (s : St) : f128P (firstRegion f128c2) s κ = (f128u2 s).bind fun t => iter (S_spec_AgeAt_2 (fun t => κ (none) (f128x2_0 t)) (fun t => κ (some 0) (f128x2_1 t))) FUEL t := by kernel_rfl
theorem f128C2 {R : Type} (κ : Option Nat → St → Option R) (again : St → Option R) (t : T_spec_AgeAt_2) : stepL C f128K f128P 128 f128c2 [0, 1, 5] [4] κ again (f128e2 t) = S_spec_AgeAt_2 (fun t => κ (none) (f128x2_0 t)) (fun t => κ (some 0) (f128x2_1 t)) (fun t => again (f128e2 t)) t := by kernel_rfl
theorem f128ok2 : LoopOk C f128K f128P 128 f128c2 := loop_ok f128A2 f128e2 f128u2 f128un2 (fun {_R} κ => S_spec_AgeAt_2 (fun t => κ (none) (f128x2_0 t)) (fun t => κ (some 0) (f128x2_1 t))) (fun {_R} κ s => f128B2 κ s) (fun {_R} κ again t => f128C2 κ again t)
theorem k128 : Contract C Try.prog f128K := contract_tab _ (fun p hp => by cases hp)
theorem ev128 (x : List E_Age × Int) : evalB C f128K f128P 128 Try.f128 f128B ⟨[.v false [(.sl 134 ts_Age)] [false], .v false [(.int .i64)] [false]], [⟨false, [(.int .i64)], [false]⟩], false⟩ [(.sl 134 ts_Age), (.int .i64)] [(.int .i64)] x = F_spec_AgeAt x := by kernel_rfl
theorem ok128 : ContractAt C Try.prog 128 F_spec_AgeAt := fn_sound (lp := f128P) tok mixed k128 (by kernel_rfl) (fn := Try.f128) (c := f128B) (sg := ⟨[.v false [(.sl 134 ts_Age)] [false], .v false [(.int .i64)] [false]], [⟨false, [(.int .i64)], [false]⟩], false⟩) Try.func128 (by decide) (by kernel_rfl) (by kernel_rfl) (by kernel_rfl) (fun c' hc' => by
    rw [show loopsOf f128B = [f128c2] by kernel_rfl] at hc'
    simp only [List.mem_cons, List.mem_nil_iff, or_false] at hc'
    rcases hc' with rfl
    · exact f128ok2) (by decide) (by decide) (fun x y h => (ev128 x).trans h)

/-! ### 116: spec.PathOf -/
abbrev T_spec_PathOf_3 : Type := List E_Age × Int × List E_i64
noncomputable def S_spec_PathOf_3 {R : Type} (k0 : List E_i64 → Option R) (again : T_spec_PathOf_3 → Option R) (t3 : T_spec_PathOf_3) : Option R :=
  Option.bind (bif (decide (t3.2.1 ≥ (0 : Int))) then some (decide (((List.length t3.2.2 : Nat) : Int) ≤ ((List.length t3.1 : Nat) : Int))) else some false) fun u2 => bif u2 then if (0 : Int) ≤ t3.2.1 then if t3.2.1 < ((List.length t3.1 : Nat) : Int) then if (List.length t3.2.2 + List.length ([(rd_Age t3.1 t3.2.1).1] : List E_i64)) * 8 < 140737488355328 then if (0 : Int) ≤ t3.2.1 then if t3.2.1 < ((List.length t3.1 : Nat) : Int) then Option.bind (F_spec_AgeAt (t3.1, (rd_Age t3.1 t3.2.1).2)) fun r3 => again (t3.1, r3, (t3.2.2 ++ ([(rd_Age t3.1 t3.2.1).1] : List E_i64))) else none else none else none else none else none else k0 t3.2.2
noncomputable def L_spec_PathOf_3 {R : Type} (k0 : List E_i64 → Option R) (t : T_spec_PathOf_3) : Option R := iter (S_spec_PathOf_3 k0) FUEL t
noncomputable def F_spec_PathOf (x : List E_Age × Int) : Option (List E_i64) :=
  Option.bind (F_spec_AgeAt (x.1, x.2)) fun r1 => L_spec_PathOf_3 (fun x4 => some x4) (x.1, r1, ([] : List E_i64))
noncomputable def f116B : Code := match Try.f116.body with
  | some c => c
  | none => .skip
noncomputable def f116K : C.Sem := tab [⟨128, F_spec_AgeAt⟩]
def f116h3_0 : List Sh := [.v (.sl 134 ts_Age), .dead, .dead, .dead, .dead, .own 10000000, .v (.int .i64), .dead, .dead, .dead, .dead, .dead, .dead, .dead, .dead, .dead, .dead, .dead, .dead, .dead, .dead, .dead, .dead, .dead, .dead, .dead, .dead, .dead, .dead, .dead, .dead, .dead, .dead, .dead, .dead, .dead]
def f116o3_0 : List (Nat × OSh) := [(10000000, .root true 3 ts_i64)]
def f116e3_0 (t : List E_Age × Int × List E_i64) : St := ⟨[.val (.sl 134 ts_Age) t.1, .dead, .dead, .dead, .dead, .own 10000000, .val (.int .i64) t.2.1, .dead, .dead, .dead, .dead, .dead, .dead, .dead, .dead, .dead, .dead, .dead, .dead, .dead, .dead, .dead, .dead, .dead, .dead, .dead, .dead, .dead, .dead, .dead, .dead, .dead, .dead, .dead, .dead, .dead], [(10000000, .root true 3 ts_i64 t.2.2)]⟩
def f116x3_0 (t : List E_i64) : St := ⟨[.dead, .dead, .dead, .dead, .dead, .own 10000000, .dead, .dead, .dead, .dead, .dead, .dead, .dead, .dead, .dead, .dead, .dead, .dead, .dead, .dead, .dead, .dead, .dead, .dead, .dead, .dead, .dead, .dead, .dead, .dead, .dead, .dead, .dead, .dead, .dead, .dead], [(10000000, .root true 3 ts_i64 t)]⟩
def f116u3_0 (s : St) : Option (List E_Age × Int × List E_i64) := (unS f116h3_0 f116o3_0 s).map fun v => (v.1.1, v.1.2.2.2.2.2.2.1, v.2.1)
theorem f116un3_0 : ∀ (s : St) (t : List E_Age × Int × List E_i64), f116u3_0 s = some t → f116e3_0 t = s := fun s v h => by
  obtain ⟨u, hu, rfl⟩ := Option.map_eq_some_iff.1 h
  exact (show f116e3_0 (u.1.1, u.1.2.2.2.2.2.2.1, u.2.1) = mkS f116h3_0 f116o3_0 u by kernel_rfl).trans (mkS_un f116h3_0 f116o3_0 s u hu)
def f116u3 : St → Option (List E_Age × Int × List E_i64) := f116u3_0
def f116e3 : (List E_Age × Int × List E_i64) → St := f116e3_0
theorem f116un3 : ∀ (s : St) (t : List E_Age × Int × List E_i64), f116u3 s = some t → f116e3 t = s := f116un3_0
noncomputable def f116P : Lp := fun i s {_R} κ => bif Nat.beq i 3 then (f116u3 s).bind fun t => L_spec_PathOf_3 (fun t => κ (some 0) (f116x3_0 t)) t else none
noncomputable def f116c3 : Code := (loopsOf f116B).getD 0 .skip
theorem f116A3 : C.live 116 (firstRegion f116c3) = some ([0, 5, 6, 14, 15, 16, 17, 18], [5]) := by kernel_rfl
theorem f116B3 {R : Type} (κ : Option Nat → St → Option R) (s : St) : f116P (firstRegion f116c3) s κ = (f116u3 s).bind fun t => iter (S_spec_PathOf_3 (fun t => κ (some 0) (f116x3_0 t))) FUEL t := by kernel_rfl
theorem f116C3 {R : Type} (κ : Option Nat → St → Option R) (again : St → Option R) (t : T_spec_PathOf_3) : stepL C f116K f116P 116 f116c3 [0, 5, 6, 14, 15, 16, 17, 18] [5] κ again (f116e3 t) = S_spec_PathOf_3 (fun t => κ (some 0) (f116x3_0 t)) (fun t => again (f116e3 t)) t := by kernel_rfl
theorem f116ok3 : LoopOk C f116K f116P 116 f116c3 := loop_ok f116A3 f116e3 f116u3 f116un3 (fun {_R} κ => S_spec_PathOf_3 (fun t => κ (some 0) (f116x3_0 t))) (fun {_R} κ s => f116B3 κ s) (fun {_R} κ again t => f116C3 κ again t)
theorem k116 : Contract C Try.prog f116K := contract_tab _ (fun p hp => by
    simp only [List.mem_cons, List.mem_nil_iff, or_false] at hp
    rcases hp with rfl
    · exact ok128)
theorem ev116 (x : List E_Age × Int) : evalB C f116K f116P 116 Try.f116 f116B ⟨[.v false [(.sl 134 ts_Age)] [false], .v false [(.int .i64)] [false]], [⟨false, [(.sl 3 ts_i64)], [true]⟩], false⟩ [(.sl 134 ts_Age), (.int .i64)] [(.sl 3 ts_i64)] x = F_spec_PathOf x := by kernel_rfl
theorem ok116 : ContractAt C Try.prog 116 F_spec_PathOf := fn_sound (lp := f116P) tok mixed k116 (by kernel_rfl) (fn := Try.f116) (c := f116B) (sg := ⟨[.v false [(.sl 134 ts_Age)] [false], .v false [(.int .i64)] [false]], [⟨false, [(.sl 3 ts_i64)], [true]⟩], false⟩) Try.func116 (by decide) (by kernel_rfl) (by kernel_rfl) (by kernel_rfl) (fun c' hc' => by
    rw [show loopsOf f116B = [f116c3] by kernel_rfl] at hc'
    simp only [List.mem_cons, List.mem_nil_iff, or_false] at hc'
    rcases hc' with rfl
    · exact f116ok3) (by decide) (by decide) (fun x y h => (ev116 x).trans h)

/-! ### 101: spec.Seen -/
noncomputable def F_spec_Seen (x : List E_i64 × List E_Node × List E_Age × Int × Int) : Option (Int × Int × Int × Int × Int × Bool) :=
  Option.bind (F_spec_PathOf (x.2.2.1, x.2.2.2.2)) fun r1 => Option.bind (F_spec_l8Near (x.1, x.2.1, x.2.2.2.1, r1)) fun r2 => some (r2.1, r2.2.1, r2.2.2.1, r2.2.2.2.1, r2.2.2.2.2.1, r2.2.2.2.2.2)
noncomputable def f101B : Code := match Try.f101.body with
  | some c => c
  | none => .skip
noncomputable def f101K : C.Sem := tab [⟨115, F_spec_l8Near⟩, ⟨116, F_spec_PathOf⟩]
noncomputable def f101P : Lp := fun i s {_R} κ => none
theorem k101 : Contract C Try.prog f101K := contract_tab _ (fun p hp => by
    simp only [List.mem_cons, List.mem_nil_iff, or_false] at hp
    rcases hp with rfl | rfl
    · exact ok115
    · exact ok116)
theorem ev101 (x : List E_i64 × List E_Node × List E_Age × Int × Int) : evalB C f101K f101P 101 Try.f101 f101B ⟨[.v true [(.sl 3 ts_i64), (.sl 128 ts_Node)] [false, false], .v false [(.sl 134 ts_Age)] [false], .v false [(.int .i64)] [false], .v false [(.int .i64)] [false]], [⟨true, [(.int .i64), (.int .i64), (.int .i64), (.int .i64), (.int .i64)], [false, false, false, false, false]⟩, ⟨false, [.bool], [false]⟩], false⟩ [(.sl 3 ts_i64), (.sl 128 ts_Node), (.sl 134 ts_Age), (.int .i64), (.int .i64)] [(.int .i64), (.int .i64), (.int .i64), (.int .i64), (.int .i64), .bool] x = F_spec_Seen x := by kernel_rfl
theorem ok101 : ContractAt C Try.prog 101 F_spec_Seen := fn_sound (lp := f101P) tok mixed k101 (by kernel_rfl) (fn := Try.f101) (c := f101B) (sg := ⟨[.v true [(.sl 3 ts_i64), (.sl 128 ts_Node)] [false, false], .v false [(.sl 134 ts_Age)] [false], .v false [(.int .i64)] [false], .v false [(.int .i64)] [false]], [⟨true, [(.int .i64), (.int .i64), (.int .i64), (.int .i64), (.int .i64)], [false, false, false, false, false]⟩, ⟨false, [.bool], [false]⟩], false⟩) Try.func101 (by decide) (by kernel_rfl) (by kernel_rfl) (by kernel_rfl) (fun c' hc' => by
    rw [show loopsOf f101B = [] by kernel_rfl] at hc'
    cases hc') (by decide) (by decide) (fun x y h => (ev101 x).trans h)

/-! ### 79: spec.Sees -/
noncomputable def F_spec_Sees (x : List E_i64 × List E_Node × List E_Age × Int × Int × Int × Int × Int × Int) : Option (Bool) :=
  Option.bind (F_spec_Seen (x.1, x.2.1, x.2.2.1, x.2.2.2.1, x.2.2.2.2.2.2.2.2)) fun r1 => Option.bind (bif r1.2.2.2.2.2 then some (r1.2.1 == x.2.2.2.2.1) else some false) fun u2 => some u2
noncomputable def f79B : Code := match Try.f79.body with
  | some c => c
  | none => .skip
noncomputable def f79K : C.Sem := tab [⟨101, F_spec_Seen⟩]
noncomputable def f79P : Lp := fun i s {_R} κ => none
theorem k79 : Contract C Try.prog f79K := contract_tab _ (fun p hp => by
    simp only [List.mem_cons, List.mem_nil_iff, or_false] at hp
    rcases hp with rfl
    · exact ok101)
theorem ev79 (x : List E_i64 × List E_Node × List E_Age × Int × Int × Int × Int × Int × Int) : evalB C f79K f79P 79 Try.f79 f79B ⟨[.v true [(.sl 3 ts_i64), (.sl 128 ts_Node)] [false, false], .v false [(.sl 134 ts_Age)] [false], .v true [(.int .i64), (.int .i64), (.int .i64), (.int .i64), (.int .i64)] [false, false, false, false, false], .v false [(.int .i64)] [false]], [⟨false, [.bool], [false]⟩], false⟩ [(.sl 3 ts_i64), (.sl 128 ts_Node), (.sl 134 ts_Age), (.int .i64), (.int .i64), (.int .i64), (.int .i64), (.int .i64), (.int .i64)] [.bool] x = F_spec_Sees x := by kernel_rfl
theorem ok79 : ContractAt C Try.prog 79 F_spec_Sees := fn_sound (lp := f79P) tok mixed k79 (by kernel_rfl) (fn := Try.f79) (c := f79B) (sg := ⟨[.v true [(.sl 3 ts_i64), (.sl 128 ts_Node)] [false, false], .v false [(.sl 134 ts_Age)] [false], .v true [(.int .i64), (.int .i64), (.int .i64), (.int .i64), (.int .i64)] [false, false, false, false, false], .v false [(.int .i64)] [false]], [⟨false, [.bool], [false]⟩], false⟩) Try.func79 (by decide) (by kernel_rfl) (by kernel_rfl) (by kernel_rfl) (fun c' hc' => by
    rw [show loopsOf f79B = [] by kernel_rfl] at hc'
    cases hc') (by decide) (by decide) (fun x y h => (ev79 x).trans h)

/-! ### 42: spec.SeenByAny -/
abbrev T_spec_SeenByAny_2 : Type := Int × List E_i64 × List E_Node × List E_Age × List E_Cell × List E_Vol × Int × Int × Int × Int × Int × Int
noncomputable def S_spec_SeenByAny_2 {R : Type} (k0 : Bool → Option R) (k1 : Unit → Option R) (again : T_spec_SeenByAny_2 → Option R) (t2 : T_spec_SeenByAny_2) : Option R :=
  bif (decide (t2.1 < ((List.length t2.2.2.2.2.2.1 : Nat) : Int))) then if (0 : Int) ≤ t2.1 then if t2.1 < ((List.length t2.2.2.2.2.2.1 : Nat) : Int) then Option.bind (bif (decide ((rd_Vol t2.2.2.2.2.2.1 t2.1).2.2.1 > t2.2.2.2.2.2.2.2.1)) then if (0 : Int) ≤ t2.1 then if t2.1 < ((List.length t2.2.2.2.2.2.1 : Nat) : Int) then Option.bind (F_spec_Sees (t2.2.1, t2.2.2.1, t2.2.2.2.1, t2.2.2.2.2.2.2.2.1, t2.2.2.2.2.2.2.2.2.1, t2.2.2.2.2.2.2.2.2.2.1, t2.2.2.2.2.2.2.2.2.2.2.1, t2.2.2.2.2.2.2.2.2.2.2.2, (rd_Vol t2.2.2.2.2.2.1 t2.1).2.1)) fun r2 => some r2 else none else none else some false) fun u1 => bif u1 then k0 true else again ((Go.IntKind.wrap .i64 (t2.1 + (1 : Int))), t2.2.1, t2.2.2.1, t2.2.2.2.1, t2.2.2.2.2.1, t2.2.2.2.2.2.1, t2.2.2.2.2.2.2.1, t2.2.2.2.2.2.2.2.1, t2.2.2.2.2.2.2.2.2.1, t2.2.2.2.2.2.2.2.2.2.1, t2.2.2.2.2.2.2.2.2.2.2.1, t2.2.2.2.2.2.2.2.2.2.2.2) else none else none else k1 ()
noncomputable def L_spec_SeenByAny_2 {R : Type} (k0 : Bool → Option R) (k1 : Unit → Option R) (t : T_spec_SeenByAny_2) : Option R := iter (S_spec_SeenByAny_2 k0 k1) FUEL t
noncomputable def F_spec_SeenByAny (x : List E_i64 × List E_Node × List E_Age × List E_Cell × List E_Vol × Int × Int × Int × Int × Int × Int) : Option (Bool) :=
  L_spec_SeenByAny_2 (fun x3 => some x3) (fun x4 => some false) ((0 : Int), x.1, x.2.1, x.2.2.1, x.2.2.2.1, x.2.2.2.2.1, x.2.2.2.2.2.1, x.2.2.2.2.2.2.1, x.2.2.2.2.2.2.2.1, x.2.2.2.2.2.2.2.2.1, x.2.2.2.2.2.2.2.2.2.1, x.2.2.2.2.2.2.2.2.2.2)
noncomputable def f42B : Code := match Try.f42.body with
  | some c => c
  | none => .skip
noncomputable def f42K : C.Sem := tab [⟨79, F_spec_Sees⟩]
def f42h2_0 : List Sh := [.dead, .dead, .box 2 0, .box 3 0, .dead, .v (.int .i64), .dead, .dead, .dead, .dead, .dead, .dead, .dead, .dead, .dead, .dead, .dead, .dead, .dead, .dead, .dead, .dead, .dead, .dead, .dead, .dead, .dead, .dead, .dead, .dead, .dead, .dead, .dead, .dead, .dead, .dead]
def f42o2_0 : List (Nat × OSh) := [(2, .box [.v (.sl 3 ts_i64), .v (.sl 128 ts_Node), .v (.sl 134 ts_Age), .v (.sl 138 ts_Cell), .v (.sl 129 ts_Vol), .v (.int .i64)]), (3, .box [.v (.int .i64), .v (.int .i64), .v (.int .i64), .v (.int .i64), .v (.int .i64)])]
def f42e2_0 (t : Int × List E_i64 × List E_Node × List E_Age × List E_Cell × List E_Vol × Int × Int × Int × Int × Int × Int) : St := ⟨[.dead, .dead, .box 2 0, .box 3 0, .dead, .val (.int .i64) t.1, .dead, .dead, .dead, .dead, .dead, .dead, .dead, .dead, .dead, .dead, .dead, .dead, .dead, .dead, .dead, .dead, .dead, .dead, .dead, .dead, .dead, .dead, .dead, .dead, .dead, .dead, .dead, .dead, .dead, .dead], [(2, .box [.val (.sl 3 ts_i64) t.2.1, .val (.sl 128 ts_Node) t.2.2.1, .val (.sl 134 ts_Age) t.2.2.2.1, .val (.sl 138 ts_Cell) t.2.2.2.2.1, .val (.sl 129 ts_Vol) t.2.2.2.2.2.1, .val (.int .i64) t.2.2.2.2.2.2.1]), (3, .box [.val (.int .i64) t.2.2.2.2.2.2.2.1, .val (.int .i64) t.2.2.2.2.2.2.2.2.1, .val (.int .i64) t.2.2.2.2.2.2.2.2.2.1, .val (.int .i64) t.2.2.2.2.2.2.2.2.2.2.1, .val (.int .i64) t.2.2.2.2.2.2.2.2.2.2.2])]⟩
def f42x2_0 (t : Bool) : St := ⟨[.dead, .dead, .dead, .dead, .val .bool t, .dead, .dead, .dead, .dead, .dead, .dead, .dead, .dead, .dead, .dead, .dead, .dead, .dead, .dead, .dead, .dead, .dead, .dead, .dead, .dead, .dead, .dead, .dead, .dead, .dead, .dead, .dead, .dead, .dead, .dead, .dead], []⟩
def f42x2_1 (t : Unit) : St := ⟨[.dead, .dead, .dead, .dead, .dead, .dead, .dead, .dead, .dead, .dead, .dead, .dead, .dead, .dead, .dead, .dead, .dead, .dead, .dead, .dead, .dead, .dead, .dead, .dead, .dead, .dead, .dead, .dead, .dead, .dead, .dead, .dead, .dead, .dead, .dead, .dead], []⟩
def f42u2_0 (s : St) : Option (Int × List E_i64 × List E_Node × List E_Age × List E_Cell × List E_Vol × Int × Int × Int × Int × Int × Int) := (unS f42h2_0 f42o2_0 s).map fun v => (v.1.2.2.2.2.2.1, v.2.1.1, v.2.1.2.1, v.2.1.2.2.1, v.2.1.2.2.2.1, v.2.1.2.2.2.2.1, v.2.1.2.2.2.2.2.1, v.2.2.1.1, v.2.2.1.2.1, v.2.2.1.2.2.1, v.2.2.1.2.2.2.1, v.2.2.1.2.2.2.2.1)
theorem f42un2_0 : ∀ (s : St) (t : Int × List E_i64 × List E_Node × List E_Age × List E_Cell × List E_Vol × Int × Int × Int × Int × Int × Int), f42u2_0 s = some t → f42e2_0 t = s := fun s v h => by
  obtain ⟨u, hu, rfl⟩ := Option.map_eq_some_iff.1 h
  exact (show f42e2_0 (u.1.2.2.2.2.2.1, u.2.1.1, u.2.1.2.1, u.2.1.2.2.1, u.2.1.2.2.2.1, u.2.1.2.2.2.2.1, u.2.1.2.2.2.2.2.1, u.2.2.1.1, u.2.2.1.2.1, u.2.2.1.2.2.1, u.2.2.1.2.2.2.1, u.2.2.1.2.2.2.2.1) = mkS f42h2_0 f42o2_0 u by kernel_rfl).trans (mkS_un f42h2_0 f42o2_0 s u hu)
def f42u2 : St → Option (Int × List E_i64 × List E_Node × List E_Age × List E_Cell × List E_Vol × Int × Int × Int × Int × Int × Int) := f42u2_0
def f42e2 : (Int × List E_i64 × List E_Node × List E_Age × List E_Cell × List E_Vol × Int × Int × Int × Int × Int × Int) → St := f42e2_0
theorem f42un2 : ∀ (s : St) (t : Int × List E_i64 × List E_Node × List E_Age × List E_Cell × List E_Vol × Int × Int × Int × Int × Int × Int), f42u2 s = some t → f42e2 t = s := f42un2_0
noncomputable def f42P : Lp := fun i s {_R} κ => bif Nat.beq i 2 then (f42u2 s).bind fun t => L_spec_SeenByAny_2 (fun t => κ (none) (f42x2_0 t)) (fun t => κ (some 0) (f42x2_1 t)) t else none
noncomputable def f42c2 : Code := (loopsOf f42B).getD 0 .skip
theorem f42A2 : C.live 42 (firstRegion f42c2) = some ([2, 3, 5, 23, 24, 25, 26, 27, 28, 29, 30, 31, 32, 33, 34], [4]) := by kernel_rfl
theorem f42B2 {R : Type} (κ : Option Nat → St → Option R) (s : St) : f42P (firstRegion f42c2) s κ = (f42u2 s).bind fun t => iter (S_spec_SeenByAny_2 (fun t => κ (none) (f42x2_0 t)) (fun t => κ (some 0) (f42x2_1 t))) FUEL t := by kernel_rfl
theorem f42C2 {R : Type} (κ : Option Nat → St → Option R) (again : St → Option R) (t : T_spec_SeenByAny_2) : stepL C f42K f42P 42 f42c2 [2, 3, 5, 23, 24, 25, 26, 27, 28, 29, 30, 31, 32, 33, 34] [4] κ again (f42e2 t) = S_spec_SeenByAny_2 (fun t => κ (none) (f42x2_0 t)) (fun t => κ (some 0) (f42x2_1 t)) (fun t => again (f42e2 t)) t := by kernel_rfl
theorem f42ok2 : LoopOk C f42K f42P 42 f42c2 := loop_ok f42A2 f42e2 f42u2 f42un2 (fun {_R} κ => S_spec_SeenByAny_2 (fun t => κ (none) (f42x2_0 t)) (fun t => κ (some 0) (f42x2_1 t))) (fun {_R} κ s => f42B2 κ s) (fun {_R} κ again t => f42C2 κ again t)
theorem k42 : Contract C Try.prog f42K := contract_tab _ (fun p hp => by
    simp only [List.mem_cons, List.mem_nil_iff, or_false] at hp
    rcases hp with rfl
    · exact ok79)
theorem ev42 (x : List E_i64 × List E_Node × List E_Age × List E_Cell × List E_Vol × Int × Int × Int × Int × Int × Int) : evalB C f42K f42P 42 Try.f42 f42B ⟨[.v true [(.sl 3 ts_i64), (.sl 128 ts_Node), (.sl 134 ts_Age), (.sl 138 ts_Cell), (.sl 129 ts_Vol), (.int .i64)] [false, false, false, false, false, false], .v true [(.int .i64), (.int .i64), (.int .i64), (.int .i64), (.int .i64)] [false, false, false, false, false]], [⟨false, [.bool], [false]⟩], false⟩ [(.sl 3 ts_i64), (.sl 128 ts_Node), (.sl 134 ts_Age), (.sl 138 ts_Cell), (.sl 129 ts_Vol), (.int .i64), (.int .i64), (.int .i64), (.int .i64), (.int .i64), (.int .i64)] [.bool] x = F_spec_SeenByAny x := by kernel_rfl
theorem ok42 : ContractAt C Try.prog 42 F_spec_SeenByAny := fn_sound (lp := f42P) tok mixed k42 (by kernel_rfl) (fn := Try.f42) (c := f42B) (sg := ⟨[.v true [(.sl 3 ts_i64), (.sl 128 ts_Node), (.sl 134 ts_Age), (.sl 138 ts_Cell), (.sl 129 ts_Vol), (.int .i64)] [false, false, false, false, false, false], .v true [(.int .i64), (.int .i64), (.int .i64), (.int .i64), (.int .i64)] [false, false, false, false, false]], [⟨false, [.bool], [false]⟩], false⟩) Try.func42 (by decide) (by kernel_rfl) (by kernel_rfl) (by kernel_rfl) (fun c' hc' => by
    rw [show loopsOf f42B = [f42c2] by kernel_rfl] at hc'
    simp only [List.mem_cons, List.mem_nil_iff, or_false] at hc'
    rcases hc' with rfl
    · exact f42ok2) (by decide) (by decide) (fun x y h => (ev42 x).trans h)

/-! ### 15: spec.Distinct -/
abbrev T_spec_Distinct_4 : Type := Int × Int × List E_i64 × List E_Node × List E_Age × List E_Cell × List E_Vol × Int × List E_Key
noncomputable def S_spec_Distinct_4 {R : Type} (k0 : Int → Option R) (again : T_spec_Distinct_4 → Option R) (t4 : T_spec_Distinct_4) : Option R :=
  bif (decide (t4.2.1 < ((List.length t4.2.2.2.2.2.2.2.2 : Nat) : Int))) then if (0 : Int) ≤ t4.2.1 then if t4.2.1 < ((List.length t4.2.2.2.2.2.2.2.2 : Nat) : Int) then Option.bind (bif ((rd_Key t4.2.2.2.2.2.2.2.2 t4.2.1).2.2.1 == (1 : Int)) then if (0 : Int) ≤ t4.2.1 then if t4.2.1 < ((List.length t4.2.2.2.2.2.2.2.2 : Nat) : Int) then Option.bind (F_spec_SeenByAny (t4.2.2.1, t4.2.2.2.1, t4.2.2.2.2.1, t4.2.2.2.2.2.1, t4.2.2.2.2.2.2.1, t4.2.2.2.2.2.2.2.1, (rd_Key t4.2.2.2.2.2.2.2.2 t4.2.1).1, (rd_Key t4.2.2.2.2.2.2.2.2 t4.2.1).2.1, (rd_Key t4.2.2.2.2.2.2.2.2 t4.2.1).2.2.1, (rd_Key t4.2.2.2.2.2.2.2.2 t4.2.1).2.2.2.1, (rd_Key t4.2.2.2.2.2.2.2.2 t4.2.1).2.2.2.2)) fun r3 => some r3 else none else none else some false) fun u2 => bif u2 then again ((Go.IntKind.wrap .i64 (t4.1 + (1 : Int))), (Go.IntKind.wrap .i64 (t4.2.1 + (1 : Int))), t4.2.2.1, t4.2.2.2.1, t4.2.2.2.2.1, t4.2.2.2.2.2.1, t4.2.2.2.2.2.2.1, t4.2.2.2.2.2.2.2.1, t4.2.2.2.2.2.2.2.2) else again (t4.1, (Go.IntKind.wrap .i64 (t4.2.1 + (1 : Int))), t4.2.2.1, t4.2.2.2.1, t4.2.2.2.2.1, t4.2.2.2.2.2.1, t4.2.2.2.2.2.2.1, t4.2.2.2.2.2.2.2.1, t4.2.2.2.2.2.2.2.2) else none else none else k0 t4.1
noncomputable def L_spec_Distinct_4 {R : Type} (k0 : Int → Option R) (t : T_spec_Distinct_4) : Option R := iter (S_spec_Distinct_4 k0) FUEL t
noncomputable def F_spec_Distinct (x : List E_i64 × List E_Node × List E_Age × List E_Cell × List E_Vol × Int) : Option (Int) :=
  Option.bind (F_spec_TreeKeys (x.1, x.2.1)) fun r1 => L_spec_Distinct_4 (fun x4 => some x4) ((0 : Int), (0 : Int), x.1, x.2.1, x.2.2.1, x.2.2.2.1, x.2.2.2.2.1, x.2.2.2.2.2, r1)
noncomputable def f15B : Code := match Try.f15.body with
  | some c => c
  | none => .skip
noncomputable def f15K : C.Sem := tab [⟨41, F_spec_TreeKeys⟩, ⟨42, F_spec_SeenByAny⟩]
def f15h4_0 : List Sh := [.dead, .box 1 0, .dead, .v (.int .i64), .own 10000000, .v (.int .i64), .dead, .dead, .dead, .dead, .dead, .dead, .dead, .dead, .dead, .dead, .dead, .dead, .dead, .dead, .dead, .dead, .dead, .dead, .dead, .dead, .dead, .dead, .dead, .dead, .dead, .dead]
def f15o4_0 : List (Nat × OSh) := [(1, .box [.v (.sl 3 ts_i64), .v (.sl 128 ts_Node), .v (.sl 134 ts_Age), .v (.sl 138 ts_Cell), .v (.sl 129 ts_Vol), .v (.int .i64)]), (10000000, .root true 86 ts_Key)]
def f15e4_0 (t : Int × Int × List E_i64 × List E_Node × List E_Age × List E_Cell × List E_Vol × Int × List E_Key) : St := ⟨[.dead, .box 1 0, .dead, .val (.int .i64) t.1, .own 10000000, .val (.int .i64) t.2.1, .dead, .dead, .dead, .dead, .dead, .dead, .dead, .dead, .dead, .dead, .dead, .dead, .dead, .dead, .dead, .dead, .dead, .dead, .dead, .dead, .dead, .dead, .dead, .dead, .dead, .dead], [(1, .box [.val (.sl 3 ts_i64) t.2.2.1, .val (.sl 128 ts_Node) t.2.2.2.1, .val (.sl 134 ts_Age) t.2.2.2.2.1, .val (.sl 138 ts_Cell) t.2.2.2.2.2.1, .val (.sl 129 ts_Vol) t.2.2.2.2.2.2.1, .val (.int .i64) t.2.2.2.2.2.2.2.1]), (10000000, .root true 86 ts_Key t.2.2.2.2.2.2.2.2)]⟩
def f15x4_0 (t : Int) : St := ⟨[.dead, .dead, .dead, .val (.int .i64) t, .dead, .dead, .dead, .dead, .dead, .dead, .dead, .dead, .dead, .dead, .dead, .dead, .dead, .dead, .dead, .dead, .dead, .dead, .dead, .dead, .dead, .dead, .dead, .dead, .dead, .dead, .dead, .dead], []⟩
def f15u4_0 (s : St) : Option (Int × Int × List E_i64 × List E_Node × List E_Age × List E_Cell × List E_Vol × Int × List E_Key) := (unS f15h4_0 f15o4_0 s).map fun v => (v.1.2.2.2.1, v.1.2.2.2.2.2.1, v.2.1.1, v.2.1.2.1, v.2.1.2.2.1, v.2.1.2.2.2.1, v.2.1.2.2.2.2.1, v.2.1.2.2.2.2.2.1, v.2.2.1)
theorem f15un4_0 : ∀ (s : St) (t : Int × Int × List E_i64 × List E_Node × List E_Age × List E_Cell × List E_Vol × Int × List E_Key), f15u4_0 s = some t → f15e4_0 t = s := fun s v h => by
  obtain ⟨u, hu, rfl⟩ := Option.map_eq_some_iff.1 h
  exact (show f15e4_0 (u.1.2.2.2.1, u.1.2.2.2.2.2.1, u.2.1.1, u.2.1.2.1, u.2.1.2.2.1, u.2.1.2.2.2.1, u.2.1.2.2.2.2.1, u.2.1.2.2.2.2.2.1, u.2.2.1) = mkS f15h4_0 f15o4_0 u by kernel_rfl).trans (mkS_un f15h4_0 f15o4_0 s u hu)
def f15u4 : St → Option (Int × Int × List E_i64 × List E_Node × List E_Age × List E_Cell × List E_Vol × Int × List E_Key) := f15u4_0
def f15e4 : (Int × Int × List E_i64 × List E_Node × List E_Age × List E_Cell × List E_Vol × Int × List E_Key) → St := f15e4_0
theorem f15un4 : ∀ (s : St) (t : Int × Int × List E_i64 × List E_Node × List E_Age × List E_Cell × List E_Vol × Int × List E_Key), f15u4 s = some t → f15e4 t = s := f15un4_0
noncomputable def f15P : Lp := fun i s {_R} κ => bif Nat.beq i 4 then (f15u4 s).bind fun t => L_spec_Distinct_4 (fun t => κ (some 0) (f15x4_0 t)) t else none
noncomputable def f15c4 : Code := (loopsOf f15B).getD 0 .skip
theorem f15A4 : C.live 15 (firstRegion f15c4) = some ([1, 3, 4, 5, 22, 23, 24, 25, 26, 27], [3]) := by kernel_rfl
theorem f15B4 {R : Type} (κ : Option Nat → St → Option R) (s : St) : f15P (firstRegion f15c4) s κ = (f15u4 s).bind fun t => iter (S_spec_Distinct_4 (fun t => κ (some 0) (f15x4_0 t))) FUEL t := by kernel_rfl
theorem f15C4 {R : Type} (κ : Option Nat → St → Option R) (again : St → Option R) (t : T_spec_Distinct_4) : stepL C f15K f15P 15 f15c4 [1, 3, 4, 5, 22, 23, 24, 25, 26, 27] [3] κ again (f15e4 t) = S_spec_Distinct_4 (fun t => κ (some 0) (f15x4_0 t)) (fun t => again (f15e4 t)) t := by kernel_rfl
theorem f15ok4 : LoopOk C f15K f15P 15 f15c4 := loop_ok f15A4 f15e4 f15u4 f15un4 (fun {_R} κ => S_spec_Distinct_4 (fun t => κ (some 0) (f15x4_0 t))) (fun {_R} κ s => f15B4 κ s) (fun {_R} κ again t => f15C4 κ again t)
theorem k15 : Contract C Try.prog f15K := contract_tab _ (fun p hp => by
    simp only [List.mem_cons, List.mem_nil_iff, or_false] at hp
    rcases hp with rfl | rfl
    · exact ok41
    · exact ok42)
theorem ev15 (x : List E_i64 × List E_Node × List E_Age × List E_Cell × List E_Vol × Int) : evalB C f15K f15P 15 Try.f15 f15B ⟨[.v true [(.sl 3 ts_i64), (.sl 128 ts_Node), (.sl 134 ts_Age), (.sl 138 ts_Cell), (.sl 129 ts_Vol), (.int .i64)] [false, false, false, false, false, false]], [⟨false, [(.int .i64)], [false]⟩], false⟩ [(.sl 3 ts_i64), (.sl 128 ts_Node), (.sl 134 ts_Age), (.sl 138 ts_Cell), (.sl 129 ts_Vol), (.int .i64)] [(.int .i64)] x = F_spec_Distinct x := by kernel_rfl
theorem ok15 : ContractAt C Try.prog 15 F_spec_Distinct := fn_sound (lp := f15P) tok mixed k15 (by kernel_rfl) (fn := Try.f15) (c := f15B) (sg := ⟨[.v true [(.sl 3 ts_i64), (.sl 128 ts_Node), (.sl 134 ts_Age), (.sl 138 ts_Cell), (.sl 129 ts_Vol), (.int .i64)] [false, false, false, false, false, false]], [⟨false, [(.int .i64)], [false]⟩], false⟩) Try.func15 (by decide) (by kernel_rfl) (by kernel_rfl) (by kernel_rfl) (fun c' hc' => by
    rw [show loopsOf f15B = [f15c4] by kernel_rfl] at hc'
    simp only [List.mem_cons, List.mem_nil_iff, or_false] at hc'
    rcases hc' with rfl
    · exact f15ok4) (by decide) (by decide) (fun x y h => (ev15 x).trans h)

/-! ### 80: laws.toIntS -/
abbrev T_laws_toIntS_3 : Type := List E_i64 × Int × List E_i64
noncomputable def S_laws_toIntS_3 {R : Type} (k0 : List E_i64 → Option R) (again : T_laws_toIntS_3 → Option R) (t3 : T_laws_toIntS_3) : Option R :=
  bif (decide (t3.2.1 < ((List.length t3.1 : Nat) : Int))) then if (0 : Int) ≤ t3.2.1 then if t3.2.1 < ((List.length t3.1 : Nat) : Int) then if (0 : Int) ≤ t3.2.1 then if t3.2.1 < ((List.length t3.2.2 : Nat) : Int) then again (t3.1, (Go.IntKind.wrap .i64 (t3.2.1 + (1 : Int))), (List.set t3.2.2 (Int.toNat t3.2.1) (rd_i64 t3.1 t3.2.1))) else none else none else none else none else k0 t3.2.2
noncomputable def L_laws_toIntS_3 {R : Type} (k0 : List E_i64 → Option R) (t : T_laws_toIntS_3) : Option R := iter (S_laws_toIntS_3 k0) FUEL t
noncomputable def F_laws_toIntS (x : List E_i64) : Option (List E_i64) :=
  if (0 : Int) ≤ ((List.length x : Nat) : Int) then if ((List.length x : Nat) : Int) ≤ ((List.length x : Nat) : Int) then if ((List.length x : Nat) : Int) * ((8 : Nat) : Int) ≤ 140737488351232 then L_laws_toIntS_3 (fun x1 => some x1) (x, (0 : Int), (List.replicate (Int.toNat ((List.length x : Nat) : Int)) z_i64)) else none else none else none
noncomputable def f80B : Code := match Try.f80.body with
  | some c => c
  | none => .skip
noncomputable def f80K : C.Sem := tab []
def f80h3_0 : List Sh := [.v (.sl 3 ts_i64), .dead, .dead, .own 10000000, .v (.int .i64), .dead, .dead, .dead, .dead, .dead, .dead, .dead, .dead, .dead, .dead, .dead, .dead, .dead, .dead, .dead, .dead, .dead]
def f80o3_0 : List (Nat × OSh) := [(10000000, .root true 3 ts_i64)]
def f80e3_0 (t : List E_i64 × Int × List E_i64) : St := ⟨[.val (.sl 3 ts_i64) t.1, .dead, .dead, .own 10000000, .val (.int .i64) t.2.1, .dead, .dead, .dead, .dead, .dead, .dead, .dead, .dead, .dead, .dead, .dead, .dead, .dead, .dead, .dead, .dead, .dead], [(10000000, .root true 3 ts_i64 t.2.2)]⟩
def f80x3_0 (t : List E_i64) : St := ⟨[.dead, .dead, .dead, .own 10000000, .dead, .dead, .dead, .dead, .dead, .dead, .dead, .dead, .dead, .dead, .dead, .dead, .dead, .dead, .dead, .dead, .dead, .dead], [(10000000, .root true 3 ts_i64 t)]⟩
def f80u3_0 (s : St) : Option (List E_i64 × Int × List E_i64) := (unS f80h3_0 f80o3_0 s).map fun v => (v.1.1, v.1.2.2.2.2.1, v.2.1)
theorem f80un3_0 : ∀ (s : St) (t : List E_i64 × Int × List E_i64), f80u3_0 s = some t → f80e3_0 t = s := fun s v h => by
  obtain ⟨u, hu, rfl⟩ := Option.map_eq_some_iff.1 h
  exact (show f80e3_0 (u.1.1, u.1.2.2.2.2.1, u.2.1) = mkS f80h3_0 f80o3_0 u by kernel_rfl).trans (mkS_un f80h3_0 f80o3_0 s u hu)
def f80u3 : St → Option (List E_i64 × Int × List E_i64) := f80u3_0
def f80e3 : (List E_i64 × Int × List E_i64) → St := f80e3_0
theorem f80un3 : ∀ (s : St) (t : List E_i64 × Int × List E_i64), f80u3 s = some t → f80e3 t = s := f80un3_0
noncomputable def f80P : Lp := fun i s {_R} κ => bif Nat.beq i 3 then (f80u3 s).bind fun t => L_laws_toIntS_3 (fun t => κ (some 0) (f80x3_0 t)) t else none
noncomputable def f80c3 : Code := (loopsOf f80B).getD 0 .skip
theorem f80A3 : C.live 80 (firstRegion f80c3) = some ([0, 3, 4], [3]) := by kernel_rfl
theorem f80B3 {R : Type} (κ : Option Nat → St → Option R) (s : St) : f80P (firstRegion f80c3) s κ = (f80u3 s).bind fun t => iter (S_laws_toIntS_3 (fun t => κ (some 0) (f80x3_0 t))) FUEL t := by kernel_rfl
theorem f80C3 {R : Type} (κ : Option Nat → St → Option R) (again : St → Option R) (t : T_laws_toIntS_3) : stepL C f80K f80P 80 f80c3 [0, 3, 4] [3] κ again (f80e3 t) = S_laws_toIntS_3 (fun t => κ (some 0) (f80x3_0 t)) (fun t => again (f80e3 t)) t := by kernel_rfl
theorem f80ok3 : LoopOk C f80K f80P 80 f80c3 := loop_ok f80A3 f80e3 f80u3 f80un3 (fun {_R} κ => S_laws_toIntS_3 (fun t => κ (some 0) (f80x3_0 t))) (fun {_R} κ s => f80B3 κ s) (fun {_R} κ again t => f80C3 κ again t)
theorem k80 : Contract C Try.prog f80K := contract_tab _ (fun p hp => by cases hp)
theorem ev80 (x : List E_i64) : evalB C f80K f80P 80 Try.f80 f80B ⟨[.v false [(.sl 3 ts_i64)] [false]], [⟨false, [(.sl 3 ts_i64)], [true]⟩], false⟩ [(.sl 3 ts_i64)] [(.sl 3 ts_i64)] x = F_laws_toIntS x := by kernel_rfl
theorem ok80 : ContractAt C Try.prog 80 F_laws_toIntS := fn_sound (lp := f80P) tok mixed k80 (by kernel_rfl) (fn := Try.f80) (c := f80B) (sg := ⟨[.v false [(.sl 3 ts_i64)] [false]], [⟨false, [(.sl 3 ts_i64)], [true]⟩], false⟩) Try.func80 (by decide) (by kernel_rfl) (by kernel_rfl) (by kernel_rfl) (fun c' hc' => by
    rw [show loopsOf f80B = [f80c3] by kernel_rfl] at hc'
    simp only [List.mem_cons, List.mem_nil_iff, or_false] at hc'
    rcases hc' with rfl
    · exact f80ok3) (by decide) (by decide) (fun x y h => (ev80 x).trans h)

/-! ### 136: laws.toKey -/
noncomputable def F_laws_toKey (x : Int × Int × Int × Int × Int) : Option (Int × Int × Int × Int × Int) :=
  some (x.1, x.2.1, x.2.2.1, x.2.2.2.1, x.2.2.2.2)
noncomputable def f136B : Code := match Try.f136.body with
  | some c => c
  | none => .skip
noncomputable def f136K : C.Sem := tab []
noncomputable def f136P : Lp := fun i s {_R} κ => none
theorem k136 : Contract C Try.prog f136K := contract_tab _ (fun p hp => by cases hp)
theorem ev136 (x : Int × Int × Int × Int × Int) : evalB C f136K f136P 136 Try.f136 f136B ⟨[.v true [(.int .i64), (.int .i64), (.int .i64), (.int .i64), (.int .i64)] [false, false, false, false, false]], [⟨true, [(.int .i64), (.int .i64), (.int .i64), (.int .i64), (.int .i64)], [false, false, false, false, false]⟩], false⟩ [(.int .i64), (.int .i64), (.int .i64), (.int .i64), (.int .i64)] [(.int .i64), (.int .i64), (.int .i64), (.int .i64), (.int .i64)] x = F_laws_toKey x := by kernel_rfl
theorem ok136 : ContractAt C Try.prog 136 F_laws_toKey := fn_sound (lp := f136P) tok mixed k136 (by kernel_rfl) (fn := Try.f136) (c := f136B) (sg := ⟨[.v true [(.int .i64), (.int .i64), (.int .i64), (.int .i64), (.int .i64)] [false, false, false, false, false]], [⟨true, [(.int .i64), (.int .i64), (.int .i64), (.int .i64), (.int .i64)], [false, false, false, false, false]⟩], false⟩) Try.func136 (by decide) (by kernel_rfl) (by kernel_rfl) (by kernel_rfl) (fun c' hc' => by
    rw [show loopsOf f136B = [] by kernel_rfl] at hc'
    cases hc') (by decide) (by decide) (fun x y h => (ev136 x).trans h)

/-! ### 129: laws.toKeyS -/
abbrev T_laws_toKeyS_3 : Type := List E_LKey × Int × List E_Key
noncomputable def S_laws_toKeyS_3 {R : Type} (k0 : List E_Key → Option R) (again : T_laws_toKeyS_3 → Option R) (t3 : T_laws_toKeyS_3) : Option R :=
  bif (decide (t3.2.1 < ((List.length t3.1 : Nat) : Int))) then if (0 : Int) ≤ t3.2.1 then if t3.2.1 < ((List.length t3.1 : Nat) : Int) then Option.bind (F_laws_toKey ((rd_LKey t3.1 t3.2.1).1, (rd_LKey t3.1 t3.2.1).2.1, (rd_LKey t3.1 t3.2.1).2.2.1, (rd_LKey t3.1 t3.2.1).2.2.2.1, (rd_LKey t3.1 t3.2.1).2.2.2.2)) fun r1 => if (0 : Int) ≤ t3.2.1 then if t3.2.1 < ((List.length t3.2.2 : Nat) : Int) then again (t3.1, (Go.IntKind.wrap .i64 (t3.2.1 + (1 : Int))), (List.set t3.2.2 (Int.toNat t3.2.1) (r1.1, r1.2.1, r1.2.2.1, r1.2.2.2.1, r1.2.2.2.2))) else none else none else none else none else k0 t3.2.2
noncomputable def L_laws_toKeyS_3 {R : Type} (k0 : List E_Key → Option R) (t : T_laws_toKeyS_3) : Option R := iter (S_laws_toKeyS_3 k0) FUEL t
noncomputable def F_laws_toKeyS (x : List E_LKey) : Option (List E_Key) :=
  if (0 : Int) ≤ ((List.length x : Nat) : Int) then if ((List.length x : Nat) : Int) ≤ ((List.length x : Nat) : Int) then if ((List.length x : Nat) : Int) * ((40 : Nat) : Int) ≤ 140737488351232 then L_laws_toKeyS_3 (fun x2 => some x2) (x, (0 : Int), (List.replicate (Int.toNat ((List.length x : Nat) : Int)) z_Key)) else none else none else none
noncomputable def f129B : Code := match Try.f129.body with
  | some c => c
  | none => .skip
noncomputable def f129K : C.Sem := tab [⟨136, F_laws_toKey⟩]
def f129h3_0 : List Sh := [.v (.sl 179 ts_LKey), .dead, .dead, .own 10000000, .v (.int .i64), .dead, .dead, .dead, .dead, .dead, .dead, .dead, .dead, .dead, .dead, .dead, .dead, .dead, .dead, .dead, .dead, .dead, .dead]
def f129o3_0 : List (Nat × OSh) := [(10000000, .root true 86 ts_Key)]
def f129e3_0 (t : List E_LKey × Int × List E_Key) : St := ⟨[.val (.sl 179 ts_LKey) t.1, .dead, .dead, .own 10000000, .val (.int .i64) t.2.1, .dead, .dead, .dead, .dead, .dead, .dead, .dead, .dead, .dead, .dead, .dead, .dead, .dead, .dead, .dead, .dead, .dead, .dead], [(10000000, .root true 86 ts_Key t.2.2)]⟩
def f129x3_0 (t : List E_Key) : St := ⟨[.dead, .dead, .dead, .own 10000000, .dead, .dead, .dead, .dead, .dead, .dead, .dead, .dead, .dead, .dead, .dead, .dead, .dead, .dead, .dead, .dead, .dead, .dead, .dead], [(10000000, .root true 86 ts_Key t)]⟩
def f129u3_0 (s : St) : Option (List E_LKey × Int × List E_Key) := (unS f129h3_0 f129o3_0 s).map fun v => (v.1.1, v.1.2.2.2.2.1, v.2.1)
theorem f129un3_0 : ∀ (s : St) (t : List E_LKey × Int × List E_Key), f129u3_0 s = some t → f129e3_0 t = s := fun s v h => by
  obtain ⟨u, hu, rfl⟩ := Option.map_eq_some_iff.1 h
  exact (show f129e3_0 (u.1.1, u.1.2.2.2.2.1, u.2.1) = mkS f129h3_0 f129o3_0 u by kernel_rfl).trans (mkS_un f129h3_0 f129o3_0 s u hu)
def f129u3 : St → Option (List E_LKey × Int × List E_Key) := f129u3_0
def f129e3 : (List E_LKey × Int × List E_Key) → St := f129e3_0
theorem f129un3 : ∀ (s : St) (t : List E_LKey × Int × List E_Key), f129u3 s = some t → f129e3 t = s := f129un3_0
noncomputable def f129P : Lp := fun i s {_R} κ => bif Nat.beq i 3 then (f129u3 s).bind fun t => L_laws_toKeyS_3 (fun t => κ (some 0) (f129x3_0 t)) t else none
noncomputable def f129c3 : Code := (loopsOf f129B).getD 0 .skip
theorem f129A3 : C.live 129 (firstRegion f129c3) = some ([0, 3, 4], [3]) := by kernel_rfl
theorem f129B3 {R : Type} (κ : Option Nat → St → Option R) (s : St) : f129P (firstRegion f129c3) s κ = (f129u3 s).bind fun t => iter (S_laws_toKeyS_3 (fun t => κ (some 0) (f129x3_0 t))) FUEL t := by kernel_rfl
theorem f129C3 {R : Type} (κ : Option Nat → St → Option R) (again : St → Option R) (t : T_laws_toKeyS_3) : stepL C f129K f129P 129 f129c3 [0, 3, 4] [3] κ again (f129e3 t) = S_laws_toKeyS_3 (fun t => κ (some 0) (f129x3_0 t)) (fun t => again (f129e3 t)) t := by kernel_rfl
theorem f129ok3 : LoopOk C f129K f129P 129 f129c3 := loop_ok f129A3 f129e3 f129u3 f129un3 (fun {_R} κ => S_laws_toKeyS_3 (fun t => κ (some 0) (f129x3_0 t))) (fun {_R} κ s => f129B3 κ s) (fun {_R} κ again t => f129C3 κ again t)
theorem k129 : Contract C Try.prog f129K := contract_tab _ (fun p hp => by
    simp only [List.mem_cons, List.mem_nil_iff, or_false] at hp
    rcases hp with rfl
    · exact ok136)
theorem ev129 (x : List E_LKey) : evalB C f129K f129P 129 Try.f129 f129B ⟨[.v false [(.sl 179 ts_LKey)] [false]], [⟨false, [(.sl 86 ts_Key)], [true]⟩], false⟩ [(.sl 179 ts_LKey)] [(.sl 86 ts_Key)] x = F_laws_toKeyS x := by kernel_rfl
theorem ok129 : ContractAt C Try.prog 129 F_laws_toKeyS := fn_sound (lp := f129P) tok mixed k129 (by kernel_rfl) (fn := Try.f129) (c := f129B) (sg := ⟨[.v false [(.sl 179 ts_LKey)] [false]], [⟨false, [(.sl 86 ts_Key)], [true]⟩], false⟩) Try.func129 (by decide) (by kernel_rfl) (by kernel_rfl) (by kernel_rfl) (fun c' hc' => by
    rw [show loopsOf f129B = [f129c3] by kernel_rfl] at hc'
    simp only [List.mem_cons, List.mem_nil_iff, or_false] at hc'
    rcases hc' with rfl
    · exact f129ok3) (by decide) (by decide) (fun x y h => (ev129 x).trans h)

/-! ### 117: laws.toKeySS -/
abbrev T_laws_toKeySS_3 : Type := List E_s_LKey × Int × List E_s_Key
noncomputable def S_laws_toKeySS_3 {R : Type} (k0 : List E_s_Key → Option R) (again : T_laws_toKeySS_3 → Option R) (t3 : T_laws_toKeySS_3) : Option R :=
  bif (decide (t3.2.1 < ((List.length t3.1 : Nat) : Int))) then if (0 : Int) ≤ t3.2.1 then if t3.2.1 < ((List.length t3.1 : Nat) : Int) then Option.bind (F_laws_toKeyS (rd_s_LKey t3.1 t3.2.1)) fun r1 => if (0 : Int) ≤ t3.2.1 then if t3.2.1 < ((List.length t3.2.2 : Nat) : Int) then again (t3.1, (Go.IntKind.wrap .i64 (t3.2.1 + (1 : Int))), (List.set t3.2.2 (Int.toNat t3.2.1) r1)) else none else none else none else none else k0 t3.2.2
noncomputable def L_laws_toKeySS_3 {R : Type} (k0 : List E_s_Key → Option R) (t : T_laws_toKeySS_3) : Option R := iter (S_laws_toKeySS_3 k0) FUEL t
noncomputable def F_laws_toKeySS (x : List E_s_LKey) : Option (List E_s_Key) :=
  if (0 : Int) ≤ ((List.length x : Nat) : Int) then if ((List.length x : Nat) : Int) ≤ ((List.length x : Nat) : Int) then if ((List.length x : Nat) : Int) * ((24 : Nat) : Int) ≤ 140737488351232 then L_laws_toKeySS_3 (fun x2 => some x2) (x, (0 : Int), (List.replicate (Int.toNat ((List.length x : Nat) : Int)) z_s_Key)) else none else none else none
noncomputable def f117B : Code := match Try.f117.body with
  | some c => c
  | none => .skip
noncomputable def f117K : C.Sem := tab [⟨129, F_laws_toKeyS⟩]
def f117h3_0 : List Sh := [.v (.sl 171 ts_s_LKey), .dead, .dead, .own 10000000, .v (.int .i64), .dead, .dead, .dead, .dead, .dead, .dead, .dead, .dead, .dead, .dead, .dead, .dead, .dead, .dead, .dead, .dead, .dead, .dead]
def f117o3_0 : List (Nat × OSh) := [(10000000, .root true 83 ts_s_Key)]
def f117e3_0 (t : List E_s_LKey × Int × List E_s_Key) : St := ⟨[.val (.sl 171 ts_s_LKey) t.1, .dead, .dead, .own 10000000, .val (.int .i64) t.2.1, .dead, .dead, .dead, .dead, .dead, .dead, .dead, .dead, .dead, .dead, .dead, .dead, .dead, .dead, .dead, .dead, .dead, .dead], [(10000000, .root true 83 ts_s_Key t.2.2)]⟩
def f117x3_0 (t : List E_s_Key) : St := ⟨[.dead, .dead, .dead, .own 10000000, .dead, .dead, .dead, .dead, .dead, .dead, .dead, .dead, .dead, .dead, .dead, .dead, .dead, .dead, .dead, .dead, .dead, .dead, .dead], [(10000000, .root true 83 ts_s_Key t)]⟩
def f117u3_0 (s : St) : Option (List E_s_LKey × Int × List E_s_Key) := (unS f117h3_0 f117o3_0 s).map fun v => (v.1.1, v.1.2.2.2.2.1, v.2.1)
theorem f117un3_0 : ∀ (s : St) (t : List E_s_LKey × Int × List E_s_Key), f117u3_0 s = some t → f117e3_0 t = s := fun s v h => by
  obtain ⟨u, hu, rfl⟩ := Option.map_eq_some_iff.1 h
  exact (show f117e3_0 (u.1.1, u.1.2.2.2.2.1, u.2.1) = mkS f117h3_0 f117o3_0 u by kernel_rfl).trans (mkS_un f117h3_0 f117o3_0 s u hu)
def f117u3 : St → Option (List E_s_LKey × Int × List E_s_Key) := f117u3_0
def f117e3 : (List E_s_LKey × Int × List E_s_Key) → St := f117e3_0
theorem f117un3 : ∀ (s : St) (t : List E_s_LKey × Int × List E_s_Key), f117u3 s = some t → f117e3 t = s := f117un3_0
noncomputable def f117P : Lp := fun i s {_R} κ => bif Nat.beq i 3 then (f117u3 s).bind fun t => L_laws_toKeySS_3 (fun t => κ (some 0) (f117x3_0 t)) t else none
noncomputable def f117c3 : Code := (loopsOf f117B).getD 0 .skip
theorem f117A3 : C.live 117 (firstRegion f117c3) = some ([0, 3, 4], [3]) := by kernel_rfl
theorem f117B3 {R : Type} (κ : Option Nat → St → Option R) (s : St) : f117P (firstRegion f117c3) s κ = (f117u3 s).bind fun t => iter (S_laws_toKeySS_3 (fun t => κ (some 0) (f117x3_0 t))) FUEL t := by kernel_rfl
theorem f117C3 {R : Type} (κ : Option Nat → St → Option R) (again : St → Option R) (t : T_laws_toKeySS_3) : stepL C f117K f117P 117 f117c3 [0, 3, 4] [3] κ again (f117e3 t) = S_laws_toKeySS_3 (fun t => κ (some 0) (f117x3_0 t)) (fun t => again (f117e3 t)) t := by kernel_rfl
theorem f117ok3 : LoopOk C f117K f117P 117 f117c3 := loop_ok f117A3 f117e3 f117u3 f117un3 (fun {_R} κ => S_laws_toKeySS_3 (fun t => κ (some 0) (f117x3_0 t))) (fun {_R} κ s => f117B3 κ s) (fun {_R} κ again t => f117C3 κ again t)
theorem k117 : Contract C Try.prog f117K := contract_tab _ (fun p hp => by
    simp only [List.mem_cons, List.mem_nil_iff, or_false] at hp
    rcases hp with rfl
    · exact ok129)
theorem ev117 (x : List E_s_LKey) : evalB C f117K f117P 117 Try.f117 f117B ⟨[.v false [(.sl 171 ts_s_LKey)] [false]], [⟨false, [(.sl 83 ts_s_Key)], [true]⟩], false⟩ [(.sl 171 ts_s_LKey)] [(.sl 83 ts_s_Key)] x = F_laws_toKeySS x := by kernel_rfl
theorem ok117 : ContractAt C Try.prog 117 F_laws_toKeySS := fn_sound (lp := f117P) tok mixed k117 (by kernel_rfl) (fn := Try.f117) (c := f117B) (sg := ⟨[.v false [(.sl 171 ts_s_LKey)] [false]], [⟨false, [(.sl 83 ts_s_Key)], [true]⟩], false⟩) Try.func117 (by decide) (by kernel_rfl) (by kernel_rfl) (by kernel_rfl) (fun c' hc' => by
    rw [show loopsOf f117B = [f117c3] by kernel_rfl] at hc'
    simp only [List.mem_cons, List.mem_nil_iff, or_false] at hc'
    rcases hc' with rfl
    · exact f117ok3) (by decide) (by decide) (fun x y h => (ev117 x).trans h)

/-! ### 102: laws.toNode -/
noncomputable def F_laws_toNode (x : List E_s_LKey) : Option (List E_s_Key) :=
  Option.bind (F_laws_toKeySS x) fun r1 => some r1
noncomputable def f102B : Code := match Try.f102.body with
  | some c => c
  | none => .skip
noncomputable def f102K : C.Sem := tab [⟨117, F_laws_toKeySS⟩]
noncomputable def f102P : Lp := fun i s {_R} κ => none
theorem k102 : Contract C Try.prog f102K := contract_tab _ (fun p hp => by
    simp only [List.mem_cons, List.mem_nil_iff, or_false] at hp
    rcases hp with rfl
    · exact ok117)
theorem ev102 (x : List E_s_LKey) : evalB C f102K f102P 102 Try.f102 f102B ⟨[.v true [(.sl 171 ts_s_LKey)] [false]], [⟨true, [(.sl 83 ts_s_Key)], [true]⟩], false⟩ [(.sl 171 ts_s_LKey)] [(.sl 83 ts_s_Key)] x = F_laws_toNode x := by kernel_rfl
theorem ok102 : ContractAt C Try.prog 102 F_laws_toNode := fn_sound (lp := f102P) tok mixed k102 (by kernel_rfl) (fn := Try.f102) (c := f102B) (sg := ⟨[.v true [(.sl 171 ts_s_LKey)] [false]], [⟨true, [(.sl 83 ts_s_Key)], [true]⟩], false⟩) Try.func102 (by decide) (by kernel_rfl) (by kernel_rfl) (by kernel_rfl) (fun c' hc' => by
    rw [show loopsOf f102B = [] by kernel_rfl] at hc'
    cases hc') (by decide) (by decide) (fun x y h => (ev102 x).trans h)

/-! ### 81: laws.toNodeS -/
abbrev T_laws_toNodeS_3 : Type := List E_LNode × Int × List E_Node
noncomputable def S_laws_toNodeS_3 {R : Type} (k0 : List E_Node → Option R) (again : T_laws_toNodeS_3 → Option R) (t3 : T_laws_toNodeS_3) : Option R :=
  bif (decide (t3.2.1 < ((List.length t3.1 : Nat) : Int))) then if (0 : Int) ≤ t3.2.1 then if t3.2.1 < ((List.length t3.1 : Nat) : Int) then Option.bind (F_laws_toNode (rd_LNode t3.1 t3.2.1)) fun r1 => if (0 : Int) ≤ t3.2.1 then if t3.2.1 < ((List.length t3.2.2 : Nat) : Int) then again (t3.1, (Go.IntKind.wrap .i64 (t3.2.1 + (1 : Int))), (List.set t3.2.2 (Int.toNat t3.2.1) r1)) else none else none else none else none else k0 t3.2.2
noncomputable def L_laws_toNodeS_3 {R : Type} (k0 : List E_Node → Option R) (t : T_laws_toNodeS_3) : Option R := iter (S_laws_toNodeS_3 k0) FUEL t
noncomputable def F_laws_toNodeS (x : List E_LNode) : Option (List E_Node) :=
  if (0 : Int) ≤ ((List.length x : Nat) : Int) then if ((List.length x : Nat) : Int) ≤ ((List.length x : Nat) : Int) then if ((List.length x : Nat) : Int) * ((24 : Nat) : Int) ≤ 140737488351232 then L_laws_toNodeS_3 (fun x2 => some x2) (x, (0 : Int), (List.replicate (Int.toNat ((List.length x : Nat) : Int)) z_Node)) else none else none else none
noncomputable def f81B : Code := match Try.f81.body with
  | some c => c
  | none => .skip
noncomputable def f81K : C.Sem := tab [⟨102, F_laws_toNode⟩]
def f81h3_0 : List Sh := [.v (.sl 155 ts_LNode), .dead, .dead, .own 10000000, .v (.int .i64), .dead, .dead, .dead, .dead, .dead, .dead, .dead, .dead, .dead, .dead, .dead, .dead, .dead, .dead, .dead, .dead, .dead, .dead]
def f81o3_0 : List (Nat × OSh) := [(10000000, .root true 128 ts_Node)]
def f81e3_0 (t : List E_LNode × Int × List E_Node) : St := ⟨[.val (.sl 155 ts_LNode) t.1, .dead, .dead, .own 10000000, .val (.int .i64) t.2.1, .dead, .dead, .dead, .dead, .dead, .dead, .dead, .dead, .dead, .dead, .dead, .dead, .dead, .dead, .dead, .dead, .dead, .dead], [(10000000, .root true 128 ts_Node t.2.2)]⟩
def f81x3_0 (t : List E_Node) : St := ⟨[.dead, .dead, .dead, .own 10000000, .dead, .dead, .dead, .dead, .dead, .dead, .dead, .dead, .dead, .dead, .dead, .dead, .dead, .dead, .dead, .dead, .dead, .dead, .dead], [(10000000, .root true 128 ts_Node t)]⟩
def f81u3_0 (s : St) : Option (List E_LNode × Int × List E_Node) := (unS f81h3_0 f81o3_0 s).map fun v => (v.1.1, v.1.2.2.2.2.1, v.2.1)
theorem f81un3_0 : ∀ (s : St) (t : List E_LNode × Int × List E_Node), f81u3_0 s = some t → f81e3_0 t = s := fun s v h => by
  obtain ⟨u, hu, rfl⟩ := Option.map_eq_some_iff.1 h
  exact (show f81e3_0 (u.1.1, u.1.2.2.2.2.1, u.2.1) = mkS f81h3_0 f81o3_0 u by kernel_rfl).trans (mkS_un f81h3_0 f81o3_0 s u hu)
def f81u3 : St → Option (List E_LNode × Int × List E_Node) := f81u3_0
def f81e3 : (List E_LNode × Int × List E_Node) → St := f81e3_0
theorem f81un3 : ∀ (s : St) (t : List E_LNode × Int × List E_Node), f81u3 s = some t → f81e3 t = s := f81un3_0
noncomputable def f81P : Lp := fun i s {_R} κ => bif Nat.beq i 3 then (f81u3 s).bind fun t => L_laws_toNodeS_3 (fun t => κ (some 0) (f81x3_0 t)) t else none
noncomputable def f81c3 : Code := (loopsOf f81B).getD 0 .skip
theorem f81A3 : C.live 81 (firstRegion f81c3) = some ([0, 3, 4], [3]) := by kernel_rfl
theorem f81B3 {R : Type} (κ : Option Nat → St → Option R) (s : St) : f81P (firstRegion f81c3) s κ = (f81u3 s).bind fun t => iter (S_laws_toNodeS_3 (fun t => κ (some 0) (f81x3_0 t))) FUEL t := by kernel_rfl
theorem f81C3 {R : Type} (κ : Option Nat → St → Option R) (again : St → Option R) (t : T_laws_toNodeS_3) : stepL C f81K f81P 81 f81c3 [0, 3, 4] [3] κ again (f81e3 t) = S_laws_toNodeS_3 (fun t => κ (some 0) (f81x3_0 t)) (fun t => again (f81e3 t)) t := by kernel_rfl
theorem f81ok3 : LoopOk C f81K f81P 81 f81c3 := loop_ok f81A3 f81e3 f81u3 f81un3 (fun {_R} κ => S_laws_toNodeS_3 (fun t => κ (some 0) (f81x3_0 t))) (fun {_R} κ s => f81B3 κ s) (fun {_R} κ again t => f81C3 κ again t)
theorem k81 : Contract C Try.prog f81K := contract_tab _ (fun p hp => by
    simp only [List.mem_cons, List.mem_nil_iff, or_false] at hp
    rcases hp with rfl
    · exact ok102)
theorem ev81 (x : List E_LNode) : evalB C f81K f81P 81 Try.f81 f81B ⟨[.v false [(.sl 155 ts_LNode)] [false]], [⟨false, [(.sl 128 ts_Node)], [true]⟩], false⟩ [(.sl 155 ts_LNode)] [(.sl 128 ts_Node)] x = F_laws_toNodeS x := by kernel_rfl
theorem ok81 : ContractAt C Try.prog 81 F_laws_toNodeS := fn_sound (lp := f81P) tok mixed k81 (by kernel_rfl) (fn := Try.f81) (c := f81B) (sg := ⟨[.v false [(.sl 155 ts_LNode)] [false]], [⟨false, [(.sl 128 ts_Node)], [true]⟩], false⟩) Try.func81 (by decide) (by kernel_rfl) (by kernel_rfl) (by kernel_rfl) (fun c' hc' => by
    rw [show loopsOf f81B = [f81c3] by kernel_rfl] at hc'
    simp only [List.mem_cons, List.mem_nil_iff, or_false] at hc'
    rcases hc' with rfl
    · exact f81ok3) (by decide) (by decide) (fun x y h => (ev81 x).trans h)

/-! ### 43: laws.toTree -/
noncomputable def F_laws_toTree (x : List E_i64 × List E_LNode) : Option (List E_i64 × List E_Node) :=
  Option.bind (F_laws_toIntS x.1) fun r1 => Option.bind (F_laws_toNodeS x.2) fun r2 => some (r1, r2)
noncomputable def f43B : Code := match Try.f43.body with
  | some c => c
  | none => .skip
noncomputable def f43K : C.Sem := tab [⟨80, F_laws_toIntS⟩, ⟨81, F_laws_toNodeS⟩]
noncomputable def f43P : Lp := fun i s {_R} κ => none
theorem k43 : Contract C Try.prog f43K := contract_tab _ (fun p hp => by
    simp only [List.mem_cons, List.mem_nil_iff, or_false] at hp
    rcases hp with rfl | rfl
    · exact ok80
    · exact ok81)
theorem ev43 (x : List E_i64 × List E_LNode) : evalB C f43K f43P 43 Try.f43 f43B ⟨[.v true [(.sl 3 ts_i64), (.sl 155 ts_LNode)] [false, false]], [⟨true, [(.sl 3 ts_i64), (.sl 128 ts_Node)], [true, true]⟩], false⟩ [(.sl 3 ts_i64), (.sl 155 ts_LNode)] [(.sl 3 ts_i64), (.sl 128 ts_Node)] x = F_laws_toTree x := by kernel_rfl
theorem ok43 : ContractAt C Try.prog 43 F_laws_toTree := fn_sound (lp := f43P) tok mixed k43 (by kernel_rfl) (fn := Try.f43) (c := f43B) (sg := ⟨[.v true [(.sl 3 ts_i64), (.sl 155 ts_LNode)] [false, false]], [⟨true, [(.sl 3 ts_i64), (.sl 128 ts_Node)], [true, true]⟩], false⟩) Try.func43 (by decide) (by kernel_rfl) (by kernel_rfl) (by kernel_rfl) (fun c' hc' => by
    rw [show loopsOf f43B = [] by kernel_rfl] at hc'
    cases hc') (by decide) (by decide) (fun x y h => (ev43 x).trans h)

/-! ### 82: laws.toAge -/
noncomputable def F_laws_toAge (x : Int × Int) : Option (Int × Int) :=
  some (x.1, x.2)
noncomputable def f82B : Code := match Try.f82.body with
  | some c => c
  | none => .skip
noncomputable def f82K : C.Sem := tab []
noncomputable def f82P : Lp := fun i s {_R} κ => none
theorem k82 : Contract C Try.prog f82K := contract_tab _ (fun p hp => by cases hp)
theorem ev82 (x : Int × Int) : evalB C f82K f82P 82 Try.f82 f82B ⟨[.v true [(.int .i64), (.int .i64)] [false, false]], [⟨true, [(.int .i64), (.int .i64)], [false, false]⟩], false⟩ [(.int .i64), (.int .i64)] [(.int .i64), (.int .i64)] x = F_laws_toAge x := by kernel_rfl
theorem ok82 : ContractAt C Try.prog 82 F_laws_toAge := fn_sound (lp := f82P) tok mixed k82 (by kernel_rfl) (fn := Try.f82) (c := f82B) (sg := ⟨[.v true [(.int .i64), (.int .i64)] [false, false]], [⟨true, [(.int .i64), (.int .i64)], [false, false]⟩], false⟩) Try.func82 (by decide) (by kernel_rfl) (by kernel_rfl) (by kernel_rfl) (fun c' hc' => by
    rw [show loopsOf f82B = [] by kernel_rfl] at hc'
    cases hc') (by decide) (by decide) (fun x y h => (ev82 x).trans h)

/-! ### 44: laws.toAgeS -/
abbrev T_laws_toAgeS_3 : Type := List E_LAge × Int × List E_Age
noncomputable def S_laws_toAgeS_3 {R : Type} (k0 : List E_Age → Option R) (again : T_laws_toAgeS_3 → Option R) (t3 : T_laws_toAgeS_3) : Option R :=
  bif (decide (t3.2.1 < ((List.length t3.1 : Nat) : Int))) then if (0 : Int) ≤ t3.2.1 then if t3.2.1 < ((List.length t3.1 : Nat) : Int) then Option.bind (F_laws_toAge ((rd_LAge t3.1 t3.2.1).1, (rd_LAge t3.1 t3.2.1).2)) fun r1 => if (0 : Int) ≤ t3.2.1 then if t3.2.1 < ((List.length t3.2.2 : Nat) : Int) then again (t3.1, (Go.IntKind.wrap .i64 (t3.2.1 + (1 : Int))), (List.set t3.2.2 (Int.toNat t3.2.1) (r1.1, r1.2))) else none else none else none else none else k0 t3.2.2
noncomputable def L_laws_toAgeS_3 {R : Type} (k0 : List E_Age → Option R) (t : T_laws_toAgeS_3) : Option R := iter (S_laws_toAgeS_3 k0) FUEL t
noncomputable def F_laws_toAgeS (x : List E_LAge) : Option (List E_Age) :=
  if (0 : Int) ≤ ((List.length x : Nat) : Int) then if ((List.length x : Nat) : Int) ≤ ((List.length x : Nat) : Int) then if ((List.length x : Nat) : Int) * ((16 : Nat) : Int) ≤ 140737488351232 then L_laws_toAgeS_3 (fun x2 => some x2) (x, (0 : Int), (List.replicate (Int.toNat ((List.length x : Nat) : Int)) z_Age)) else none else none else none
noncomputable def f44B : Code := match Try.f44.body with
  | some c => c
  | none => .skip
noncomputable def f44K : C.Sem := tab [⟨82, F_laws_toAge⟩]
def f44h3_0 : List Sh := [.v (.sl 136 ts_LAge), .dead, .dead, .own 10000000, .v (.int .i64), .dead, .dead, .dead, .dead, .dead, .dead, .dead, .dead, .dead, .dead, .dead, .dead, .dead, .dead, .dead, .dead, .dead, .dead]
def f44o3_0 : List (Nat × OSh) := [(10000000, .root true 134 ts_Age)]
def f44e3_0 (t : List E_LAge × Int × List E_Age) : St := ⟨[.val (.sl 136 ts_LAge) t.1, .dead, .dead, .own 10000000, .val (.int .i64) t.2.1, .dead, .dead, .dead, .dead, .dead, .dead, .dead, .dead, .dead, .dead, .dead, .dead, .dead, .dead, .dead, .dead, .dead, .dead], [(10000000, .root true 134 ts_Age t.2.2)]⟩
def f44x3_0 (t : List E_Age) : St := ⟨[.dead, .dead, .dead, .own 10000000, .dead, .dead, .dead, .dead, .dead, .dead, .dead, .dead, .dead, .dead, .dead, .dead, .dead, .dead, .dead, .dead, .dead, .dead, .dead], [(10000000, .root true 134 ts_Age t)]⟩
def f44u3_0 (s : St) : Option (List E_LAge × Int × List E_Age) := (unS f44h3_0 f44o3_0 s).map fun v => (v.1.1, v.1.2.2.2.2.1, v.2.1)
theorem f44un3_0 : ∀ (s : St) (t : List E_LAge × Int × List E_Age), f44u3_0 s = some t → f44e3_0 t = s := fun s v h => by
  obtain ⟨u, hu, rfl⟩ := Option.map_eq_some_iff.1 h
  exact (show f44e3_0 (u.1.1, u.1.2.2.2.2.1, u.2.1) = mkS f44h3_0 f44o3_0 u by kernel_rfl).trans (mkS_un f44h3_0 f44o3_0 s u hu)
def f44u3 : St → Option (List E_LAge × Int × List E_Age) := f44u3_0
def f44e3 : (List E_LAge × Int × List E_Age) → St := f44e3_0
theorem f44un3 : ∀ (s : St) (t : List E_LAge × Int × List E_Age), f44u3 s = some t → f44e3 t = s := f44un3_0
noncomputable def f44P : Lp := fun i s {_R} κ => bif Nat.beq i 3 then (f44u3 s).bind fun t => L_laws_toAgeS_3 (fun t => κ (some 0) (f44x3_0 t)) t else none
noncomputable def f44c3 : Code := (loopsOf f44B).getD 0 .skip
theorem f44A3 : C.live 44 (firstRegion f44c3) = some ([0, 3, 4], [3]) := by kernel_rfl
theorem f44B3 {R : Type} (κ : Option Nat → St → Option R) (s : St) : f44P (firstRegion f44c3) s κ = (f44u3 s).bind fun t => iter (S_laws_toAgeS_3 (fun t => κ (some 0) (f44x3_0 t))) FUEL t := by kernel_rfl
theorem f44C3 {R : Type} (κ : Option Nat → St → Option R) (again : St → Option R) (t : T_laws_toAgeS_3) : stepL C f44K f44P 44 f44c3 [0, 3, 4] [3] κ again (f44e3 t) = S_laws_toAgeS_3 (fun t => κ (some 0) (f44x3_0 t)) (fun t => again (f44e3 t)) t := by kernel_rfl
theorem f44ok3 : LoopOk C f44K f44P 44 f44c3 := loop_ok f44A3 f44e3 f44u3 f44un3 (fun {_R} κ => S_laws_toAgeS_3 (fun t => κ (some 0) (f44x3_0 t))) (fun {_R} κ s => f44B3 κ s) (fun {_R} κ again t => f44C3 κ again t)
theorem k44 : Contract C Try.prog f44K := contract_tab _ (fun p hp => by
    simp only [List.mem_cons, List.mem_nil_iff, or_false] at hp
    rcases hp with rfl
    · exact ok82)
theorem ev44 (x : List E_LAge) : evalB C f44K f44P 44 Try.f44 f44B ⟨[.v false [(.sl 136 ts_LAge)] [false]], [⟨false, [(.sl 134 ts_Age)], [true]⟩], false⟩ [(.sl 136 ts_LAge)] [(.sl 134 ts_Age)] x = F_laws_toAgeS x := by kernel_rfl
theorem ok44 : ContractAt C Try.prog 44 F_laws_toAgeS := fn_sound (lp := f44P) tok mixed k44 (by kernel_rfl) (fn := Try.f44) (c := f44B) (sg := ⟨[.v false [(.sl 136 ts_LAge)] [false]], [⟨false, [(.sl 134 ts_Age)], [true]⟩], false⟩) Try.func44 (by decide) (by kernel_rfl) (by kernel_rfl) (by kernel_rfl) (fun c' hc' => by
    rw [show loopsOf f44B = [f44c3] by kernel_rfl] at hc'
    simp only [List.mem_cons, List.mem_nil_iff, or_false] at hc'
    rcases hc' with rfl
    · exact f44ok3) (by decide) (by decide) (fun x y h => (ev44 x).trans h)

/-! ### 83: laws.toCell -/
noncomputable def F_laws_toCell (x : Int × Bool × Int) : Option (Int × Bool × Int) :=
  some (x.1, x.2.1, x.2.2)
noncomputable def f83B : Code := match Try.f83.body with
  | some c => c
  | none => .skip
noncomputable def f83K : C.Sem := tab []
noncomputable def f83P : Lp := fun i s {_R} κ => none
theorem k83 : Contract C Try.prog f83K := contract_tab _ (fun p hp => by cases hp)
theorem ev83 (x : Int × Bool × Int) : evalB C f83K f83P 83 Try.f83 f83B ⟨[.v true [(.int .i64), .bool, (.int .i64)] [false, false, false]], [⟨true, [(.int .i64), .bool, (.int .i64)], [false, false, false]⟩], false⟩ [(.int .i64), .bool, (.int .i64)] [(.int .i64), .bool, (.int .i64)] x = F_laws_toCell x := by kernel_rfl
theorem ok83 : ContractAt C Try.prog 83 F_laws_toCell := fn_sound (lp := f83P) tok mixed k83 (by kernel_rfl) (fn := Try.f83) (c := f83B) (sg := ⟨[.v true [(.int .i64), .bool, (.int .i64)] [false, false, false]], [⟨true, [(.int .i64), .bool, (.int .i64)], [false, false, false]⟩], false⟩) Try.func83 (by decide) (by kernel_rfl) (by kernel_rfl) (by kernel_rfl) (fun c' hc' => by
    rw [show loopsOf f83B = [] by kernel_rfl] at hc'
    cases hc') (by decide) (by decide) (fun x y h => (ev83 x).trans h)

/-! ### 45: laws.toCellS -/
abbrev T_laws_toCellS_3 : Type := List E_LCell × Int × List E_Cell
noncomputable def S_laws_toCellS_3 {R : Type} (k0 : List E_Cell → Option R) (again : T_laws_toCellS_3 → Option R) (t3 : T_laws_toCellS_3) : Option R :=
  bif (decide (t3.2.1 < ((List.length t3.1 : Nat) : Int))) then if (0 : Int) ≤ t3.2.1 then if t3.2.1 < ((List.length t3.1 : Nat) : Int) then Option.bind (F_laws_toCell ((rd_LCell t3.1 t3.2.1).1, (rd_LCell t3.1 t3.2.1).2.1, (rd_LCell t3.1 t3.2.1).2.2)) fun r1 => if (0 : Int) ≤ t3.2.1 then if t3.2.1 < ((List.length t3.2.2 : Nat) : Int) then again (t3.1, (Go.IntKind.wrap .i64 (t3.2.1 + (1 : Int))), (List.set t3.2.2 (Int.toNat t3.2.1) (r1.1, r1.2.1, r1.2.2))) else none else none else none else none else k0 t3.2.2
noncomputable def L_laws_toCellS_3 {R : Type} (k0 : List E_Cell → Option R) (t : T_laws_toCellS_3) : Option R := iter (S_laws_toCellS_3 k0) FUEL t
noncomputable def F_laws_toCellS (x : List E_LCell) : Option (List E_Cell) :=
  if (0 : Int) ≤ ((List.length x : Nat) : Int) then if ((List.length x : Nat) : Int) ≤ ((List.length x : Nat) : Int) then if ((List.length x : Nat) : Int) * ((24 : Nat) : Int) ≤ 140737488351232 then L_laws_toCellS_3 (fun x2 => some x2) (x, (0 : Int), (List.replicate (Int.toNat ((List.length x : Nat) : Int)) z_Cell)) else none else none else none
noncomputable def f45B : Code := match Try.f45.body with
  | some c => c
  | none => .skip
noncomputable def f45K : C.Sem := tab [⟨83, F_laws_toCell⟩]
def f45h3_0 : List Sh := [.v (.sl 140 ts_LCell), .dead, .dead, .own 10000000, .v (.int .i64), .dead, .dead, .dead, .dead, .dead, .dead, .dead, .dead, .dead, .dead, .dead, .dead, .dead, .dead, .dead, .dead, .dead, .dead]
def f45o3_0 : List (Nat × OSh) := [(10000000, .root true 138 ts_Cell)]
def f45e3_0 (t : List E_LCell × Int × List E_Cell) : St := ⟨[.val (.sl 140 ts_LCell) t.1, .dead, .dead, .own 10000000, .val (.int .i64) t.2.1, .dead, .dead, .dead, .dead, .dead, .dead, .dead, .dead, .dead, .dead, .dead, .dead, .dead, .dead, .dead, .dead, .dead, .dead], [(10000000, .root true 138 ts_Cell t.2.2)]⟩
def f45x3_0 (t : List E_Cell) : St := ⟨[.dead, .dead, .dead, .own 10000000, .dead, .dead, .dead, .dead, .dead, .dead, .dead, .dead, .dead, .dead, .dead, .dead, .dead, .dead, .dead, .dead, .dead, .dead, .dead], [(10000000, .root true 138 ts_Cell t)]⟩
def f45u3_0 (s : St) : Option (List E_LCell × Int × List E_Cell) := (unS f45h3_0 f45o3_0 s).map fun v => (v.1.1, v.1.2.2.2.2.1, v.2.1)
theorem f45un3_0 : ∀ (s : St) (t : List E_LCell × Int × List E_Cell), f45u3_0 s = some t → f45e3_0 t = s := fun s v h => by
  obtain ⟨u, hu, rfl⟩ := Option.map_eq_some_iff.1 h
  exact (show f45e3_0 (u.1.1, u.1.2.2.2.2.1, u.2.1) = mkS f45h3_0 f45o3_0 u by kernel_rfl).trans (mkS_un f45h3_0 f45o3_0 s u hu)
def f45u3 : St → Option (List E_LCell × Int × List E_Cell) := f45u3_0
def f45e3 : (List E_LCell × Int × List E_Cell) → St := f45e3_0
theorem f45un3 : ∀ (s : St) (t : List E_LCell × Int × List E_Cell), f45u3 s = some t → f45e3 t = s := f45un3_0
noncomputable def f45P : Lp := fun i s {_R} κ => bif Nat.beq i 3 then (f45u3 s).bind fun t => L_laws_toCellS_3 (fun t => κ (some 0) (f45x3_0 t)) t else none
noncomputable def f45c3 : Code := (loopsOf f45B).getD 0 .skip
theorem f45A3 : C.live 45 (firstRegion f45c3) = some ([0, 3, 4], [3]) := by kernel_rfl
theorem f45B3 {R : Type} (κ : Option Nat → St → Option R) (s : St) : f45P (firstRegion f45c3) s κ = (f45u3 s).bind fun t => iter (S_laws_toCellS_3 (fun t => κ (some 0) (f45x3_0 t))) FUEL t := by kernel_rfl
theorem f45C3 {R : Type} (κ : Option Nat → St → Option R) (again : St → Option R) (t : T_laws_toCellS_3) : stepL C f45K f45P 45 f45c3 [0, 3, 4] [3] κ again (f45e3 t) = S_laws_toCellS_3 (fun t => κ (some 0) (f45x3_0 t)) (fun t => again (f45e3 t)) t := by kernel_rfl
theorem f45ok3 : LoopOk C f45K f45P 45 f45c3 := loop_ok f45A3 f45e3 f45u3 f45un3 (fun {_R} κ => S_laws_toCellS_3 (fun t => κ (some 0) (f45x3_0 t))) (fun {_R} κ s => f45B3 κ s) (fun {_R} κ again t => f45C3 κ again t)
theorem k45 : Contract C Try.prog f45K := contract_tab _ (fun p hp => by
    simp only [List.mem_cons, List.mem_nil_iff, or_false] at hp
    rcases hp with rfl
    · exact ok83)
theorem ev45 (x : List E_LCell) : evalB C f45K f45P 45 Try.f45 f45B ⟨[.v false [(.sl 140 ts_LCell)] [false]], [⟨false, [(.sl 138 ts_Cell)], [true]⟩], false⟩ [(.sl 140 ts_LCell)] [(.sl 138 ts_Cell)] x = F_laws_toCellS x := by kernel_rfl
theorem ok45 : ContractAt C Try.prog 45 F_laws_toCellS := fn_sound (lp := f45P) tok mixed k45 (by kernel_rfl) (fn := Try.f45) (c := f45B) (sg := ⟨[.v false [(.sl 140 ts_LCell)] [false]], [⟨false, [(.sl 138 ts_Cell)], [true]⟩], false⟩) Try.func45 (by decide) (by kernel_rfl) (by kernel_rfl) (by kernel_rfl) (fun c' hc' => by
    rw [show loopsOf f45B = [f45c3] by kernel_rfl] at hc'
    simp only [List.mem_cons, List.mem_nil_iff, or_false] at hc'
    rcases hc' with rfl
    · exact f45ok3) (by decide) (by decide) (fun x y h => (ev45 x).trans h)

/-! ### 84: laws.toVol -/
noncomputable def F_laws_toVol (x : ByteArray × Int × Int × Bool) : Option (ByteArray × Int × Int × Bool) :=
  some (x.1, x.2.1, x.2.2.1, x.2.2.2)
noncomputable def f84B : Code := match Try.f84.body with
  | some c => c
  | none => .skip
noncomputable def f84K : C.Sem := tab []
noncomputable def f84P : Lp := fun i s {_R} κ => none
theorem k84 : Contract C Try.prog f84K := contract_tab _ (fun p hp => by cases hp)
theorem ev84 (x : ByteArray × Int × Int × Bool) : evalB C f84K f84P 84 Try.f84 f84B ⟨[.v true [.str, (.int .i64), (.int .i64), .bool] [false, false, false, false]], [⟨true, [.str, (.int .i64), (.int .i64), .bool], [false, false, false, false]⟩], false⟩ [.str, (.int .i64), (.int .i64), .bool] [.str, (.int .i64), (.int .i64), .bool] x = F_laws_toVol x := by kernel_rfl
theorem ok84 : ContractAt C Try.prog 84 F_laws_toVol := fn_sound (lp := f84P) tok mixed k84 (by kernel_rfl) (fn := Try.f84) (c := f84B) (sg := ⟨[.v true [.str, (.int .i64), (.int .i64), .bool] [false, false, false, false]], [⟨true, [.str, (.int .i64), (.int .i64), .bool], [false, false, false, false]⟩], false⟩) Try.func84 (by decide) (by kernel_rfl) (by kernel_rfl) (by kernel_rfl) (fun c' hc' => by
    rw [show loopsOf f84B = [] by kernel_rfl] at hc'
    cases hc') (by decide) (by decide) (fun x y h => (ev84 x).trans h)

/-! ### 46: laws.toVolS -/
abbrev T_laws_toVolS_3 : Type := List E_LVol × Int × List E_Vol
noncomputable def S_laws_toVolS_3 {R : Type} (k0 : List E_Vol → Option R) (again : T_laws_toVolS_3 → Option R) (t3 : T_laws_toVolS_3) : Option R :=
  bif (decide (t3.2.1 < ((List.length t3.1 : Nat) : Int))) then if (0 : Int) ≤ t3.2.1 then if t3.2.1 < ((List.length t3.1 : Nat) : Int) then Option.bind (F_laws_toVol ((rd_LVol t3.1 t3.2.1).1, (rd_LVol t3.1 t3.2.1).2.1, (rd_LVol t3.1 t3.2.1).2.2.1, (rd_LVol t3.1 t3.2.1).2.2.2)) fun r1 => if (0 : Int) ≤ t3.2.1 then if t3.2.1 < ((List.length t3.2.2 : Nat) : Int) then again (t3.1, (Go.IntKind.wrap .i64 (t3.2.1 + (1 : Int))), (List.set t3.2.2 (Int.toNat t3.2.1) (r1.1, r1.2.1, r1.2.2.1, r1.2.2.2))) else none else none else none else none else k0 t3.2.2
noncomputable def L_laws_toVolS_3 {R : Type} (k0 : List E_Vol → Option R) (t : T_laws_toVolS_3) : Option R := iter (S_laws_toVolS_3 k0) FUEL t
noncomputable def F_laws_toVolS (x : List E_LVol) : Option (List E_Vol) :=
  if (0 : Int) ≤ ((List.length x : Nat) : Int) then if ((List.length x : Nat) : Int) ≤ ((List.length x : Nat) : Int) then if ((List.length x : Nat) : Int) * ((40 : Nat) : Int) ≤ 140737488351232 then L_laws_toVolS_3 (fun x2 => some x2) (x, (0 : Int), (List.replicate (Int.toNat ((List.length x : Nat) : Int)) z_Vol)) else none else none else none
noncomputable def f46B : Code := match Try.f46.body with
  | some c => c
  | none => .skip
noncomputable def f46K : C.Sem := tab [⟨84, F_laws_toVol⟩]
def f46h3_0 : List Sh := [.v (.sl 124 ts_LVol), .dead, .dead, .own 10000000, .v (.int .i64), .dead, .dead, .dead, .dead, .dead, .dead, .dead, .dead, .dead, .dead, .dead, .dead, .dead, .dead, .dead, .dead, .dead, .dead]
def f46o3_0 : List (Nat × OSh) := [(10000000, .root true 129 ts_Vol)]
def f46e3_0 (t : List E_LVol × Int × List E_Vol) : St := ⟨[.val (.sl 124 ts_LVol) t.1, .dead, .dead, .own 10000000, .val (.int .i64) t.2.1, .dead, .dead, .dead, .dead, .dead, .dead, .dead, .dead, .dead, .dead, .dead, .dead, .dead, .dead, .dead, .dead, .dead, .dead], [(10000000, .root true 129 ts_Vol t.2.2)]⟩
def f46x3_0 (t : List E_Vol) : St := ⟨[.dead, .dead, .dead, .own 10000000, .dead, .dead, .dead, .dead, .dead, .dead, .dead, .dead, .dead, .dead, .dead, .dead, .dead, .dead, .dead, .dead, .dead, .dead, .dead], [(10000000, .root true 129 ts_Vol t)]⟩
def f46u3_0 (s : St) : Option (List E_LVol × Int × List E_Vol) := (unS f46h3_0 f46o3_0 s).map fun v => (v.1.1, v.1.2.2.2.2.1, v.2.1)
theorem f46un3_0 : ∀ (s : St) (t : List E_LVol × Int × List E_Vol), f46u3_0 s = some t → f46e3_0 t = s := fun s v h => by
  obtain ⟨u, hu, rfl⟩ := Option.map_eq_some_iff.1 h
  exact (show f46e3_0 (u.1.1, u.1.2.2.2.2.1, u.2.1) = mkS f46h3_0 f46o3_0 u by kernel_rfl).trans (mkS_un f46h3_0 f46o3_0 s u hu)
def f46u3 : St → Option (List E_LVol × Int × List E_Vol) := f46u3_0
def f46e3 : (List E_LVol × Int × List E_Vol) → St := f46e3_0
theorem f46un3 : ∀ (s : St) (t : List E_LVol × Int × List E_Vol), f46u3 s = some t → f46e3 t = s := f46un3_0
noncomputable def f46P : Lp := fun i s {_R} κ => bif Nat.beq i 3 then (f46u3 s).bind fun t => L_laws_toVolS_3 (fun t => κ (some 0) (f46x3_0 t)) t else none
noncomputable def f46c3 : Code := (loopsOf f46B).getD 0 .skip
theorem f46A3 : C.live 46 (firstRegion f46c3) = some ([0, 3, 4], [3]) := by kernel_rfl
theorem f46B3 {R : Type} (κ : Option Nat → St → Option R) (s : St) : f46P (firstRegion f46c3) s κ = (f46u3 s).bind fun t => iter (S_laws_toVolS_3 (fun t => κ (some 0) (f46x3_0 t))) FUEL t := by kernel_rfl
theorem f46C3 {R : Type} (κ : Option Nat → St → Option R) (again : St → Option R) (t : T_laws_toVolS_3) : stepL C f46K f46P 46 f46c3 [0, 3, 4] [3] κ again (f46e3 t) = S_laws_toVolS_3 (fun t => κ (some 0) (f46x3_0 t)) (fun t => again (f46e3 t)) t := by kernel_rfl
theorem f46ok3 : LoopOk C f46K f46P 46 f46c3 := loop_ok f46A3 f46e3 f46u3 f46un3 (fun {_R} κ => S_laws_toVolS_3 (fun t => κ (some 0) (f46x3_0 t))) (fun {_R} κ s => f46B3 κ s) (fun {_R} κ again t => f46C3 κ again t)
theorem k46 : Contract C Try.prog f46K := contract_tab _ (fun p hp => by
    simp only [List.mem_cons, List.mem_nil_iff, or_false] at hp
    rcases hp with rfl
    · exact ok84)
theorem ev46 (x : List E_LVol) : evalB C f46K f46P 46 Try.f46 f46B ⟨[.v false [(.sl 124 ts_LVol)] [false]], [⟨false, [(.sl 129 ts_Vol)], [true]⟩], false⟩ [(.sl 124 ts_LVol)] [(.sl 129 ts_Vol)] x = F_laws_toVolS x := by kernel_rfl
theorem ok46 : ContractAt C Try.prog 46 F_laws_toVolS := fn_sound (lp := f46P) tok mixed k46 (by kernel_rfl) (fn := Try.f46) (c := f46B) (sg := ⟨[.v false [(.sl 124 ts_LVol)] [false]], [⟨false, [(.sl 129 ts_Vol)], [true]⟩], false⟩) Try.func46 (by decide) (by kernel_rfl) (by kernel_rfl) (by kernel_rfl) (fun c' hc' => by
    rw [show loopsOf f46B = [f46c3] by kernel_rfl] at hc'
    simp only [List.mem_cons, List.mem_nil_iff, or_false] at hc'
    rcases hc' with rfl
    · exact f46ok3) (by decide) (by decide) (fun x y h => (ev46 x).trans h)

/-! ### 16: laws.toPool -/
noncomputable def F_laws_toPool (x : List E_i64 × List E_LNode × List E_LAge × List E_LCell × List E_LVol × Int) : Option (List E_i64 × List E_Node × List E_Age × List E_Cell × List E_Vol × Int) :=
  Option.bind (F_laws_toTree (x.1, x.2.1)) fun r1 => Option.bind (F_laws_toAgeS x.2.2.1) fun r2 => Option.bind (F_laws_toCellS x.2.2.2.1) fun r3 => Option.bind (F_laws_toVolS x.2.2.2.2.1) fun r4 => some (r1.1, r1.2, r2, r3, r4, x.2.2.2.2.2)
noncomputable def f16B : Code := match Try.f16.body with
  | some c => c
  | none => .skip
noncomputable def f16K : C.Sem := tab [⟨43, F_laws_toTree⟩, ⟨44, F_laws_toAgeS⟩, ⟨45, F_laws_toCellS⟩, ⟨46, F_laws_toVolS⟩]
noncomputable def f16P : Lp := fun i s {_R} κ => none
theorem k16 : Contract C Try.prog f16K := contract_tab _ (fun p hp => by
    simp only [List.mem_cons, List.mem_nil_iff, or_false] at hp
    rcases hp with rfl | rfl | rfl | rfl
    · exact ok43
    · exact ok44
    · exact ok45
    · exact ok46)
theorem ev16 (x : List E_i64 × List E_LNode × List E_LAge × List E_LCell × List E_LVol × Int) : evalB C f16K f16P 16 Try.f16 f16B ⟨[.v true [(.sl 3 ts_i64), (.sl 155 ts_LNode), (.sl 136 ts_LAge), (.sl 140 ts_LCell), (.sl 124 ts_LVol), (.int .i64)] [false, false, false, false, false, false]], [⟨true, [(.sl 3 ts_i64), (.sl 128 ts_Node), (.sl 134 ts_Age), (.sl 138 ts_Cell), (.sl 129 ts_Vol), (.int .i64)], [true, true, true, true, true, false]⟩], false⟩ [(.sl 3 ts_i64), (.sl 155 ts_LNode), (.sl 136 ts_LAge), (.sl 140 ts_LCell), (.sl 124 ts_LVol), (.int .i64)] [(.sl 3 ts_i64), (.sl 128 ts_Node), (.sl 134 ts_Age), (.sl 138 ts_Cell), (.sl 129 ts_Vol), (.int .i64)] x = F_laws_toPool x := by kernel_rfl
theorem ok16 : ContractAt C Try.prog 16 F_laws_toPool := fn_sound (lp := f16P) tok mixed k16 (by kernel_rfl) (fn := Try.f16) (c := f16B) (sg := ⟨[.v true [(.sl 3 ts_i64), (.sl 155 ts_LNode), (.sl 136 ts_LAge), (.sl 140 ts_LCell), (.sl 124 ts_LVol), (.int .i64)] [false, false, false, false, false, false]], [⟨true, [(.sl 3 ts_i64), (.sl 128 ts_Node), (.sl 134 ts_Age), (.sl 138 ts_Cell), (.sl 129 ts_Vol), (.int .i64)], [true, true, true, true, true, false]⟩], false⟩) Try.func16 (by decide) (by kernel_rfl) (by kernel_rfl) (by kernel_rfl) (fun c' hc' => by
    rw [show loopsOf f16B = [] by kernel_rfl] at hc'
    cases hc') (by decide) (by decide) (fun x y h => (ev16 x).trans h)

/-! ### 118: impl.copyKeys -/
noncomputable def F_impl_copyKeys (x : List E_Key) : Option (List E_Key) :=
  if (List.length ([] : List E_Key) + List.length x) * 40 < 140737488355328 then some (([] : List E_Key) ++ x) else none
noncomputable def f118B : Code := match Try.f118.body with
  | some c => c
  | none => .skip
noncomputable def f118K : C.Sem := tab []
noncomputable def f118P : Lp := fun i s {_R} κ => none
theorem k118 : Contract C Try.prog f118K := contract_tab _ (fun p hp => by cases hp)
theorem ev118 (x : List E_Key) : evalB C f118K f118P 118 Try.f118 f118B ⟨[.v false [(.sl 86 ts_Key)] [false]], [⟨false, [(.sl 86 ts_Key)], [true]⟩], false⟩ [(.sl 86 ts_Key)] [(.sl 86 ts_Key)] x = F_impl_copyKeys x := by kernel_rfl
theorem ok118 : ContractAt C Try.prog 118 F_impl_copyKeys := fn_sound (lp := f118P) tok mixed k118 (by kernel_rfl) (fn := Try.f118) (c := f118B) (sg := ⟨[.v false [(.sl 86 ts_Key)] [false]], [⟨false, [(.sl 86 ts_Key)], [true]⟩], false⟩) Try.func118 (by decide) (by kernel_rfl) (by kernel_rfl) (by kernel_rfl) (fun c' hc' => by
    rw [show loopsOf f118B = [] by kernel_rfl] at hc'
    cases hc') (by decide) (by decide) (fun x y h => (ev118 x).trans h)

/-! ### 130: impl.LessKey -/
noncomputable def F_impl_LessKey (x : Int × Int × Int × Int × Int × Int × Int × Int × Int × Int) : Option (Bool) :=
  Option.bind (bif (decide (x.1 < x.2.2.2.2.2.1)) then some true else Option.bind (bif (x.1 == x.2.2.2.2.2.1) then some (decide (x.2.1 < x.2.2.2.2.2.2.1)) else some false) fun u2 => some u2) fun u1 => some u1
noncomputable def f130B : Code := match Try.f130.body with
  | some c => c
  | none => .skip
noncomputable def f130K : C.Sem := tab []
noncomputable def f130P : Lp := fun i s {_R} κ => none
theorem k130 : Contract C Try.prog f130K := contract_tab _ (fun p hp => by cases hp)
theorem ev130 (x : Int × Int × Int × Int × Int × Int × Int × Int × Int × Int) : evalB C f130K f130P 130 Try.f130 f130B ⟨[.v true [(.int .i64), (.int .i64), (.int .i64), (.int .i64), (.int .i64)] [false, false, false, false, false], .v true [(.int .i64), (.int .i64), (.int .i64), (.int .i64), (.int .i64)] [false, false, false, false, false]], [⟨false, [.bool], [false]⟩], false⟩ [(.int .i64), (.int .i64), (.int .i64), (.int .i64), (.int .i64), (.int .i64), (.int .i64), (.int .i64), (.int .i64), (.int .i64)] [.bool] x = F_impl_LessKey x := by kernel_rfl
theorem ok130 : ContractAt C Try.prog 130 F_impl_LessKey := fn_sound (lp := f130P) tok mixed k130 (by kernel_rfl) (fn := Try.f130) (c := f130B) (sg := ⟨[.v true [(.int .i64), (.int .i64), (.int .i64), (.int .i64), (.int .i64)] [false, false, false, false, false], .v true [(.int .i64), (.int .i64), (.int .i64), (.int .i64), (.int .i64)] [false, false, false, false, false]], [⟨false, [.bool], [false]⟩], false⟩) Try.func130 (by decide) (by kernel_rfl) (by kernel_rfl) (by kernel_rfl) (fun c' hc' => by
    rw [show loopsOf f130B = [] by kernel_rfl] at hc'
    cases hc') (by decide) (by decide) (fun x y h => (ev130 x).trans h)

/-! ### 131: impl.SameSpot -/
noncomputable def F_impl_SameSpot (x : Int × Int × Int × Int × Int × Int × Int × Int × Int × Int) : Option (Bool) :=
  Option.bind (bif (x.1 == x.2.2.2.2.2.1) then some (x.2.1 == x.2.2.2.2.2.2.1) else some false) fun u1 => some u1
noncomputable def f131B : Code := match Try.f131.body with
  | some c => c
  | none => .skip
noncomputable def f131K : C.Sem := tab []
noncomputable def f131P : Lp := fun i s {_R} κ => none
theorem k131 : Contract C Try.prog f131K := contract_tab _ (fun p hp => by cases hp)
theorem ev131 (x : Int × Int × Int × Int × Int × Int × Int × Int × Int × Int) : evalB C f131K f131P 131 Try.f131 f131B ⟨[.v true [(.int .i64), (.int .i64), (.int .i64), (.int .i64), (.int .i64)] [false, false, false, false, false], .v true [(.int .i64), (.int .i64), (.int .i64), (.int .i64), (.int .i64)] [false, false, false, false, false]], [⟨false, [.bool], [false]⟩], false⟩ [(.int .i64), (.int .i64), (.int .i64), (.int .i64), (.int .i64), (.int .i64), (.int .i64), (.int .i64), (.int .i64), (.int .i64)] [.bool] x = F_impl_SameSpot x := by kernel_rfl
theorem ok131 : ContractAt C Try.prog 131 F_impl_SameSpot := fn_sound (lp := f131P) tok mixed k131 (by kernel_rfl) (fn := Try.f131) (c := f131B) (sg := ⟨[.v true [(.int .i64), (.int .i64), (.int .i64), (.int .i64), (.int .i64)] [false, false, false, false, false], .v true [(.int .i64), (.int .i64), (.int .i64), (.int .i64), (.int .i64)] [false, false, false, false, false]], [⟨false, [.bool], [false]⟩], false⟩) Try.func131 (by decide) (by kernel_rfl) (by kernel_rfl) (by kernel_rfl) (fun c' hc' => by
    rw [show loopsOf f131B = [] by kernel_rfl] at hc'
    cases hc') (by decide) (by decide) (fun x y h => (ev131 x).trans h)

/-! ### 119: impl.SetPut -/
abbrev T_impl_SetPut_4 : Type := Bool × List E_Key × Int × Int × Int × Int × Int × Int × Int × List E_Key
noncomputable def S_impl_SetPut_4 {R : Type} (k0 : (Bool × Int × Int × Int × Int × Int × List E_Key) → Option R) (again : T_impl_SetPut_4 → Option R) (t4 : T_impl_SetPut_4) : Option R :=
  bif (decide (t4.2.2.2.1 < t4.2.2.1)) then if (0 : Int) ≤ t4.2.2.2.1 then if t4.2.2.2.1 < ((List.length t4.2.1 : Nat) : Int) then Option.bind (bif (!t4.1) then Option.bind (F_impl_LessKey ((rd_Key t4.2.1 t4.2.2.2.1).1, (rd_Key t4.2.1 t4.2.2.2.1).2.1, (rd_Key t4.2.1 t4.2.2.2.1).2.2.1, (rd_Key t4.2.1 t4.2.2.2.1).2.2.2.1, (rd_Key t4.2.1 t4.2.2.2.1).2.2.2.2, t4.2.2.2.2.1, t4.2.2.2.2.2.1, t4.2.2.2.2.2.2.1, t4.2.2.2.2.2.2.2.1, t4.2.2.2.2.2.2.2.2.1)) fun r2 => some (!r2) else some false) fun u1 => bif u1 then if (List.length t4.2.2.2.2.2.2.2.2.2 + List.length ([(t4.2.2.2.2.1, t4.2.2.2.2.2.1, t4.2.2.2.2.2.2.1, t4.2.2.2.2.2.2.2.1, t4.2.2.2.2.2.2.2.2.1)] : List E_Key)) * 40 < 140737488355328 then Option.bind (F_impl_SameSpot ((rd_Key t4.2.1 t4.2.2.2.1).1, (rd_Key t4.2.1 t4.2.2.2.1).2.1, (rd_Key t4.2.1 t4.2.2.2.1).2.2.1, (rd_Key t4.2.1 t4.2.2.2.1).2.2.2.1, (rd_Key t4.2.1 t4.2.2.2.1).2.2.2.2, t4.2.2.2.2.1, t4.2.2.2.2.2.1, t4.2.2.2.2.2.2.1, t4.2.2.2.2.2.2.2.1, t4.2.2.2.2.2.2.2.2.1)) fun r3 => bif (!r3) then if (List.length (t4.2.2.2.2.2.2.2.2.2 ++ ([(t4.2.2.2.2.1, t4.2.2.2.2.2.1, t4.2.2.2.2.2.2.1, t4.2.2.2.2.2.2.2.1, t4.2.2.2.2.2.2.2.2.1)] : List E_Key)) + List.length ([((rd_Key t4.2.1 t4.2.2.2.1).1, (rd_Key t4.2.1 t4.2.2.2.1).2.1, (rd_Key t4.2.1 t4.2.2.2.1).2.2.1, (rd_Key t4.2.1 t4.2.2.2.1).2.2.2.1, (rd_Key t4.2.1 t4.2.2.2.1).2.2.2.2)] : List E_Key)) * 40 < 140737488355328 then again (true, t4.2.1, t4.2.2.1, (Go.IntKind.wrap .i64 (t4.2.2.2.1 + (1 : Int))), t4.2.2.2.2.1, t4.2.2.2.2.2.1, t4.2.2.2.2.2.2.1, t4.2.2.2.2.2.2.2.1, t4.2.2.2.2.2.2.2.2.1, ((t4.2.2.2.2.2.2.2.2.2 ++ ([(t4.2.2.2.2.1, t4.2.2.2.2.2.1, t4.2.2.2.2.2.2.1, t4.2.2.2.2.2.2.2.1, t4.2.2.2.2.2.2.2.2.1)] : List E_Key)) ++ ([((rd_Key t4.2.1 t4.2.2.2.1).1, (rd_Key t4.2.1 t4.2.2.2.1).2.1, (rd_Key t4.2.1 t4.2.2.2.1).2.2.1, (rd_Key t4.2.1 t4.2.2.2.1).2.2.2.1, (rd_Key t4.2.1 t4.2.2.2.1).2.2.2.2)] : List E_Key))) else none else again (true, t4.2.1, t4.2.2.1, (Go.IntKind.wrap .i64 (t4.2.2.2.1 + (1 : Int))), t4.2.2.2.2.1, t4.2.2.2.2.2.1, t4.2.2.2.2.2.2.1, t4.2.2.2.2.2.2.2.1, t4.2.2.2.2.2.2.2.2.1, (t4.2.2.2.2.2.2.2.2.2 ++ ([(t4.2.2.2.2.1, t4.2.2.2.2.2.1, t4.2.2.2.2.2.2.1, t4.2.2.2.2.2.2.2.1, t4.2.2.2.2.2.2.2.2.1)] : List E_Key))) else none else Option.bind (F_impl_SameSpot ((rd_Key t4.2.1 t4.2.2.2.1).1, (rd_Key t4.2.1 t4.2.2.2.1).2.1, (rd_Key t4.2.1 t4.2.2.2.1).2.2.1, (rd_Key t4.2.1 t4.2.2.2.1).2.2.2.1, (rd_Key t4.2.1 t4.2.2.2.1).2.2.2.2, t4.2.2.2.2.1, t4.2.2.2.2.2.1, t4.2.2.2.2.2.2.1, t4.2.2.2.2.2.2.2.1, t4.2.2.2.2.2.2.2.2.1)) fun r4 => bif (!r4) then if (List.length t4.2.2.2.2.2.2.2.2.2 + List.length ([((rd_Key t4.2.1 t4.2.2.2.1).1, (rd_Key t4.2.1 t4.2.2.2.1).2.1, (rd_Key t4.2.1 t4.2.2.2.1).2.2.1, (rd_Key t4.2.1 t4.2.2.2.1).2.2.2.1, (rd_Key t4.2.1 t4.2.2.2.1).2.2.2.2)] : List E_Key)) * 40 < 140737488355328 then again (t4.1, t4.2.1, t4.2.2.1, (Go.IntKind.wrap .i64 (t4.2.2.2.1 + (1 : Int))), t4.2.2.2.2.1, t4.2.2.2.2.2.1, t4.2.2.2.2.2.2.1, t4.2.2.2.2.2.2.2.1, t4.2.2.2.2.2.2.2.2.1, (t4.2.2.2.2.2.2.2.2.2 ++ ([((rd_Key t4.2.1 t4.2.2.2.1).1, (rd_Key t4.2.1 t4.2.2.2.1).2.1, (rd_Key t4.2.1 t4.2.2.2.1).2.2.1, (rd_Key t4.2.1 t4.2.2.2.1).2.2.2.1, (rd_Key t4.2.1 t4.2.2.2.1).2.2.2.2)] : List E_Key))) else none else again (t4.1, t4.2.1, t4.2.2.1, (Go.IntKind.wrap .i64 (t4.2.2.2.1 + (1 : Int))), t4.2.2.2.2.1, t4.2.2.2.2.2.1, t4.2.2.2.2.2.2.1, t4.2.2.2.2.2.2.2.1, t4.2.2.2.2.2.2.2.2.1, t4.2.2.2.2.2.2.2.2.2) else none else none else k0 (t4.1, t4.2.2.2.2.1, t4.2.2.2.2.2.1, t4.2.2.2.2.2.2.1, t4.2.2.2.2.2.2.2.1, t4.2.2.2.2.2.2.2.2.1, t4.2.2.2.2.2.2.2.2.2)
noncomputable def L_impl_SetPut_4 {R : Type} (k0 : (Bool × Int × Int × Int × Int × Int × List E_Key) → Option R) (t : T_impl_SetPut_4) : Option R := iter (S_impl_SetPut_4 k0) FUEL t
noncomputable def F_impl_SetPut (x : List E_Key × Int × Int × Int × Int × Int) : Option (List E_Key) :=
  L_impl_SetPut_4 (fun x5 => bif (!x5.1) then if (List.length x5.2.2.2.2.2.2 + List.length ([(x5.2.1, x5.2.2.1, x5.2.2.2.1, x5.2.2.2.2.1, x5.2.2.2.2.2.1)] : List E_Key)) * 40 < 140737488355328 then some (x5.2.2.2.2.2.2 ++ ([(x5.2.1, x5.2.2.1, x5.2.2.2.1, x5.2.2.2.2.1, x5.2.2.2.2.2.1)] : List E_Key)) else none else some x5.2.2.2.2.2.2) (false, x.1, ((List.length x.1 : Nat) : Int), (0 : Int), x.2.1, x.2.2.1, x.2.2.2.1, x.2.2.2.2.1, x.2.2.2.2.2, ([] : List E_Key))
noncomputable def f119B : Code := match Try.f119.body with
  | some c => c
  | none => .skip
noncomputable def f119K : C.Sem := tab [⟨130, F_impl_LessKey⟩, ⟨131, F_impl_SameSpot⟩]
def f119h4_0 : List Sh := [.dead, .dead, .dead, .box 3 0, .dead, .own 10000000, .v .bool, .dead, .dead, .dead, .v (.sl 86 ts_Key), .v (.int .i64), .v (.int .i64), .dead, .dead, .dead, .dead, .dead, .dead, .dead, .dead, .dead, .dead, .dead, .dead, .dead, .dead, .dead, .dead, .dead, .dead, .dead, .dead, .dead, .dead, .dead, .dead, .dead, .dead, .dead, .dead, .dead, .dead, .dead]
def f119o4_0 : List (Nat × OSh) := [(3, .box [.v (.int .i64), .v (.int .i64), .v (.int .i64), .v (.int .i64), .v (.int .i64)]), (10000000, .root true 86 ts_Key)]
def f119e4_0 (t : Bool × List E_Key × Int × Int × Int × Int × Int × Int × Int × List E_Key) : St := ⟨[.dead, .dead, .dead, .box 3 0, .dead, .own 10000000, .val .bool t.1, .dead, .dead, .dead, .val (.sl 86 ts_Key) t.2.1, .val (.int .i64) t.2.2.1, .val (.int .i64) t.2.2.2.1, .dead, .dead, .dead, .dead, .dead, .dead, .dead, .dead, .dead, .dead, .dead, .dead, .dead, .dead, .dead, .dead, .dead, .dead, .dead, .dead, .dead, .dead, .dead, .dead, .dead, .dead, .dead, .dead, .dead, .dead, .dead], [(3, .box [.val (.int .i64) t.2.2.2.2.1, .val (.int .i64) t.2.2.2.2.2.1, .val (.int .i64) t.2.2.2.2.2.2.1, .val (.int .i64) t.2.2.2.2.2.2.2.1, .val (.int .i64) t.2.2.2.2.2.2.2.2.1]), (10000000, .root true 86 ts_Key t.2.2.2.2.2.2.2.2.2)]⟩
def f119x4_0 (t : Bool × Int × Int × Int × Int × Int × List E_Key) : St := ⟨[.dead, .dead, .dead, .box 3 0, .dead, .own 10000000, .val .bool t.1, .dead, .dead, .dead, .dead, .dead, .dead, .dead, .dead, .dead, .dead, .dead, .dead, .dead, .dead, .dead, .dead, .dead, .dead, .dead, .dead, .dead, .dead, .dead, .dead, .dead, .dead, .dead, .dead, .dead, .dead, .dead, .dead, .dead, .dead, .dead, .dead, .dead], [(3, .box [.val (.int .i64) t.2.1, .val (.int .i64) t.2.2.1, .val (.int .i64) t.2.2.2.1, .val (.int .i64) t.2.2.2.2.1, .val (.int .i64) t.2.2.2.2.2.1]), (10000000, .root true 86 ts_Key t.2.2.2.2.2.2)]⟩
def f119u4_0 (s : St) : Option (Bool × List E_Key × Int × Int × Int × Int × Int × Int × Int × List E_Key) := (unS f119h4_0 f119o4_0 s).map fun v => (v.1.2.2.2.2.2.2.1, v.1.2.2.2.2.2.2.2.2.2.2.1, v.1.2.2.2.2.2.2.2.2.2.2.2.1, v.1.2.2.2.2.2.2.2.2.2.2.2.2.1, v.2.1.1, v.2.1.2.1, v.2.1.2.2.1, v.2.1.2.2.2.1, v.2.1.2.2.2.2.1, v.2.2.1)
theorem f119un4_0 : ∀ (s : St) (t : Bool × List E_Key × Int × Int × Int × Int × Int × Int × Int × List E_Key), f119u4_0 s = some t → f119e4_0 t = s := fun s v h => by
  obtain ⟨u, hu, rfl⟩ := Option.map_eq_some_iff.1 h
  exact (show f119e4_0 (u.1.2.2.2.2.2.2.1, u.1.2.2.2.2.2.2.2.2.2.2.1, u.1.2.2.2.2.2.2.2.2.2.2.2.1, u.1.2.2.2.2.2.2.2.2.2.2.2.2.1, u.2.1.1, u.2.1.2.1, u.2.1.2.2.1, u.2.1.2.2.2.1, u.2.1.2.2.2.2.1, u.2.2.1) = mkS f119h4_0 f119o4_0 u by kernel_rfl).trans (mkS_un f119h4_0 f119o4_0 s u hu)
def f119u4 : St → Option (Bool × List E_Key × Int × Int × Int × Int × Int × Int × Int × List E_Key) := f119u4_0
def f119e4 : (Bool × List E_Key × Int × Int × Int × Int × Int × Int × Int × List E_Key) → St := f119e4_0
theorem f119un4 : ∀ (s : St) (t : Bool × List E_Key × Int × Int × Int × Int × Int × Int × Int × List E_Key), f119u4 s = some t → f119e4 t = s := f119un4_0
noncomputable def f119P : Lp := fun i s {_R} κ => bif Nat.beq i 4 then (f119u4 s).bind fun t => L_impl_SetPut_4 (fun t => κ (some 0) (f119x4_0 t)) t else none
noncomputable def f119c4 : Code := (loopsOf f119B).getD 0 .skip
theorem f119A4 : C.live 119 (firstRegion f119c4) = some ([3, 5, 6, 10, 11, 12, 19, 20, 21, 22], [3, 5, 6]) := by kernel_rfl
theorem f119B4 {R : Type} (κ : Option Nat → St → Option R) (s : St) : f119P (firstRegion f119c4) s κ = (f119u4 s).bind fun t => iter (S_impl_SetPut_4 (fun t => κ (some 0) (f119x4_0 t))) FUEL t := by kernel_rfl
theorem f119C4 {R : Type} (κ : Option Nat → St → Option R) (again : St → Option R) (t : T_impl_SetPut_4) : stepL C f119K f119P 119 f119c4 [3, 5, 6, 10, 11, 12, 19, 20, 21, 22] [3, 5, 6] κ again (f119e4 t) = S_impl_SetPut_4 (fun t => κ (some 0) (f119x4_0 t)) (fun t => again (f119e4 t)) t := by kernel_rfl
theorem f119ok4 : LoopOk C f119K f119P 119 f119c4 := loop_ok f119A4 f119e4 f119u4 f119un4 (fun {_R} κ => S_impl_SetPut_4 (fun t => κ (some 0) (f119x4_0 t))) (fun {_R} κ s => f119B4 κ s) (fun {_R} κ again t => f119C4 κ again t)
theorem k119 : Contract C Try.prog f119K := contract_tab _ (fun p hp => by
    simp only [List.mem_cons, List.mem_nil_iff, or_false] at hp
    rcases hp with rfl | rfl
    · exact ok130
    · exact ok131)
theorem ev119 (x : List E_Key × Int × Int × Int × Int × Int) : evalB C f119K f119P 119 Try.f119 f119B ⟨[.v false [(.sl 86 ts_Key)] [false], .v true [(.int .i64), (.int .i64), (.int .i64), (.int .i64), (.int .i64)] [false, false, false, false, false]], [⟨false, [(.sl 86 ts_Key)], [true]⟩], false⟩ [(.sl 86 ts_Key), (.int .i64), (.int .i64), (.int .i64), (.int .i64), (.int .i64)] [(.sl 86 ts_Key)] x = F_impl_SetPut x := by kernel_rfl
theorem ok119 : ContractAt C Try.prog 119 F_impl_SetPut := fn_sound (lp := f119P) tok mixed k119 (by kernel_rfl) (fn := Try.f119) (c := f119B) (sg := ⟨[.v false [(.sl 86 ts_Key)] [false], .v true [(.int .i64), (.int .i64), (.int .i64), (.int .i64), (.int .i64)] [false, false, false, false, false]], [⟨false, [(.sl 86 ts_Key)], [true]⟩], false⟩) Try.func119 (by decide) (by kernel_rfl) (by kernel_rfl) (by kernel_rfl) (fun c' hc' => by
    rw [show loopsOf f119B = [f119c4] by kernel_rfl] at hc'
    simp only [List.mem_cons, List.mem_nil_iff, or_false] at hc'
    rcases hc' with rfl
    · exact f119ok4) (by decide) (by decide) (fun x y h => (ev119 x).trans h)

/-! ### 103: impl.MergeSets -/
abbrev T_impl_MergeSets_3 : Type := List E_Key × Int × Int × List E_Key
noncomputable def S_impl_MergeSets_3 {R : Type} (k0 : List E_Key → Option R) (again : T_impl_MergeSets_3 → Option R) (t3 : T_impl_MergeSets_3) : Option R :=
  bif (decide (t3.2.2.1 < t3.2.1)) then if (0 : Int) ≤ t3.2.2.1 then if t3.2.2.1 < ((List.length t3.1 : Nat) : Int) then Option.bind (F_impl_SetPut (t3.2.2.2, (rd_Key t3.1 t3.2.2.1).1, (rd_Key t3.1 t3.2.2.1).2.1, (rd_Key t3.1 t3.2.2.1).2.2.1, (rd_Key t3.1 t3.2.2.1).2.2.2.1, (rd_Key t3.1 t3.2.2.1).2.2.2.2)) fun r2 => again (t3.1, t3.2.1, (Go.IntKind.wrap .i64 (t3.2.2.1 + (1 : Int))), r2) else none else none else k0 t3.2.2.2
noncomputable def L_impl_MergeSets_3 {R : Type} (k0 : List E_Key → Option R) (t : T_impl_MergeSets_3) : Option R := iter (S_impl_MergeSets_3 k0) FUEL t
noncomputable def F_impl_MergeSets (x : List E_Key × List E_Key) : Option (List E_Key) :=
  Option.bind (F_impl_copyKeys x.1) fun r1 => L_impl_MergeSets_3 (fun x3 => some x3) (x.2, ((List.length x.2 : Nat) : Int), (0 : Int), r1)
noncomputable def f103B : Code := match Try.f103.body with
  | some c => c
  | none => .skip
noncomputable def f103K : C.Sem := tab [⟨118, F_impl_copyKeys⟩, ⟨119, F_impl_SetPut⟩]
def f103h3_0 : List Sh := [.dead, .dead, .dead, .dead, .dead, .own 10000000, .dead, .dead, .dead, .dead, .v (.sl 86 ts_Key), .v (.int .i64), .v (.int .i64), .dead, .dead, .dead, .dead, .dead, .dead, .dead, .dead]
def f103o3_0 : List (Nat × OSh) := [(10000000, .root true 86 ts_Key)]
def f103e3_0 (t : List E_Key × Int × Int × List E_Key) : St := ⟨[.dead, .dead, .dead, .dead, .dead, .own 10000000, .dead, .dead, .dead, .dead, .val (.sl 86 ts_Key) t.1, .val (.int .i64) t.2.1, .val (.int .i64) t.2.2.1, .dead, .dead, .dead, .dead, .dead, .dead, .dead, .dead], [(10000000, .root true 86 ts_Key t.2.2.2)]⟩
def f103x3_0 (t : List E_Key) : St := ⟨[.dead, .dead, .dead, .dead, .dead, .own 10000000, .dead, .dead, .dead, .dead, .dead, .dead, .dead, .dead, .dead, .dead, .dead, .dead, .dead, .dead, .dead], [(10000000, .root true 86 ts_Key t)]⟩
def f103u3_0 (s : St) : Option (List E_Key × Int × Int × List E_Key) := (unS f103h3_0 f103o3_0 s).map fun v => (v.1.2.2.2.2.2.2.2.2.2.2.1, v.1.2.2.2.2.2.2.2.2.2.2.2.1, v.1.2.2.2.2.2.2.2.2.2.2.2.2.1, v.2.1)
theorem f103un3_0 : ∀ (s : St) (t : List E_Key × Int × Int × List E_Key), f103u3_0 s = some t → f103e3_0 t = s := fun s v h => by
  obtain ⟨u, hu, rfl⟩ := Option.map_eq_some_iff.1 h
  exact (show f103e3_0 (u.1.2.2.2.2.2.2.2.2.2.2.1, u.1.2.2.2.2.2.2.2.2.2.2.2.1, u.1.2.2.2.2.2.2.2.2.2.2.2.2.1, u.2.1) = mkS f103h3_0 f103o3_0 u by kernel_rfl).trans (mkS_un f103h3_0 f103o3_0 s u hu)
def f103u3 : St → Option (List E_Key × Int × Int × List E_Key) := f103u3_0
def f103e3 : (List E_Key × Int × Int × List E_Key) → St := f103e3_0
theorem f103un3 : ∀ (s : St) (t : List E_Key × Int × Int × List E_Key), f103u3 s = some t → f103e3 t = s := f103un3_0
noncomputable def f103P : Lp := fun i s {_R} κ => bif Nat.beq i 3 then (f103u3 s).bind fun t => L_impl_MergeSets_3 (fun t => κ (some 0) (f103x3_0 t)) t else none
noncomputable def f103c3 : Code := (loopsOf f103B).getD 0 .skip
theorem f103A3 : C.live 103 (firstRegion f103c3) = some ([5, 10, 11, 12], [5]) := by kernel_rfl
theorem f103B3 {R : Type} (κ : Option Nat → St → Option R) (s : St) : f103P (firstRegion f103c3) s κ = (f103u3 s).bind fun t => iter (S_impl_MergeSets_3 (fun t => κ (some 0) (f103x3_0 t))) FUEL t := by kernel_rfl
theorem f103C3 {R : Type} (κ : Option Nat → St → Option R) (again : St → Option R) (t : T_impl_MergeSets_3) : stepL C f103K f103P 103 f103c3 [5, 10, 11, 12] [5] κ again (f103e3 t) = S_impl_MergeSets_3 (fun t => κ (some 0) (f103x3_0 t)) (fun t => again (f103e3 t)) t := by kernel_rfl
theorem f103ok3 : LoopOk C f103K f103P 103 f103c3 := loop_ok f103A3 f103e3 f103u3 f103un3 (fun {_R} κ => S_impl_MergeSets_3 (fun t => κ (some 0) (f103x3_0 t))) (fun {_R} κ s => f103B3 κ s) (fun {_R} κ again t => f103C3 κ again t)
theorem k103 : Contract C Try.prog f103K := contract_tab _ (fun p hp => by
    simp only [List.mem_cons, List.mem_nil_iff, or_false] at hp
    rcases hp with rfl | rfl
    · exact ok118
    · exact ok119)
theorem ev103 (x : List E_Key × List E_Key) : evalB C f103K f103P 103 Try.f103 f103B ⟨[.v false [(.sl 86 ts_Key)] [false], .v false [(.sl 86 ts_Key)] [false]], [⟨false, [(.sl 86 ts_Key)], [true]⟩], false⟩ [(.sl 86 ts_Key), (.sl 86 ts_Key)] [(.sl 86 ts_Key)] x = F_impl_MergeSets x := by kernel_rfl
theorem ok103 : ContractAt C Try.prog 103 F_impl_MergeSets := fn_sound (lp := f103P) tok mixed k103 (by kernel_rfl) (fn := Try.f103) (c := f103B) (sg := ⟨[.v false [(.sl 86 ts_Key)] [false], .v false [(.sl 86 ts_Key)] [false]], [⟨false, [(.sl 86 ts_Key)], [true]⟩], false⟩) Try.func103 (by decide) (by kernel_rfl) (by kernel_rfl) (by kernel_rfl) (fun c' hc' => by
    rw [show loopsOf f103B = [f103c3] by kernel_rfl] at hc'
    simp only [List.mem_cons, List.mem_nil_iff, or_false] at hc'
    rcases hc' with rfl
    · exact f103ok3) (by decide) (by decide) (fun x y h => (ev103 x).trans h)

/-! ### 104: impl.Drop -/
abbrev T_impl_Drop_3 : Type := List E_Key × Int × Int × List E_Key
noncomputable def S_impl_Drop_3 {R : Type} (k0 : List E_Key → Option R) (again : T_impl_Drop_3 → Option R) (t3 : T_impl_Drop_3) : Option R :=
  bif (decide (t3.2.2.1 < t3.2.1)) then if (0 : Int) ≤ t3.2.2.1 then if t3.2.2.1 < ((List.length t3.1 : Nat) : Int) then bif ((rd_Key t3.1 t3.2.2.1).2.2.1 != (0 : Int)) then if (List.length t3.2.2.2 + List.length ([((rd_Key t3.1 t3.2.2.1).1, (rd_Key t3.1 t3.2.2.1).2.1, (rd_Key t3.1 t3.2.2.1).2.2.1, (rd_Key t3.1 t3.2.2.1).2.2.2.1, (rd_Key t3.1 t3.2.2.1).2.2.2.2)] : List E_Key)) * 40 < 140737488355328 then again (t3.1, t3.2.1, (Go.IntKind.wrap .i64 (t3.2.2.1 + (1 : Int))), (t3.2.2.2 ++ ([((rd_Key t3.1 t3.2.2.1).1, (rd_Key t3.1 t3.2.2.1).2.1, (rd_Key t3.1 t3.2.2.1).2.2.1, (rd_Key t3.1 t3.2.2.1).2.2.2.1, (rd_Key t3.1 t3.2.2.1).2.2.2.2)] : List E_Key))) else none else again (t3.1, t3.2.1, (Go.IntKind.wrap .i64 (t3.2.2.1 + (1 : Int))), t3.2.2.2) else none else none else k0 t3.2.2.2
noncomputable def L_impl_Drop_3 {R : Type} (k0 : List E_Key → Option R) (t : T_impl_Drop_3) : Option R := iter (S_impl_Drop_3 k0) FUEL t
noncomputable def F_impl_Drop (x : List E_Key) : Option (List E_Key) :=
  L_impl_Drop_3 (fun x1 => some x1) (x, ((List.length x : Nat) : Int), (0 : Int), ([] : List E_Key))
noncomputable def f104B : Code := match Try.f104.body with
  | some c => c
  | none => .skip
noncomputable def f104K : C.Sem := tab []
def f104h3_0 : List Sh := [.dead, .dead, .dead, .own 10000000, .dead, .dead, .dead, .v (.sl 86 ts_Key), .v (.int .i64), .v (.int .i64), .dead, .dead, .dead, .dead, .dead, .dead, .dead, .dead, .dead, .dead, .dead, .dead]
def f104o3_0 : List (Nat × OSh) := [(10000000, .root true 86 ts_Key)]
def f104e3_0 (t : List E_Key × Int × Int × List E_Key) : St := ⟨[.dead, .dead, .dead, .own 10000000, .dead, .dead, .dead, .val (.sl 86 ts_Key) t.1, .val (.int .i64) t.2.1, .val (.int .i64) t.2.2.1, .dead, .dead, .dead, .dead, .dead, .dead, .dead, .dead, .dead, .dead, .dead, .dead], [(10000000, .root true 86 ts_Key t.2.2.2)]⟩
def f104x3_0 (t : List E_Key) : St := ⟨[.dead, .dead, .dead, .own 10000000, .dead, .dead, .dead, .dead, .dead, .dead, .dead, .dead, .dead, .dead, .dead, .dead, .dead, .dead, .dead, .dead, .dead, .dead], [(10000000, .root true 86 ts_Key t)]⟩
def f104u3_0 (s : St) : Option (List E_Key × Int × Int × List E_Key) := (unS f104h3_0 f104o3_0 s).map fun v => (v.1.2.2.2.2.2.2.2.1, v.1.2.2.2.2.2.2.2.2.1, v.1.2.2.2.2.2.2.2.2.2.1, v.2.1)
theorem f104un3_0 : ∀ (s : St) (t : List E_Key × Int × Int × List E_Key), f104u3_0 s = some t → f104e3_0 t = s := fun s v h => by
  obtain ⟨u, hu, rfl⟩ := Option.map_eq_some_iff.1 h
  exact (show f104e3_0 (u.1.2.2.2.2.2.2.2.1, u.1.2.2.2.2.2.2.2.2.1, u.1.2.2.2.2.2.2.2.2.2.1, u.2.1) = mkS f104h3_0 f104o3_0 u by kernel_rfl).trans (mkS_un f104h3_0 f104o3_0 s u hu)
def f104u3 : St → Option (List E_Key × Int × Int × List E_Key) := f104u3_0
def f104e3 : (List E_Key × Int × Int × List E_Key) → St := f104e3_0
theorem f104un3 : ∀ (s : St) (t : List E_Key × Int × Int × List E_Key), f104u3 s = some t → f104e3 t = s := f104un3_0
noncomputable def f104P : Lp := fun i s {_R} κ => bif Nat.beq i 3 then (f104u3 s).bind fun t => L_impl_Drop_3 (fun t => κ (some 0) (f104x3_0 t)) t else none
noncomputable def f104c3 : Code := (loopsOf f104B).getD 0 .skip
theorem f104A3 : C.live 104 (firstRegion f104c3) = some ([3, 7, 8, 9], [3]) := by kernel_rfl
theorem f104B3 {R : Type} (κ : Option Nat → St → Option R) (s : St) : f104P (firstRegion f104c3) s κ = (f104u3 s).bind fun t => iter (S_impl_Drop_3 (fun t => κ (some 0) (f104x3_0 t))) FUEL t := by kernel_rfl
theorem f104C3 {R : Type} (κ : Option Nat → St → Option R) (again : St → Option R) (t : T_impl_Drop_3) : stepL C f104K f104P 104 f104c3 [3, 7, 8, 9] [3] κ again (f104e3 t) = S_impl_Drop_3 (fun t => κ (some 0) (f104x3_0 t)) (fun t => again (f104e3 t)) t := by kernel_rfl
theorem f104ok3 : LoopOk C f104K f104P 104 f104c3 := loop_ok f104A3 f104e3 f104u3 f104un3 (fun {_R} κ => S_impl_Drop_3 (fun t => κ (some 0) (f104x3_0 t))) (fun {_R} κ s => f104B3 κ s) (fun {_R} κ again t => f104C3 κ again t)
theorem k104 : Contract C Try.prog f104K := contract_tab _ (fun p hp => by cases hp)
theorem ev104 (x : List E_Key) : evalB C f104K f104P 104 Try.f104 f104B ⟨[.v false [(.sl 86 ts_Key)] [false]], [⟨false, [(.sl 86 ts_Key)], [true]⟩], false⟩ [(.sl 86 ts_Key)] [(.sl 86 ts_Key)] x = F_impl_Drop x := by kernel_rfl
theorem ok104 : ContractAt C Try.prog 104 F_impl_Drop := fn_sound (lp := f104P) tok mixed k104 (by kernel_rfl) (fn := Try.f104) (c := f104B) (sg := ⟨[.v false [(.sl 86 ts_Key)] [false]], [⟨false, [(.sl 86 ts_Key)], [true]⟩], false⟩) Try.func104 (by decide) (by kernel_rfl) (by kernel_rfl) (by kernel_rfl) (fun c' hc' => by
    rw [show loopsOf f104B = [f104c3] by kernel_rfl] at hc'
    simp only [List.mem_cons, List.mem_nil_iff, or_false] at hc'
    rcases hc' with rfl
    · exact f104ok3) (by decide) (by decide) (fun x y h => (ev104 x).trans h)

/-! ### 85: impl.NodeKeys -/
abbrev T_impl_NodeKeys_3 : Type := List E_s_Key × Int × Int × List E_Key
noncomputable def S_impl_NodeKeys_3 {R : Type} (k0 : List E_Key → Option R) (again : T_impl_NodeKeys_3 → Option R) (t3 : T_impl_NodeKeys_3) : Option R :=
  bif (decide (t3.2.2.1 < t3.2.1)) then if (0 : Int) ≤ t3.2.2.1 then if t3.2.2.1 < ((List.length t3.1 : Nat) : Int) then Option.bind (F_impl_MergeSets (t3.2.2.2, (rd_s_Key t3.1 t3.2.2.1))) fun r1 => again (t3.1, t3.2.1, (Go.IntKind.wrap .i64 (t3.2.2.1 + (1 : Int))), r1) else none else none else k0 t3.2.2.2
noncomputable def L_impl_NodeKeys_3 {R : Type} (k0 : List E_Key → Option R) (t : T_impl_NodeKeys_3) : Option R := iter (S_impl_NodeKeys_3 k0) FUEL t
noncomputable def F_impl_NodeKeys (x : List E_s_Key) : Option (List E_Key) :=
  L_impl_NodeKeys_3 (fun x2 => Option.bind (F_impl_Drop x2) fun r3 => some r3) (x, ((List.length x : Nat) : Int), (0 : Int), ([] : List E_Key))
noncomputable def f85B : Code := match Try.f85.body with
  | some c => c
  | none => .skip
noncomputable def f85K : C.Sem := tab [⟨103, F_impl_MergeSets⟩, ⟨104, F_impl_Drop⟩]
def f85h3_0 : List Sh := [.dead, .dead, .dead, .own 10000000, .dead, .dead, .dead, .dead, .v (.sl 83 ts_s_Key), .v (.int .i64), .v (.int .i64), .dead, .dead, .dead, .dead, .dead, .dead, .dead, .dead, .dead]
def f85o3_0 : List (Nat × OSh) := [(10000000, .root true 86 ts_Key)]
def f85e3_0 (t : List E_s_Key × Int × Int × List E_Key) : St := ⟨[.dead, .dead, .dead, .own 10000000, .dead, .dead, .dead, .dead, .val (.sl 83 ts_s_Key) t.1, .val (.int .i64) t.2.1, .val (.int .i64) t.2.2.1, .dead, .dead, .dead, .dead, .dead, .dead, .dead, .dead, .dead], [(10000000, .root true 86 ts_Key t.2.2.2)]⟩
def f85x3_0 (t : List E_Key) : St := ⟨[.dead, .dead, .dead, .own 10000000, .dead, .dead, .dead, .dead, .dead, .dead, .dead, .dead, .dead, .dead, .dead, .dead, .dead, .dead, .dead, .dead], [(10000000, .root true 86 ts_Key t)]⟩
def f85u3_0 (s : St) : Option (List E_s_Key × Int × Int × List E_Key) := (unS f85h3_0 f85o3_0 s).map fun v => (v.1.2.2.2.2.2.2.2.2.1, v.1.2.2.2.2.2.2.2.2.2.1, v.1.2.2.2.2.2.2.2.2.2.2.1, v.2.1)
theorem f85un3_0 : ∀ (s : St) (t : List E_s_Key × Int × Int × List E_Key), f85u3_0 s = some t → f85e3_0 t = s := fun s v h => by
  obtain ⟨u, hu, rfl⟩ := Option.map_eq_some_iff.1 h
  exact (show f85e3_0 (u.1.2.2.2.2.2.2.2.2.1, u.1.2.2.2.2.2.2.2.2.2.1, u.1.2.2.2.2.2.2.2.2.2.2.1, u.2.1) = mkS f85h3_0 f85o3_0 u by kernel_rfl).trans (mkS_un f85h3_0 f85o3_0 s u hu)
def f85u3 : St → Option (List E_s_Key × Int × Int × List E_Key) := f85u3_0
def f85e3 : (List E_s_Key × Int × Int × List E_Key) → St := f85e3_0
theorem f85un3 : ∀ (s : St) (t : List E_s_Key × Int × Int × List E_Key), f85u3 s = some t → f85e3 t = s := f85un3_0
noncomputable def f85P : Lp := fun i s {_R} κ => bif Nat.beq i 3 then (f85u3 s).bind fun t => L_impl_NodeKeys_3 (fun t => κ (some 0) (f85x3_0 t)) t else none
noncomputable def f85c3 : Code := (loopsOf f85B).getD 0 .skip
theorem f85A3 : C.live 85 (firstRegion f85c3) = some ([3, 8, 9, 10], [3]) := by kernel_rfl
theorem f85B3 {R : Type} (κ : Option Nat → St → Option R) (s : St) : f85P (firstRegion f85c3) s κ = (f85u3 s).bind fun t => iter (S_impl_NodeKeys_3 (fun t => κ (some 0) (f85x3_0 t))) FUEL t := by kernel_rfl
theorem f85C3 {R : Type} (κ : Option Nat → St → Option R) (again : St → Option R) (t : T_impl_NodeKeys_3) : stepL C f85K f85P 85 f85c3 [3, 8, 9, 10] [3] κ again (f85e3 t) = S_impl_NodeKeys_3 (fun t => κ (some 0) (f85x3_0 t)) (fun t => again (f85e3 t)) t := by kernel_rfl
theorem f85ok3 : LoopOk C f85K f85P 85 f85c3 := loop_ok f85A3 f85e3 f85u3 f85un3 (fun {_R} κ => S_impl_NodeKeys_3 (fun t => κ (some 0) (f85x3_0 t))) (fun {_R} κ s => f85B3 κ s) (fun {_R} κ again t => f85C3 κ again t)
theorem k85 : Contract C Try.prog f85K := contract_tab _ (fun p hp => by
    simp only [List.mem_cons, List.mem_nil_iff, or_false] at hp
    rcases hp with rfl | rfl
    · exact ok103
    · exact ok104)
theorem ev85 (x : List E_s_Key) : evalB C f85K f85P 85 Try.f85 f85B ⟨[.v true [(.sl 83 ts_s_Key)] [false]], [⟨false, [(.sl 86 ts_Key)], [true]⟩], false⟩ [(.sl 83 ts_s_Key)] [(.sl 86 ts_Key)] x = F_impl_NodeKeys x := by kernel_rfl
theorem ok85 : ContractAt C Try.prog 85 F_impl_NodeKeys := fn_sound (lp := f85P) tok mixed k85 (by kernel_rfl) (fn := Try.f85) (c := f85B) (sg := ⟨[.v true [(.sl 83 ts_s_Key)] [false]], [⟨false, [(.sl 86 ts_Key)], [true]⟩], false⟩) Try.func85 (by decide) (by kernel_rfl) (by kernel_rfl) (by kernel_rfl) (fun c' hc' => by
    rw [show loopsOf f85B = [f85c3] by kernel_rfl] at hc'
    simp only [List.mem_cons, List.mem_nil_iff, or_false] at hc'
    rcases hc' with rfl
    · exact f85ok3) (by decide) (by decide) (fun x y h => (ev85 x).trans h)

/-! ### 47: impl.TreeKeys -/
abbrev T_impl_TreeKeys_3 : Type := List E_Node × Int × Int × List E_Key
noncomputable def S_impl_TreeKeys_3 {R : Type} (k0 : List E_Key → Option R) (again : T_impl_TreeKeys_3 → Option R) (t3 : T_impl_TreeKeys_3) : Option R :=
  bif (decide (t3.2.2.1 < t3.2.1)) then if (0 : Int) ≤ t3.2.2.1 then if t3.2.2.1 < ((List.length t3.1 : Nat) : Int) then Option.bind (F_impl_NodeKeys (rd_Node t3.1 t3.2.2.1)) fun r1 => if (List.length t3.2.2.2 + List.length r1) * 40 < 140737488355328 then again (t3.1, t3.2.1, (Go.IntKind.wrap .i64 (t3.2.2.1 + (1 : Int))), (t3.2.2.2 ++ r1)) else none else none else none else k0 t3.2.2.2
noncomputable def L_impl_TreeKeys_3 {R : Type} (k0 : List E_Key → Option R) (t : T_impl_TreeKeys_3) : Option R := iter (S_impl_TreeKeys_3 k0) FUEL t
noncomputable def F_impl_TreeKeys (x : List E_i64 × List E_Node) : Option (List E_Key) :=
  L_impl_TreeKeys_3 (fun x2 => some x2) (x.2, ((List.length x.2 : Nat) : Int), (0 : Int), ([] : List E_Key))
noncomputable def f47B : Code := match Try.f47.body with
  | some c => c
  | none => .skip
noncomputable def f47K : C.Sem := tab [⟨85, F_impl_NodeKeys⟩]
def f47h3_0 : List Sh := [.dead, .dead, .dead, .own 10000000, .dead, .dead, .dead, .dead, .v (.sl 128 ts_Node), .v (.int .i64), .v (.int .i64), .dead, .dead, .dead, .dead, .dead, .dead, .dead, .dead, .dead]
def f47o3_0 : List (Nat × OSh) := [(10000000, .root true 86 ts_Key)]
def f47e3_0 (t : List E_Node × Int × Int × List E_Key) : St := ⟨[.dead, .dead, .dead, .own 10000000, .dead, .dead, .dead, .dead, .val (.sl 128 ts_Node) t.1, .val (.int .i64) t.2.1, .val (.int .i64) t.2.2.1, .dead, .dead, .dead, .dead, .dead, .dead, .dead, .dead, .dead], [(10000000, .root true 86 ts_Key t.2.2.2)]⟩
def f47x3_0 (t : List E_Key) : St := ⟨[.dead, .dead, .dead, .own 10000000, .dead, .dead, .dead, .dead, .dead, .dead, .dead, .dead, .dead, .dead, .dead, .dead, .dead, .dead, .dead, .dead], [(10000000, .root true 86 ts_Key t)]⟩
def f47u3_0 (s : St) : Option (List E_Node × Int × Int × List E_Key) := (unS f47h3_0 f47o3_0 s).map fun v => (v.1.2.2.2.2.2.2.2.2.1, v.1.2.2.2.2.2.2.2.2.2.1, v.1.2.2.2.2.2.2.2.2.2.2.1, v.2.1)
theorem f47un3_0 : ∀ (s : St) (t : List E_Node × Int × Int × List E_Key), f47u3_0 s = some t → f47e3_0 t = s := fun s v h => by
  obtain ⟨u, hu, rfl⟩ := Option.map_eq_some_iff.1 h
  exact (show f47e3_0 (u.1.2.2.2.2.2.2.2.2.1, u.1.2.2.2.2.2.2.2.2.2.1, u.1.2.2.2.2.2.2.2.2.2.2.1, u.2.1) = mkS f47h3_0 f47o3_0 u by kernel_rfl).trans (mkS_un f47h3_0 f47o3_0 s u hu)
def f47u3 : St → Option (List E_Node × Int × Int × List E_Key) := f47u3_0
def f47e3 : (List E_Node × Int × Int × List E_Key) → St := f47e3_0
theorem f47un3 : ∀ (s : St) (t : List E_Node × Int × Int × List E_Key), f47u3 s = some t → f47e3 t = s := f47un3_0
noncomputable def f47P : Lp := fun i s {_R} κ => bif Nat.beq i 3 then (f47u3 s).bind fun t => L_impl_TreeKeys_3 (fun t => κ (some 0) (f47x3_0 t)) t else none
noncomputable def f47c3 : Code := (loopsOf f47B).getD 0 .skip
theorem f47A3 : C.live 47 (firstRegion f47c3) = some ([3, 8, 9, 10], [3]) := by kernel_rfl
theorem f47B3 {R : Type} (κ : Option Nat → St → Option R) (s : St) : f47P (firstRegion f47c3) s κ = (f47u3 s).bind fun t => iter (S_impl_TreeKeys_3 (fun t => κ (some 0) (f47x3_0 t))) FUEL t := by kernel_rfl
theorem f47C3 {R : Type} (κ : Option Nat → St → Option R) (again : St → Option R) (t : T_impl_TreeKeys_3) : stepL C f47K f47P 47 f47c3 [3, 8, 9, 10] [3] κ again (f47e3 t) = S_impl_TreeKeys_3 (fun t => κ (some 0) (f47x3_0 t)) (fun t => again (f47e3 t)) t := by kernel_rfl
theorem f47ok3 : LoopOk C f47K f47P 47 f47c3 := loop_ok f47A3 f47e3 f47u3 f47un3 (fun {_R} κ => S_impl_TreeKeys_3 (fun t => κ (some 0) (f47x3_0 t))) (fun {_R} κ s => f47B3 κ s) (fun {_R} κ again t => f47C3 κ again t)
theorem k47 : Contract C Try.prog f47K := contract_tab _ (fun p hp => by
    simp only [List.mem_cons, List.mem_nil_iff, or_false] at hp
    rcases hp with rfl
    · exact ok85)
theorem ev47 (x : List E_i64 × List E_Node) : evalB C f47K f47P 47 Try.f47 f47B ⟨[.v true [(.sl 3 ts_i64), (.sl 128 ts_Node)] [false, false]], [⟨false, [(.sl 86 ts_Key)], [true]⟩], false⟩ [(.sl 3 ts_i64), (.sl 128 ts_Node)] [(.sl 86 ts_Key)] x = F_impl_TreeKeys x := by kernel_rfl
theorem ok47 : ContractAt C Try.prog 47 F_impl_TreeKeys := fn_sound (lp := f47P) tok mixed k47 (by kernel_rfl) (fn := Try.f47) (c := f47B) (sg := ⟨[.v true [(.sl 3 ts_i64), (.sl 128 ts_Node)] [false, false]], [⟨false, [(.sl 86 ts_Key)], [true]⟩], false⟩) Try.func47 (by decide) (by kernel_rfl) (by kernel_rfl) (by kernel_rfl) (fun c' hc' => by
    rw [show loopsOf f47B = [f47c3] by kernel_rfl] at hc'
    simp only [List.mem_cons, List.mem_nil_iff, or_false] at hc'
    rcases hc' with rfl
    · exact f47ok3) (by decide) (by decide) (fun x y h => (ev47 x).trans h)

/-! ### 132: impl.KeysOf -/
abbrev T_impl_KeysOf_3 : Type := Int × Int × Int × List E_Key × List E_Key
noncomputable def S_impl_KeysOf_3 {R : Type} (k0 : List E_Key → Option R) (again : T_impl_KeysOf_3 → Option R) (t3 : T_impl_KeysOf_3) : Option R :=
  bif (decide (t3.2.2.1 < t3.2.1)) then if (0 : Int) ≤ t3.2.2.1 then if t3.2.2.1 < ((List.length t3.2.2.2.2 : Nat) : Int) then bif ((rd_Key t3.2.2.2.2 t3.2.2.1).1 == t3.1) then if (List.length t3.2.2.2.1 + List.length ([((rd_Key t3.2.2.2.2 t3.2.2.1).1, (rd_Key t3.2.2.2.2 t3.2.2.1).2.1, (rd_Key t3.2.2.2.2 t3.2.2.1).2.2.1, (rd_Key t3.2.2.2.2 t3.2.2.1).2.2.2.1, (rd_Key t3.2.2.2.2 t3.2.2.1).2.2.2.2)] : List E_Key)) * 40 < 140737488355328 then again (t3.1, t3.2.1, (Go.IntKind.wrap .i64 (t3.2.2.1 + (1 : Int))), (t3.2.2.2.1 ++ ([((rd_Key t3.2.2.2.2 t3.2.2.1).1, (rd_Key t3.2.2.2.2 t3.2.2.1).2.1, (rd_Key t3.2.2.2.2 t3.2.2.1).2.2.1, (rd_Key t3.2.2.2.2 t3.2.2.1).2.2.2.1, (rd_Key t3.2.2.2.2 t3.2.2.1).2.2.2.2)] : List E_Key)), t3.2.2.2.2) else none else again (t3.1, t3.2.1, (Go.IntKind.wrap .i64 (t3.2.2.1 + (1 : Int))), t3.2.2.2.1, t3.2.2.2.2) else none else none else k0 t3.2.2.2.1
noncomputable def L_impl_KeysOf_3 {R : Type} (k0 : List E_Key → Option R) (t : T_impl_KeysOf_3) : Option R := iter (S_impl_KeysOf_3 k0) FUEL t
noncomputable def F_impl_KeysOf (x : List E_i64 × List E_Node × Int) : Option (List E_Key) :=
  Option.bind (F_impl_TreeKeys (x.1, x.2.1)) fun r1 => L_impl_KeysOf_3 (fun x2 => some x2) (x.2.2, ((List.length r1 : Nat) : Int), (0 : Int), ([] : List E_Key), r1)
noncomputable def f132B : Code := match Try.f132.body with
  | some c => c
  | none => .skip
noncomputable def f132K : C.Sem := tab [⟨47, F_impl_TreeKeys⟩]
def f132h3_0 : List Sh := [.dead, .v (.int .i64), .dead, .dead, .dead, .own 10000000, .dead, .dead, .dead, .dead, .own 10000001, .v (.int .i64), .v (.int .i64), .dead, .dead, .dead, .dead, .dead, .dead, .dead, .dead, .dead, .dead, .dead, .dead, .dead]
def f132o3_0 : List (Nat × OSh) := [(10000000, .root true 86 ts_Key), (10000001, .root true 86 ts_Key)]
def f132e3_0 (t : Int × Int × Int × List E_Key × List E_Key) : St := ⟨[.dead, .val (.int .i64) t.1, .dead, .dead, .dead, .own 10000000, .dead, .dead, .dead, .dead, .own 10000001, .val (.int .i64) t.2.1, .val (.int .i64) t.2.2.1, .dead, .dead, .dead, .dead, .dead, .dead, .dead, .dead, .dead, .dead, .dead, .dead, .dead], [(10000000, .root true 86 ts_Key t.2.2.2.1), (10000001, .root true 86 ts_Key t.2.2.2.2)]⟩
def f132x3_0 (t : List E_Key) : St := ⟨[.dead, .dead, .dead, .dead, .dead, .own 10000000, .dead, .dead, .dead, .dead, .dead, .dead, .dead, .dead, .dead, .dead, .dead, .dead, .dead, .dead, .dead, .dead, .dead, .dead, .dead, .dead], [(10000000, .root true 86 ts_Key t)]⟩
def f132u3_0 (s : St) : Option (Int × Int × Int × List E_Key × List E_Key) := (unS f132h3_0 f132o3_0 s).map fun v => (v.1.2.1, v.1.2.2.2.2.2.2.2.2.2.2.2.1, v.1.2.2.2.2.2.2.2.2.2.2.2.2.1, v.2.1, v.2.2.1)
theorem f132un3_0 : ∀ (s : St) (t : Int × Int × Int × List E_Key × List E_Key), f132u3_0 s = some t → f132e3_0 t = s := fun s v h => by
  obtain ⟨u, hu, rfl⟩ := Option.map_eq_some_iff.1 h
  exact (show f132e3_0 (u.1.2.1, u.1.2.2.2.2.2.2.2.2.2.2.2.1, u.1.2.2.2.2.2.2.2.2.2.2.2.2.1, u.2.1, u.2.2.1) = mkS f132h3_0 f132o3_0 u by kernel_rfl).trans (mkS_un f132h3_0 f132o3_0 s u hu)
def f132u3 : St → Option (Int × Int × Int × List E_Key × List E_Key) := f132u3_0
def f132e3 : (Int × Int × Int × List E_Key × List E_Key) → St := f132e3_0
theorem f132un3 : ∀ (s : St) (t : Int × Int × Int × List E_Key × List E_Key), f132u3 s = some t → f132e3 t = s := f132un3_0
noncomputable def f132P : Lp := fun i s {_R} κ => bif Nat.beq i 3 then (f132u3 s).bind fun t => L_impl_KeysOf_3 (fun t => κ (some 0) (f132x3_0 t)) t else none
noncomputable def f132c3 : Code := (loopsOf f132B).getD 0 .skip
theorem f132A3 : C.live 132 (firstRegion f132c3) = some ([1, 5, 10, 11, 12], [5]) := by kernel_rfl
theorem f132B3 {R : Type} (κ : Option Nat → St → Option R) (s : St) : f132P (firstRegion f132c3) s κ = (f132u3 s).bind fun t => iter (S_impl_KeysOf_3 (fun t => κ (some 0) (f132x3_0 t))) FUEL t := by kernel_rfl
theorem f132C3 {R : Type} (κ : Option Nat → St → Option R) (again : St → Option R) (t : T_impl_KeysOf_3) : stepL C f132K f132P 132 f132c3 [1, 5, 10, 11, 12] [5] κ again (f132e3 t) = S_impl_KeysOf_3 (fun t => κ (some 0) (f132x3_0 t)) (fun t => again (f132e3 t)) t := by kernel_rfl
theorem f132ok3 : LoopOk C f132K f132P 132 f132c3 := loop_ok f132A3 f132e3 f132u3 f132un3 (fun {_R} κ => S_impl_KeysOf_3 (fun t => κ (some 0) (f132x3_0 t))) (fun {_R} κ s => f132B3 κ s) (fun {_R} κ again t => f132C3 κ again t)
theorem k132 : Contract C Try.prog f132K := contract_tab _ (fun p hp => by
    simp only [List.mem_cons, List.mem_nil_iff, or_false] at hp
    rcases hp with rfl
    · exact ok47)
theorem ev132 (x : List E_i64 × List E_Node × Int) : evalB C f132K f132P 132 Try.f132 f132B ⟨[.v true [(.sl 3 ts_i64), (.sl 128 ts_Node)] [false, false], .v false [(.int .i64)] [false]], [⟨false, [(.sl 86 ts_Key)], [true]⟩], false⟩ [(.sl 3 ts_i64), (.sl 128 ts_Node), (.int .i64)] [(.sl 86 ts_Key)] x = F_impl_KeysOf x := by kernel_rfl
theorem ok132 : ContractAt C Try.prog 132 F_impl_KeysOf := fn_sound (lp := f132P) tok mixed k132 (by kernel_rfl) (fn := Try.f132) (c := f132B) (sg := ⟨[.v true [(.sl 3 ts_i64), (.sl 128 ts_Node)] [false, false], .v false [(.int .i64)] [false]], [⟨false, [(.sl 86 ts_Key)], [true]⟩], false⟩) Try.func132 (by decide) (by kernel_rfl) (by kernel_rfl) (by kernel_rfl) (fun c' hc' => by
    rw [show loopsOf f132B = [f132c3] by kernel_rfl] at hc'
    simp only [List.mem_cons, List.mem_nil_iff, or_false] at hc'
    rcases hc' with rfl
    · exact f132ok3) (by decide) (by decide) (fun x y h => (ev132 x).trans h)

/-! ### 137: slices.Index[[]int,int] -/
abbrev T_slices_Index_2 : Type := List E_i64 × Int × Int × Int
noncomputable def S_slices_Index_2 {R : Type} (k0 : Int → Option R) (k1 : Unit → Option R) (again : T_slices_Index_2 → Option R) (t2 : T_slices_Index_2) : Option R :=
  bif (decide (t2.2.2.2 < t2.2.2.1)) then if (0 : Int) ≤ t2.2.2.2 then if t2.2.2.2 < ((List.length t2.1 : Nat) : Int) then bif (t2.2.1 == (rd_i64 t2.1 t2.2.2.2)) then k0 t2.2.2.2 else again (t2.1, t2.2.1, t2.2.2.1, (Go.IntKind.wrap .i64 (t2.2.2.2 + (1 : Int)))) else none else none else k1 ()
noncomputable def L_slices_Index_2 {R : Type} (k0 : Int → Option R) (k1 : Unit → Option R) (t : T_slices_Index_2) : Option R := iter (S_slices_Index_2 k0 k1) FUEL t
noncomputable def F_slices_Index (x : List E_i64 × Int) : Option (Int) :=
  L_slices_Index_2 (fun x1 => some x1) (fun x2 => some (-1 : Int)) (x.1, x.2, ((List.length x.1 : Nat) : Int), (0 : Int))
noncomputable def f137B : Code := match Try.f137.body with
  | some c => c
  | none => .skip
noncomputable def f137K : C.Sem := tab []
def f137h2_0 : List Sh := [.v (.sl 3 ts_i64), .v (.int .i64), .dead, .dead, .dead, .dead, .dead, .v (.int .i64), .v (.int .i64), .dead, .dead, .dead, .dead, .dead, .dead, .dead, .dead, .dead, .dead]
def f137o2_0 : List (Nat × OSh) := []
def f137e2_0 (t : List E_i64 × Int × Int × Int) : St := ⟨[.val (.sl 3 ts_i64) t.1, .val (.int .i64) t.2.1, .dead, .dead, .dead, .dead, .dead, .val (.int .i64) t.2.2.1, .val (.int .i64) t.2.2.2, .dead, .dead, .dead, .dead, .dead, .dead, .dead, .dead, .dead, .dead], []⟩
def f137x2_0 (t : Int) : St := ⟨[.dead, .dead, .dead, .dead, .val (.int .i64) t, .dead, .dead, .dead, .dead, .dead, .dead, .dead, .dead, .dead, .dead, .dead, .dead, .dead, .dead], []⟩
def f137x2_1 (t : Unit) : St := ⟨[.dead, .dead, .dead, .dead, .dead, .dead, .dead, .dead, .dead, .dead, .dead, .dead, .dead, .dead, .dead, .dead, .dead, .dead, .dead], []⟩
def f137u2_0 (s : St) : Option (List E_i64 × Int × Int × Int) := (unS f137h2_0 f137o2_0 s).map fun v => (v.1.1, v.1.2.1, v.1.2.2.2.2.2.2.2.1, v.1.2.2.2.2.2.2.2.2.1)
theorem f137un2_0 : ∀ (s : St) (t : List E_i64 × Int × Int × Int), f137u2_0 s = some t → f137e2_0 t = s := fun s v h => by
  obtain ⟨u, hu, rfl⟩ := Option.map_eq_some_iff.1 h
  exact (show f137e2_0 (u.1.1, u.1.2.1, u.1.2.2.2.2.2.2.2.1, u.1.2.2.2.2.2.2.2.2.1) = mkS f137h2_0 f137o2_0 u by kernel_rfl).trans (mkS_un f137h2_0 f137o2_0 s u hu)
def f137u2 : St → Option (List E_i64 × Int × Int × Int) := f137u2_0
def f137e2 : (List E_i64 × Int × Int × Int) → St := f137e2_0
theorem f137un2 : ∀ (s : St) (t : List E_i64 × Int × Int × Int), f137u2 s = some t → f137e2 t = s := f137un2_0
noncomputable def f137P : Lp := fun i s {_R} κ => bif Nat.beq i 2 then (f137u2 s).bind fun t => L_slices_Index_2 (fun t => κ (none) (f137x2_0 t)) (fun t => κ (some 0) (f137x2_1 t)) t else none
noncomputable def f137c2 : Code := (loopsOf f137B).getD 0 .skip
theorem f137A2 : C.live 137 (firstRegion f137c2) = some ([0, 1, 7, 8], [4]) := by kernel_rfl
theorem f137B2 {R : Type} (κ : Option Nat → St → Option R) (s : St) : f137P (firstRegion f137c2) s κ = (f137u2 s).bind fun t => iter (S_slices_Index_2 (fun t => κ (none) (f137x2_0 t)) (fun t => κ (some 0) (f137x2_1 t))) FUEL t := by kernel_rfl
theorem f137C2 {R : Type} (κ : Option Nat → St → Option R) (again : St → Option R) (t : T_slices_Index_2) : stepL C f137K f137P 137 f137c2 [0, 1, 7, 8] [4] κ again (f137e2 t) = S_slices_Index_2 (fun t => κ (none) (f137x2_0 t)) (fun t => κ (some 0) (f137x2_1 t)) (fun t => again (f137e2 t)) t := by kernel_rfl
theorem f137ok2 : LoopOk C f137K f137P 137 f137c2 := loop_ok f137A2 f137e2 f137u2 f137un2 (fun {_R} κ => S_slices_Index_2 (fun t => κ (none) (f137x2_0 t)) (fun t => κ (some 0) (f137x2_1 t))) (fun {_R} κ s => f137B2 κ s) (fun {_R} κ again t => f137C2 κ again t)
theorem k137 : Contract C Try.prog f137K := contract_tab _ (fun p hp => by cases hp)
theorem ev137 (x : List E_i64 × Int) : evalB C f137K f137P 137 Try.f137 f137B ⟨[.v false [(.sl 3 ts_i64)] [false], .v false [(.int .i64)] [false]], [⟨false, [(.int .i64)], [false]⟩], false⟩ [(.sl 3 ts_i64), (.int .i64)] [(.int .i64)] x = F_slices_Index x := by kernel_rfl
theorem ok137 : ContractAt C Try.prog 137 F_slices_Index := fn_sound (lp := f137P) tok mixed k137 (by kernel_rfl) (fn := Try.f137) (c := f137B) (sg := ⟨[.v false [(.sl 3 ts_i64)] [false], .v false [(.int .i64)] [false]], [⟨false, [(.int .i64)], [false]⟩], false⟩) Try.func137 (by decide) (by kernel_rfl) (by kernel_rfl) (by kernel_rfl) (fun c' hc' => by
    rw [show loopsOf f137B = [f137c2] by kernel_rfl] at hc'
    simp only [List.mem_cons, List.mem_nil_iff, or_false] at hc'
    rcases hc' with rfl
    · exact f137ok2) (by decide) (by decide) (fun x y h => (ev137 x).trans h)

/-! ### 133: slices.Contains[[]int,int] -/
noncomputable def F_slices_Contains (x : List E_i64 × Int) : Option (Bool) :=
  Option.bind (F_slices_Index (x.1, x.2)) fun r1 => some (decide (r1 ≥ (0 : Int)))
noncomputable def f133B : Code := match Try.f133.body with
  | some c => c
  | none => .skip
noncomputable def f133K : C.Sem := tab [⟨137, F_slices_Index⟩]
noncomputable def f133P : Lp := fun i s {_R} κ => none
theorem k133 : Contract C Try.prog f133K := contract_tab _ (fun p hp => by
    simp only [List.mem_cons, List.mem_nil_iff, or_false] at hp
    rcases hp with rfl
    · exact ok137)
theorem ev133 (x : List E_i64 × Int) : evalB C f133K f133P 133 Try.f133 f133B ⟨[.v false [(.sl 3 ts_i64)] [false], .v false [(.int .i64)] [false]], [⟨false, [.bool], [false]⟩], false⟩ [(.sl 3 ts_i64), (.int .i64)] [.bool] x = F_slices_Contains x := by kernel_rfl
theorem ok133 : ContractAt C Try.prog 133 F_slices_Contains := fn_sound (lp := f133P) tok mixed k133 (by kernel_rfl) (fn := Try.f133) (c := f133B) (sg := ⟨[.v false [(.sl 3 ts_i64)] [false], .v false [(.int .i64)] [false]], [⟨false, [.bool], [false]⟩], false⟩) Try.func133 (by decide) (by kernel_rfl) (by kernel_rfl) (by kernel_rfl) (fun c' hc' => by
    rw [show loopsOf f133B = [] by kernel_rfl] at hc'
    cases hc') (by decide) (by decide) (fun x y h => (ev133 x).trans h)

/-! ### 120: impl.seenOn -/
abbrev T_impl_seenOn_3 : Type := List E_i64 × Bool × Int × Int × Int × Int × Int × Int × Int × Int × Int × Int × Int × Int × List E_Key
noncomputable def S_impl_seenOn_3 {R : Type} (k0 : (Bool × Int × Int × Int × Int × Int × Int × Int × Int × Int × Int) → Option R) (again : T_impl_seenOn_3 → Option R) (t3 : T_impl_seenOn_3) : Option R :=
  bif (decide (t3.2.2.2.1 < t3.2.2.1)) then if (0 : Int) ≤ t3.2.2.2.1 then if t3.2.2.2.1 < ((List.length t3.2.2.2.2.2.2.2.2.2.2.2.2.2.2 : Nat) : Int) then Option.bind (F_slices_Contains (t3.1, (rd_Key t3.2.2.2.2.2.2.2.2.2.2.2.2.2.2 t3.2.2.2.1).2.1)) fun r2 => Option.bind (bif r2 then Option.bind (bif (!t3.2.1) then some true else some (decide ((rd_Key t3.2.2.2.2.2.2.2.2.2.2.2.2.2.2 t3.2.2.2.1).2.1 > t3.2.2.2.2.2.2.2.2.2.2.1))) fun u4 => some u4 else some false) fun u3 => bif u3 then again (t3.1, true, t3.2.2.1, (Go.IntKind.wrap .i64 (t3.2.2.2.1 + (1 : Int))), t3.2.2.2.2.1, t3.2.2.2.2.2.1, t3.2.2.2.2.2.2.1, t3.2.2.2.2.2.2.2.1, t3.2.2.2.2.2.2.2.2.1, (rd_Key t3.2.2.2.2.2.2.2.2.2.2.2.2.2.2 t3.2.2.2.1).1, (rd_Key t3.2.2.2.2.2.2.2.2.2.2.2.2.2.2 t3.2.2.2.1).2.1, (rd_Key t3.2.2.2.2.2.2.2.2.2.2.2.2.2.2 t3.2.2.2.1).2.2.1, (rd_Key t3.2.2.2.2.2.2.2.2.2.2.2.2.2.2 t3.2.2.2.1).2.2.2.1, (rd_Key t3.2.2.2.2.2.2.2.2.2.2.2.2.2.2 t3.2.2.2.1).2.2.2.2, t3.2.2.2.2.2.2.2.2.2.2.2.2.2.2) else again (t3.1, t3.2.1, t3.2.2.1, (Go.IntKind.wrap .i64 (t3.2.2.2.1 + (1 : Int))), t3.2.2.2.2.1, t3.2.2.2.2.2.1, t3.2.2.2.2.2.2.1, t3.2.2.2.2.2.2.2.1, t3.2.2.2.2.2.2.2.2.1, t3.2.2.2.2.2.2.2.2.2.1, t3.2.2.2.2.2.2.2.2.2.2.1, t3.2.2.2.2.2.2.2.2.2.2.2.1, t3.2.2.2.2.2.2.2.2.2.2.2.2.1, t3.2.2.2.2.2.2.2.2.2.2.2.2.2.1, t3.2.2.2.2.2.2.2.2.2.2.2.2.2.2) else none else none else k0 (t3.2.1, t3.2.2.2.2.1, t3.2.2.2.2.2.1, t3.2.2.2.2.2.2.1, t3.2.2.2.2.2.2.2.1, t3.2.2.2.2.2.2.2.2.1, t3.2.2.2.2.2.2.2.2.2.1, t3.2.2.2.2.2.2.2.2.2.2.1, t3.2.2.2.2.2.2.2.2.2.2.2.1, t3.2.2.2.2.2.2.2.2.2.2.2.2.1, t3.2.2.2.2.2.2.2.2.2.2.2.2.2.1)
noncomputable def L_impl_seenOn_3 {R : Type} (k0 : (Bool × Int × Int × Int × Int × Int × Int × Int × Int × Int × Int) → Option R) (t : T_impl_seenOn_3) : Option R := iter (S_impl_seenOn_3 k0) FUEL t
noncomputable def F_impl_seenOn (x : List E_i64 × List E_Node × Int × List E_i64) : Option (Int × Int × Int × Int × Int × Bool) :=
  Option.bind (F_impl_KeysOf (x.1, x.2.1, x.2.2.1)) fun r1 => L_impl_seenOn_3 (fun x5 => some (x5.2.2.2.2.2.2.1, x5.2.2.2.2.2.2.2.1, x5.2.2.2.2.2.2.2.2.1, x5.2.2.2.2.2.2.2.2.2.1, x5.2.2.2.2.2.2.2.2.2.2, x5.1)) (x.2.2.2, false, ((List.length r1 : Nat) : Int), (0 : Int), (0 : Int), (0 : Int), (0 : Int), (0 : Int), (0 : Int), (0 : Int), (0 : Int), (0 : Int), (0 : Int), (0 : Int), r1)
noncomputable def f120B : Code := match Try.f120.body with
  | some c => c
  | none => .skip
noncomputable def f120K : C.Sem := tab [⟨132, F_impl_KeysOf⟩, ⟨133, F_slices_Contains⟩]
def f120h3_0 : List Sh := [.dead, .dead, .v (.sl 3 ts_i64), .dead, .dead, .dead, .box 6 0, .dead, .box 8 0, .v .bool, .dead, .dead, .dead, .dead, .dead, .own 10000000, .v (.int .i64), .v (.int .i64), .dead, .dead, .dead, .dead, .dead, .dead, .dead, .dead, .dead, .dead, .dead, .dead, .dead, .dead, .dead, .dead, .dead, .dead, .dead, .dead, .dead, .dead]
def f120o3_0 : List (Nat × OSh) := [(6, .box [.v (.int .i64), .v (.int .i64), .v (.int .i64), .v (.int .i64), .v (.int .i64)]), (8, .box [.v (.int .i64), .v (.int .i64), .v (.int .i64), .v (.int .i64), .v (.int .i64)]), (10000000, .root true 86 ts_Key)]
def f120e3_0 (t : List E_i64 × Bool × Int × Int × Int × Int × Int × Int × Int × Int × Int × Int × Int × Int × List E_Key) : St := ⟨[.dead, .dead, .val (.sl 3 ts_i64) t.1, .dead, .dead, .dead, .box 6 0, .dead, .box 8 0, .val .bool t.2.1, .dead, .dead, .dead, .dead, .dead, .own 10000000, .val (.int .i64) t.2.2.1, .val (.int .i64) t.2.2.2.1, .dead, .dead, .dead, .dead, .dead, .dead, .dead, .dead, .dead, .dead, .dead, .dead, .dead, .dead, .dead, .dead, .dead, .dead, .dead, .dead, .dead, .dead], [(6, .box [.val (.int .i64) t.2.2.2.2.1, .val (.int .i64) t.2.2.2.2.2.1, .val (.int .i64) t.2.2.2.2.2.2.1, .val (.int .i64) t.2.2.2.2.2.2.2.1, .val (.int .i64) t.2.2.2.2.2.2.2.2.1]), (8, .box [.val (.int .i64) t.2.2.2.2.2.2.2.2.2.1, .val (.int .i64) t.2.2.2.2.2.2.2.2.2.2.1, .val (.int .i64) t.2.2.2.2.2.2.2.2.2.2.2.1, .val (.int .i64) t.2.2.2.2.2.2.2.2.2.2.2.2.1, .val (.int .i64) t.2.2.2.2.2.2.2.2.2.2.2.2.2.1]), (10000000, .root true 86 ts_Key t.2.2.2.2.2.2.2.2.2.2.2.2.2.2)]⟩
def f120x3_0 (t : Bool × Int × Int × Int × Int × Int × Int × Int × Int × Int × Int) : St := ⟨[.dead, .dead, .dead, .dead, .dead, .dead, .box 6 0, .dead, .box 8 0, .val .bool t.1, .dead, .dead, .dead, .dead, .dead, .dead, .dead, .dead, .dead, .dead, .dead, .dead, .dead, .dead, .dead, .dead, .dead, .dead, .dead, .dead, .dead, .dead, .dead, .dead, .dead, .dead, .dead, .dead, .dead, .dead], [(6, .box [.val (.int .i64) t.2.1, .val (.int .i64) t.2.2.1, .val (.int .i64) t.2.2.2.1, .val (.int .i64) t.2.2.2.2.1, .val (.int .i64) t.2.2.2.2.2.1]), (8, .box [.val (.int .i64) t.2.2.2.2.2.2.1, .val (.int .i64) t.2.2.2.2.2.2.2.1, .val (.int .i64) t.2.2.2.2.2.2.2.2.1, .val (.int .i64) t.2.2.2.2.2.2.2.2.2.1, .val (.int .i64) t.2.2.2.2.2.2.2.2.2.2])]⟩
def f120u3_0 (s : St) : Option (List E_i64 × Bool × Int × Int × Int × Int × Int × Int × Int × Int × Int × Int × Int × Int × List E_Key) := (unS f120h3_0 f120o3_0 s).map fun v => (v.1.2.2.1, v.1.2.2.2.2.2.2.2.2.2.1, v.1.2.2.2.2.2.2.2.2.2.2.2.2.2.2.2.2.1, v.1.2.2.2.2.2.2.2.2.2.2.2.2.2.2.2.2.2.1, v.2.1.1, v.2.1.2.1, v.2.1.2.2.1, v.2.1.2.2.2.1, v.2.1.2.2.2.2.1, v.2.2.1.1, v.2.2.1.2.1, v.2.2.1.2.2.1, v.2.2.1.2.2.2.1, v.2.2.1.2.2.2.2.1, v.2.2.2.1)
theorem f120un3_0 : ∀ (s : St) (t : List E_i64 × Bool × Int × Int × Int × Int × Int × Int × Int × Int × Int × Int × Int × Int × List E_Key), f120u3_0 s = some t → f120e3_0 t = s := fun s v h => by
  obtain ⟨u, hu, rfl⟩ := Option.map_eq_some_iff.1 h
  exact (show f120e3_0 (u.1.2.2.1, u.1.2.2.2.2.2.2.2.2.2.1, u.1.2.2.2.2.2.2.2.2.2.2.2.2.2.2.2.2.1, u.1.2.2.2.2.2.2.2.2.2.2.2.2.2.2.2.2.2.1, u.2.1.1, u.2.1.2.1, u.2.1.2.2.1, u.2.1.2.2.2.1, u.2.1.2.2.2.2.1, u.2.2.1.1, u.2.2.1.2.1, u.2.2.1.2.2.1, u.2.2.1.2.2.2.1, u.2.2.1.2.2.2.2.1, u.2.2.2.1) = mkS f120h3_0 f120o3_0 u by kernel_rfl).trans (mkS_un f120h3_0 f120o3_0 s u hu)
def f120u3 : St → Option (List E_i64 × Bool × Int × Int × Int × Int × Int × Int × Int × Int × Int × Int × Int × Int × List E_Key) := f120u3_0
def f120e3 : (List E_i64 × Bool × Int × Int × Int × Int × Int × Int × Int × Int × Int × Int × Int × Int × List E_Key) → St := f120e3_0
theorem f120un3 : ∀ (s : St) (t : List E_i64 × Bool × Int × Int × Int × Int × Int × Int × Int × Int × Int × Int × Int × Int × List E_Key), f120u3 s = some t → f120e3 t = s := f120un3_0
noncomputable def f120P : Lp := fun i s {_R} κ => bif Nat.beq i 3 then (f120u3 s).bind fun t => L_impl_seenOn_3 (fun t => κ (some 0) (f120x3_0 t)) t else none
noncomputable def f120c3 : Code := (loopsOf f120B).getD 0 .skip
theorem f120A3 : C.live 120 (firstRegion f120c3) = some ([2, 6, 8, 9, 15, 16, 17, 26, 27, 28, 29, 30, 31, 32, 33, 34], [6, 8, 9]) := by kernel_rfl
theorem f120B3 {R : Type} (κ : Option Nat → St → Option R) (s : St) : f120P (firstRegion f120c3) s κ = (f120u3 s).bind fun t => iter (S_impl_seenOn_3 (fun t => κ (some 0) (f120x3_0 t))) FUEL t := by kernel_rfl
theorem f120C3 {R : Type} (κ : Option Nat → St → Option R) (again : St → Option R) (t : T_impl_seenOn_3) : stepL C f120K f120P 120 f120c3 [2, 6, 8, 9, 15, 16, 17, 26, 27, 28, 29, 30, 31, 32, 33, 34] [6, 8, 9] κ again (f120e3 t) = S_impl_seenOn_3 (fun t => κ (some 0) (f120x3_0 t)) (fun t => again (f120e3 t)) t := by kernel_rfl
theorem f120ok3 : LoopOk C f120K f120P 120 f120c3 := loop_ok f120A3 f120e3 f120u3 f120un3 (fun {_R} κ => S_impl_seenOn_3 (fun t => κ (some 0) (f120x3_0 t))) (fun {_R} κ s => f120B3 κ s) (fun {_R} κ again t => f120C3 κ again t)
theorem k120 : Contract C Try.prog f120K := contract_tab _ (fun p hp => by
    simp only [List.mem_cons, List.mem_nil_iff, or_false] at hp
    rcases hp with rfl | rfl
    · exact ok132
    · exact ok133)
theorem ev120 (x : List E_i64 × List E_Node × Int × List E_i64) : evalB C f120K f120P 120 Try.f120 f120B ⟨[.v true [(.sl 3 ts_i64), (.sl 128 ts_Node)] [false, false], .v false [(.int .i64)] [false], .v false [(.sl 3 ts_i64)] [false]], [⟨true, [(.int .i64), (.int .i64), (.int .i64), (.int .i64), (.int .i64)], [false, false, false, false, false]⟩, ⟨false, [.bool], [false]⟩], false⟩ [(.sl 3 ts_i64), (.sl 128 ts_Node), (.int .i64), (.sl 3 ts_i64)] [(.int .i64), (.int .i64), (.int .i64), (.int .i64), (.int .i64), .bool] x = F_impl_seenOn x := by kernel_rfl
theorem ok120 : ContractAt C Try.prog 120 F_impl_seenOn := fn_sound (lp := f120P) tok mixed k120 (by kernel_rfl) (fn := Try.f120) (c := f120B) (sg := ⟨[.v true [(.sl 3 ts_i64), (.sl 128 ts_Node)] [false, false], .v false [(.int .i64)] [false], .v false [(.sl 3 ts_i64)] [false]], [⟨true, [(.int .i64), (.int .i64), (.int .i64), (.int .i64), (.int .i64)], [false, false, false, false, false]⟩, ⟨false, [.bool], [false]⟩], false⟩) Try.func120 (by decide) (by kernel_rfl) (by kernel_rfl) (by kernel_rfl) (fun c' hc' => by
    rw [show loopsOf f120B = [f120c3] by kernel_rfl] at hc'
    simp only [List.mem_cons, List.mem_nil_iff, or_false] at hc'
    rcases hc' with rfl
    · exact f120ok3) (by decide) (by decide) (fun x y h => (ev120 x).trans h)

/-! ### 139: impl.AgeAt$1 -/
noncomputable def F_impl_AgeAt_1 (x : Int × Int × Int) : Option (Bool × Int) :=
  some ((x.1 == x.2.2), x.2.2)
noncomputable def f139B : Code := match Try.f139.body with
  | some c => c
  | none => .skip
noncomputable def f139K : C.Sem := tab []
noncomputable def f139P : Lp := fun i s {_R} κ => none
theorem k139 : Contract C Try.prog f139K := contract_tab _ (fun p hp => by cases hp)
theorem ev139 (x : Int × Int × Int) : evalB C f139K f139P 139 Try.f139 f139B ⟨[.v true [(.int .i64), (.int .i64)] [false, false], .p none [(.int .i64)] [false]], [⟨false, [.bool], [false]⟩], false⟩ [(.int .i64), (.int .i64), (.int .i64)] [.bool, (.int .i64)] x = F_impl_AgeAt_1 x := by kernel_rfl
theorem ok139 : ContractAt C Try.prog 139 F_impl_AgeAt_1 := fn_sound (lp := f139P) tok mixed k139 (by kernel_rfl) (fn := Try.f139) (c := f139B) (sg := ⟨[.v true [(.int .i64), (.int .i64)] [false, false], .p none [(.int .i64)] [false]], [⟨false, [.bool], [false]⟩], false⟩) Try.func139 (by decide) (by kernel_rfl) (by kernel_rfl) (by kernel_rfl) (fun c' hc' => by
    rw [show loopsOf f139B = [] by kernel_rfl] at hc'
    cases hc') (by decide) (by decide) (fun x y h => (ev139 x).trans h)

/-! ### 100000: impl.Age]_impl_AgeAt_1 -/
abbrev T_slices_IndexFunc_n100000_2 : Type := List E_Age × Int × Int × Int
noncomputable def S_slices_IndexFunc_n100000_2 {R : Type} (k0 : (Int × Int) → Option R) (k1 : Int → Option R) (again : T_slices_IndexFunc_n100000_2 → Option R) (t2 : T_slices_IndexFunc_n100000_2) : Option R :=
  bif (decide (t2.2.2.1 < t2.2.1)) then if (0 : Int) ≤ t2.2.2.1 then if t2.2.2.1 < ((List.length t2.1 : Nat) : Int) then Option.bind (F_impl_AgeAt_1 ((rd_Age t2.1 t2.2.2.1).1, (rd_Age t2.1 t2.2.2.1).2, t2.2.2.2)) fun r1 => bif r1.1 then k0 (t2.2.2.1, r1.2) else again (t2.1, t2.2.1, (Go.IntKind.wrap .i64 (t2.2.2.1 + (1 : Int))), r1.2) else none else none else k1 t2.2.2.2
noncomputable def L_slices_IndexFunc_n100000_2 {R : Type} (k0 : (Int × Int) → Option R) (k1 : Int → Option R) (t : T_slices_IndexFunc_n100000_2) : Option R := iter (S_slices_IndexFunc_n100000_2 k0 k1) FUEL t
noncomputable def F_slices_IndexFunc_n100000 (x : List E_Age × Int) : Option (Int × Int) :=
  L_slices_IndexFunc_n100000_2 (fun x2 => some (x2.1, x2.2)) (fun x3 => some ((-1 : Int), x3)) (x.1, ((List.length x.1 : Nat) : Int), (0 : Int), x.2)
noncomputable def f100000B : Code := match Try.f138.body with
  | some c => c
  | none => .skip
noncomputable def f100000K : C.Sem := tab [⟨139, F_impl_AgeAt_1⟩]
def f100000h2_0 : List Sh := [.v (.sl 134 ts_Age), .clo 139 901, .dead, .dead, .dead, .dead, .dead, .v (.int .i64), .v (.int .i64), .dead, .dead, .dead, .dead, .dead, .dead, .dead, .dead, .dead, .dead]
def f100000o2_0 : List (Nat × OSh) := [(901, .box [.v (.int .i64)])]
def f100000e2_0 (t : List E_Age × Int × Int × Int) : St := ⟨[.val (.sl 134 ts_Age) t.1, .clo 139 901, .dead, .dead, .dead, .dead, .dead, .val (.int .i64) t.2.1, .val (.int .i64) t.2.2.1, .dead, .dead, .dead, .dead, .dead, .dead, .dead, .dead, .dead, .dead], [(901, .box [.val (.int .i64) t.2.2.2])]⟩
def f100000x2_0 (t : Int × Int) : St := ⟨[.dead, .clo 139 901, .dead, .dead, .val (.int .i64) t.1, .dead, .dead, .dead, .dead, .dead, .dead, .dead, .dead, .dead, .dead, .dead, .dead, .dead, .dead], [(901, .box [.val (.int .i64) t.2])]⟩
def f100000x2_1 (t : Int) : St := ⟨[.dead, .clo 139 901, .dead, .dead, .dead, .dead, .dead, .dead, .dead, .dead, .dead, .dead, .dead, .dead, .dead, .dead, .dead, .dead, .dead], [(901, .box [.val (.int .i64) t])]⟩
def f100000u2_0 (s : St) : Option (List E_Age × Int × Int × Int) := (unS f100000h2_0 f100000o2_0 s).map fun v => (v.1.1, v.1.2.2.2.2.2.2.2.1, v.1.2.2.2.2.2.2.2.2.1, v.2.1.1)
theorem f100000un2_0 : ∀ (s : St) (t : List E_Age × Int × Int × Int), f100000u2_0 s = some t → f100000e2_0 t = s := fun s v h => by
  obtain ⟨u, hu, rfl⟩ := Option.map_eq_some_iff.1 h
  exact (show f100000e2_0 (u.1.1, u.1.2.2.2.2.2.2.2.1, u.1.2.2.2.2.2.2.2.2.1, u.2.1.1) = mkS f100000h2_0 f100000o2_0 u by kernel_rfl).trans (mkS_un f100000h2_0 f100000o2_0 s u hu)
def f100000u2 : St → Option (List E_Age × Int × Int × Int) := f100000u2_0
def f100000e2 : (List E_Age × Int × Int × Int) → St := f100000e2_0
theorem f100000un2 : ∀ (s : St) (t : List E_Age × Int × Int × Int), f100000u2 s = some t → f100000e2 t = s := f100000un2_0
noncomputable def f100000P : Lp := fun i s {_R} κ => bif Nat.beq i 2 then (f100000u2 s).bind fun t => L_slices_IndexFunc_n100000_2 (fun t => κ (none) (f100000x2_0 t)) (fun t => κ (some 0) (f100000x2_1 t)) t else none
noncomputable def f100000c2 : Code := (loopsOf f100000B).getD 0 .skip
theorem f100000A2 : C.live 100000 (firstRegion f100000c2) = some ([0, 1, 7, 8], [1, 4]) := by kernel_rfl
theorem f100000B2 {R : Type} (κ : Option Nat → St → Option R) (s : St) : f100000P (firstRegion f100000c2) s κ = (f100000u2 s).bind fun t => iter (S_slices_IndexFunc_n100000_2 (fun t => κ (none) (f100000x2_0 t)) (fun t => κ (some 0) (f100000x2_1 t))) FUEL t := by kernel_rfl
theorem f100000C2 {R : Type} (κ : Option Nat → St → Option R) (again : St → Option R) (t : T_slices_IndexFunc_n100000_2) : stepL C f100000K f100000P 100000 f100000c2 [0, 1, 7, 8] [1, 4] κ again (f100000e2 t) = S_slices_IndexFunc_n100000_2 (fun t => κ (none) (f100000x2_0 t)) (fun t => κ (some 0) (f100000x2_1 t)) (fun t => again (f100000e2 t)) t := by kernel_rfl
theorem f100000ok2 : LoopOk C f100000K f100000P 100000 f100000c2 := loop_ok f100000A2 f100000e2 f100000u2 f100000un2 (fun {_R} κ => S_slices_IndexFunc_n100000_2 (fun t => κ (none) (f100000x2_0 t)) (fun t => κ (some 0) (f100000x2_1 t))) (fun {_R} κ s => f100000B2 κ s) (fun {_R} κ again t => f100000C2 κ again t)
theorem k100000 : Contract C Try.prog f100000K := contract_tab _ (fun p hp => by
    simp only [List.mem_cons, List.mem_nil_iff, or_false] at hp
    rcases hp with rfl
    · exact ok139)
theorem ev100000 (x : List E_Age × Int) : evalB C f100000K f100000P 100000 Try.f138 f100000B ⟨[.v false [(.sl 134 ts_Age)] [false], .p (some 139) [(.int .i64)] [false]], [⟨false, [(.int .i64)], [false]⟩], false⟩ [(.sl 134 ts_Age), (.int .i64)] [(.int .i64), (.int .i64)] x = F_slices_IndexFunc_n100000 x := by kernel_rfl
theorem ok100000 : ContractAt C Try.prog 100000 F_slices_IndexFunc_n100000 := fn_sound (lp := f100000P) tok mixed k100000 (by kernel_rfl) (fn := Try.f138) (c := f100000B) (sg := ⟨[.v false [(.sl 134 ts_Age)] [false], .p (some 139) [(.int .i64)] [false]], [⟨false, [(.int .i64)], [false]⟩], false⟩) Try.func138 (by decide) (by kernel_rfl) (by kernel_rfl) (by kernel_rfl) (fun c' hc' => by
    rw [show loopsOf f100000B = [f100000c2] by kernel_rfl] at hc'
    simp only [List.mem_cons, List.mem_nil_iff, or_false] at hc'
    rcases hc' with rfl
    · exact f100000ok2) (by decide) (by decide) (fun x y h => (ev100000 x).trans h)

/-! ### 134: impl.AgeAt -/
noncomputable def F_impl_AgeAt (x : List E_Age × Int) : Option (Int) :=
  Option.bind (F_slices_IndexFunc_n100000 (x.1, x.2)) fun r1 => some r1.1
noncomputable def f134B : Code := match Try.f134.body with
  | some c => c
  | none => .skip
noncomputable def f134K : C.Sem := tab [⟨100000, F_slices_IndexFunc_n100000⟩]
noncomputable def f134P : Lp := fun i s {_R} κ => none
theorem k134 : Contract C Try.prog f134K := contract_tab _ (fun p hp => by
    simp only [List.mem_cons, List.mem_nil_iff, or_false] at hp
    rcases hp with rfl
    · exact ok100000)
theorem ev134 (x : List E_Age × Int) : evalB C f134K f134P 134 Try.f134 f134B ⟨[.v false [(.sl 134 ts_Age)] [false], .v false [(.int .i64)] [false]], [⟨false, [(.int .i64)], [false]⟩], false⟩ [(.sl 134 ts_Age), (.int .i64)] [(.int .i64)] x = F_impl_AgeAt x := by kernel_rfl
theorem ok134 : ContractAt C Try.prog 134 F_impl_AgeAt := fn_sound (lp := f134P) tok mixed k134 (by kernel_rfl) (fn := Try.f134) (c := f134B) (sg := ⟨[.v false [(.sl 134 ts_Age)] [false], .v false [(.int .i64)] [false]], [⟨false, [(.int .i64)], [false]⟩], false⟩) Try.func134 (by decide) (by kernel_rfl) (by kernel_rfl) (by kernel_rfl) (fun c' hc' => by
    rw [show loopsOf f134B = [] by kernel_rfl] at hc'
    cases hc') (by decide) (by decide) (fun x y h => (ev134 x).trans h)

/-! ### 121: impl.PathOf -/
abbrev T_impl_PathOf_3 : Type := List E_Age × Int × Int × Int × List E_i64
noncomputable def S_impl_PathOf_3 {R : Type} (k0 : List E_i64 → Option R) (again : T_impl_PathOf_3 → Option R) (t3 : T_impl_PathOf_3) : Option R :=
  bif (decide (t3.2.2.2.1 < t3.2.2.1)) then Option.bind (F_impl_AgeAt (t3.1, t3.2.1)) fun r1 => bif (decide (r1 < (0 : Int))) then k0 t3.2.2.2.2 else if (List.length t3.2.2.2.2 + List.length ([t3.2.1] : List E_i64)) * 8 < 140737488355328 then if (0 : Int) ≤ r1 then if r1 < ((List.length t3.1 : Nat) : Int) then again (t3.1, (rd_Age t3.1 r1).2, t3.2.2.1, (Go.IntKind.wrap .i64 (t3.2.2.2.1 + (1 : Int))), (t3.2.2.2.2 ++ ([t3.2.1] : List E_i64))) else none else none else none else k0 t3.2.2.2.2
noncomputable def L_impl_PathOf_3 {R : Type} (k0 : List E_i64 → Option R) (t : T_impl_PathOf_3) : Option R := iter (S_impl_PathOf_3 k0) FUEL t
noncomputable def F_impl_PathOf (x : List E_Age × Int) : Option (List E_i64) :=
  L_impl_PathOf_3 (fun x2 => some x2) (x.1, x.2, (Go.IntKind.wrap .i64 (((List.length x.1 : Nat) : Int) + (1 : Int))), (0 : Int), ([] : List E_i64))
noncomputable def f121B : Code := match Try.f121.body with
  | some c => c
  | none => .skip
noncomputable def f121K : C.Sem := tab [⟨134, F_impl_AgeAt⟩]
def f121h3_0 : List Sh := [.v (.sl 134 ts_Age), .v (.int .i64), .dead, .dead, .dead, .own 10000000, .dead, .dead, .dead, .dead, .v (.int .i64), .v (.int .i64), .dead, .dead, .dead, .dead, .dead, .dead, .dead, .dead, .dead, .dead, .dead, .dead, .dead, .dead, .dead, .dead, .dead]
def f121o3_0 : List (Nat × OSh) := [(10000000, .root true 3 ts_i64)]
def f121e3_0 (t : List E_Age × Int × Int × Int × List E_i64) : St := ⟨[.val (.sl 134 ts_Age) t.1, .val (.int .i64) t.2.1, .dead, .dead, .dead, .own 10000000, .dead, .dead, .dead, .dead, .val (.int .i64) t.2.2.1, .val (.int .i64) t.2.2.2.1, .dead, .dead, .dead, .dead, .dead, .dead, .dead, .dead, .dead, .dead, .dead, .dead, .dead, .dead, .dead, .dead, .dead], [(10000000, .root true 3 ts_i64 t.2.2.2.2)]⟩
def f121x3_0 (t : List E_i64) : St := ⟨[.dead, .dead, .dead, .dead, .dead, .own 10000000, .dead, .dead, .dead, .dead, .dead, .dead, .dead, .dead, .dead, .dead, .dead, .dead, .dead, .dead, .dead, .dead, .dead, .dead, .dead, .dead, .dead, .dead, .dead], [(10000000, .root true 3 ts_i64 t)]⟩
def f121u3_0 (s : St) : Option (List E_Age × Int × Int × Int × List E_i64) := (unS f121h3_0 f121o3_0 s).map fun v => (v.1.1, v.1.2.1, v.1.2.2.2.2.2.2.2.2.2.2.1, v.1.2.2.2.2.2.2.2.2.2.2.2.1, v.2.1)
theorem f121un3_0 : ∀ (s : St) (t : List E_Age × Int × Int × Int × List E_i64), f121u3_0 s = some t → f121e3_0 t = s := fun s v h => by
  obtain ⟨u, hu, rfl⟩ := Option.map_eq_some_iff.1 h
  exact (show f121e3_0 (u.1.1, u.1.2.1, u.1.2.2.2.2.2.2.2.2.2.2.1, u.1.2.2.2.2.2.2.2.2.2.2.2.1, u.2.1) = mkS f121h3_0 f121o3_0 u by kernel_rfl).trans (mkS_un f121h3_0 f121o3_0 s u hu)
def f121u3 : St → Option (List E_Age × Int × Int × Int × List E_i64) := f121u3_0
def f121e3 : (List E_Age × Int × Int × Int × List E_i64) → St := f121e3_0
theorem f121un3 : ∀ (s : St) (t : List E_Age × Int × Int × Int × List E_i64), f121u3 s = some t → f121e3 t = s := f121un3_0
noncomputable def f121P : Lp := fun i s {_R} κ => bif Nat.beq i 3 then (f121u3 s).bind fun t => L_impl_PathOf_3 (fun t => κ (some 0) (f121x3_0 t)) t else none
noncomputable def f121c3 : Code := (loopsOf f121B).getD 0 .skip
theorem f121A3 : C.live 121 (firstRegion f121c3) = some ([0, 1, 5, 10, 11], [5]) := by kernel_rfl
theorem f121B3 {R : Type} (κ : Option Nat → St → Option R) (s : St) : f121P (firstRegion f121c3) s κ = (f121u3 s).bind fun t => iter (S_impl_PathOf_3 (fun t => κ (some 0) (f121x3_0 t))) FUEL t := by kernel_rfl
theorem f121C3 {R : Type} (κ : Option Nat → St → Option R) (again : St → Option R) (t : T_impl_PathOf_3) : stepL C f121K f121P 121 f121c3 [0, 1, 5, 10, 11] [5] κ again (f121e3 t) = S_impl_PathOf_3 (fun t => κ (some 0) (f121x3_0 t)) (fun t => again (f121e3 t)) t := by kernel_rfl
theorem f121ok3 : LoopOk C f121K f121P 121 f121c3 := loop_ok f121A3 f121e3 f121u3 f121un3 (fun {_R} κ => S_impl_PathOf_3 (fun t => κ (some 0) (f121x3_0 t))) (fun {_R} κ s => f121B3 κ s) (fun {_R} κ again t => f121C3 κ again t)
theorem k121 : Contract C Try.prog f121K := contract_tab _ (fun p hp => by
    simp only [List.mem_cons, List.mem_nil_iff, or_false] at hp
    rcases hp with rfl
    · exact ok134)
theorem ev121 (x : List E_Age × Int) : evalB C f121K f121P 121 Try.f121 f121B ⟨[.v false [(.sl 134 ts_Age)] [false], .v false [(.int .i64)] [false]], [⟨false, [(.sl 3 ts_i64)], [true]⟩], false⟩ [(.sl 134 ts_Age), (.int .i64)] [(.sl 3 ts_i64)] x = F_impl_PathOf x := by kernel_rfl
theorem ok121 : ContractAt C Try.prog 121 F_impl_PathOf := fn_sound (lp := f121P) tok mixed k121 (by kernel_rfl) (fn := Try.f121) (c := f121B) (sg := ⟨[.v false [(.sl 134 ts_Age)] [false], .v false [(.int .i64)] [false]], [⟨false, [(.sl 3 ts_i64)], [true]⟩], false⟩) Try.func121 (by decide) (by kernel_rfl) (by kernel_rfl) (by kernel_rfl) (fun c' hc' => by
    rw [show loopsOf f121B = [f121c3] by kernel_rfl] at hc'
    simp only [List.mem_cons, List.mem_nil_iff, or_false] at hc'
    rcases hc' with rfl
    · exact f121ok3) (by decide) (by decide) (fun x y h => (ev121 x).trans h)

/-! ### 105: impl.Seen -/
noncomputable def F_impl_Seen (x : List E_i64 × List E_Node × List E_Age × Int × Int) : Option (Int × Int × Int × Int × Int × Bool) :=
  Option.bind (F_impl_PathOf (x.2.2.1, x.2.2.2.2)) fun r1 => Option.bind (F_impl_seenOn (x.1, x.2.1, x.2.2.2.1, r1)) fun r2 => some (r2.1, r2.2.1, r2.2.2.1, r2.2.2.2.1, r2.2.2.2.2.1, r2.2.2.2.2.2)
noncomputable def f105B : Code := match Try.f105.body with
  | some c => c
  | none => .skip
noncomputable def f105K : C.Sem := tab [⟨120, F_impl_seenOn⟩, ⟨121, F_impl_PathOf⟩]
noncomputable def f105P : Lp := fun i s {_R} κ => none
theorem k105 : Contract C Try.prog f105K := contract_tab _ (fun p hp => by
    simp only [List.mem_cons, List.mem_nil_iff, or_false] at hp
    rcases hp with rfl | rfl
    · exact ok120
    · exact ok121)
theorem ev105 (x : List E_i64 × List E_Node × List E_Age × Int × Int) : evalB C f105K f105P 105 Try.f105 f105B ⟨[.v true [(.sl 3 ts_i64), (.sl 128 ts_Node)] [false, false], .v false [(.sl 134 ts_Age)] [false], .v false [(.int .i64)] [false], .v false [(.int .i64)] [false]], [⟨true, [(.int .i64), (.int .i64), (.int .i64), (.int .i64), (.int .i64)], [false, false, false, false, false]⟩, ⟨false, [.bool], [false]⟩], false⟩ [(.sl 3 ts_i64), (.sl 128 ts_Node), (.sl 134 ts_Age), (.int .i64), (.int .i64)] [(.int .i64), (.int .i64), (.int .i64), (.int .i64), (.int .i64), .bool] x = F_impl_Seen x := by kernel_rfl
theorem ok105 : ContractAt C Try.prog 105 F_impl_Seen := fn_sound (lp := f105P) tok mixed k105 (by kernel_rfl) (fn := Try.f105) (c := f105B) (sg := ⟨[.v true [(.sl 3 ts_i64), (.sl 128 ts_Node)] [false, false], .v false [(.sl 134 ts_Age)] [false], .v false [(.int .i64)] [false], .v false [(.int .i64)] [false]], [⟨true, [(.int .i64), (.int .i64), (.int .i64), (.int .i64), (.int .i64)], [false, false, false, false, false]⟩, ⟨false, [.bool], [false]⟩], false⟩) Try.func105 (by decide) (by kernel_rfl) (by kernel_rfl) (by kernel_rfl) (fun c' hc' => by
    rw [show loopsOf f105B = [] by kernel_rfl] at hc'
    cases hc') (by decide) (by decide) (fun x y h => (ev105 x).trans h)

/-! ### 86: impl.Sees -/
noncomputable def F_impl_Sees (x : List E_i64 × List E_Node × List E_Age × Int × Int × Int × Int × Int × Int) : Option (Bool) :=
  Option.bind (F_impl_Seen (x.1, x.2.1, x.2.2.1, x.2.2.2.1, x.2.2.2.2.2.2.2.2)) fun r1 => Option.bind (bif r1.2.2.2.2.2 then some (r1.2.1 == x.2.2.2.2.1) else some false) fun u2 => some u2
noncomputable def f86B : Code := match Try.f86.body with
  | some c => c
  | none => .skip
noncomputable def f86K : C.Sem := tab [⟨105, F_impl_Seen⟩]
noncomputable def f86P : Lp := fun i s {_R} κ => none
theorem k86 : Contract C Try.prog f86K := contract_tab _ (fun p hp => by
    simp only [List.mem_cons, List.mem_nil_iff, or_false] at hp
    rcases hp with rfl
    · exact ok105)
theorem ev86 (x : List E_i64 × List E_Node × List E_Age × Int × Int × Int × Int × Int × Int) : evalB C f86K f86P 86 Try.f86 f86B ⟨[.v true [(.sl 3 ts_i64), (.sl 128 ts_Node)] [false, false], .v false [(.sl 134 ts_Age)] [false], .v true [(.int .i64), (.int .i64), (.int .i64), (.int .i64), (.int .i64)] [false, false, false, false, false], .v false [(.int .i64)] [false]], [⟨false, [.bool], [false]⟩], false⟩ [(.sl 3 ts_i64), (.sl 128 ts_Node), (.sl 134 ts_Age), (.int .i64), (.int .i64), (.int .i64), (.int .i64), (.int .i64), (.int .i64)] [.bool] x = F_impl_Sees x := by kernel_rfl
theorem ok86 : ContractAt C Try.prog 86 F_impl_Sees := fn_sound (lp := f86P) tok mixed k86 (by kernel_rfl) (fn := Try.f86) (c := f86B) (sg := ⟨[.v true [(.sl 3 ts_i64), (.sl 128 ts_Node)] [false, false], .v false [(.sl 134 ts_Age)] [false], .v true [(.int .i64), (.int .i64), (.int .i64), (.int .i64), (.int .i64)] [false, false, false, false, false], .v false [(.int .i64)] [false]], [⟨false, [.bool], [false]⟩], false⟩) Try.func86 (by decide) (by kernel_rfl) (by kernel_rfl) (by kernel_rfl) (fun c' hc' => by
    rw [show loopsOf f86B = [] by kernel_rfl] at hc'
    cases hc') (by decide) (by decide) (fun x y h => (ev86 x).trans h)

/-! ### 48: impl.SeenByAny -/
abbrev T_impl_SeenByAny_2 : Type := List E_Vol × Int × Int × List E_i64 × List E_Node × List E_Age × List E_Cell × List E_Vol × Int × Int × Int × Int × Int × Int
noncomputable def S_impl_SeenByAny_2 {R : Type} (k0 : Bool → Option R) (k1 : Unit → Option R) (again : T_impl_SeenByAny_2 → Option R) (t2 : T_impl_SeenByAny_2) : Option R :=
  bif (decide (t2.2.2.1 < t2.2.1)) then if (0 : Int) ≤ t2.2.2.1 then if t2.2.2.1 < ((List.length t2.1 : Nat) : Int) then Option.bind (bif (decide ((rd_Vol t2.1 t2.2.2.1).2.2.1 > t2.2.2.2.2.2.2.2.2.2.1)) then Option.bind (F_impl_Sees (t2.2.2.2.1, t2.2.2.2.2.1, t2.2.2.2.2.2.1, t2.2.2.2.2.2.2.2.2.2.1, t2.2.2.2.2.2.2.2.2.2.2.1, t2.2.2.2.2.2.2.2.2.2.2.2.1, t2.2.2.2.2.2.2.2.2.2.2.2.2.1, t2.2.2.2.2.2.2.2.2.2.2.2.2.2, (rd_Vol t2.1 t2.2.2.1).2.1)) fun r2 => some r2 else some false) fun u1 => bif u1 then k0 true else again (t2.1, t2.2.1, (Go.IntKind.wrap .i64 (t2.2.2.1 + (1 : Int))), t2.2.2.2.1, t2.2.2.2.2.1, t2.2.2.2.2.2.1, t2.2.2.2.2.2.2.1, t2.2.2.2.2.2.2.2.1, t2.2.2.2.2.2.2.2.2.1, t2.2.2.2.2.2.2.2.2.2.1, t2.2.2.2.2.2.2.2.2.2.2.1, t2.2.2.2.2.2.2.2.2.2.2.2.1, t2.2.2.2.2.2.2.2.2.2.2.2.2.1, t2.2.2.2.2.2.2.2.2.2.2.2.2.2) else none else none else k1 ()
noncomputable def L_impl_SeenByAny_2 {R : Type} (k0 : Bool → Option R) (k1 : Unit → Option R) (t : T_impl_SeenByAny_2) : Option R := iter (S_impl_SeenByAny_2 k0 k1) FUEL t
noncomputable def F_impl_SeenByAny (x : List E_i64 × List E_Node × List E_Age × List E_Cell × List E_Vol × Int × Int × Int × Int × Int × Int) : Option (Bool) :=
  L_impl_SeenByAny_2 (fun x3 => some x3) (fun x4 => some false) (x.2.2.2.2.1, ((List.length x.2.2.2.2.1 : Nat) : Int), (0 : Int), x.1, x.2.1, x.2.2.1, x.2.2.2.1, x.2.2.2.2.1, x.2.2.2.2.2.1, x.2.2.2.2.2.2.1, x.2.2.2.2.2.2.2.1, x.2.2.2.2.2.2.2.2.1, x.2.2.2.2.2.2.2.2.2.1, x.2.2.2.2.2.2.2.2.2.2)
noncomputable def f48B : Code := match Try.f48.body with
  | some c => c
  | none => .skip
noncomputable def f48K : C.Sem := tab [⟨86, F_impl_Sees⟩]
def f48h2_0 : List Sh := [.dead, .dead, .box 2 0, .box 3 0, .dead, .dead, .dead, .dead, .v (.sl 129 ts_Vol), .v (.int .i64), .v (.int .i64), .dead, .dead, .dead, .dead, .dead, .dead, .dead, .dead, .dead, .dead, .dead, .dead, .dead, .dead, .dead, .dead, .dead, .dead, .dead]
def f48o2_0 : List (Nat × OSh) := [(2, .box [.v (.sl 3 ts_i64), .v (.sl 128 ts_Node), .v (.sl 134 ts_Age), .v (.sl 138 ts_Cell), .v (.sl 129 ts_Vol), .v (.int .i64)]), (3, .box [.v (.int .i64), .v (.int .i64), .v (.int .i64), .v (.int .i64), .v (.int .i64)])]
def f48e2_0 (t : List E_Vol × Int × Int × List E_i64 × List E_Node × List E_Age × List E_Cell × List E_Vol × Int × Int × Int × Int × Int × Int) : St := ⟨[.dead, .dead, .box 2 0, .box 3 0, .dead, .dead, .dead, .dead, .val (.sl 129 ts_Vol) t.1, .val (.int .i64) t.2.1, .val (.int .i64) t.2.2.1, .dead, .dead, .dead, .dead, .dead, .dead, .dead, .dead, .dead, .dead, .dead, .dead, .dead, .dead, .dead, .dead, .dead, .dead, .dead], [(2, .box [.val (.sl 3 ts_i64) t.2.2.2.1, .val (.sl 128 ts_Node) t.2.2.2.2.1, .val (.sl 134 ts_Age) t.2.2.2.2.2.1, .val (.sl 138 ts_Cell) t.2.2.2.2.2.2.1, .val (.sl 129 ts_Vol) t.2.2.2.2.2.2.2.1, .val (.int .i64) t.2.2.2.2.2.2.2.2.1]), (3, .box [.val (.int .i64) t.2.2.2.2.2.2.2.2.2.1, .val (.int .i64) t.2.2.2.2.2.2.2.2.2.2.1, .val (.int .i64) t.2.2.2.2.2.2.2.2.2.2.2.1, .val (.int .i64) t.2.2.2.2.2.2.2.2.2.2.2.2.1, .val (.int .i64) t.2.2.2.2.2.2.2.2.2.2.2.2.2])]⟩
def f48x2_0 (t : Bool) : St := ⟨[.dead, .dead, .dead, .dead, .val .bool t, .dead, .dead, .dead, .dead, .dead, .dead, .dead, .dead, .dead, .dead, .dead, .dead, .dead, .dead, .dead, .dead, .dead, .dead, .dead, .dead, .dead, .dead, .dead, .dead, .dead], []⟩
def f48x2_1 (t : Unit) : St := ⟨[.dead, .dead, .dead, .dead, .dead, .dead, .dead, .dead, .dead, .dead, .dead, .dead, .dead, .dead, .dead, .dead, .dead, .dead, .dead, .dead, .dead, .dead, .dead, .dead, .dead, .dead, .dead, .dead, .dead, .dead], []⟩
def f48u2_0 (s : St) : Option (List E_Vol × Int × Int × List E_i64 × List E_Node × List E_Age × List E_Cell × List E_Vol × Int × Int × Int × Int × Int × Int) := (unS f48h2_0 f48o2_0 s).map fun v => (v.1.2.2.2.2.2.2.2.2.1, v.1.2.2.2.2.2.2.2.2.2.1, v.1.2.2.2.2.2.2.2.2.2.2.1, v.2.1.1, v.2.1.2.1, v.2.1.2.2.1, v.2.1.2.2.2.1, v.2.1.2.2.2.2.1, v.2.1.2.2.2.2.2.1, v.2.2.1.1, v.2.2.1.2.1, v.2.2.1.2.2.1, v.2.2.1.2.2.2.1, v.2.2.1.2.2.2.2.1)
theorem f48un2_0 : ∀ (s : St) (t : List E_Vol × Int × Int × List E_i64 × List E_Node × List E_Age × List E_Cell × List E_Vol × Int × Int × Int × Int × Int × Int), f48u2_0 s = some t → f48e2_0 t = s := fun s v h => by
  obtain ⟨u, hu, rfl⟩ := Option.map_eq_some_iff.1 h
  exact (show f48e2_0 (u.1.2.2.2.2.2.2.2.2.1, u.1.2.2.2.2.2.2.2.2.2.1, u.1.2.2.2.2.2.2.2.2.2.2.1, u.2.1.1, u.2.1.2.1, u.2.1.2.2.1, u.2.1.2.2.2.1, u.2.1.2.2.2.2.1, u.2.1.2.2.2.2.2.1, u.2.2.1.1, u.2.2.1.2.1, u.2.2.1.2.2.1, u.2.2.1.2.2.2.1, u.2.2.1.2.2.2.2.1) = mkS f48h2_0 f48o2_0 u by kernel_rfl).trans (mkS_un f48h2_0 f48o2_0 s u hu)
def f48u2 : St → Option (List E_Vol × Int × Int × List E_i64 × List E_Node × List E_Age × List E_Cell × List E_Vol × Int × Int × Int × Int × Int × Int) := f48u2_0
def f48e2 : (List E_Vol × Int × Int × List E_i64 × List E_Node × List E_Age × List E_Cell × List E_Vol × Int × Int × Int × Int × Int × Int) → St := f48e2_0
theorem f48un2 : ∀ (s : St) (t : List E_Vol × Int × Int × List E_i64 × List E_Node × List E_Age × List E_Cell × List E_Vol × Int × Int × Int × Int × Int × Int), f48u2 s = some t → f48e2 t = s := f48un2_0
noncomputable def f48P : Lp := fun i s {_R} κ => bif Nat.beq i 2 then (f48u2 s).bind fun t => L_impl_SeenByAny_2 (fun t => κ (none) (f48x2_0 t)) (fun t => κ (some 0) (f48x2_1 t)) t else none
noncomputable def f48c2 : Code := (loopsOf f48B).getD 0 .skip
theorem f48A2 : C.live 48 (firstRegion f48c2) = some ([2, 3, 8, 9, 10, 20, 21, 22, 23, 24, 25, 26, 27], [4]) := by kernel_rfl
theorem f48B2 {R : Type} (κ : Option Nat → St → Option R) (s : St) : f48P (firstRegion f48c2) s κ = (f48u2 s).bind fun t => iter (S_impl_SeenByAny_2 (fun t => κ (none) (f48x2_0 t)) (fun t => κ (some 0) (f48x2_1 t))) FUEL t := by kernel_rfl
theorem f48C2 {R : Type} (κ : Option Nat → St → Option R) (again : St → Option R) (t : T_impl_SeenByAny_2) : stepL C f48K f48P 48 f48c2 [2, 3, 8, 9, 10, 20, 21, 22, 23, 24, 25, 26, 27] [4] κ again (f48e2 t) = S_impl_SeenByAny_2 (fun t => κ (none) (f48x2_0 t)) (fun t => κ (some 0) (f48x2_1 t)) (fun t => again (f48e2 t)) t := by kernel_rfl
theorem f48ok2 : LoopOk C f48K f48P 48 f48c2 := loop_ok f48A2 f48e2 f48u2 f48un2 (fun {_R} κ => S_impl_SeenByAny_2 (fun t => κ (none) (f48x2_0 t)) (fun t => κ (some 0) (f48x2_1 t))) (fun {_R} κ s => f48B2 κ s) (fun {_R} κ again t => f48C2 κ again t)
theorem k48 : Contract C Try.prog f48K := contract_tab _ (fun p hp => by
    simp only [List.mem_cons, List.mem_nil_iff, or_false] at hp
    rcases hp with rfl
    · exact ok86)
theorem ev48 (x : List E_i64 × List E_Node × List E_Age × List E_Cell × List E_Vol × Int × Int × Int × Int × Int × Int) : evalB C f48K f48P 48 Try.f48 f48B ⟨[.v true [(.sl 3 ts_i64), (.sl 128 ts_Node), (.sl 134 ts_Age), (.sl 138 ts_Cell), (.sl 129 ts_Vol), (.int .i64)] [false, false, false, false, false, false], .v true [(.int .i64), (.int .i64), (.int .i64), (.int .i64), (.int .i64)] [false, false, false, false, false]], [⟨false, [.bool], [false]⟩], false⟩ [(.sl 3 ts_i64), (.sl 128 ts_Node), (.sl 134 ts_Age), (.sl 138 ts_Cell), (.sl 129 ts_Vol), (.int .i64), (.int .i64), (.int .i64), (.int .i64), (.int .i64), (.int .i64)] [.bool] x = F_impl_SeenByAny x := by kernel_rfl
theorem ok48 : ContractAt C Try.prog 48 F_impl_SeenByAny := fn_sound (lp := f48P) tok mixed k48 (by kernel_rfl) (fn := Try.f48) (c := f48B) (sg := ⟨[.v true [(.sl 3 ts_i64), (.sl 128 ts_Node), (.sl 134 ts_Age), (.sl 138 ts_Cell), (.sl 129 ts_Vol), (.int .i64)] [false, false, false, false, false, false], .v true [(.int .i64), (.int .i64), (.int .i64), (.int .i64), (.int .i64)] [false, false, false, false, false]], [⟨false, [.bool], [false]⟩], false⟩) Try.func48 (by decide) (by kernel_rfl) (by kernel_rfl) (by kernel_rfl) (fun c' hc' => by
    rw [show loopsOf f48B = [f48c2] by kernel_rfl] at hc'
    simp only [List.mem_cons, List.mem_nil_iff, or_false] at hc'
    rcases hc' with rfl
    · exact f48ok2) (by decide) (by decide) (fun x y h => (ev48 x).trans h)

/-! ### 17: impl.Distinct -/
abbrev T_impl_Distinct_3 : Type := Int × Int × Int × List E_i64 × List E_Node × List E_Age × List E_Cell × List E_Vol × Int × List E_Key
noncomputable def S_impl_Distinct_3 {R : Type} (k0 : Int → Option R) (again : T_impl_Distinct_3 → Option R) (t3 : T_impl_Distinct_3) : Option R :=
  bif (decide (t3.2.2.1 < t3.2.1)) then if (0 : Int) ≤ t3.2.2.1 then if t3.2.2.1 < ((List.length t3.2.2.2.2.2.2.2.2.2 : Nat) : Int) then Option.bind (bif ((rd_Key t3.2.2.2.2.2.2.2.2.2 t3.2.2.1).2.2.1 == (1 : Int)) then Option.bind (F_impl_SeenByAny (t3.2.2.2.1, t3.2.2.2.2.1, t3.2.2.2.2.2.1, t3.2.2.2.2.2.2.1, t3.2.2.2.2.2.2.2.1, t3.2.2.2.2.2.2.2.2.1, (rd_Key t3.2.2.2.2.2.2.2.2.2 t3.2.2.1).1, (rd_Key t3.2.2.2.2.2.2.2.2.2 t3.2.2.1).2.1, (rd_Key t3.2.2.2.2.2.2.2.2.2 t3.2.2.1).2.2.1, (rd_Key t3.2.2.2.2.2.2.2.2.2 t3.2.2.1).2.2.2.1, (rd_Key t3.2.2.2.2.2.2.2.2.2 t3.2.2.1).2.2.2.2)) fun r3 => some r3 else some false) fun u2 => bif u2 then again ((Go.IntKind.wrap .i64 (t3.1 + (1 : Int))), t3.2.1, (Go.IntKind.wrap .i64 (t3.2.2.1 + (1 : Int))), t3.2.2.2.1, t3.2.2.2.2.1, t3.2.2.2.2.2.1, t3.2.2.2.2.2.2.1, t3.2.2.2.2.2.2.2.1, t3.2.2.2.2.2.2.2.2.1, t3.2.2.2.2.2.2.2.2.2) else again (t3.1, t3.2.1, (Go.IntKind.wrap .i64 (t3.2.2.1 + (1 : Int))), t3.2.2.2.1, t3.2.2.2.2.1, t3.2.2.2.2.2.1, t3.2.2.2.2.2.2.1, t3.2.2.2.2.2.2.2.1, t3.2.2.2.2.2.2.2.2.1, t3.2.2.2.2.2.2.2.2.2) else none else none else k0 t3.1
noncomputable def L_impl_Distinct_3 {R : Type} (k0 : Int → Option R) (t : T_impl_Distinct_3) : Option R := iter (S_impl_Distinct_3 k0) FUEL t
noncomputable def F_impl_Distinct (x : List E_i64 × List E_Node × List E_Age × List E_Cell × List E_Vol × Int) : Option (Int) :=
  Option.bind (F_impl_TreeKeys (x.1, x.2.1)) fun r1 => L_impl_Distinct_3 (fun x4 => some x4) ((0 : Int), ((List.length r1 : Nat) : Int), (0 : Int), x.1, x.2.1, x.2.2.1, x.2.2.2.1, x.2.2.2.2.1, x.2.2.2.2.2, r1)
noncomputable def f17B : Code := match Try.f17.body with
  | some c => c
  | none => .skip
noncomputable def f17K : C.Sem := tab [⟨47, F_impl_TreeKeys⟩, ⟨48, F_impl_SeenByAny⟩]
def f17h3_0 : List Sh := [.dead, .box 1 0, .dead, .v (.int .i64), .dead, .dead, .dead, .dead, .own 10000000, .v (.int .i64), .v (.int .i64), .dead, .dead, .dead, .dead, .dead, .dead, .dead, .dead, .dead, .dead, .dead, .dead, .dead, .dead, .dead]
def f17o3_0 : List (Nat × OSh) := [(1, .box [.v (.sl 3 ts_i64), .v (.sl 128 ts_Node), .v (.sl 134 ts_Age), .v (.sl 138 ts_Cell), .v (.sl 129 ts_Vol), .v (.int .i64)]), (10000000, .root true 86 ts_Key)]
def f17e3_0 (t : Int × Int × Int × List E_i64 × List E_Node × List E_Age × List E_Cell × List E_Vol × Int × List E_Key) : St := ⟨[.dead, .box 1 0, .dead, .val (.int .i64) t.1, .dead, .dead, .dead, .dead, .own 10000000, .val (.int .i64) t.2.1, .val (.int .i64) t.2.2.1, .dead, .dead, .dead, .dead, .dead, .dead, .dead, .dead, .dead, .dead, .dead, .dead, .dead, .dead, .dead], [(1, .box [.val (.sl 3 ts_i64) t.2.2.2.1, .val (.sl 128 ts_Node) t.2.2.2.2.1, .val (.sl 134 ts_Age) t.2.2.2.2.2.1, .val (.sl 138 ts_Cell) t.2.2.2.2.2.2.1, .val (.sl 129 ts_Vol) t.2.2.2.2.2.2.2.1, .val (.int .i64) t.2.2.2.2.2.2.2.2.1]), (10000000, .root true 86 ts_Key t.2.2.2.2.2.2.2.2.2)]⟩
def f17x3_0 (t : Int) : St := ⟨[.dead, .dead, .dead, .val (.int .i64) t, .dead, .dead, .dead, .dead, .dead, .dead, .dead, .dead, .dead, .dead, .dead, .dead, .dead, .dead, .dead, .dead, .dead, .dead, .dead, .dead, .dead, .dead], []⟩
def f17u3_0 (s : St) : Option (Int × Int × Int × List E_i64 × List E_Node × List E_Age × List E_Cell × List E_Vol × Int × List E_Key) := (unS f17h3_0 f17o3_0 s).map fun v => (v.1.2.2.2.1, v.1.2.2.2.2.2.2.2.2.2.1, v.1.2.2.2.2.2.2.2.2.2.2.1, v.2.1.1, v.2.1.2.1, v.2.1.2.2.1, v.2.1.2.2.2.1, v.2.1.2.2.2.2.1, v.2.1.2.2.2.2.2.1, v.2.2.1)
theorem f17un3_0 : ∀ (s : St) (t : Int × Int × Int × List E_i64 × List E_Node × List E_Age × List E_Cell × List E_Vol × Int × List E_Key), f17u3_0 s = some t → f17e3_0 t = s := fun s v h => by
  obtain ⟨u, hu, rfl⟩ := Option.map_eq_some_iff.1 h
  exact (show f17e3_0 (u.1.2.2.2.1, u.1.2.2.2.2.2.2.2.2.2.1, u.1.2.2.2.2.2.2.2.2.2.2.1, u.2.1.1, u.2.1.2.1, u.2.1.2.2.1, u.2.1.2.2.2.1, u.2.1.2.2.2.2.1, u.2.1.2.2.2.2.2.1, u.2.2.1) = mkS f17h3_0 f17o3_0 u by kernel_rfl).trans (mkS_un f17h3_0 f17o3_0 s u hu)
def f17u3 : St → Option (Int × Int × Int × List E_i64 × List E_Node × List E_Age × List E_Cell × List E_Vol × Int × List E_Key) := f17u3_0
def f17e3 : (Int × Int × Int × List E_i64 × List E_Node × List E_Age × List E_Cell × List E_Vol × Int × List E_Key) → St := f17e3_0
theorem f17un3 : ∀ (s : St) (t : Int × Int × Int × List E_i64 × List E_Node × List E_Age × List E_Cell × List E_Vol × Int × List E_Key), f17u3 s = some t → f17e3 t = s := f17un3_0
noncomputable def f17P : Lp := fun i s {_R} κ => bif Nat.beq i 3 then (f17u3 s).bind fun t => L_impl_Distinct_3 (fun t => κ (some 0) (f17x3_0 t)) t else none
noncomputable def f17c3 : Code := (loopsOf f17B).getD 0 .skip
theorem f17A3 : C.live 17 (firstRegion f17c3) = some ([1, 3, 8, 9, 10, 18, 19, 20], [3]) := by kernel_rfl
theorem f17B3 {R : Type} (κ : Option Nat → St → Option R) (s : St) : f17P (firstRegion f17c3) s κ = (f17u3 s).bind fun t => iter (S_impl_Distinct_3 (fun t => κ (some 0) (f17x3_0 t))) FUEL t := by kernel_rfl
theorem f17C3 {R : Type} (κ : Option Nat → St → Option R) (again : St → Option R) (t : T_impl_Distinct_3) : stepL C f17K f17P 17 f17c3 [1, 3, 8, 9, 10, 18, 19, 20] [3] κ again (f17e3 t) = S_impl_Distinct_3 (fun t => κ (some 0) (f17x3_0 t)) (fun t => again (f17e3 t)) t := by kernel_rfl
theorem f17ok3 : LoopOk C f17K f17P 17 f17c3 := loop_ok f17A3 f17e3 f17u3 f17un3 (fun {_R} κ => S_impl_Distinct_3 (fun t => κ (some 0) (f17x3_0 t))) (fun {_R} κ s => f17B3 κ s) (fun {_R} κ again t => f17C3 κ again t)
theorem k17 : Contract C Try.prog f17K := contract_tab _ (fun p hp => by
    simp only [List.mem_cons, List.mem_nil_iff, or_false] at hp
    rcases hp with rfl | rfl
    · exact ok47
    · exact ok48)
theorem ev17 (x : List E_i64 × List E_Node × List E_Age × List E_Cell × List E_Vol × Int) : evalB C f17K f17P 17 Try.f17 f17B ⟨[.v true [(.sl 3 ts_i64), (.sl 128 ts_Node), (.sl 134 ts_Age), (.sl 138 ts_Cell), (.sl 129 ts_Vol), (.int .i64)] [false, false, false, false, false, false]], [⟨false, [(.int .i64)], [false]⟩], false⟩ [(.sl 3 ts_i64), (.sl 128 ts_Node), (.sl 134 ts_Age), (.sl 138 ts_Cell), (.sl 129 ts_Vol), (.int .i64)] [(.int .i64)] x = F_impl_Distinct x := by kernel_rfl
theorem ok17 : ContractAt C Try.prog 17 F_impl_Distinct := fn_sound (lp := f17P) tok mixed k17 (by kernel_rfl) (fn := Try.f17) (c := f17B) (sg := ⟨[.v true [(.sl 3 ts_i64), (.sl 128 ts_Node), (.sl 134 ts_Age), (.sl 138 ts_Cell), (.sl 129 ts_Vol), (.int .i64)] [false, false, false, false, false, false]], [⟨false, [(.int .i64)], [false]⟩], false⟩) Try.func17 (by decide) (by kernel_rfl) (by kernel_rfl) (by kernel_rfl) (fun c' hc' => by
    rw [show loopsOf f17B = [f17c3] by kernel_rfl] at hc'
    simp only [List.mem_cons, List.mem_nil_iff, or_false] at hc'
    rcases hc' with rfl
    · exact f17ok3) (by decide) (by decide) (fun x y h => (ev17 x).trans h)

/-! ### 87: laws.eqIntS -/
abbrev T_laws_eqIntS_4 : Type := List E_i64 × List E_i64 × Int
noncomputable def S_laws_eqIntS_4 {R : Type} (k0 : Bool → Option R) (k1 : Unit → Option R) (again : T_laws_eqIntS_4 → Option R) (t4 : T_laws_eqIntS_4) : Option R :=
  bif (decide (t4.2.2 < ((List.length t4.1 : Nat) : Int))) then if (0 : Int) ≤ t4.2.2 then if t4.2.2 < ((List.length t4.1 : Nat) : Int) then if (0 : Int) ≤ t4.2.2 then if t4.2.2 < ((List.length t4.2.1 : Nat) : Int) then bif ((rd_i64 t4.1 t4.2.2) != (rd_i64 t4.2.1 t4.2.2)) then k0 false else again (t4.1, t4.2.1, (Go.IntKind.wrap .i64 (t4.2.2 + (1 : Int)))) else none else none else none else none else k1 ()
noncomputable def L_laws_eqIntS_4 {R : Type} (k0 : Bool → Option R) (k1 : Unit → Option R) (t : T_laws_eqIntS_4) : Option R := iter (S_laws_eqIntS_4 k0 k1) FUEL t
noncomputable def F_laws_eqIntS (x : List E_i64 × List E_i64) : Option (Bool) :=
  bif (((List.length x.1 : Nat) : Int) != ((List.length x.2 : Nat) : Int)) then some false else L_laws_eqIntS_4 (fun x1 => some x1) (fun x2 => some true) (x.1, x.2, (0 : Int))
noncomputable def f87B : Code := match Try.f87.body with
  | some c => c
  | none => .skip
noncomputable def f87K : C.Sem := tab []
def f87h4_0 : List Sh := [.v (.sl 3 ts_i64), .v (.sl 3 ts_i64), .dead, .dead, .dead, .v (.int .i64), .dead, .dead, .dead, .dead, .dead, .dead, .dead, .dead, .dead, .dead, .dead, .dead, .dead, .dead, .dead, .dead, .dead, .dead, .dead, .dead]
def f87o4_0 : List (Nat × OSh) := []
def f87e4_0 (t : List E_i64 × List E_i64 × Int) : St := ⟨[.val (.sl 3 ts_i64) t.1, .val (.sl 3 ts_i64) t.2.1, .dead, .dead, .dead, .val (.int .i64) t.2.2, .dead, .dead, .dead, .dead, .dead, .dead, .dead, .dead, .dead, .dead, .dead, .dead, .dead, .dead, .dead, .dead, .dead, .dead, .dead, .dead], []⟩
def f87x4_0 (t : Bool) : St := ⟨[.dead, .dead, .dead, .dead, .val .bool t, .dead, .dead, .dead, .dead, .dead, .dead, .dead, .dead, .dead, .dead, .dead, .dead, .dead, .dead, .dead, .dead, .dead, .dead, .dead, .dead, .dead], []⟩
def f87x4_1 (t : Unit) : St := ⟨[.dead, .dead, .dead, .dead, .dead, .dead, .dead, .dead, .dead, .dead, .dead, .dead, .dead, .dead, .dead, .dead, .dead, .dead, .dead, .dead, .dead, .dead, .dead, .dead, .dead, .dead], []⟩
def f87u4_0 (s : St) : Option (List E_i64 × List E_i64 × Int) := (unS f87h4_0 f87o4_0 s).map fun v => (v.1.1, v.1.2.1, v.1.2.2.2.2.2.1)
theorem f87un4_0 : ∀ (s : St) (t : List E_i64 × List E_i64 × Int), f87u4_0 s = some t → f87e4_0 t = s := fun s v h => by
  obtain ⟨u, hu, rfl⟩ := Option.map_eq_some_iff.1 h
  exact (show f87e4_0 (u.1.1, u.1.2.1, u.1.2.2.2.2.2.1) = mkS f87h4_0 f87o4_0 u by kernel_rfl).trans (mkS_un f87h4_0 f87o4_0 s u hu)
def f87u4 : St → Option (List E_i64 × List E_i64 × Int) := f87u4_0
def f87e4 : (List E_i64 × List E_i64 × Int) → St := f87e4_0
theorem f87un4 : ∀ (s : St) (t : List E_i64 × List E_i64 × Int), f87u4 s = some t → f87e4 t = s := f87un4_0
noncomputable def f87P : Lp := fun i s {_R} κ => bif Nat.beq i 4 then (f87u4 s).bind fun t => L_laws_eqIntS_4 (fun t => κ (none) (f87x4_0 t)) (fun t => κ (some 0) (f87x4_1 t)) t else none
noncomputable def f87c4 : Code := (loopsOf f87B).getD 0 .skip
theorem f87A4 : C.live 87 (firstRegion f87c4) = some ([0, 1, 5], [4]) := by kernel_rfl
theorem f87B4 {R : Type} (κ : Option Nat → St → Option R) (s : St) : f87P (firstRegion f87c4) s κ = (f87u4 s).bind fun t => iter (S_laws_eqIntS_4 (fun t => κ (none) (f87x4_0 t)) (fun t => κ (some 0) (f87x4_1 t))) FUEL t := by kernel_rfl
theorem f87C4 {R : Type} (κ : Option Nat → St → Option R) (again : St → Option R) (t : T_laws_eqIntS_4) : stepL C f87K f87P 87 f87c4 [0, 1, 5] [4] κ again (f87e4 t) = S_laws_eqIntS_4 (fun t => κ (none) (f87x4_0 t)) (fun t => κ (some 0) (f87x4_1 t)) (fun t => again (f87e4 t)) t := by kernel_rfl
theorem f87ok4 : LoopOk C f87K f87P 87 f87c4 := loop_ok f87A4 f87e4 f87u4 f87un4 (fun {_R} κ => S_laws_eqIntS_4 (fun t => κ (none) (f87x4_0 t)) (fun t => κ (some 0) (f87x4_1 t))) (fun {_R} κ s => f87B4 κ s) (fun {_R} κ again t => f87C4 κ again t)
theorem k87 : Contract C Try.prog f87K := contract_tab _ (fun p hp => by cases hp)
theorem ev87 (x : List E_i64 × List E_i64) : evalB C f87K f87P 87 Try.f87 f87B ⟨[.v false [(.sl 3 ts_i64)] [false], .v false [(.sl 3 ts_i64)] [false]], [⟨false, [.bool], [false]⟩], false⟩ [(.sl 3 ts_i64), (.sl 3 ts_i64)] [.bool] x = F_laws_eqIntS x := by kernel_rfl
theorem ok87 : ContractAt C Try.prog 87 F_laws_eqIntS := fn_sound (lp := f87P) tok mixed k87 (by kernel_rfl) (fn := Try.f87) (c := f87B) (sg := ⟨[.v false [(.sl 3 ts_i64)] [false], .v false [(.sl 3 ts_i64)] [false]], [⟨false, [.bool], [false]⟩], false⟩) Try.func87 (by decide) (by kernel_rfl) (by kernel_rfl) (by kernel_rfl) (fun c' hc' => by
    rw [show loopsOf f87B = [f87c4] by kernel_rfl] at hc'
    simp only [List.mem_cons, List.mem_nil_iff, or_false] at hc'
    rcases hc' with rfl
    · exact f87ok4) (by decide) (by decide) (fun x y h => (ev87 x).trans h)

/-! ### 140: laws.eqKey -/
noncomputable def F_laws_eqKey (x : Int × Int × Int × Int × Int × Int × Int × Int × Int × Int) : Option (Bool) :=
  bif (x.1 != x.2.2.2.2.2.1) then some false else bif (x.2.1 != x.2.2.2.2.2.2.1) then some false else bif (x.2.2.1 != x.2.2.2.2.2.2.2.1) then some false else bif (x.2.2.2.1 != x.2.2.2.2.2.2.2.2.1) then some false else bif (x.2.2.2.2.1 != x.2.2.2.2.2.2.2.2.2) then some false else some true
noncomputable def f140B : Code := match Try.f140.body with
  | some c => c
  | none => .skip
noncomputable def f140K : C.Sem := tab []
noncomputable def f140P : Lp := fun i s {_R} κ => none
theorem k140 : Contract C Try.prog f140K := contract_tab _ (fun p hp => by cases hp)
theorem ev140 (x : Int × Int × Int × Int × Int × Int × Int × Int × Int × Int) : evalB C f140K f140P 140 Try.f140 f140B ⟨[.v true [(.int .i64), (.int .i64), (.int .i64), (.int .i64), (.int .i64)] [false, false, false, false, false], .v true [(.int .i64), (.int .i64), (.int .i64), (.int .i64), (.int .i64)] [false, false, false, false, false]], [⟨false, [.bool], [false]⟩], false⟩ [(.int .i64), (.int .i64), (.int .i64), (.int .i64), (.int .i64), (.int .i64), (.int .i64), (.int .i64), (.int .i64), (.int .i64)] [.bool] x = F_laws_eqKey x := by kernel_rfl
theorem ok140 : ContractAt C Try.prog 140 F_laws_eqKey := fn_sound (lp := f140P) tok mixed k140 (by kernel_rfl) (fn := Try.f140) (c := f140B) (sg := ⟨[.v true [(.int .i64), (.int .i64), (.int .i64), (.int .i64), (.int .i64)] [false, false, false, false, false], .v true [(.int .i64), (.int .i64), (.int .i64), (.int .i64), (.int .i64)] [false, false, false, false, false]], [⟨false, [.bool], [false]⟩], false⟩) Try.func140 (by decide) (by kernel_rfl) (by kernel_rfl) (by kernel_rfl) (fun c' hc' => by
    rw [show loopsOf f140B = [] by kernel_rfl] at hc'
    cases hc') (by decide) (by decide) (fun x y h => (ev140 x).trans h)

/-! ### 135: laws.eqKeyS -/
abbrev T_laws_eqKeyS_4 : Type := List E_Key × List E_Key × Int
noncomputable def S_laws_eqKeyS_4 {R : Type} (k0 : Bool → Option R) (k1 : Unit → Option R) (again : T_laws_eqKeyS_4 → Option R) (t4 : T_laws_eqKeyS_4) : Option R :=
  bif (decide (t4.2.2 < ((List.length t4.1 : Nat) : Int))) then if (0 : Int) ≤ t4.2.2 then if t4.2.2 < ((List.length t4.1 : Nat) : Int) then if (0 : Int) ≤ t4.2.2 then if t4.2.2 < ((List.length t4.2.1 : Nat) : Int) then Option.bind (F_laws_eqKey ((rd_Key t4.1 t4.2.2).1, (rd_Key t4.1 t4.2.2).2.1, (rd_Key t4.1 t4.2.2).2.2.1, (rd_Key t4.1 t4.2.2).2.2.2.1, (rd_Key t4.1 t4.2.2).2.2.2.2, (rd_Key t4.2.1 t4.2.2).1, (rd_Key t4.2.1 t4.2.2).2.1, (rd_Key t4.2.1 t4.2.2).2.2.1, (rd_Key t4.2.1 t4.2.2).2.2.2.1, (rd_Key t4.2.1 t4.2.2).2.2.2.2)) fun r1 => bif (!r1) then k0 false else again (t4.1, t4.2.1, (Go.IntKind.wrap .i64 (t4.2.2 + (1 : Int)))) else none else none else none else none else k1 ()
noncomputable def L_laws_eqKeyS_4 {R : Type} (k0 : Bool → Option R) (k1 : Unit → Option R) (t : T_laws_eqKeyS_4) : Option R := iter (S_laws_eqKeyS_4 k0 k1) FUEL t
noncomputable def F_laws_eqKeyS (x : List E_Key × List E_Key) : Option (Bool) :=
  bif (((List.length x.1 : Nat) : Int) != ((List.length x.2 : Nat) : Int)) then some false else L_laws_eqKeyS_4 (fun x2 => some x2) (fun x3 => some true) (x.1, x.2, (0 : Int))
noncomputable def f135B : Code := match Try.f135.body with
  | some c => c
  | none => .skip
noncomputable def f135K : C.Sem := tab [⟨140, F_laws_eqKey⟩]
def f135h4_0 : List Sh := [.v (.sl 86 ts_Key), .v (.sl 86 ts_Key), .dead, .dead, .dead, .v (.int .i64), .dead, .dead, .dead, .dead, .dead, .dead, .dead, .dead, .dead, .dead, .dead, .dead, .dead, .dead, .dead, .dead, .dead, .dead, .dead, .dead, .dead]
def f135o4_0 : List (Nat × OSh) := []
def f135e4_0 (t : List E_Key × List E_Key × Int) : St := ⟨[.val (.sl 86 ts_Key) t.1, .val (.sl 86 ts_Key) t.2.1, .dead, .dead, .dead, .val (.int .i64) t.2.2, .dead, .dead, .dead, .dead, .dead, .dead, .dead, .dead, .dead, .dead, .dead, .dead, .dead, .dead, .dead, .dead, .dead, .dead, .dead, .dead, .dead], []⟩
def f135x4_0 (t : Bool) : St := ⟨[.dead, .dead, .dead, .dead, .val .bool t, .dead, .dead, .dead, .dead, .dead, .dead, .dead, .dead, .dead, .dead, .dead, .dead, .dead, .dead, .dead, .dead, .dead, .dead, .dead, .dead, .dead, .dead], []⟩
def f135x4_1 (t : Unit) : St := ⟨[.dead, .dead, .dead, .dead, .dead, .dead, .dead, .dead, .dead, .dead, .dead, .dead, .dead, .dead, .dead, .dead, .dead, .dead, .dead, .dead, .dead, .dead, .dead, .dead, .dead, .dead, .dead], []⟩
def f135u4_0 (s : St) : Option (List E_Key × List E_Key × Int) := (unS f135h4_0 f135o4_0 s).map fun v => (v.1.1, v.1.2.1, v.1.2.2.2.2.2.1)
theorem f135un4_0 : ∀ (s : St) (t : List E_Key × List E_Key × Int), f135u4_0 s = some t → f135e4_0 t = s := fun s v h => by
  obtain ⟨u, hu, rfl⟩ := Option.map_eq_some_iff.1 h
  exact (show f135e4_0 (u.1.1, u.1.2.1, u.1.2.2.2.2.2.1) = mkS f135h4_0 f135o4_0 u by kernel_rfl).trans (mkS_un f135h4_0 f135o4_0 s u hu)
def f135u4 : St → Option (List E_Key × List E_Key × Int) := f135u4_0
def f135e4 : (List E_Key × List E_Key × Int) → St := f135e4_0
theorem f135un4 : ∀ (s : St) (t : List E_Key × List E_Key × Int), f135u4 s = some t → f135e4 t = s := f135un4_0
noncomputable def f135P : Lp := fun i s {_R} κ => bif Nat.beq i 4 then (f135u4 s).bind fun t => L_laws_eqKeyS_4 (fun t => κ (none) (f135x4_0 t)) (fun t => κ (some 0) (f135x4_1 t)) t else none
noncomputable def f135c4 : Code := (loopsOf f135B).getD 0 .skip
theorem f135A4 : C.live 135 (firstRegion f135c4) = some ([0, 1, 5], [4]) := by kernel_rfl
theorem f135B4 {R : Type} (κ : Option Nat → St → Option R) (s : St) : f135P (firstRegion f135c4) s κ = (f135u4 s).bind fun t => iter (S_laws_eqKeyS_4 (fun t => κ (none) (f135x4_0 t)) (fun t => κ (some 0) (f135x4_1 t))) FUEL t := by kernel_rfl
theorem f135C4 {R : Type} (κ : Option Nat → St → Option R) (again : St → Option R) (t : T_laws_eqKeyS_4) : stepL C f135K f135P 135 f135c4 [0, 1, 5] [4] κ again (f135e4 t) = S_laws_eqKeyS_4 (fun t => κ (none) (f135x4_0 t)) (fun t => κ (some 0) (f135x4_1 t)) (fun t => again (f135e4 t)) t := by kernel_rfl
theorem f135ok4 : LoopOk C f135K f135P 135 f135c4 := loop_ok f135A4 f135e4 f135u4 f135un4 (fun {_R} κ => S_laws_eqKeyS_4 (fun t => κ (none) (f135x4_0 t)) (fun t => κ (some 0) (f135x4_1 t))) (fun {_R} κ s => f135B4 κ s) (fun {_R} κ again t => f135C4 κ again t)
theorem k135 : Contract C Try.prog f135K := contract_tab _ (fun p hp => by
    simp only [List.mem_cons, List.mem_nil_iff, or_false] at hp
    rcases hp with rfl
    · exact ok140)
theorem ev135 (x : List E_Key × List E_Key) : evalB C f135K f135P 135 Try.f135 f135B ⟨[.v false [(.sl 86 ts_Key)] [false], .v false [(.sl 86 ts_Key)] [false]], [⟨false, [.bool], [false]⟩], false⟩ [(.sl 86 ts_Key), (.sl 86 ts_Key)] [.bool] x = F_laws_eqKeyS x := by kernel_rfl
theorem ok135 : ContractAt C Try.prog 135 F_laws_eqKeyS := fn_sound (lp := f135P) tok mixed k135 (by kernel_rfl) (fn := Try.f135) (c := f135B) (sg := ⟨[.v false [(.sl 86 ts_Key)] [false], .v false [(.sl 86 ts_Key)] [false]], [⟨false, [.bool], [false]⟩], false⟩) Try.func135 (by decide) (by kernel_rfl) (by kernel_rfl) (by kernel_rfl) (fun c' hc' => by
    rw [show loopsOf f135B = [f135c4] by kernel_rfl] at hc'
    simp only [List.mem_cons, List.mem_nil_iff, or_false] at hc'
    rcases hc' with rfl
    · exact f135ok4) (by decide) (by decide) (fun x y h => (ev135 x).trans h)

/-! ### 122: laws.eqKeySS -/
abbrev T_laws_eqKeySS_4 : Type := List E_s_Key × List E_s_Key × Int
noncomputable def S_laws_eqKeySS_4 {R : Type} (k0 : Bool → Option R) (k1 : Unit → Option R) (again : T_laws_eqKeySS_4 → Option R) (t4 : T_laws_eqKeySS_4) : Option R :=
  bif (decide (t4.2.2 < ((List.length t4.1 : Nat) : Int))) then if (0 : Int) ≤ t4.2.2 then if t4.2.2 < ((List.length t4.1 : Nat) : Int) then if (0 : Int) ≤ t4.2.2 then if t4.2.2 < ((List.length t4.2.1 : Nat) : Int) then Option.bind (F_laws_eqKeyS ((rd_s_Key t4.1 t4.2.2), (rd_s_Key t4.2.1 t4.2.2))) fun r1 => bif (!r1) then k0 false else again (t4.1, t4.2.1, (Go.IntKind.wrap .i64 (t4.2.2 + (1 : Int)))) else none else none else none else none else k1 ()
noncomputable def L_laws_eqKeySS_4 {R : Type} (k0 : Bool → Option R) (k1 : Unit → Option R) (t : T_laws_eqKeySS_4) : Option R := iter (S_laws_eqKeySS_4 k0 k1) FUEL t
noncomputable def F_laws_eqKeySS (x : List E_s_Key × List E_s_Key) : Option (Bool) :=
  bif (((List.length x.1 : Nat) : Int) != ((List.length x.2 : Nat) : Int)) then some false else L_laws_eqKeySS_4 (fun x2 => some x2) (fun x3 => some true) (x.1, x.2, (0 : Int))
noncomputable def f122B : Code := match Try.f122.body with
  | some c => c
  | none => .skip
noncomputable def f122K : C.Sem := tab [⟨135, F_laws_eqKeyS⟩]
def f122h4_0 : List Sh := [.v (.sl 83 ts_s_Key), .v (.sl 83 ts_s_Key), .dead, .dead, .dead, .v (.int .i64), .dead, .dead, .dead, .dead, .dead, .dead, .dead, .dead, .dead, .dead, .dead, .dead, .dead, .dead, .dead, .dead, .dead, .dead, .dead, .dead, .dead]
def f122o4_0 : List (Nat × OSh) := []
def f122e4_0 (t : List E_s_Key × List E_s_Key × Int) : St := ⟨[.val (.sl 83 ts_s_Key) t.1, .val (.sl 83 ts_s_Key) t.2.1, .dead, .dead, .dead, .val (.int .i64) t.2.2, .dead, .dead, .dead, .dead, .dead, .dead, .dead, .dead, .dead, .dead, .dead, .dead, .dead, .dead, .dead, .dead, .dead, .dead, .dead, .dead, .dead], []⟩
def f122x4_0 (t : Bool) : St := ⟨[.dead, .dead, .dead, .dead, .val .bool t, .dead, .dead, .dead, .dead, .dead, .dead, .dead, .dead, .dead, .dead, .dead, .dead, .dead, .dead, .dead, .dead, .dead, .dead, .dead, .dead, .dead, .dead], []⟩
def f122x4_1 (t : Unit) : St := ⟨[.dead, .dead, .dead, .dead, .dead, .dead, .dead, .dead, .dead, .dead, .dead, .dead, .dead, .dead, .dead, .dead, .dead, .dead, .dead, .dead, .dead, .dead, .dead, .dead, .dead, .dead, .dead], []⟩
def f122u4_0 (s : St) : Option (List E_s_Key × List E_s_Key × Int) := (unS f122h4_0 f122o4_0 s).map fun v => (v.1.1, v.1.2.1, v.1.2.2.2.2.2.1)
theorem f122un4_0 : ∀ (s : St) (t : List E_s_Key × List E_s_Key × Int), f122u4_0 s = some t → f122e4_0 t = s := fun s v h => by
  obtain ⟨u, hu, rfl⟩ := Option.map_eq_some_iff.1 h
  exact (show f122e4_0 (u.1.1, u.1.2.1, u.1.2.2.2.2.2.1) = mkS f122h4_0 f122o4_0 u by kernel_rfl).trans (mkS_un f122h4_0 f122o4_0 s u hu)
def f122u4 : St → Option (List E_s_Key × List E_s_Key × Int) := f122u4_0
def f122e4 : (List E_s_Key × List E_s_Key × Int) → St := f122e4_0
theorem f122un4 : ∀ (s : St) (t : List E_s_Key × List E_s_Key × Int), f122u4 s = some t → f122e4 t = s := f122un4_0
noncomputable def f122P : Lp := fun i s {_R} κ => bif Nat.beq i 4 then (f122u4 s).bind fun t => L_laws_eqKeySS_4 (fun t => κ (none) (f122x4_0 t)) (fun t => κ (some 0) (f122x4_1 t)) t else none
noncomputable def f122c4 : Code := (loopsOf f122B).getD 0 .skip
theorem f122A4 : C.live 122 (firstRegion f122c4) = some ([0, 1, 5], [4]) := by kernel_rfl
theorem f122B4 {R : Type} (κ : Option Nat → St → Option R) (s : St) : f122P (firstRegion f122c4) s κ = (f122u4 s).bind fun t => iter (S_laws_eqKeySS_4 (fun t => κ (none) (f122x4_0 t)) (fun t => κ (some 0) (f122x4_1 t))) FUEL t := by kernel_rfl
theorem f122C4 {R : Type} (κ : Option Nat → St → Option R) (again : St → Option R) (t : T_laws_eqKeySS_4) : stepL C f122K f122P 122 f122c4 [0, 1, 5] [4] κ again (f122e4 t) = S_laws_eqKeySS_4 (fun t => κ (none) (f122x4_0 t)) (fun t => κ (some 0) (f122x4_1 t)) (fun t => again (f122e4 t)) t := by kernel_rfl
theorem f122ok4 : LoopOk C f122K f122P 122 f122c4 := loop_ok f122A4 f122e4 f122u4 f122un4 (fun {_R} κ => S_laws_eqKeySS_4 (fun t => κ (none) (f122x4_0 t)) (fun t => κ (some 0) (f122x4_1 t))) (fun {_R} κ s => f122B4 κ s) (fun {_R} κ again t => f122C4 κ again t)
theorem k122 : Contract C Try.prog f122K := contract_tab _ (fun p hp => by
    simp only [List.mem_cons, List.mem_nil_iff, or_false] at hp
    rcases hp with rfl
    · exact ok135)
theorem ev122 (x : List E_s_Key × List E_s_Key) : evalB C f122K f122P 122 Try.f122 f122B ⟨[.v false [(.sl 83 ts_s_Key)] [false], .v false [(.sl 83 ts_s_Key)] [false]], [⟨false, [.bool], [false]⟩], false⟩ [(.sl 83 ts_s_Key), (.sl 83 ts_s_Key)] [.bool] x = F_laws_eqKeySS x := by kernel_rfl
theorem ok122 : ContractAt C Try.prog 122 F_laws_eqKeySS := fn_sound (lp := f122P) tok mixed k122 (by kernel_rfl) (fn := Try.f122) (c := f122B) (sg := ⟨[.v false [(.sl 83 ts_s_Key)] [false], .v false [(.sl 83 ts_s_Key)] [false]], [⟨false, [.bool], [false]⟩], false⟩) Try.func122 (by decide) (by kernel_rfl) (by kernel_rfl) (by kernel_rfl) (fun c' hc' => by
    rw [show loopsOf f122B = [f122c4] by kernel_rfl] at hc'
    simp only [List.mem_cons, List.mem_nil_iff, or_false] at hc'
    rcases hc' with rfl
    · exact f122ok4) (by decide) (by decide) (fun x y h => (ev122 x).trans h)

/-! ### 106: laws.eqNode -/
noncomputable def F_laws_eqNode (x : List E_s_Key × List E_s_Key) : Option (Bool) :=
  Option.bind (F_laws_eqKeySS (x.1, x.2)) fun r1 => bif (!r1) then some false else some true
noncomputable def f106B : Code := match Try.f106.body with
  | some c => c
  | none => .skip
noncomputable def f106K : C.Sem := tab [⟨122, F_laws_eqKeySS⟩]
noncomputable def f106P : Lp := fun i s {_R} κ => none
theorem k106 : Contract C Try.prog f106K := contract_tab _ (fun p hp => by
    simp only [List.mem_cons, List.mem_nil_iff, or_false] at hp
    rcases hp with rfl
    · exact ok122)
theorem ev106 (x : List E_s_Key × List E_s_Key) : evalB C f106K f106P 106 Try.f106 f106B ⟨[.v true [(.sl 83 ts_s_Key)] [false], .v true [(.sl 83 ts_s_Key)] [false]], [⟨false, [.bool], [false]⟩], false⟩ [(.sl 83 ts_s_Key), (.sl 83 ts_s_Key)] [.bool] x = F_laws_eqNode x := by kernel_rfl
theorem ok106 : ContractAt C Try.prog 106 F_laws_eqNode := fn_sound (lp := f106P) tok mixed k106 (by kernel_rfl) (fn := Try.f106) (c := f106B) (sg := ⟨[.v true [(.sl 83 ts_s_Key)] [false], .v true [(.sl 83 ts_s_Key)] [false]], [⟨false, [.bool], [false]⟩], false⟩) Try.func106 (by decide) (by kernel_rfl) (by kernel_rfl) (by kernel_rfl) (fun c' hc' => by
    rw [show loopsOf f106B = [] by kernel_rfl] at hc'
    cases hc') (by decide) (by decide) (fun x y h => (ev106 x).trans h)

/-! ### 88: laws.eqNodeS -/
abbrev T_laws_eqNodeS_4 : Type := List E_Node × List E_Node × Int
noncomputable def S_laws_eqNodeS_4 {R : Type} (k0 : Bool → Option R) (k1 : Unit → Option R) (again : T_laws_eqNodeS_4 → Option R) (t4 : T_laws_eqNodeS_4) : Option R :=
  bif (decide (t4.2.2 < ((List.length t4.1 : Nat) : Int))) then if (0 : Int) ≤ t4.2.2 then if t4.2.2 < ((List.length t4.1 : Nat) : Int) then if (0 : Int) ≤ t4.2.2 then if t4.2.2 < ((List.length t4.2.1 : Nat) : Int) then Option.bind (F_laws_eqNode ((rd_Node t4.1 t4.2.2), (rd_Node t4.2.1 t4.2.2))) fun r1 => bif (!r1) then k0 false else again (t4.1, t4.2.1, (Go.IntKind.wrap .i64 (t4.2.2 + (1 : Int)))) else none else none else none else none else k1 ()
noncomputable def L_laws_eqNodeS_4 {R : Type} (k0 : Bool → Option R) (k1 : Unit → Option R) (t : T_laws_eqNodeS_4) : Option R := iter (S_laws_eqNodeS_4 k0 k1) FUEL t
noncomputable def F_laws_eqNodeS (x : List E_Node × List E_Node) : Option (Bool) :=
  bif (((List.length x.1 : Nat) : Int) != ((List.length x.2 : Nat) : Int)) then some false else L_laws_eqNodeS_4 (fun x2 => some x2) (fun x3 => some true) (x.1, x.2, (0 : Int))
noncomputable def f88B : Code := match Try.f88.body with
  | some c => c
  | none => .skip
noncomputable def f88K : C.Sem := tab [⟨106, F_laws_eqNode⟩]
def f88h4_0 : List Sh := [.v (.sl 128 ts_Node), .v (.sl 128 ts_Node), .dead, .dead, .dead, .v (.int .i64), .dead, .dead, .dead, .dead, .dead, .dead, .dead, .dead, .dead, .dead, .dead, .dead, .dead, .dead, .dead, .dead, .dead, .dead, .dead, .dead, .dead]
def f88o4_0 : List (Nat × OSh) := []
def f88e4_0 (t : List E_Node × List E_Node × Int) : St := ⟨[.val (.sl 128 ts_Node) t.1, .val (.sl 128 ts_Node) t.2.1, .dead, .dead, .dead, .val (.int .i64) t.2.2, .dead, .dead, .dead, .dead, .dead, .dead, .dead, .dead, .dead, .dead, .dead, .dead, .dead, .dead, .dead, .dead, .dead, .dead, .dead, .dead, .dead], []⟩
def f88x4_0 (t : Bool) : St := ⟨[.dead, .dead, .dead, .dead, .val .bool t, .dead, .dead, .dead, .dead, .dead, .dead, .dead, .dead, .dead, .dead, .dead, .dead, .dead, .dead, .dead, .dead, .dead, .dead, .dead, .dead, .dead, .dead], []⟩
def f88x4_1 (t : Unit) : St := ⟨[.dead, .dead, .dead, .dead, .dead, .dead, .dead, .dead, .dead, .dead, .dead, .dead, .dead, .dead, .dead, .dead, .dead, .dead, .dead, .dead, .dead, .dead, .dead, .dead, .dead, .dead, .dead], []⟩
def f88u4_0 (s : St) : Option (List E_Node × List E_Node × Int) := (unS f88h4_0 f88o4_0 s).map fun v => (v.1.1, v.1.2.1, v.1.2.2.2.2.2.1)
theorem f88un4_0 : ∀ (s : St) (t : List E_Node × List E_Node × Int), f88u4_0 s = some t → f88e4_0 t = s := fun s v h => by
  obtain ⟨u, hu, rfl⟩ := Option.map_eq_some_iff.1 h
  exact (show f88e4_0 (u.1.1, u.1.2.1, u.1.2.2.2.2.2.1) = mkS f88h4_0 f88o4_0 u by kernel_rfl).trans (mkS_un f88h4_0 f88o4_0 s u hu)
def f88u4 : St → Option (List E_Node × List E_Node × Int) := f88u4_0
def f88e4 : (List E_Node × List E_Node × Int) → St := f88e4_0
theorem f88un4 : ∀ (s : St) (t : List E_Node × List E_Node × Int), f88u4 s = some t → f88e4 t = s := f88un4_0
noncomputable def f88P : Lp := fun i s {_R} κ => bif Nat.beq i 4 then (f88u4 s).bind fun t => L_laws_eqNodeS_4 (fun t => κ (none) (f88x4_0 t)) (fun t => κ (some 0) (f88x4_1 t)) t else none
noncomputable def f88c4 : Code := (loopsOf f88B).getD 0 .skip
theorem f88A4 : C.live 88 (firstRegion f88c4) = some ([0, 1, 5], [4]) := by kernel_rfl
theorem f88B4 {R : Type} (κ : Option Nat → St → Option R) (s : St) : f88P (firstRegion f88c4) s κ = (f88u4 s).bind fun t => iter (S_laws_eqNodeS_4 (fun t => κ (none) (f88x4_0 t)) (fun t => κ (some 0) (f88x4_1 t))) FUEL t := by kernel_rfl
theorem f88C4 {R : Type} (κ : Option Nat → St → Option R) (again : St → Option R) (t : T_laws_eqNodeS_4) : stepL C f88K f88P 88 f88c4 [0, 1, 5] [4] κ again (f88e4 t) = S_laws_eqNodeS_4 (fun t => κ (none) (f88x4_0 t)) (fun t => κ (some 0) (f88x4_1 t)) (fun t => again (f88e4 t)) t := by kernel_rfl
theorem f88ok4 : LoopOk C f88K f88P 88 f88c4 := loop_ok f88A4 f88e4 f88u4 f88un4 (fun {_R} κ => S_laws_eqNodeS_4 (fun t => κ (none) (f88x4_0 t)) (fun t => κ (some 0) (f88x4_1 t))) (fun {_R} κ s => f88B4 κ s) (fun {_R} κ again t => f88C4 κ again t)
theorem k88 : Contract C Try.prog f88K := contract_tab _ (fun p hp => by
    simp only [List.mem_cons, List.mem_nil_iff, or_false] at hp
    rcases hp with rfl
    · exact ok106)
theorem ev88 (x : List E_Node × List E_Node) : evalB C f88K f88P 88 Try.f88 f88B ⟨[.v false [(.sl 128 ts_Node)] [false], .v false [(.sl 128 ts_Node)] [false]], [⟨false, [.bool], [false]⟩], false⟩ [(.sl 128 ts_Node), (.sl 128 ts_Node)] [.bool] x = F_laws_eqNodeS x := by kernel_rfl
theorem ok88 : ContractAt C Try.prog 88 F_laws_eqNodeS := fn_sound (lp := f88P) tok mixed k88 (by kernel_rfl) (fn := Try.f88) (c := f88B) (sg := ⟨[.v false [(.sl 128 ts_Node)] [false], .v false [(.sl 128 ts_Node)] [false]], [⟨false, [.bool], [false]⟩], false⟩) Try.func88 (by decide) (by kernel_rfl) (by kernel_rfl) (by kernel_rfl) (fun c' hc' => by
    rw [show loopsOf f88B = [f88c4] by kernel_rfl] at hc'
    simp only [List.mem_cons, List.mem_nil_iff, or_false] at hc'
    rcases hc' with rfl
    · exact f88ok4) (by decide) (by decide) (fun x y h => (ev88 x).trans h)

/-! ### 49: laws.eqTree -/
noncomputable def F_laws_eqTree (x : List E_i64 × List E_Node × List E_i64 × List E_Node) : Option (Bool) :=
  Option.bind (F_laws_eqIntS (x.1, x.2.2.1)) fun r1 => bif (!r1) then some false else Option.bind (F_laws_eqNodeS (x.2.1, x.2.2.2)) fun r2 => bif (!r2) then some false else some true
noncomputable def f49B : Code := match Try.f49.body with
  | some c => c
  | none => .skip
noncomputable def f49K : C.Sem := tab [⟨87, F_laws_eqIntS⟩, ⟨88, F_laws_eqNodeS⟩]
noncomputable def f49P : Lp := fun i s {_R} κ => none
theorem k49 : Contract C Try.prog f49K := contract_tab _ (fun p hp => by
    simp only [List.mem_cons, List.mem_nil_iff, or_false] at hp
    rcases hp with rfl | rfl
    · exact ok87
    · exact ok88)
theorem ev49 (x : List E_i64 × List E_Node × List E_i64 × List E_Node) : evalB C f49K f49P 49 Try.f49 f49B ⟨[.v true [(.sl 3 ts_i64), (.sl 128 ts_Node)] [false, false], .v true [(.sl 3 ts_i64), (.sl 128 ts_Node)] [false, false]], [⟨false, [.bool], [false]⟩], false⟩ [(.sl 3 ts_i64), (.sl 128 ts_Node), (.sl 3 ts_i64), (.sl 128 ts_Node)] [.bool] x = F_laws_eqTree x := by kernel_rfl
theorem ok49 : ContractAt C Try.prog 49 F_laws_eqTree := fn_sound (lp := f49P) tok mixed k49 (by kernel_rfl) (fn := Try.f49) (c := f49B) (sg := ⟨[.v true [(.sl 3 ts_i64), (.sl 128 ts_Node)] [false, false], .v true [(.sl 3 ts_i64), (.sl 128 ts_Node)] [false, false]], [⟨false, [.bool], [false]⟩], false⟩) Try.func49 (by decide) (by kernel_rfl) (by kernel_rfl) (by kernel_rfl) (fun c' hc' => by
    rw [show loopsOf f49B = [] by kernel_rfl] at hc'
    cases hc') (by decide) (by decide) (fun x y h => (ev49 x).trans h)

/-! ### 89: laws.eqAge -/
noncomputable def F_laws_eqAge (x : Int × Int × Int × Int) : Option (Bool) :=
  bif (x.1 != x.2.2.1) then some false else bif (x.2.1 != x.2.2.2) then some false else some true
noncomputable def f89B : Code := match Try.f89.body with
  | some c => c
  | none => .skip
noncomputable def f89K : C.Sem := tab []
noncomputable def f89P : Lp := fun i s {_R} κ => none
theorem k89 : Contract C Try.prog f89K := contract_tab _ (fun p hp => by cases hp)
theorem ev89 (x : Int × Int × Int × Int) : evalB C f89K f89P 89 Try.f89 f89B ⟨[.v true [(.int .i64), (.int .i64)] [false, false], .v true [(.int .i64), (.int .i64)] [false, false]], [⟨false, [.bool], [false]⟩], false⟩ [(.int .i64), (.int .i64), (.int .i64), (.int .i64)] [.bool] x = F_laws_eqAge x := by kernel_rfl
theorem ok89 : ContractAt C Try.prog 89 F_laws_eqAge := fn_sound (lp := f89P) tok mixed k89 (by kernel_rfl) (fn := Try.f89) (c := f89B) (sg := ⟨[.v true [(.int .i64), (.int .i64)] [false, false], .v true [(.int .i64), (.int .i64)] [false, false]], [⟨false, [.bool], [false]⟩], false⟩) Try.func89 (by decide) (by kernel_rfl) (by kernel_rfl) (by kernel_rfl) (fun c' hc' => by
    rw [show loopsOf f89B = [] by kernel_rfl] at hc'
    cases hc') (by decide) (by decide) (fun x y h => (ev89 x).trans h)

/-! ### 50: laws.eqAgeS -/
abbrev T_laws_eqAgeS_4 : Type := List E_Age × List E_Age × Int
noncomputable def S_laws_eqAgeS_4 {R : Type} (k0 : Bool → Option R) (k1 : Unit → Option R) (again : T_laws_eqAgeS_4 → Option R) (t4 : T_laws_eqAgeS_4) : Option R :=
  bif (decide (t4.2.2 < ((List.length t4.1 : Nat) : Int))) then if (0 : Int) ≤ t4.2.2 then if t4.2.2 < ((List.length t4.1 : Nat) : Int) then if (0 : Int) ≤ t4.2.2 then if t4.2.2 < ((List.length t4.2.1 : Nat) : Int) then Option.bind (F_laws_eqAge ((rd_Age t4.1 t4.2.2).1, (rd_Age t4.1 t4.2.2).2, (rd_Age t4.2.1 t4.2.2).1, (rd_Age t4.2.1 t4.2.2).2)) fun r1 => bif (!r1) then k0 false else again (t4.1, t4.2.1, (Go.IntKind.wrap .i64 (t4.2.2 + (1 : Int)))) else none else none else none else none else k1 ()
noncomputable def L_laws_eqAgeS_4 {R : Type} (k0 : Bool → Option R) (k1 : Unit → Option R) (t : T_laws_eqAgeS_4) : Option R := iter (S_laws_eqAgeS_4 k0 k1) FUEL t
noncomputable def F_laws_eqAgeS (x : List E_Age × List E_Age) : Option (Bool) :=
  bif (((List.length x.1 : Nat) : Int) != ((List.length x.2 : Nat) : Int)) then some false else L_laws_eqAgeS_4 (fun x2 => some x2) (fun x3 => some true) (x.1, x.2, (0 : Int))
noncomputable def f50B : Code := match Try.f50.body with
  | some c => c
  | none => .skip
noncomputable def f50K : C.Sem := tab [⟨89, F_laws_eqAge⟩]
def f50h4_0 : List Sh := [.v (.sl 134 ts_Age), .v (.sl 134 ts_Age), .dead, .dead, .dead, .v (.int .i64), .dead, .dead, .dead, .dead, .dead, .dead, .dead, .dead, .dead, .dead, .dead, .dead, .dead, .dead, .dead, .dead, .dead, .dead, .dead, .dead, .dead]
def f50o4_0 : List (Nat × OSh) := []
def f50e4_0 (t : List E_Age × List E_Age × Int) : St := ⟨[.val (.sl 134 ts_Age) t.1, .val (.sl 134 ts_Age) t.2.1, .dead, .dead, .dead, .val (.int .i64) t.2.2, .dead, .dead, .dead, .dead, .dead, .dead, .dead, .dead, .dead, .dead, .dead, .dead, .dead, .dead, .dead, .dead, .dead, .dead, .dead, .dead, .dead], []⟩
def f50x4_0 (t : Bool) : St := ⟨[.dead, .dead, .dead, .dead, .val .bool t, .dead, .dead, .dead, .dead, .dead, .dead, .dead, .dead, .dead, .dead, .dead, .dead, .dead, .dead, .dead, .dead, .dead, .dead, .dead, .dead, .dead, .dead], []⟩
def f50x4_1 (t : Unit) : St := ⟨[.dead, .dead, .dead, .dead, .dead, .dead, .dead, .dead, .dead, .dead, .dead, .dead, .dead, .dead, .dead, .dead, .dead, .dead, .dead, .dead, .dead, .dead, .dead, .dead, .dead, .dead, .dead], []⟩
def f50u4_0 (s : St) : Option (List E_Age × List E_Age × Int) := (unS f50h4_0 f50o4_0 s).map fun v => (v.1.1, v.1.2.1, v.1.2.2.2.2.2.1)
theorem f50un4_0 : ∀ (s : St) (t : List E_Age × List E_Age × Int), f50u4_0 s = some t → f50e4_0 t = s := fun s v h => by
  obtain ⟨u, hu, rfl⟩ := Option.map_eq_some_iff.1 h
  exact (show f50e4_0 (u.1.1, u.1.2.1, u.1.2.2.2.2.2.1) = mkS f50h4_0 f50o4_0 u by kernel_rfl).trans (mkS_un f50h4_0 f50o4_0 s u hu)
def f50u4 : St → Option (List E_Age × List E_Age × Int) := f50u4_0
def f50e4 : (List E_Age × List E_Age × Int) → St := f50e4_0
theorem f50un4 : ∀ (s : St) (t : List E_Age × List E_Age × Int), f50u4 s = some t → f50e4 t = s := f50un4_0
noncomputable def f50P : Lp := fun i s {_R} κ => bif Nat.beq i 4 then (f50u4 s).bind fun t => L_laws_eqAgeS_4 (fun t => κ (none) (f50x4_0 t)) (fun t => κ (some 0) (f50x4_1 t)) t else none
noncomputable def f50c4 : Code := (loopsOf f50B).getD 0 .skip
theorem f50A4 : C.live 50 (firstRegion f50c4) = some ([0, 1, 5], [4]) := by kernel_rfl
theorem f50B4 {R : Type} (κ : Option Nat → St → Option R) (s : St) : f50P (firstRegion f50c4) s κ = (f50u4 s).bind fun t => iter (S_laws_eqAgeS_4 (fun t => κ (none) (f50x4_0 t)) (fun t => κ (some 0) (f50x4_1 t))) FUEL t := by kernel_rfl
theorem f50C4 {R : Type} (κ : Option Nat → St → Option R) (again : St → Option R) (t : T_laws_eqAgeS_4) : stepL C f50K f50P 50 f50c4 [0, 1, 5] [4] κ again (f50e4 t) = S_laws_eqAgeS_4 (fun t => κ (none) (f50x4_0 t)) (fun t => κ (some 0) (f50x4_1 t)) (fun t => again (f50e4 t)) t := by kernel_rfl
theorem f50ok4 : LoopOk C f50K f50P 50 f50c4 := loop_ok f50A4 f50e4 f50u4 f50un4 (fun {_R} κ => S_laws_eqAgeS_4 (fun t => κ (none) (f50x4_0 t)) (fun t => κ (some 0) (f50x4_1 t))) (fun {_R} κ s => f50B4 κ s) (fun {_R} κ again t => f50C4 κ again t)
theorem k50 : Contract C Try.prog f50K := contract_tab _ (fun p hp => by
    simp only [List.mem_cons, List.mem_nil_iff, or_false] at hp
    rcases hp with rfl
    · exact ok89)
theorem ev50 (x : List E_Age × List E_Age) : evalB C f50K f50P 50 Try.f50 f50B ⟨[.v false [(.sl 134 ts_Age)] [false], .v false [(.sl 134 ts_Age)] [false]], [⟨false, [.bool], [false]⟩], false⟩ [(.sl 134 ts_Age), (.sl 134 ts_Age)] [.bool] x = F_laws_eqAgeS x := by kernel_rfl
theorem ok50 : ContractAt C Try.prog 50 F_laws_eqAgeS := fn_sound (lp := f50P) tok mixed k50 (by kernel_rfl) (fn := Try.f50) (c := f50B) (sg := ⟨[.v false [(.sl 134 ts_Age)] [false], .v false [(.sl 134 ts_Age)] [false]], [⟨false, [.bool], [false]⟩], false⟩) Try.func50 (by decide) (by kernel_rfl) (by kernel_rfl) (by kernel_rfl) (fun c' hc' => by
    rw [show loopsOf f50B = [f50c4] by kernel_rfl] at hc'
    simp only [List.mem_cons, List.mem_nil_iff, or_false] at hc'
    rcases hc' with rfl
    · exact f50ok4) (by decide) (by decide) (fun x y h => (ev50 x).trans h)

/-! ### 90: laws.eqCell -/
noncomputable def F_laws_eqCell (x : Int × Bool × Int × Int × Bool × Int) : Option (Bool) :=
  bif (x.1 != x.2.2.2.1) then some false else bif (!(x.2.1 == x.2.2.2.2.1)) then some false else bif (x.2.2.1 != x.2.2.2.2.2) then some false else some true
noncomputable def f90B : Code := match Try.f90.body with
  | some c => c
  | none => .skip
noncomputable def f90K : C.Sem := tab []
noncomputable def f90P : Lp := fun i s {_R} κ => none
theorem k90 : Contract C Try.prog f90K := contract_tab _ (fun p hp => by cases hp)
theorem ev90 (x : Int × Bool × Int × Int × Bool × Int) : evalB C f90K f90P 90 Try.f90 f90B ⟨[.v true [(.int .i64), .bool, (.int .i64)] [false, false, false], .v true [(.int .i64), .bool, (.int .i64)] [false, false, false]], [⟨false, [.bool], [false]⟩], false⟩ [(.int .i64), .bool, (.int .i64), (.int .i64), .bool, (.int .i64)] [.bool] x = F_laws_eqCell x := by kernel_rfl
theorem ok90 : ContractAt C Try.prog 90 F_laws_eqCell := fn_sound (lp := f90P) tok mixed k90 (by kernel_rfl) (fn := Try.f90) (c := f90B) (sg := ⟨[.v true [(.int .i64), .bool, (.int .i64)] [false, false, false], .v true [(.int .i64), .bool, (.int .i64)] [false, false, false]], [⟨false, [.bool], [false]⟩], false⟩) Try.func90 (by decide) (by kernel_rfl) (by kernel_rfl) (by kernel_rfl) (fun c' hc' => by
    rw [show loopsOf f90B = [] by kernel_rfl] at hc'
    cases hc') (by decide) (by decide) (fun x y h => (ev90 x).trans h)

/-! ### 51: laws.eqCellS -/
abbrev T_laws_eqCellS_4 : Type := List E_Cell × List E_Cell × Int
noncomputable def S_laws_eqCellS_4 {R : Type} (k0 : Bool → Option R) (k1 : Unit → Option R) (again : T_laws_eqCellS_4 → Option R) (t4 : T_laws_eqCellS_4) : Option R :=
  bif (decide (t4.2.2 < ((List.length t4.1 : Nat) : Int))) then if (0 : Int) ≤ t4.2.2 then if t4.2.2 < ((List.length t4.1 : Nat) : Int) then if (0 : Int) ≤ t4.2.2 then if t4.2.2 < ((List.length t4.2.1 : Nat) : Int) then Option.bind (F_laws_eqCell ((rd_Cell t4.1 t4.2.2).1, (rd_Cell t4.1 t4.2.2).2.1, (rd_Cell t4.1 t4.2.2).2.2, (rd_Cell t4.2.1 t4.2.2).1, (rd_Cell t4.2.1 t4.2.2).2.1, (rd_Cell t4.2.1 t4.2.2).2.2)) fun r1 => bif (!r1) then k0 false else again (t4.1, t4.2.1, (Go.IntKind.wrap .i64 (t4.2.2 + (1 : Int)))) else none else none else none else none else k1 ()
noncomputable def L_laws_eqCellS_4 {R : Type} (k0 : Bool → Option R) (k1 : Unit → Option R) (t : T_laws_eqCellS_4) : Option R := iter (S_laws_eqCellS_4 k0 k1) FUEL t
noncomputable def F_laws_eqCellS (x : List E_Cell × List E_Cell) : Option (Bool) :=
  bif (((List.length x.1 : Nat) : Int) != ((List.length x.2 : Nat) : Int)) then some false else L_laws_eqCellS_4 (fun x2 => some x2) (fun x3 => some true) (x.1, x.2, (0 : Int))
noncomputable def f51B : Code := match Try.f51.body with
  | some c => c
  | none => .skip
noncomputable def f51K : C.Sem := tab [⟨90, F_laws_eqCell⟩]
def f51h4_0 : List Sh := [.v (.sl 138 ts_Cell), .v (.sl 138 ts_Cell), .dead, .dead, .dead, .v (.int .i64), .dead, .dead, .dead, .dead, .dead, .dead, .dead, .dead, .dead, .dead, .dead, .dead, .dead, .dead, .dead, .dead, .dead, .dead, .dead, .dead, .dead]
def f51o4_0 : List (Nat × OSh) := []
def f51e4_0 (t : List E_Cell × List E_Cell × Int) : St := ⟨[.val (.sl 138 ts_Cell) t.1, .val (.sl 138 ts_Cell) t.2.1, .dead, .dead, .dead, .val (.int .i64) t.2.2, .dead, .dead, .dead, .dead, .dead, .dead, .dead, .dead, .dead, .dead, .dead, .dead, .dead, .dead, .dead, .dead, .dead, .dead, .dead, .dead, .dead], []⟩
def f51x4_0 (t : Bool) : St := ⟨[.dead, .dead, .dead, .dead, .val .bool t, .dead, .dead, .dead, .dead, .dead, .dead, .dead, .dead, .dead, .dead, .dead, .dead, .dead, .dead, .dead, .dead, .dead, .dead, .dead, .dead, .dead, .dead], []⟩
def f51x4_1 (t : Unit) : St := ⟨[.dead, .dead, .dead, .dead, .dead, .dead, .dead, .dead, .dead, .dead, .dead, .dead, .dead, .dead, .dead, .dead, .dead, .dead, .dead, .dead, .dead, .dead, .dead, .dead, .dead, .dead, .dead], []⟩
def f51u4_0 (s : St) : Option (List E_Cell × List E_Cell × Int) := (unS f51h4_0 f51o4_0 s).map fun v => (v.1.1, v.1.2.1, v.1.2.2.2.2.2.1)
theorem f51un4_0 : ∀ (s : St) (t : List E_Cell × List E_Cell × Int), f51u4_0 s = some t → f51e4_0 t = s := fun s v h => by
  obtain ⟨u, hu, rfl⟩ := Option.map_eq_some_iff.1 h
  exact (show f51e4_0 (u.1.1, u.1.2.1, u.1.2.2.2.2.2.1) = mkS f51h4_0 f51o4_0 u by kernel_rfl).trans (mkS_un f51h4_0 f51o4_0 s u hu)
def f51u4 : St → Option (List E_Cell × List E_Cell × Int) := f51u4_0
def f51e4 : (List E_Cell × List E_Cell × Int) → St := f51e4_0
theorem f51un4 : ∀ (s : St) (t : List E_Cell × List E_Cell × Int), f51u4 s = some t → f51e4 t = s := f51un4_0
noncomputable def f51P : Lp := fun i s {_R} κ => bif Nat.beq i 4 then (f51u4 s).bind fun t => L_laws_eqCellS_4 (fun t => κ (none) (f51x4_0 t)) (fun t => κ (some 0) (f51x4_1 t)) t else none
noncomputable def f51c4 : Code := (loopsOf f51B).getD 0 .skip
theorem f51A4 : C.live 51 (firstRegion f51c4) = some ([0, 1, 5], [4]) := by kernel_rfl
theorem f51B4 {R : Type} (κ : Option Nat → St → Option R) (s : St) : f51P (firstRegion f51c4) s κ = (f51u4 s).bind fun t => iter (S_laws_eqCellS_4 (fun t => κ (none) (f51x4_0 t)) (fun t => κ (some 0) (f51x4_1 t))) FUEL t := by kernel_rfl
theorem f51C4 {R : Type} (κ : Option Nat → St → Option R) (again : St → Option R) (t : T_laws_eqCellS_4) : stepL C f51K f51P 51 f51c4 [0, 1, 5] [4] κ again (f51e4 t) = S_laws_eqCellS_4 (fun t => κ (none) (f51x4_0 t)) (fun t => κ (some 0) (f51x4_1 t)) (fun t => again (f51e4 t)) t := by kernel_rfl
theorem f51ok4 : LoopOk C f51K f51P 51 f51c4 := loop_ok f51A4 f51e4 f51u4 f51un4 (fun {_R} κ => S_laws_eqCellS_4 (fun t => κ (none) (f51x4_0 t)) (fun t => κ (some 0) (f51x4_1 t))) (fun {_R} κ s => f51B4 κ s) (fun {_R} κ again t => f51C4 κ again t)
theorem k51 : Contract C Try.prog f51K := contract_tab _ (fun p hp => by
    simp only [List.mem_cons, List.mem_nil_iff, or_false] at hp
    rcases hp with rfl
    · exact ok90)
theorem ev51 (x : List E_Cell × List E_Cell) : evalB C f51K f51P 51 Try.f51 f51B ⟨[.v false [(.sl 138 ts_Cell)] [false], .v false [(.sl 138 ts_Cell)] [false]], [⟨false, [.bool], [false]⟩], false⟩ [(.sl 138 ts_Cell), (.sl 138 ts_Cell)] [.bool] x = F_laws_eqCellS x := by kernel_rfl
theorem ok51 : ContractAt C Try.prog 51 F_laws_eqCellS := fn_sound (lp := f51P) tok mixed k51 (by kernel_rfl) (fn := Try.f51) (c := f51B) (sg := ⟨[.v false [(.sl 138 ts_Cell)] [false], .v false [(.sl 138 ts_Cell)] [false]], [⟨false, [.bool], [false]⟩], false⟩) Try.func51 (by decide) (by kernel_rfl) (by kernel_rfl) (by kernel_rfl) (fun c' hc' => by
    rw [show loopsOf f51B = [f51c4] by kernel_rfl] at hc'
    simp only [List.mem_cons, List.mem_nil_iff, or_false] at hc'
    rcases hc' with rfl
    · exact f51ok4) (by decide) (by decide) (fun x y h => (ev51 x).trans h)

/-! ### 91: laws.eqVol -/
noncomputable def F_laws_eqVol (x : ByteArray × Int × Int × Bool × ByteArray × Int × Int × Bool) : Option (Bool) :=
  bif (!((ByteArray.toList x.1) == (ByteArray.toList x.2.2.2.2.1))) then some false else bif (x.2.1 != x.2.2.2.2.2.1) then some false else bif (x.2.2.1 != x.2.2.2.2.2.2.1) then some false else bif (!(x.2.2.2.1 == x.2.2.2.2.2.2.2)) then some false else some true
noncomputable def f91B : Code := match Try.f91.body with
  | some c => c
  | none => .skip
noncomputable def f91K : C.Sem := tab []
noncomputable def f91P : Lp := fun i s {_R} κ => none
theorem k91 : Contract C Try.prog f91K := contract_tab _ (fun p hp => by cases hp)
theorem ev91 (x : ByteArray × Int × Int × Bool × ByteArray × Int × Int × Bool) : evalB C f91K f91P 91 Try.f91 f91B ⟨[.v true [.str, (.int .i64), (.int .i64), .bool] [false, false, false, false], .v true [.str, (.int .i64), (.int .i64), .bool] [false, false, false, false]], [⟨false, [.bool], [false]⟩], false⟩ [.str, (.int .i64), (.int .i64), .bool, .str, (.int .i64), (.int .i64), .bool] [.bool] x = F_laws_eqVol x := by kernel_rfl
theorem ok91 : ContractAt C Try.prog 91 F_laws_eqVol := fn_sound (lp := f91P) tok mixed k91 (by kernel_rfl) (fn := Try.f91) (c := f91B) (sg := ⟨[.v true [.str, (.int .i64), (.int .i64), .bool] [false, false, false, false], .v true [.str, (.int .i64), (.int .i64), .bool] [false, false, false, false]], [⟨false, [.bool], [false]⟩], false⟩) Try.func91 (by decide) (by kernel_rfl) (by kernel_rfl) (by kernel_rfl) (fun c' hc' => by
    rw [show loopsOf f91B = [] by kernel_rfl] at hc'
    cases hc') (by decide) (by decide) (fun x y h => (ev91 x).trans h)
end Go.Proofs.Ytmofdkmggfdciaa.XQ
