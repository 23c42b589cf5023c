/- What functions compute, and that they do; part 0 of B; by a program (dec.py). No condition. -/
import Derived.Test.YtmanmgafjbnakaaXB
namespace Go.Proofs.Ytmanmgafjbnakaa.XB
open Go.Proofs.Ytmanmgafjbnakaa.R
set_option linter.unusedVariables false
set_option maxRecDepth 100000

/-! ### 147: laws.szIntS -/
noncomputable def F_laws_szIntS (x : List E_i64 × Int) : Option (Int) :=
  bif (decide ((Go.IntKind.wrap .i64 (x.2 - ((List.length x.1 : Nat) : Int))) < (0 : Int))) then some (-1 : Int) else some (Go.IntKind.wrap .i64 (x.2 - ((List.length x.1 : Nat) : Int)))
noncomputable def f147B : Code := match Try.f147.body with
  | some c => c
  | none => .skip
noncomputable def f147K : C.Sem := tab []
noncomputable def f147P : Lp := fun i s {_R} κ => none
theorem k147 : Contract C Try.prog f147K := contract_tab _ (fun p hp => by cases hp)
theorem ev147 (x : List E_i64 × Int) : evalB C f147K f147P 147 Try.f147 f147B ⟨[.v false [(.sl 3 ts_i64)] [false], .v false [(.int .i64)] [false]], [⟨false, [(.int .i64)], [false]⟩]⟩ [(.sl 3 ts_i64), (.int .i64)] [(.int .i64)] x = F_laws_szIntS x := by kernel_rfl
theorem ok147 : ContractAt C Try.prog 147 F_laws_szIntS := fn_sound (lp := f147P) tok mixed k147 (fn := Try.f147) (c := f147B) (sg := ⟨[.v false [(.sl 3 ts_i64)] [false], .v false [(.int .i64)] [false]], [⟨false, [(.int .i64)], [false]⟩]⟩) Try.func147 (by decide) (by kernel_rfl) (by kernel_rfl) (by kernel_rfl) (fun c' hc' => by
    rw [show loopsOf f147B = [] by kernel_rfl] at hc'
    cases hc') (by decide) (by decide) (fun x y h => (ev147 x).trans h)

/-! ### 185: laws.szKeyS -/
noncomputable def F_laws_szKeyS (x : List E_LKey × Int) : Option (Int) :=
  bif (decide ((Go.IntKind.wrap .i64 (x.2 - ((List.length x.1 : Nat) : Int))) < (0 : Int))) then some (-1 : Int) else some (Go.IntKind.wrap .i64 (x.2 - ((List.length x.1 : Nat) : Int)))
noncomputable def f185B : Code := match Try.f185.body with
  | some c => c
  | none => .skip
noncomputable def f185K : C.Sem := tab []
noncomputable def f185P : Lp := fun i s {_R} κ => none
theorem k185 : Contract C Try.prog f185K := contract_tab _ (fun p hp => by cases hp)
theorem ev185 (x : List E_LKey × Int) : evalB C f185K f185P 185 Try.f185 f185B ⟨[.v false [(.sl 225 ts_LKey)] [false], .v false [(.int .i64)] [false]], [⟨false, [(.int .i64)], [false]⟩]⟩ [(.sl 225 ts_LKey), (.int .i64)] [(.int .i64)] x = F_laws_szKeyS x := by kernel_rfl
theorem ok185 : ContractAt C Try.prog 185 F_laws_szKeyS := fn_sound (lp := f185P) tok mixed k185 (fn := Try.f185) (c := f185B) (sg := ⟨[.v false [(.sl 225 ts_LKey)] [false], .v false [(.int .i64)] [false]], [⟨false, [(.int .i64)], [false]⟩]⟩) Try.func185 (by decide) (by kernel_rfl) (by kernel_rfl) (by kernel_rfl) (fun c' hc' => by
    rw [show loopsOf f185B = [] by kernel_rfl] at hc'
    cases hc') (by decide) (by decide) (fun x y h => (ev185 x).trans h)

/-! ### 179: laws.szKeySS -/
abbrev T_laws_szKeySS_5 : Type := List E_s_LKey × Int × Int
noncomputable def S_laws_szKeySS_5 {R : Type} (k0 : (Int × Int) → Option R) (k1 : Int → Option R) (again : T_laws_szKeySS_5 → Option R) (t5 : T_laws_szKeySS_5) : Option R :=
  bif (decide (t5.2.2 < ((List.length t5.1 : Nat) : Int))) then if (0 : Int) ≤ t5.2.2 then if t5.2.2 < ((List.length t5.1 : Nat) : Int) then Option.bind (F_laws_szKeyS ((rd_s_LKey t5.1 t5.2.2), t5.2.1)) fun r1 => bif (decide (r1 < (0 : Int))) then k0 (r1, (-1 : Int)) else again (t5.1, r1, (Go.IntKind.wrap .i64 (t5.2.2 + (1 : Int)))) else none else none else k1 t5.2.1
noncomputable def L_laws_szKeySS_5 {R : Type} (k0 : (Int × Int) → Option R) (k1 : Int → Option R) (t : T_laws_szKeySS_5) : Option R := iter (S_laws_szKeySS_5 k0 k1) FUEL t
noncomputable def F_laws_szKeySS (x : List E_s_LKey × Int) : Option (Int) :=
  bif (decide ((Go.IntKind.wrap .i64 (x.2 - ((List.length x.1 : Nat) : Int))) < (0 : Int))) then some (-1 : Int) else L_laws_szKeySS_5 (fun x2 => some x2.2) (fun x3 => some x3) (x.1, (Go.IntKind.wrap .i64 (x.2 - ((List.length x.1 : Nat) : Int))), (0 : Int))
noncomputable def f179B : Code := match Try.f179.body with
  | some c => c
  | none => .skip
noncomputable def f179K : C.Sem := tab [⟨185, F_laws_szKeyS⟩]
def f179h5_0 : List Sh := [.v (.sl 220 ts_s_LKey), .v (.int .i64), .dead, .dead, .dead, .v (.int .i64), .dead, .dead, .dead, .dead, .dead, .dead, .dead, .dead, .dead, .dead, .dead, .dead, .dead, .dead, .dead, .dead, .dead, .dead, .dead, .dead, .dead]
def f179o5_0 : List (Nat × OSh) := []
def f179e5_0 (t : List E_s_LKey × Int × Int) : St := mkS f179h5_0 f179o5_0 ((t.1, t.2.1, (), (), (), t.2.2, (), (), (), (), (), (), (), (), (), (), (), (), (), (), (), (), (), (), (), (), (), ()), ())
def f179g5_0 : List Sh := [.dead, .v (.int .i64), .dead, .dead, .v (.int .i64), .dead, .dead, .dead, .dead, .dead, .dead, .dead, .dead, .dead, .dead, .dead, .dead, .dead, .dead, .dead, .dead, .dead, .dead, .dead, .dead, .dead, .dead]
def f179p5_0 : List (Nat × OSh) := []
def f179x5_0 (t : Int × Int) : St := mkS f179g5_0 f179p5_0 (((), t.1, (), (), t.2, (), (), (), (), (), (), (), (), (), (), (), (), (), (), (), (), (), (), (), (), (), (), ()), ())
def f179g5_1 : List Sh := [.dead, .v (.int .i64), .dead, .dead, .dead, .dead, .dead, .dead, .dead, .dead, .dead, .dead, .dead, .dead, .dead, .dead, .dead, .dead, .dead, .dead, .dead, .dead, .dead, .dead, .dead, .dead, .dead]
def f179p5_1 : List (Nat × OSh) := []
def f179x5_1 (t : Int) : St := mkS f179g5_1 f179p5_1 (((), t, (), (), (), (), (), (), (), (), (), (), (), (), (), (), (), (), (), (), (), (), (), (), (), (), (), ()), ())
def f179u5_0 (s : St) : Option (List E_s_LKey × Int × Int) := (unS f179h5_0 f179o5_0 s).map fun v => (v.1.1, v.1.2.1, v.1.2.2.2.2.2.1)
theorem f179un5_0 : ∀ (s : St) (t : List E_s_LKey × Int × Int), f179u5_0 s = some t → f179e5_0 t = s := fun s v h => by
  obtain ⟨u, hu, rfl⟩ := Option.map_eq_some_iff.1 h
  exact mkS_un f179h5_0 f179o5_0 s u hu
def f179u5 : St → Option (List E_s_LKey × Int × Int) := f179u5_0
def f179e5 : (List E_s_LKey × Int × Int) → St := f179e5_0
theorem f179un5 : ∀ (s : St) (t : List E_s_LKey × Int × Int), f179u5 s = some t → f179e5 t = s := f179un5_0
noncomputable def f179P : Lp := fun i s {_R} κ => bif Nat.beq i 5 then (f179u5 s).bind fun t => L_laws_szKeySS_5 (fun t => κ (none) (f179x5_0 t)) (fun t => κ (some 0) (f179x5_1 t)) t else none
noncomputable def f179c5 : Code := (loopsOf f179B).getD 0 .skip
theorem f179A5 : C.live 179 (firstRegion f179c5) = some ([0, 1, 5], [1, 4]) := by kernel_rfl
theorem f179B5 {R : Type} (κ : Option Nat → St → Option R) (s : St) : f179P (firstRegion f179c5) s κ = (f179u5 s).bind fun t => iter (S_laws_szKeySS_5 (fun t => κ (none) (f179x5_0 t)) (fun t => κ (some 0) (f179x5_1 t))) FUEL t := by kernel_rfl
theorem f179C5 {R : Type} (κ : Option Nat → St → Option R) (again : St → Option R) (t : T_laws_szKeySS_5) : stepL C f179K f179P 179 f179c5 [0, 1, 5] [1, 4] κ again (f179e5 t) = S_laws_szKeySS_5 (fun t => κ (none) (f179x5_0 t)) (fun t => κ (some 0) (f179x5_1 t)) (fun t => again (f179e5 t)) t := by kernel_rfl
theorem f179ok5 : LoopOk C f179K f179P 179 f179c5 := loop_ok f179A5 f179e5 f179u5 f179un5 (fun {_R} κ => S_laws_szKeySS_5 (fun t => κ (none) (f179x5_0 t)) (fun t => κ (some 0) (f179x5_1 t))) (fun {_R} κ s => f179B5 κ s) (fun {_R} κ again t => f179C5 κ again t)
theorem k179 : Contract C Try.prog f179K := contract_tab _ (fun p hp => by
    simp only [List.mem_cons, List.mem_nil_iff, or_false] at hp
    rcases hp with rfl
    · exact ok185)
theorem ev179 (x : List E_s_LKey × Int) : evalB C f179K f179P 179 Try.f179 f179B ⟨[.v false [(.sl 220 ts_s_LKey)] [false], .v false [(.int .i64)] [false]], [⟨false, [(.int .i64)], [false]⟩]⟩ [(.sl 220 ts_s_LKey), (.int .i64)] [(.int .i64)] x = F_laws_szKeySS x := by kernel_rfl
theorem ok179 : ContractAt C Try.prog 179 F_laws_szKeySS := fn_sound (lp := f179P) tok mixed k179 (fn := Try.f179) (c := f179B) (sg := ⟨[.v false [(.sl 220 ts_s_LKey)] [false], .v false [(.int .i64)] [false]], [⟨false, [(.int .i64)], [false]⟩]⟩) Try.func179 (by decide) (by kernel_rfl) (by kernel_rfl) (by kernel_rfl) (fun c' hc' => by
    rw [show loopsOf f179B = [f179c5] by kernel_rfl] at hc'
    simp only [List.mem_cons, List.mem_nil_iff, or_false] at hc'
    rcases hc' with rfl
    · exact f179ok5) (by decide) (by decide) (fun x y h => (ev179 x).trans h)

/-! ### 171: laws.szNode -/
noncomputable def F_laws_szNode (x : List E_s_LKey × Int) : Option (Int) :=
  Option.bind (F_laws_szKeySS (x.1, x.2)) fun r1 => bif (decide (r1 < (0 : Int))) then some (-1 : Int) else some r1
noncomputable def f171B : Code := match Try.f171.body with
  | some c => c
  | none => .skip
noncomputable def f171K : C.Sem := tab [⟨179, F_laws_szKeySS⟩]
noncomputable def f171P : Lp := fun i s {_R} κ => none
theorem k171 : Contract C Try.prog f171K := contract_tab _ (fun p hp => by
    simp only [List.mem_cons, List.mem_nil_iff, or_false] at hp
    rcases hp with rfl
    · exact ok179)
theorem ev171 (x : List E_s_LKey × Int) : evalB C f171K f171P 171 Try.f171 f171B ⟨[.v true [(.sl 220 ts_s_LKey)] [false], .v false [(.int .i64)] [false]], [⟨false, [(.int .i64)], [false]⟩]⟩ [(.sl 220 ts_s_LKey), (.int .i64)] [(.int .i64)] x = F_laws_szNode x := by kernel_rfl
theorem ok171 : ContractAt C Try.prog 171 F_laws_szNode := fn_sound (lp := f171P) tok mixed k171 (fn := Try.f171) (c := f171B) (sg := ⟨[.v true [(.sl 220 ts_s_LKey)] [false], .v false [(.int .i64)] [false]], [⟨false, [(.int .i64)], [false]⟩]⟩) Try.func171 (by decide) (by kernel_rfl) (by kernel_rfl) (by kernel_rfl) (fun c' hc' => by
    rw [show loopsOf f171B = [] by kernel_rfl] at hc'
    cases hc') (by decide) (by decide) (fun x y h => (ev171 x).trans h)

/-! ### 148: laws.szNodeS -/
abbrev T_laws_szNodeS_5 : Type := List E_LNode × Int × Int
noncomputable def S_laws_szNodeS_5 {R : Type} (k0 : (Int × Int) → Option R) (k1 : Int → Option R) (again : T_laws_szNodeS_5 → Option R) (t5 : T_laws_szNodeS_5) : Option R :=
  bif (decide (t5.2.2 < ((List.length t5.1 : Nat) : Int))) then if (0 : Int) ≤ t5.2.2 then if t5.2.2 < ((List.length t5.1 : Nat) : Int) then Option.bind (F_laws_szNode ((rd_LNode t5.1 t5.2.2), t5.2.1)) fun r1 => bif (decide (r1 < (0 : Int))) then k0 (r1, (-1 : Int)) else again (t5.1, r1, (Go.IntKind.wrap .i64 (t5.2.2 + (1 : Int)))) else none else none else k1 t5.2.1
noncomputable def L_laws_szNodeS_5 {R : Type} (k0 : (Int × Int) → Option R) (k1 : Int → Option R) (t : T_laws_szNodeS_5) : Option R := iter (S_laws_szNodeS_5 k0 k1) FUEL t
noncomputable def F_laws_szNodeS (x : List E_LNode × Int) : Option (Int) :=
  bif (decide ((Go.IntKind.wrap .i64 (x.2 - ((List.length x.1 : Nat) : Int))) < (0 : Int))) then some (-1 : Int) else L_laws_szNodeS_5 (fun x2 => some x2.2) (fun x3 => some x3) (x.1, (Go.IntKind.wrap .i64 (x.2 - ((List.length x.1 : Nat) : Int))), (0 : Int))
noncomputable def f148B : Code := match Try.f148.body with
  | some c => c
  | none => .skip
noncomputable def f148K : C.Sem := tab [⟨171, F_laws_szNode⟩]
def f148h5_0 : List Sh := [.v (.sl 207 ts_LNode), .v (.int .i64), .dead, .dead, .dead, .v (.int .i64), .dead, .dead, .dead, .dead, .dead, .dead, .dead, .dead, .dead, .dead, .dead, .dead, .dead, .dead, .dead, .dead, .dead, .dead, .dead, .dead, .dead]
def f148o5_0 : List (Nat × OSh) := []
def f148e5_0 (t : List E_LNode × Int × Int) : St := mkS f148h5_0 f148o5_0 ((t.1, t.2.1, (), (), (), t.2.2, (), (), (), (), (), (), (), (), (), (), (), (), (), (), (), (), (), (), (), (), (), ()), ())
def f148g5_0 : List Sh := [.dead, .v (.int .i64), .dead, .dead, .v (.int .i64), .dead, .dead, .dead, .dead, .dead, .dead, .dead, .dead, .dead, .dead, .dead, .dead, .dead, .dead, .dead, .dead, .dead, .dead, .dead, .dead, .dead, .dead]
def f148p5_0 : List (Nat × OSh) := []
def f148x5_0 (t : Int × Int) : St := mkS f148g5_0 f148p5_0 (((), t.1, (), (), t.2, (), (), (), (), (), (), (), (), (), (), (), (), (), (), (), (), (), (), (), (), (), (), ()), ())
def f148g5_1 : List Sh := [.dead, .v (.int .i64), .dead, .dead, .dead, .dead, .dead, .dead, .dead, .dead, .dead, .dead, .dead, .dead, .dead, .dead, .dead, .dead, .dead, .dead, .dead, .dead, .dead, .dead, .dead, .dead, .dead]
def f148p5_1 : List (Nat × OSh) := []
def f148x5_1 (t : Int) : St := mkS f148g5_1 f148p5_1 (((), t, (), (), (), (), (), (), (), (), (), (), (), (), (), (), (), (), (), (), (), (), (), (), (), (), (), ()), ())
def f148u5_0 (s : St) : Option (List E_LNode × Int × Int) := (unS f148h5_0 f148o5_0 s).map fun v => (v.1.1, v.1.2.1, v.1.2.2.2.2.2.1)
theorem f148un5_0 : ∀ (s : St) (t : List E_LNode × Int × Int), f148u5_0 s = some t → f148e5_0 t = s := fun s v h => by
  obtain ⟨u, hu, rfl⟩ := Option.map_eq_some_iff.1 h
  exact mkS_un f148h5_0 f148o5_0 s u hu
def f148u5 : St → Option (List E_LNode × Int × Int) := f148u5_0
def f148e5 : (List E_LNode × Int × Int) → St := f148e5_0
theorem f148un5 : ∀ (s : St) (t : List E_LNode × Int × Int), f148u5 s = some t → f148e5 t = s := f148un5_0
noncomputable def f148P : Lp := fun i s {_R} κ => bif Nat.beq i 5 then (f148u5 s).bind fun t => L_laws_szNodeS_5 (fun t => κ (none) (f148x5_0 t)) (fun t => κ (some 0) (f148x5_1 t)) t else none
noncomputable def f148c5 : Code := (loopsOf f148B).getD 0 .skip
theorem f148A5 : C.live 148 (firstRegion f148c5) = some ([0, 1, 5], [1, 4]) := by kernel_rfl
theorem f148B5 {R : Type} (κ : Option Nat → St → Option R) (s : St) : f148P (firstRegion f148c5) s κ = (f148u5 s).bind fun t => iter (S_laws_szNodeS_5 (fun t => κ (none) (f148x5_0 t)) (fun t => κ (some 0) (f148x5_1 t))) FUEL t := by kernel_rfl
theorem f148C5 {R : Type} (κ : Option Nat → St → Option R) (again : St → Option R) (t : T_laws_szNodeS_5) : stepL C f148K f148P 148 f148c5 [0, 1, 5] [1, 4] κ again (f148e5 t) = S_laws_szNodeS_5 (fun t => κ (none) (f148x5_0 t)) (fun t => κ (some 0) (f148x5_1 t)) (fun t => again (f148e5 t)) t := by kernel_rfl
theorem f148ok5 : LoopOk C f148K f148P 148 f148c5 := loop_ok f148A5 f148e5 f148u5 f148un5 (fun {_R} κ => S_laws_szNodeS_5 (fun t => κ (none) (f148x5_0 t)) (fun t => κ (some 0) (f148x5_1 t))) (fun {_R} κ s => f148B5 κ s) (fun {_R} κ again t => f148C5 κ again t)
theorem k148 : Contract C Try.prog f148K := contract_tab _ (fun p hp => by
    simp only [List.mem_cons, List.mem_nil_iff, or_false] at hp
    rcases hp with rfl
    · exact ok171)
theorem ev148 (x : List E_LNode × Int) : evalB C f148K f148P 148 Try.f148 f148B ⟨[.v false [(.sl 207 ts_LNode)] [false], .v false [(.int .i64)] [false]], [⟨false, [(.int .i64)], [false]⟩]⟩ [(.sl 207 ts_LNode), (.int .i64)] [(.int .i64)] x = F_laws_szNodeS x := by kernel_rfl
theorem ok148 : ContractAt C Try.prog 148 F_laws_szNodeS := fn_sound (lp := f148P) tok mixed k148 (fn := Try.f148) (c := f148B) (sg := ⟨[.v false [(.sl 207 ts_LNode)] [false], .v false [(.int .i64)] [false]], [⟨false, [(.int .i64)], [false]⟩]⟩) Try.func148 (by decide) (by kernel_rfl) (by kernel_rfl) (by kernel_rfl) (fun c' hc' => by
    rw [show loopsOf f148B = [f148c5] by kernel_rfl] at hc'
    simp only [List.mem_cons, List.mem_nil_iff, or_false] at hc'
    rcases hc' with rfl
    · exact f148ok5) (by decide) (by decide) (fun x y h => (ev148 x).trans h)

/-! ### 111: laws.szTree -/
noncomputable def F_laws_szTree (x : List E_i64 × List E_LNode × Int) : Option (Int) :=
  Option.bind (F_laws_szIntS (x.1, x.2.2)) fun r1 => bif (decide (r1 < (0 : Int))) then some (-1 : Int) else Option.bind (F_laws_szNodeS (x.2.1, r1)) fun r2 => bif (decide (r2 < (0 : Int))) then some (-1 : Int) else some r2
noncomputable def f111B : Code := match Try.f111.body with
  | some c => c
  | none => .skip
noncomputable def f111K : C.Sem := tab [⟨147, F_laws_szIntS⟩, ⟨148, F_laws_szNodeS⟩]
noncomputable def f111P : Lp := fun i s {_R} κ => none
theorem k111 : Contract C Try.prog f111K := contract_tab _ (fun p hp => by
    simp only [List.mem_cons, List.mem_nil_iff, or_false] at hp
    rcases hp with rfl | rfl
    · exact ok147
    · exact ok148)
theorem ev111 (x : List E_i64 × List E_LNode × Int) : evalB C f111K f111P 111 Try.f111 f111B ⟨[.v true [(.sl 3 ts_i64), (.sl 207 ts_LNode)] [false, false], .v false [(.int .i64)] [false]], [⟨false, [(.int .i64)], [false]⟩]⟩ [(.sl 3 ts_i64), (.sl 207 ts_LNode), (.int .i64)] [(.int .i64)] x = F_laws_szTree x := by kernel_rfl
theorem ok111 : ContractAt C Try.prog 111 F_laws_szTree := fn_sound (lp := f111P) tok mixed k111 (fn := Try.f111) (c := f111B) (sg := ⟨[.v true [(.sl 3 ts_i64), (.sl 207 ts_LNode)] [false, false], .v false [(.int .i64)] [false]], [⟨false, [(.int .i64)], [false]⟩]⟩) Try.func111 (by decide) (by kernel_rfl) (by kernel_rfl) (by kernel_rfl) (fun c' hc' => by
    rw [show loopsOf f111B = [] by kernel_rfl] at hc'
    cases hc') (by decide) (by decide) (fun x y h => (ev111 x).trans h)

/-! ### 112: laws.szAgeS -/
noncomputable def F_laws_szAgeS (x : List E_LAge × Int) : Option (Int) :=
  bif (decide ((Go.IntKind.wrap .i64 (x.2 - ((List.length x.1 : Nat) : Int))) < (0 : Int))) then some (-1 : Int) else some (Go.IntKind.wrap .i64 (x.2 - ((List.length x.1 : Nat) : Int)))
noncomputable def f112B : Code := match Try.f112.body with
  | some c => c
  | none => .skip
noncomputable def f112K : C.Sem := tab []
noncomputable def f112P : Lp := fun i s {_R} κ => none
theorem k112 : Contract C Try.prog f112K := contract_tab _ (fun p hp => by cases hp)
theorem ev112 (x : List E_LAge × Int) : evalB C f112K f112P 112 Try.f112 f112B ⟨[.v false [(.sl 187 ts_LAge)] [false], .v false [(.int .i64)] [false]], [⟨false, [(.int .i64)], [false]⟩]⟩ [(.sl 187 ts_LAge), (.int .i64)] [(.int .i64)] x = F_laws_szAgeS x := by kernel_rfl
theorem ok112 : ContractAt C Try.prog 112 F_laws_szAgeS := fn_sound (lp := f112P) tok mixed k112 (fn := Try.f112) (c := f112B) (sg := ⟨[.v false [(.sl 187 ts_LAge)] [false], .v false [(.int .i64)] [false]], [⟨false, [(.int .i64)], [false]⟩]⟩) Try.func112 (by decide) (by kernel_rfl) (by kernel_rfl) (by kernel_rfl) (fun c' hc' => by
    rw [show loopsOf f112B = [] by kernel_rfl] at hc'
    cases hc') (by decide) (by decide) (fun x y h => (ev112 x).trans h)

/-! ### 113: laws.szCellS -/
noncomputable def F_laws_szCellS (x : List E_LCell × Int) : Option (Int) :=
  bif (decide ((Go.IntKind.wrap .i64 (x.2 - ((List.length x.1 : Nat) : Int))) < (0 : Int))) then some (-1 : Int) else some (Go.IntKind.wrap .i64 (x.2 - ((List.length x.1 : Nat) : Int)))
noncomputable def f113B : Code := match Try.f113.body with
  | some c => c
  | none => .skip
noncomputable def f113K : C.Sem := tab []
noncomputable def f113P : Lp := fun i s {_R} κ => none
theorem k113 : Contract C Try.prog f113K := contract_tab _ (fun p hp => by cases hp)
theorem ev113 (x : List E_LCell × Int) : evalB C f113K f113P 113 Try.f113 f113B ⟨[.v false [(.sl 191 ts_LCell)] [false], .v false [(.int .i64)] [false]], [⟨false, [(.int .i64)], [false]⟩]⟩ [(.sl 191 ts_LCell), (.int .i64)] [(.int .i64)] x = F_laws_szCellS x := by kernel_rfl
theorem ok113 : ContractAt C Try.prog 113 F_laws_szCellS := fn_sound (lp := f113P) tok mixed k113 (fn := Try.f113) (c := f113B) (sg := ⟨[.v false [(.sl 191 ts_LCell)] [false], .v false [(.int .i64)] [false]], [⟨false, [(.int .i64)], [false]⟩]⟩) Try.func113 (by decide) (by kernel_rfl) (by kernel_rfl) (by kernel_rfl) (fun c' hc' => by
    rw [show loopsOf f113B = [] by kernel_rfl] at hc'
    cases hc') (by decide) (by decide) (fun x y h => (ev113 x).trans h)

/-! ### 149: laws.szVol -/
noncomputable def F_laws_szVol (x : ByteArray × Int × Int × Bool × Int) : Option (Int) :=
  bif (decide ((Go.IntKind.wrap .i64 (x.2.2.2.2 - ((ByteArray.size x.1 : Nat) : Int))) < (0 : Int))) then some (-1 : Int) else some (Go.IntKind.wrap .i64 (x.2.2.2.2 - ((ByteArray.size x.1 : Nat) : Int)))
noncomputable def f149B : Code := match Try.f149.body with
  | some c => c
  | none => .skip
noncomputable def f149K : C.Sem := tab []
noncomputable def f149P : Lp := fun i s {_R} κ => none
theorem k149 : Contract C Try.prog f149K := contract_tab _ (fun p hp => by cases hp)
theorem ev149 (x : ByteArray × Int × Int × Bool × Int) : evalB C f149K f149P 149 Try.f149 f149B ⟨[.v true [.str, (.int .i64), (.int .i64), .bool] [false, false, false, false], .v false [(.int .i64)] [false]], [⟨false, [(.int .i64)], [false]⟩]⟩ [.str, (.int .i64), (.int .i64), .bool, (.int .i64)] [(.int .i64)] x = F_laws_szVol x := by kernel_rfl
theorem ok149 : ContractAt C Try.prog 149 F_laws_szVol := fn_sound (lp := f149P) tok mixed k149 (fn := Try.f149) (c := f149B) (sg := ⟨[.v true [.str, (.int .i64), (.int .i64), .bool] [false, false, false, false], .v false [(.int .i64)] [false]], [⟨false, [(.int .i64)], [false]⟩]⟩) Try.func149 (by decide) (by kernel_rfl) (by kernel_rfl) (by kernel_rfl) (fun c' hc' => by
    rw [show loopsOf f149B = [] by kernel_rfl] at hc'
    cases hc') (by decide) (by decide) (fun x y h => (ev149 x).trans h)

/-! ### 114: laws.szVolS -/
abbrev T_laws_szVolS_5 : Type := List E_LVol × Int × Int
noncomputable def S_laws_szVolS_5 {R : Type} (k0 : (Int × Int) → Option R) (k1 : Int → Option R) (again : T_laws_szVolS_5 → Option R) (t5 : T_laws_szVolS_5) : Option R :=
  bif (decide (t5.2.2 < ((List.length t5.1 : Nat) : Int))) then if (0 : Int) ≤ t5.2.2 then if t5.2.2 < ((List.length t5.1 : Nat) : Int) then Option.bind (F_laws_szVol ((rd_LVol t5.1 t5.2.2).1, (rd_LVol t5.1 t5.2.2).2.1, (rd_LVol t5.1 t5.2.2).2.2.1, (rd_LVol t5.1 t5.2.2).2.2.2, t5.2.1)) fun r1 => bif (decide (r1 < (0 : Int))) then k0 (r1, (-1 : Int)) else again (t5.1, r1, (Go.IntKind.wrap .i64 (t5.2.2 + (1 : Int)))) else none else none else k1 t5.2.1
noncomputable def L_laws_szVolS_5 {R : Type} (k0 : (Int × Int) → Option R) (k1 : Int → Option R) (t : T_laws_szVolS_5) : Option R := iter (S_laws_szVolS_5 k0 k1) FUEL t
noncomputable def F_laws_szVolS (x : List E_LVol × Int) : Option (Int) :=
  bif (decide ((Go.IntKind.wrap .i64 (x.2 - ((List.length x.1 : Nat) : Int))) < (0 : Int))) then some (-1 : Int) else L_laws_szVolS_5 (fun x2 => some x2.2) (fun x3 => some x3) (x.1, (Go.IntKind.wrap .i64 (x.2 - ((List.length x.1 : Nat) : Int))), (0 : Int))
noncomputable def f114B : Code := match Try.f114.body with
  | some c => c
  | none => .skip
noncomputable def f114K : C.Sem := tab [⟨149, F_laws_szVol⟩]
def f114h5_0 : List Sh := [.v (.sl 177 ts_LVol), .v (.int .i64), .dead, .dead, .dead, .v (.int .i64), .dead, .dead, .dead, .dead, .dead, .dead, .dead, .dead, .dead, .dead, .dead, .dead, .dead, .dead, .dead, .dead, .dead, .dead, .dead, .dead, .dead]
def f114o5_0 : List (Nat × OSh) := []
def f114e5_0 (t : List E_LVol × Int × Int) : St := mkS f114h5_0 f114o5_0 ((t.1, t.2.1, (), (), (), t.2.2, (), (), (), (), (), (), (), (), (), (), (), (), (), (), (), (), (), (), (), (), (), ()), ())
def f114g5_0 : List Sh := [.dead, .v (.int .i64), .dead, .dead, .v (.int .i64), .dead, .dead, .dead, .dead, .dead, .dead, .dead, .dead, .dead, .dead, .dead, .dead, .dead, .dead, .dead, .dead, .dead, .dead, .dead, .dead, .dead, .dead]
def f114p5_0 : List (Nat × OSh) := []
def f114x5_0 (t : Int × Int) : St := mkS f114g5_0 f114p5_0 (((), t.1, (), (), t.2, (), (), (), (), (), (), (), (), (), (), (), (), (), (), (), (), (), (), (), (), (), (), ()), ())
def f114g5_1 : List Sh := [.dead, .v (.int .i64), .dead, .dead, .dead, .dead, .dead, .dead, .dead, .dead, .dead, .dead, .dead, .dead, .dead, .dead, .dead, .dead, .dead, .dead, .dead, .dead, .dead, .dead, .dead, .dead, .dead]
def f114p5_1 : List (Nat × OSh) := []
def f114x5_1 (t : Int) : St := mkS f114g5_1 f114p5_1 (((), t, (), (), (), (), (), (), (), (), (), (), (), (), (), (), (), (), (), (), (), (), (), (), (), (), (), ()), ())
def f114u5_0 (s : St) : Option (List E_LVol × Int × Int) := (unS f114h5_0 f114o5_0 s).map fun v => (v.1.1, v.1.2.1, v.1.2.2.2.2.2.1)
theorem f114un5_0 : ∀ (s : St) (t : List E_LVol × Int × Int), f114u5_0 s = some t → f114e5_0 t = s := fun s v h => by
  obtain ⟨u, hu, rfl⟩ := Option.map_eq_some_iff.1 h
  exact mkS_un f114h5_0 f114o5_0 s u hu
def f114u5 : St → Option (List E_LVol × Int × Int) := f114u5_0
def f114e5 : (List E_LVol × Int × Int) → St := f114e5_0
theorem f114un5 : ∀ (s : St) (t : List E_LVol × Int × Int), f114u5 s = some t → f114e5 t = s := f114un5_0
noncomputable def f114P : Lp := fun i s {_R} κ => bif Nat.beq i 5 then (f114u5 s).bind fun t => L_laws_szVolS_5 (fun t => κ (none) (f114x5_0 t)) (fun t => κ (some 0) (f114x5_1 t)) t else none
noncomputable def f114c5 : Code := (loopsOf f114B).getD 0 .skip
theorem f114A5 : C.live 114 (firstRegion f114c5) = some ([0, 1, 5], [1, 4]) := by kernel_rfl
theorem f114B5 {R : Type} (κ : Option Nat → St → Option R) (s : St) : f114P (firstRegion f114c5) s κ = (f114u5 s).bind fun t => iter (S_laws_szVolS_5 (fun t => κ (none) (f114x5_0 t)) (fun t => κ (some 0) (f114x5_1 t))) FUEL t := by kernel_rfl
theorem f114C5 {R : Type} (κ : Option Nat → St → Option R) (again : St → Option R) (t : T_laws_szVolS_5) : stepL C f114K f114P 114 f114c5 [0, 1, 5] [1, 4] κ again (f114e5 t) = S_laws_szVolS_5 (fun t => κ (none) (f114x5_0 t)) (fun t => κ (some 0) (f114x5_1 t)) (fun t => again (f114e5 t)) t := by kernel_rfl
theorem f114ok5 : LoopOk C f114K f114P 114 f114c5 := loop_ok f114A5 f114e5 f114u5 f114un5 (fun {_R} κ => S_laws_szVolS_5 (fun t => κ (none) (f114x5_0 t)) (fun t => κ (some 0) (f114x5_1 t))) (fun {_R} κ s => f114B5 κ s) (fun {_R} κ again t => f114C5 κ again t)
theorem k114 : Contract C Try.prog f114K := contract_tab _ (fun p hp => by
    simp only [List.mem_cons, List.mem_nil_iff, or_false] at hp
    rcases hp with rfl
    · exact ok149)
theorem ev114 (x : List E_LVol × Int) : evalB C f114K f114P 114 Try.f114 f114B ⟨[.v false [(.sl 177 ts_LVol)] [false], .v false [(.int .i64)] [false]], [⟨false, [(.int .i64)], [false]⟩]⟩ [(.sl 177 ts_LVol), (.int .i64)] [(.int .i64)] x = F_laws_szVolS x := by kernel_rfl
theorem ok114 : ContractAt C Try.prog 114 F_laws_szVolS := fn_sound (lp := f114P) tok mixed k114 (fn := Try.f114) (c := f114B) (sg := ⟨[.v false [(.sl 177 ts_LVol)] [false], .v false [(.int .i64)] [false]], [⟨false, [(.int .i64)], [false]⟩]⟩) Try.func114 (by decide) (by kernel_rfl) (by kernel_rfl) (by kernel_rfl) (fun c' hc' => by
    rw [show loopsOf f114B = [f114c5] by kernel_rfl] at hc'
    simp only [List.mem_cons, List.mem_nil_iff, or_false] at hc'
    rcases hc' with rfl
    · exact f114ok5) (by decide) (by decide) (fun x y h => (ev114 x).trans h)

/-! ### 51: laws.szPool -/
noncomputable def F_laws_szPool (x : List E_i64 × List E_LNode × List E_LAge × List E_LCell × List E_LVol × Int × Int) : Option (Int) :=
  Option.bind (F_laws_szTree (x.1, x.2.1, x.2.2.2.2.2.2)) fun r1 => bif (decide (r1 < (0 : Int))) then some (-1 : Int) else Option.bind (F_laws_szAgeS (x.2.2.1, r1)) fun r2 => bif (decide (r2 < (0 : Int))) then some (-1 : Int) else Option.bind (F_laws_szCellS (x.2.2.2.1, r2)) fun r3 => bif (decide (r3 < (0 : Int))) then some (-1 : Int) else Option.bind (F_laws_szVolS (x.2.2.2.2.1, r3)) fun r4 => bif (decide (r4 < (0 : Int))) then some (-1 : Int) else some r4
noncomputable def f51B : Code := match Try.f51.body with
  | some c => c
  | none => .skip
noncomputable def f51K : C.Sem := tab [⟨111, F_laws_szTree⟩, ⟨112, F_laws_szAgeS⟩, ⟨113, F_laws_szCellS⟩, ⟨114, F_laws_szVolS⟩]
noncomputable def f51P : Lp := fun i s {_R} κ => none
theorem k51 : Contract C Try.prog f51K := contract_tab _ (fun p hp => by
    simp only [List.mem_cons, List.mem_nil_iff, or_false] at hp
    rcases hp with rfl | rfl | rfl | rfl
    · exact ok111
    · exact ok112
    · exact ok113
    · exact ok114)
theorem ev51 (x : List E_i64 × List E_LNode × List E_LAge × List E_LCell × List E_LVol × Int × Int) : evalB C f51K f51P 51 Try.f51 f51B ⟨[.v true [(.sl 3 ts_i64), (.sl 207 ts_LNode), (.sl 187 ts_LAge), (.sl 191 ts_LCell), (.sl 177 ts_LVol), (.int .i64)] [false, false, false, false, false, false], .v false [(.int .i64)] [false]], [⟨false, [(.int .i64)], [false]⟩]⟩ [(.sl 3 ts_i64), (.sl 207 ts_LNode), (.sl 187 ts_LAge), (.sl 191 ts_LCell), (.sl 177 ts_LVol), (.int .i64), (.int .i64)] [(.int .i64)] x = F_laws_szPool x := by kernel_rfl
theorem ok51 : ContractAt C Try.prog 51 F_laws_szPool := fn_sound (lp := f51P) tok mixed k51 (fn := Try.f51) (c := f51B) (sg := ⟨[.v true [(.sl 3 ts_i64), (.sl 207 ts_LNode), (.sl 187 ts_LAge), (.sl 191 ts_LCell), (.sl 177 ts_LVol), (.int .i64)] [false, false, false, false, false, false], .v false [(.int .i64)] [false]], [⟨false, [(.int .i64)], [false]⟩]⟩) Try.func51 (by decide) (by kernel_rfl) (by kernel_rfl) (by kernel_rfl) (fun c' hc' => by
    rw [show loopsOf f51B = [] by kernel_rfl] at hc'
    cases hc') (by decide) (by decide) (fun x y h => (ev51 x).trans h)

/-! ### 186: spec.LessKey -/
noncomputable def F_spec_LessKey (x : Int × Int × Int × Int × Int × Int × Int × Int × Int × Int) : Option (Bool) :=
  bif (x.1 != x.2.2.2.2.2.1) then some (decide (x.1 < x.2.2.2.2.2.1)) else some (decide (x.2.1 < x.2.2.2.2.2.2.1))
noncomputable def f186B : Code := match Try.f186.body with
  | some c => c
  | none => .skip
noncomputable def f186K : C.Sem := tab []
noncomputable def f186P : Lp := fun i s {_R} κ => none
theorem k186 : Contract C Try.prog f186K := contract_tab _ (fun p hp => by cases hp)
theorem ev186 (x : Int × Int × Int × Int × Int × Int × Int × Int × Int × Int) : evalB C f186K f186P 186 Try.f186 f186B ⟨[.v true [(.int .i64), (.int .i64), (.int .i64), (.int .i64), (.int .i64)] [false, false, false, false, false], .v true [(.int .i64), (.int .i64), (.int .i64), (.int .i64), (.int .i64)] [false, false, false, false, false]], [⟨false, [.bool], [false]⟩]⟩ [(.int .i64), (.int .i64), (.int .i64), (.int .i64), (.int .i64), (.int .i64), (.int .i64), (.int .i64), (.int .i64), (.int .i64)] [.bool] x = F_spec_LessKey x := by kernel_rfl
theorem ok186 : ContractAt C Try.prog 186 F_spec_LessKey := fn_sound (lp := f186P) tok mixed k186 (fn := Try.f186) (c := f186B) (sg := ⟨[.v true [(.int .i64), (.int .i64), (.int .i64), (.int .i64), (.int .i64)] [false, false, false, false, false], .v true [(.int .i64), (.int .i64), (.int .i64), (.int .i64), (.int .i64)] [false, false, false, false, false]], [⟨false, [.bool], [false]⟩]⟩) Try.func186 (by decide) (by kernel_rfl) (by kernel_rfl) (by kernel_rfl) (fun c' hc' => by
    rw [show loopsOf f186B = [] by kernel_rfl] at hc'
    cases hc') (by decide) (by decide) (fun x y h => (ev186 x).trans h)

/-! ### 187: spec.SameSpot -/
noncomputable def F_spec_SameSpot (x : Int × Int × Int × Int × Int × Int × Int × Int × Int × Int) : Option (Bool) :=
  Option.bind (bif (x.1 == x.2.2.2.2.2.1) then some (x.2.1 == x.2.2.2.2.2.2.1) else some false) fun u1 => some u1
noncomputable def f187B : Code := match Try.f187.body with
  | some c => c
  | none => .skip
noncomputable def f187K : C.Sem := tab []
noncomputable def f187P : Lp := fun i s {_R} κ => none
theorem k187 : Contract C Try.prog f187K := contract_tab _ (fun p hp => by cases hp)
theorem ev187 (x : Int × Int × Int × Int × Int × Int × Int × Int × Int × Int) : evalB C f187K f187P 187 Try.f187 f187B ⟨[.v true [(.int .i64), (.int .i64), (.int .i64), (.int .i64), (.int .i64)] [false, false, false, false, false], .v true [(.int .i64), (.int .i64), (.int .i64), (.int .i64), (.int .i64)] [false, false, false, false, false]], [⟨false, [.bool], [false]⟩]⟩ [(.int .i64), (.int .i64), (.int .i64), (.int .i64), (.int .i64), (.int .i64), (.int .i64), (.int .i64), (.int .i64), (.int .i64)] [.bool] x = F_spec_SameSpot x := by kernel_rfl
theorem ok187 : ContractAt C Try.prog 187 F_spec_SameSpot := fn_sound (lp := f187P) tok mixed k187 (fn := Try.f187) (c := f187B) (sg := ⟨[.v true [(.int .i64), (.int .i64), (.int .i64), (.int .i64), (.int .i64)] [false, false, false, false, false], .v true [(.int .i64), (.int .i64), (.int .i64), (.int .i64), (.int .i64)] [false, false, false, false, false]], [⟨false, [.bool], [false]⟩]⟩) Try.func187 (by decide) (by kernel_rfl) (by kernel_rfl) (by kernel_rfl) (fun c' hc' => by
    rw [show loopsOf f187B = [] by kernel_rfl] at hc'
    cases hc') (by decide) (by decide) (fun x y h => (ev187 x).trans h)

/-! ### 180: spec.SetPut -/
abbrev T_spec_SetPut_4 : Type := List E_Key × Bool × Int × Int × Int × Int × Int × Int × List E_Key
noncomputable def S_spec_SetPut_4 {R : Type} (k0 : (Bool × Int × Int × Int × Int × Int × List E_Key) → Option R) (again : T_spec_SetPut_4 → Option R) (t4 : T_spec_SetPut_4) : Option R :=
  bif (decide (t4.2.2.1 < ((List.length t4.1 : Nat) : Int))) then Option.bind (bif (!t4.2.1) then if (0 : Int) ≤ t4.2.2.1 then if t4.2.2.1 < ((List.length t4.1 : Nat) : Int) then Option.bind (F_spec_LessKey ((rd_Key t4.1 t4.2.2.1).1, (rd_Key t4.1 t4.2.2.1).2.1, (rd_Key t4.1 t4.2.2.1).2.2.1, (rd_Key t4.1 t4.2.2.1).2.2.2.1, (rd_Key t4.1 t4.2.2.1).2.2.2.2, t4.2.2.2.1, t4.2.2.2.2.1, t4.2.2.2.2.2.1, t4.2.2.2.2.2.2.1, t4.2.2.2.2.2.2.2.1)) fun r2 => some (!r2) else none else none else some false) fun u1 => bif u1 then if (List.length t4.2.2.2.2.2.2.2.2 + List.length ([(t4.2.2.2.1, t4.2.2.2.2.1, t4.2.2.2.2.2.1, t4.2.2.2.2.2.2.1, t4.2.2.2.2.2.2.2.1)] : List E_Key)) * 40 < 140737488355328 then if (0 : Int) ≤ t4.2.2.1 then if t4.2.2.1 < ((List.length t4.1 : Nat) : Int) then Option.bind (F_spec_SameSpot ((rd_Key t4.1 t4.2.2.1).1, (rd_Key t4.1 t4.2.2.1).2.1, (rd_Key t4.1 t4.2.2.1).2.2.1, (rd_Key t4.1 t4.2.2.1).2.2.2.1, (rd_Key t4.1 t4.2.2.1).2.2.2.2, t4.2.2.2.1, t4.2.2.2.2.1, t4.2.2.2.2.2.1, t4.2.2.2.2.2.2.1, t4.2.2.2.2.2.2.2.1)) fun r3 => bif (!r3) then if (0 : Int) ≤ t4.2.2.1 then if t4.2.2.1 < ((List.length t4.1 : Nat) : Int) then if (List.length (t4.2.2.2.2.2.2.2.2 ++ ([(t4.2.2.2.1, t4.2.2.2.2.1, t4.2.2.2.2.2.1, t4.2.2.2.2.2.2.1, t4.2.2.2.2.2.2.2.1)] : List E_Key)) + List.length ([((rd_Key t4.1 t4.2.2.1).1, (rd_Key t4.1 t4.2.2.1).2.1, (rd_Key t4.1 t4.2.2.1).2.2.1, (rd_Key t4.1 t4.2.2.1).2.2.2.1, (rd_Key t4.1 t4.2.2.1).2.2.2.2)] : List E_Key)) * 40 < 140737488355328 then again (t4.1, true, (Go.IntKind.wrap .i64 (t4.2.2.1 + (1 : Int))), t4.2.2.2.1, t4.2.2.2.2.1, t4.2.2.2.2.2.1, t4.2.2.2.2.2.2.1, t4.2.2.2.2.2.2.2.1, ((t4.2.2.2.2.2.2.2.2 ++ ([(t4.2.2.2.1, t4.2.2.2.2.1, t4.2.2.2.2.2.1, t4.2.2.2.2.2.2.1, t4.2.2.2.2.2.2.2.1)] : List E_Key)) ++ ([((rd_Key t4.1 t4.2.2.1).1, (rd_Key t4.1 t4.2.2.1).2.1, (rd_Key t4.1 t4.2.2.1).2.2.1, (rd_Key t4.1 t4.2.2.1).2.2.2.1, (rd_Key t4.1 t4.2.2.1).2.2.2.2)] : List E_Key))) else none else none else none else again (t4.1, true, (Go.IntKind.wrap .i64 (t4.2.2.1 + (1 : Int))), t4.2.2.2.1, t4.2.2.2.2.1, t4.2.2.2.2.2.1, t4.2.2.2.2.2.2.1, t4.2.2.2.2.2.2.2.1, (t4.2.2.2.2.2.2.2.2 ++ ([(t4.2.2.2.1, t4.2.2.2.2.1, t4.2.2.2.2.2.1, t4.2.2.2.2.2.2.1, t4.2.2.2.2.2.2.2.1)] : List E_Key))) else none else none else none else if (0 : Int) ≤ t4.2.2.1 then if t4.2.2.1 < ((List.length t4.1 : Nat) : Int) then Option.bind (F_spec_SameSpot ((rd_Key t4.1 t4.2.2.1).1, (rd_Key t4.1 t4.2.2.1).2.1, (rd_Key t4.1 t4.2.2.1).2.2.1, (rd_Key t4.1 t4.2.2.1).2.2.2.1, (rd_Key t4.1 t4.2.2.1).2.2.2.2, t4.2.2.2.1, t4.2.2.2.2.1, t4.2.2.2.2.2.1, t4.2.2.2.2.2.2.1, t4.2.2.2.2.2.2.2.1)) fun r4 => bif (!r4) then if (0 : Int) ≤ t4.2.2.1 then if t4.2.2.1 < ((List.length t4.1 : Nat) : Int) then if (List.length t4.2.2.2.2.2.2.2.2 + List.length ([((rd_Key t4.1 t4.2.2.1).1, (rd_Key t4.1 t4.2.2.1).2.1, (rd_Key t4.1 t4.2.2.1).2.2.1, (rd_Key t4.1 t4.2.2.1).2.2.2.1, (rd_Key t4.1 t4.2.2.1).2.2.2.2)] : List E_Key)) * 40 < 140737488355328 then again (t4.1, t4.2.1, (Go.IntKind.wrap .i64 (t4.2.2.1 + (1 : Int))), t4.2.2.2.1, t4.2.2.2.2.1, t4.2.2.2.2.2.1, t4.2.2.2.2.2.2.1, t4.2.2.2.2.2.2.2.1, (t4.2.2.2.2.2.2.2.2 ++ ([((rd_Key t4.1 t4.2.2.1).1, (rd_Key t4.1 t4.2.2.1).2.1, (rd_Key t4.1 t4.2.2.1).2.2.1, (rd_Key t4.1 t4.2.2.1).2.2.2.1, (rd_Key t4.1 t4.2.2.1).2.2.2.2)] : List E_Key))) else none else none else none else again (t4.1, t4.2.1, (Go.IntKind.wrap .i64 (t4.2.2.1 + (1 : Int))), t4.2.2.2.1, t4.2.2.2.2.1, t4.2.2.2.2.2.1, t4.2.2.2.2.2.2.1, t4.2.2.2.2.2.2.2.1, t4.2.2.2.2.2.2.2.2) else none else none else k0 (t4.2.1, t4.2.2.2.1, t4.2.2.2.2.1, t4.2.2.2.2.2.1, t4.2.2.2.2.2.2.1, t4.2.2.2.2.2.2.2.1, t4.2.2.2.2.2.2.2.2)
noncomputable def L_spec_SetPut_4 {R : Type} (k0 : (Bool × Int × Int × Int × Int × Int × List E_Key) → Option R) (t : T_spec_SetPut_4) : Option R := iter (S_spec_SetPut_4 k0) FUEL t
noncomputable def F_spec_SetPut (x : List E_Key × Int × Int × Int × Int × Int) : Option (List E_Key) :=
  L_spec_SetPut_4 (fun x5 => bif (!x5.1) then if (List.length x5.2.2.2.2.2.2 + List.length ([(x5.2.1, x5.2.2.1, x5.2.2.2.1, x5.2.2.2.2.1, x5.2.2.2.2.2.1)] : List E_Key)) * 40 < 140737488355328 then some (x5.2.2.2.2.2.2 ++ ([(x5.2.1, x5.2.2.1, x5.2.2.2.1, x5.2.2.2.2.1, x5.2.2.2.2.2.1)] : List E_Key)) else none else some x5.2.2.2.2.2.2) (x.1, false, (0 : Int), x.2.1, x.2.2.1, x.2.2.2.1, x.2.2.2.2.1, x.2.2.2.2.2, ([] : List E_Key))
noncomputable def f180B : Code := match Try.f180.body with
  | some c => c
  | none => .skip
noncomputable def f180K : C.Sem := tab [⟨186, F_spec_LessKey⟩, ⟨187, F_spec_SameSpot⟩]
def f180h4_0 : List Sh := [.v (.sl 216 ts_Key), .dead, .dead, .box 3 0, .dead, .own 10000000, .v .bool, .v (.int .i64), .dead, .dead, .dead, .dead, .dead, .dead, .dead, .dead, .dead, .dead, .dead, .dead, .dead, .dead, .dead, .dead, .dead, .dead, .dead, .dead, .dead, .dead, .dead, .dead, .dead, .dead, .dead, .dead, .dead, .dead, .dead, .dead, .dead, .dead, .dead, .dead, .dead, .dead, .dead, .dead, .dead, .dead, .dead]
def f180o4_0 : List (Nat × OSh) := [(3, .box [.v (.int .i64), .v (.int .i64), .v (.int .i64), .v (.int .i64), .v (.int .i64)]), (10000000, .root true 216 ts_Key)]
def f180e4_0 (t : List E_Key × Bool × Int × Int × Int × Int × Int × Int × List E_Key) : St := mkS f180h4_0 f180o4_0 ((t.1, (), (), (), (), (), t.2.1, t.2.2.1, (), (), (), (), (), (), (), (), (), (), (), (), (), (), (), (), (), (), (), (), (), (), (), (), (), (), (), (), (), (), (), (), (), (), (), (), (), (), (), (), (), (), (), ()), ((t.2.2.2.1, t.2.2.2.2.1, t.2.2.2.2.2.1, t.2.2.2.2.2.2.1, t.2.2.2.2.2.2.2.1, ()), t.2.2.2.2.2.2.2.2, ()))
def f180g4_0 : List Sh := [.dead, .dead, .dead, .box 3 0, .dead, .own 10000000, .v .bool, .dead, .dead, .dead, .dead, .dead, .dead, .dead, .dead, .dead, .dead, .dead, .dead, .dead, .dead, .dead, .dead, .dead, .dead, .dead, .dead, .dead, .dead, .dead, .dead, .dead, .dead, .dead, .dead, .dead, .dead, .dead, .dead, .dead, .dead, .dead, .dead, .dead, .dead, .dead, .dead, .dead, .dead, .dead, .dead]
def f180p4_0 : List (Nat × OSh) := [(3, .box [.v (.int .i64), .v (.int .i64), .v (.int .i64), .v (.int .i64), .v (.int .i64)]), (10000000, .root true 216 ts_Key)]
def f180x4_0 (t : Bool × Int × Int × Int × Int × Int × List E_Key) : St := mkS f180g4_0 f180p4_0 (((), (), (), (), (), (), t.1, (), (), (), (), (), (), (), (), (), (), (), (), (), (), (), (), (), (), (), (), (), (), (), (), (), (), (), (), (), (), (), (), (), (), (), (), (), (), (), (), (), (), (), (), ()), ((t.2.1, t.2.2.1, t.2.2.2.1, t.2.2.2.2.1, t.2.2.2.2.2.1, ()), t.2.2.2.2.2.2, ()))
def f180u4_0 (s : St) : Option (List E_Key × Bool × Int × Int × Int × Int × Int × Int × List E_Key) := (unS f180h4_0 f180o4_0 s).map fun v => (v.1.1, v.1.2.2.2.2.2.2.1, v.1.2.2.2.2.2.2.2.1, v.2.1.1, v.2.1.2.1, v.2.1.2.2.1, v.2.1.2.2.2.1, v.2.1.2.2.2.2.1, v.2.2.1)
theorem f180un4_0 : ∀ (s : St) (t : List E_Key × Bool × Int × Int × Int × Int × Int × Int × List E_Key), f180u4_0 s = some t → f180e4_0 t = s := fun s v h => by
  obtain ⟨u, hu, rfl⟩ := Option.map_eq_some_iff.1 h
  exact mkS_un f180h4_0 f180o4_0 s u hu
def f180u4 : St → Option (List E_Key × Bool × Int × Int × Int × Int × Int × Int × List E_Key) := f180u4_0
def f180e4 : (List E_Key × Bool × Int × Int × Int × Int × Int × Int × List E_Key) → St := f180e4_0
theorem f180un4 : ∀ (s : St) (t : List E_Key × Bool × Int × Int × Int × Int × Int × Int × List E_Key), f180u4 s = some t → f180e4 t = s := f180un4_0
noncomputable def f180P : Lp := fun i s {_R} κ => bif Nat.beq i 4 then (f180u4 s).bind fun t => L_spec_SetPut_4 (fun t => κ (some 0) (f180x4_0 t)) t else none
noncomputable def f180c4 : Code := (loopsOf f180B).getD 0 .skip
theorem f180A4 : C.live 180 (firstRegion f180c4) = some ([0, 3, 5, 6, 7, 18, 19, 20, 21, 22, 23, 24], [3, 5, 6]) := by kernel_rfl
theorem f180B4 {R : Type} (κ : Option Nat → St → Option R) (s : St) : f180P (firstRegion f180c4) s κ = (f180u4 s).bind fun t => iter (S_spec_SetPut_4 (fun t => κ (some 0) (f180x4_0 t))) FUEL t := by kernel_rfl
theorem f180C4 {R : Type} (κ : Option Nat → St → Option R) (again : St → Option R) (t : T_spec_SetPut_4) : stepL C f180K f180P 180 f180c4 [0, 3, 5, 6, 7, 18, 19, 20, 21, 22, 23, 24] [3, 5, 6] κ again (f180e4 t) = S_spec_SetPut_4 (fun t => κ (some 0) (f180x4_0 t)) (fun t => again (f180e4 t)) t := by kernel_rfl
theorem f180ok4 : LoopOk C f180K f180P 180 f180c4 := loop_ok f180A4 f180e4 f180u4 f180un4 (fun {_R} κ => S_spec_SetPut_4 (fun t => κ (some 0) (f180x4_0 t))) (fun {_R} κ s => f180B4 κ s) (fun {_R} κ again t => f180C4 κ again t)
theorem k180 : Contract C Try.prog f180K := contract_tab _ (fun p hp => by
    simp only [List.mem_cons, List.mem_nil_iff, or_false] at hp
    rcases hp with rfl | rfl
    · exact ok186
    · exact ok187)
theorem ev180 (x : List E_Key × Int × Int × Int × Int × Int) : evalB C f180K f180P 180 Try.f180 f180B ⟨[.v false [(.sl 216 ts_Key)] [false], .v true [(.int .i64), (.int .i64), (.int .i64), (.int .i64), (.int .i64)] [false, false, false, false, false]], [⟨false, [(.sl 216 ts_Key)], [true]⟩]⟩ [(.sl 216 ts_Key), (.int .i64), (.int .i64), (.int .i64), (.int .i64), (.int .i64)] [(.sl 216 ts_Key)] x = F_spec_SetPut x := by kernel_rfl
theorem ok180 : ContractAt C Try.prog 180 F_spec_SetPut := fn_sound (lp := f180P) tok mixed k180 (fn := Try.f180) (c := f180B) (sg := ⟨[.v false [(.sl 216 ts_Key)] [false], .v true [(.int .i64), (.int .i64), (.int .i64), (.int .i64), (.int .i64)] [false, false, false, false, false]], [⟨false, [(.sl 216 ts_Key)], [true]⟩]⟩) Try.func180 (by decide) (by kernel_rfl) (by kernel_rfl) (by kernel_rfl) (fun c' hc' => by
    rw [show loopsOf f180B = [f180c4] by kernel_rfl] at hc'
    simp only [List.mem_cons, List.mem_nil_iff, or_false] at hc'
    rcases hc' with rfl
    · exact f180ok4) (by decide) (by decide) (fun x y h => (ev180 x).trans h)

/-! ### 172: spec.MergeSets -/
abbrev T_spec_MergeSets_3 : Type := List E_Key × Int × List E_Key
noncomputable def S_spec_MergeSets_3 {R : Type} (k0 : List E_Key → Option R) (again : T_spec_MergeSets_3 → Option R) (t3 : T_spec_MergeSets_3) : Option R :=
  bif (decide (t3.2.1 < ((List.length t3.1 : Nat) : Int))) then if (0 : Int) ≤ t3.2.1 then if t3.2.1 < ((List.length t3.1 : Nat) : Int) then Option.bind (F_spec_SetPut (t3.2.2, (rd_Key t3.1 t3.2.1).1, (rd_Key t3.1 t3.2.1).2.1, (rd_Key t3.1 t3.2.1).2.2.1, (rd_Key t3.1 t3.2.1).2.2.2.1, (rd_Key t3.1 t3.2.1).2.2.2.2)) fun r1 => again (t3.1, (Go.IntKind.wrap .i64 (t3.2.1 + (1 : Int))), r1) else none else none else k0 t3.2.2
noncomputable def L_spec_MergeSets_3 {R : Type} (k0 : List E_Key → Option R) (t : T_spec_MergeSets_3) : Option R := iter (S_spec_MergeSets_3 k0) FUEL t
noncomputable def F_spec_MergeSets (x : List E_Key × List E_Key) : Option (List E_Key) :=
  if (List.length ([] : List E_Key) + List.length x.1) * 40 < 140737488355328 then L_spec_MergeSets_3 (fun x2 => some x2) (x.2, (0 : Int), (([] : List E_Key) ++ x.1)) else none
noncomputable def f172B : Code := match Try.f172.body with
  | some c => c
  | none => .skip
noncomputable def f172K : C.Sem := tab [⟨180, F_spec_SetPut⟩]
def f172h3_0 : List Sh := [.dead, .v (.sl 216 ts_Key), .dead, .dead, .dead, .own 10000000, .v (.int .i64), .dead, .dead, .dead, .dead, .dead, .dead, .dead, .dead, .dead, .dead, .dead, .dead, .dead, .dead, .dead, .dead]
def f172o3_0 : List (Nat × OSh) := [(10000000, .root true 216 ts_Key)]
def f172e3_0 (t : List E_Key × Int × List E_Key) : St := mkS f172h3_0 f172o3_0 (((), t.1, (), (), (), (), t.2.1, (), (), (), (), (), (), (), (), (), (), (), (), (), (), (), (), ()), (t.2.2, ()))
def f172g3_0 : List Sh := [.dead, .dead, .dead, .dead, .dead, .own 10000000, .dead, .dead, .dead, .dead, .dead, .dead, .dead, .dead, .dead, .dead, .dead, .dead, .dead, .dead, .dead, .dead, .dead]
def f172p3_0 : List (Nat × OSh) := [(10000000, .root true 216 ts_Key)]
def f172x3_0 (t : List E_Key) : St := mkS f172g3_0 f172p3_0 (((), (), (), (), (), (), (), (), (), (), (), (), (), (), (), (), (), (), (), (), (), (), (), ()), (t, ()))
def f172u3_0 (s : St) : Option (List E_Key × Int × List E_Key) := (unS f172h3_0 f172o3_0 s).map fun v => (v.1.2.1, v.1.2.2.2.2.2.2.1, v.2.1)
theorem f172un3_0 : ∀ (s : St) (t : List E_Key × Int × List E_Key), f172u3_0 s = some t → f172e3_0 t = s := fun s v h => by
  obtain ⟨u, hu, rfl⟩ := Option.map_eq_some_iff.1 h
  exact mkS_un f172h3_0 f172o3_0 s u hu
def f172u3 : St → Option (List E_Key × Int × List E_Key) := f172u3_0
def f172e3 : (List E_Key × Int × List E_Key) → St := f172e3_0
theorem f172un3 : ∀ (s : St) (t : List E_Key × Int × List E_Key), f172u3 s = some t → f172e3 t = s := f172un3_0
noncomputable def f172P : Lp := fun i s {_R} κ => bif Nat.beq i 3 then (f172u3 s).bind fun t => L_spec_MergeSets_3 (fun t => κ (some 0) (f172x3_0 t)) t else none
noncomputable def f172c3 : Code := (loopsOf f172B).getD 0 .skip
theorem f172A3 : C.live 172 (firstRegion f172c3) = some ([1, 5, 6], [5]) := by kernel_rfl
theorem f172B3 {R : Type} (κ : Option Nat → St → Option R) (s : St) : f172P (firstRegion f172c3) s κ = (f172u3 s).bind fun t => iter (S_spec_MergeSets_3 (fun t => κ (some 0) (f172x3_0 t))) FUEL t := by kernel_rfl
theorem f172C3 {R : Type} (κ : Option Nat → St → Option R) (again : St → Option R) (t : T_spec_MergeSets_3) : stepL C f172K f172P 172 f172c3 [1, 5, 6] [5] κ again (f172e3 t) = S_spec_MergeSets_3 (fun t => κ (some 0) (f172x3_0 t)) (fun t => again (f172e3 t)) t := by kernel_rfl
theorem f172ok3 : LoopOk C f172K f172P 172 f172c3 := loop_ok f172A3 f172e3 f172u3 f172un3 (fun {_R} κ => S_spec_MergeSets_3 (fun t => κ (some 0) (f172x3_0 t))) (fun {_R} κ s => f172B3 κ s) (fun {_R} κ again t => f172C3 κ again t)
theorem k172 : Contract C Try.prog f172K := contract_tab _ (fun p hp => by
    simp only [List.mem_cons, List.mem_nil_iff, or_false] at hp
    rcases hp with rfl
    · exact ok180)
theorem ev172 (x : List E_Key × List E_Key) : evalB C f172K f172P 172 Try.f172 f172B ⟨[.v false [(.sl 216 ts_Key)] [false], .v false [(.sl 216 ts_Key)] [false]], [⟨false, [(.sl 216 ts_Key)], [true]⟩]⟩ [(.sl 216 ts_Key), (.sl 216 ts_Key)] [(.sl 216 ts_Key)] x = F_spec_MergeSets x := by kernel_rfl
theorem ok172 : ContractAt C Try.prog 172 F_spec_MergeSets := fn_sound (lp := f172P) tok mixed k172 (fn := Try.f172) (c := f172B) (sg := ⟨[.v false [(.sl 216 ts_Key)] [false], .v false [(.sl 216 ts_Key)] [false]], [⟨false, [(.sl 216 ts_Key)], [true]⟩]⟩) Try.func172 (by decide) (by kernel_rfl) (by kernel_rfl) (by kernel_rfl) (fun c' hc' => by
    rw [show loopsOf f172B = [f172c3] by kernel_rfl] at hc'
    simp only [List.mem_cons, List.mem_nil_iff, or_false] at hc'
    rcases hc' with rfl
    · exact f172ok3) (by decide) (by decide) (fun x y h => (ev172 x).trans h)

/-! ### 173: spec.Drop -/
abbrev T_spec_Drop_3 : Type := List E_Key × Int × List E_Key
noncomputable def S_spec_Drop_3 {R : Type} (k0 : List E_Key → Option R) (again : T_spec_Drop_3 → Option R) (t3 : T_spec_Drop_3) : Option R :=
  bif (decide (t3.2.1 < ((List.length t3.1 : Nat) : Int))) then if (0 : Int) ≤ t3.2.1 then if t3.2.1 < ((List.length t3.1 : Nat) : Int) then bif ((rd_Key t3.1 t3.2.1).2.2.1 != (0 : Int)) then if (0 : Int) ≤ t3.2.1 then if t3.2.1 < ((List.length t3.1 : Nat) : Int) then if (List.length t3.2.2 + List.length ([((rd_Key t3.1 t3.2.1).1, (rd_Key t3.1 t3.2.1).2.1, (rd_Key t3.1 t3.2.1).2.2.1, (rd_Key t3.1 t3.2.1).2.2.2.1, (rd_Key t3.1 t3.2.1).2.2.2.2)] : List E_Key)) * 40 < 140737488355328 then again (t3.1, (Go.IntKind.wrap .i64 (t3.2.1 + (1 : Int))), (t3.2.2 ++ ([((rd_Key t3.1 t3.2.1).1, (rd_Key t3.1 t3.2.1).2.1, (rd_Key t3.1 t3.2.1).2.2.1, (rd_Key t3.1 t3.2.1).2.2.2.1, (rd_Key t3.1 t3.2.1).2.2.2.2)] : List E_Key))) else none else none else none else again (t3.1, (Go.IntKind.wrap .i64 (t3.2.1 + (1 : Int))), t3.2.2) else none else none else k0 t3.2.2
noncomputable def L_spec_Drop_3 {R : Type} (k0 : List E_Key → Option R) (t : T_spec_Drop_3) : Option R := iter (S_spec_Drop_3 k0) FUEL t
noncomputable def F_spec_Drop (x : List E_Key) : Option (List E_Key) :=
  L_spec_Drop_3 (fun x1 => some x1) (x, (0 : Int), ([] : List E_Key))
noncomputable def f173B : Code := match Try.f173.body with
  | some c => c
  | none => .skip
noncomputable def f173K : C.Sem := tab []
def f173h3_0 : List Sh := [.v (.sl 216 ts_Key), .dead, .dead, .own 10000000, .v (.int .i64), .dead, .dead, .dead, .dead, .dead, .dead, .dead, .dead, .dead, .dead, .dead, .dead, .dead, .dead, .dead, .dead, .dead, .dead, .dead, .dead, .dead]
def f173o3_0 : List (Nat × OSh) := [(10000000, .root true 216 ts_Key)]
def f173e3_0 (t : List E_Key × Int × List E_Key) : St := mkS f173h3_0 f173o3_0 ((t.1, (), (), (), t.2.1, (), (), (), (), (), (), (), (), (), (), (), (), (), (), (), (), (), (), (), (), (), ()), (t.2.2, ()))
def f173g3_0 : List Sh := [.dead, .dead, .dead, .own 10000000, .dead, .dead, .dead, .dead, .dead, .dead, .dead, .dead, .dead, .dead, .dead, .dead, .dead, .dead, .dead, .dead, .dead, .dead, .dead, .dead, .dead, .dead]
def f173p3_0 : List (Nat × OSh) := [(10000000, .root true 216 ts_Key)]
def f173x3_0 (t : List E_Key) : St := mkS f173g3_0 f173p3_0 (((), (), (), (), (), (), (), (), (), (), (), (), (), (), (), (), (), (), (), (), (), (), (), (), (), (), ()), (t, ()))
def f173u3_0 (s : St) : Option (List E_Key × Int × List E_Key) := (unS f173h3_0 f173o3_0 s).map fun v => (v.1.1, v.1.2.2.2.2.1, v.2.1)
theorem f173un3_0 : ∀ (s : St) (t : List E_Key × Int × List E_Key), f173u3_0 s = some t → f173e3_0 t = s := fun s v h => by
  obtain ⟨u, hu, rfl⟩ := Option.map_eq_some_iff.1 h
  exact mkS_un f173h3_0 f173o3_0 s u hu
def f173u3 : St → Option (List E_Key × Int × List E_Key) := f173u3_0
def f173e3 : (List E_Key × Int × List E_Key) → St := f173e3_0
theorem f173un3 : ∀ (s : St) (t : List E_Key × Int × List E_Key), f173u3 s = some t → f173e3 t = s := f173un3_0
noncomputable def f173P : Lp := fun i s {_R} κ => bif Nat.beq i 3 then (f173u3 s).bind fun t => L_spec_Drop_3 (fun t => κ (some 0) (f173x3_0 t)) t else none
noncomputable def f173c3 : Code := (loopsOf f173B).getD 0 .skip
theorem f173A3 : C.live 173 (firstRegion f173c3) = some ([0, 3, 4], [3]) := by kernel_rfl
theorem f173B3 {R : Type} (κ : Option Nat → St → Option R) (s : St) : f173P (firstRegion f173c3) s κ = (f173u3 s).bind fun t => iter (S_spec_Drop_3 (fun t => κ (some 0) (f173x3_0 t))) FUEL t := by kernel_rfl
theorem f173C3 {R : Type} (κ : Option Nat → St → Option R) (again : St → Option R) (t : T_spec_Drop_3) : stepL C f173K f173P 173 f173c3 [0, 3, 4] [3] κ again (f173e3 t) = S_spec_Drop_3 (fun t => κ (some 0) (f173x3_0 t)) (fun t => again (f173e3 t)) t := by kernel_rfl
theorem f173ok3 : LoopOk C f173K f173P 173 f173c3 := loop_ok f173A3 f173e3 f173u3 f173un3 (fun {_R} κ => S_spec_Drop_3 (fun t => κ (some 0) (f173x3_0 t))) (fun {_R} κ s => f173B3 κ s) (fun {_R} κ again t => f173C3 κ again t)
theorem k173 : Contract C Try.prog f173K := contract_tab _ (fun p hp => by cases hp)
theorem ev173 (x : List E_Key) : evalB C f173K f173P 173 Try.f173 f173B ⟨[.v false [(.sl 216 ts_Key)] [false]], [⟨false, [(.sl 216 ts_Key)], [true]⟩]⟩ [(.sl 216 ts_Key)] [(.sl 216 ts_Key)] x = F_spec_Drop x := by kernel_rfl
theorem ok173 : ContractAt C Try.prog 173 F_spec_Drop := fn_sound (lp := f173P) tok mixed k173 (fn := Try.f173) (c := f173B) (sg := ⟨[.v false [(.sl 216 ts_Key)] [false]], [⟨false, [(.sl 216 ts_Key)], [true]⟩]⟩) Try.func173 (by decide) (by kernel_rfl) (by kernel_rfl) (by kernel_rfl) (fun c' hc' => by
    rw [show loopsOf f173B = [f173c3] by kernel_rfl] at hc'
    simp only [List.mem_cons, List.mem_nil_iff, or_false] at hc'
    rcases hc' with rfl
    · exact f173ok3) (by decide) (by decide) (fun x y h => (ev173 x).trans h)

/-! ### 150: spec.NodeKeys -/
abbrev T_spec_NodeKeys_3 : Type := Int × List E_s_Key × List E_Key
noncomputable def S_spec_NodeKeys_3 {R : Type} (k0 : List E_Key → Option R) (again : T_spec_NodeKeys_3 → Option R) (t3 : T_spec_NodeKeys_3) : Option R :=
  bif (decide (t3.1 < ((List.length t3.2.1 : Nat) : Int))) then if (0 : Int) ≤ t3.1 then if t3.1 < ((List.length t3.2.1 : Nat) : Int) then Option.bind (F_spec_MergeSets (t3.2.2, (rd_s_Key t3.2.1 t3.1))) fun r1 => again ((Go.IntKind.wrap .i64 (t3.1 + (1 : Int))), t3.2.1, r1) else none else none else k0 t3.2.2
noncomputable def L_spec_NodeKeys_3 {R : Type} (k0 : List E_Key → Option R) (t : T_spec_NodeKeys_3) : Option R := iter (S_spec_NodeKeys_3 k0) FUEL t
noncomputable def F_spec_NodeKeys (x : List E_s_Key) : Option (List E_Key) :=
  L_spec_NodeKeys_3 (fun x2 => Option.bind (F_spec_Drop x2) fun r3 => some r3) ((0 : Int), x, ([] : List E_Key))
noncomputable def f150B : Code := match Try.f150.body with
  | some c => c
  | none => .skip
noncomputable def f150K : C.Sem := tab [⟨172, F_spec_MergeSets⟩, ⟨173, F_spec_Drop⟩]
def f150h3_0 : List Sh := [.dead, .box 1 0, .dead, .own 10000000, .v (.int .i64), .dead, .dead, .dead, .dead, .dead, .dead, .dead, .dead, .dead, .dead, .dead, .dead, .dead, .dead, .dead, .dead, .dead]
def f150o3_0 : List (Nat × OSh) := [(1, .box [.v (.sl 141 ts_s_Key)]), (10000000, .root true 216 ts_Key)]
def f150e3_0 (t : Int × List E_s_Key × List E_Key) : St := mkS f150h3_0 f150o3_0 (((), (), (), (), t.1, (), (), (), (), (), (), (), (), (), (), (), (), (), (), (), (), (), ()), ((t.2.1, ()), t.2.2, ()))
def f150g3_0 : List Sh := [.dead, .dead, .dead, .own 10000000, .dead, .dead, .dead, .dead, .dead, .dead, .dead, .dead, .dead, .dead, .dead, .dead, .dead, .dead, .dead, .dead, .dead, .dead]
def f150p3_0 : List (Nat × OSh) := [(10000000, .root true 216 ts_Key)]
def f150x3_0 (t : List E_Key) : St := mkS f150g3_0 f150p3_0 (((), (), (), (), (), (), (), (), (), (), (), (), (), (), (), (), (), (), (), (), (), (), ()), (t, ()))
def f150u3_0 (s : St) : Option (Int × List E_s_Key × List E_Key) := (unS f150h3_0 f150o3_0 s).map fun v => (v.1.2.2.2.2.1, v.2.1.1, v.2.2.1)
theorem f150un3_0 : ∀ (s : St) (t : Int × List E_s_Key × List E_Key), f150u3_0 s = some t → f150e3_0 t = s := fun s v h => by
  obtain ⟨u, hu, rfl⟩ := Option.map_eq_some_iff.1 h
  exact mkS_un f150h3_0 f150o3_0 s u hu
def f150u3 : St → Option (Int × List E_s_Key × List E_Key) := f150u3_0
def f150e3 : (Int × List E_s_Key × List E_Key) → St := f150e3_0
theorem f150un3 : ∀ (s : St) (t : Int × List E_s_Key × List E_Key), f150u3 s = some t → f150e3 t = s := f150un3_0
noncomputable def f150P : Lp := fun i s {_R} κ => bif Nat.beq i 3 then (f150u3 s).bind fun t => L_spec_NodeKeys_3 (fun t => κ (some 0) (f150x3_0 t)) t else none
noncomputable def f150c3 : Code := (loopsOf f150B).getD 0 .skip
theorem f150A3 : C.live 150 (firstRegion f150c3) = some ([1, 3, 4], [3]) := by kernel_rfl
theorem f150B3 {R : Type} (κ : Option Nat → St → Option R) (s : St) : f150P (firstRegion f150c3) s κ = (f150u3 s).bind fun t => iter (S_spec_NodeKeys_3 (fun t => κ (some 0) (f150x3_0 t))) FUEL t := by kernel_rfl
theorem f150C3 {R : Type} (κ : Option Nat → St → Option R) (again : St → Option R) (t : T_spec_NodeKeys_3) : stepL C f150K f150P 150 f150c3 [1, 3, 4] [3] κ again (f150e3 t) = S_spec_NodeKeys_3 (fun t => κ (some 0) (f150x3_0 t)) (fun t => again (f150e3 t)) t := by kernel_rfl
theorem f150ok3 : LoopOk C f150K f150P 150 f150c3 := loop_ok f150A3 f150e3 f150u3 f150un3 (fun {_R} κ => S_spec_NodeKeys_3 (fun t => κ (some 0) (f150x3_0 t))) (fun {_R} κ s => f150B3 κ s) (fun {_R} κ again t => f150C3 κ again t)
theorem k150 : Contract C Try.prog f150K := contract_tab _ (fun p hp => by
    simp only [List.mem_cons, List.mem_nil_iff, or_false] at hp
    rcases hp with rfl | rfl
    · exact ok172
    · exact ok173)
theorem ev150 (x : List E_s_Key) : evalB C f150K f150P 150 Try.f150 f150B ⟨[.v true [(.sl 141 ts_s_Key)] [false]], [⟨false, [(.sl 216 ts_Key)], [true]⟩]⟩ [(.sl 141 ts_s_Key)] [(.sl 216 ts_Key)] x = F_spec_NodeKeys x := by kernel_rfl
theorem ok150 : ContractAt C Try.prog 150 F_spec_NodeKeys := fn_sound (lp := f150P) tok mixed k150 (fn := Try.f150) (c := f150B) (sg := ⟨[.v true [(.sl 141 ts_s_Key)] [false]], [⟨false, [(.sl 216 ts_Key)], [true]⟩]⟩) Try.func150 (by decide) (by kernel_rfl) (by kernel_rfl) (by kernel_rfl) (fun c' hc' => by
    rw [show loopsOf f150B = [f150c3] by kernel_rfl] at hc'
    simp only [List.mem_cons, List.mem_nil_iff, or_false] at hc'
    rcases hc' with rfl
    · exact f150ok3) (by decide) (by decide) (fun x y h => (ev150 x).trans h)

/-! ### 115: spec.TreeKeys -/
abbrev T_spec_TreeKeys_3 : Type := Int × List E_i64 × List E_Node × List E_Key
noncomputable def S_spec_TreeKeys_3 {R : Type} (k0 : List E_Key → Option R) (again : T_spec_TreeKeys_3 → Option R) (t3 : T_spec_TreeKeys_3) : Option R :=
  bif (decide (t3.1 < ((List.length t3.2.2.1 : Nat) : Int))) then if (0 : Int) ≤ t3.1 then if t3.1 < ((List.length t3.2.2.1 : Nat) : Int) then Option.bind (F_spec_NodeKeys (rd_Node t3.2.2.1 t3.1)) fun r1 => if (List.length t3.2.2.2 + List.length r1) * 40 < 140737488355328 then again ((Go.IntKind.wrap .i64 (t3.1 + (1 : Int))), t3.2.1, t3.2.2.1, (t3.2.2.2 ++ r1)) else none else none else none else k0 t3.2.2.2
noncomputable def L_spec_TreeKeys_3 {R : Type} (k0 : List E_Key → Option R) (t : T_spec_TreeKeys_3) : Option R := iter (S_spec_TreeKeys_3 k0) FUEL t
noncomputable def F_spec_TreeKeys (x : List E_i64 × List E_Node) : Option (List E_Key) :=
  L_spec_TreeKeys_3 (fun x2 => some x2) ((0 : Int), x.1, x.2, ([] : List E_Key))
noncomputable def f115B : Code := match Try.f115.body with
  | some c => c
  | none => .skip
noncomputable def f115K : C.Sem := tab [⟨150, F_spec_NodeKeys⟩]
def f115h3_0 : List Sh := [.dead, .box 1 0, .dead, .own 10000000, .v (.int .i64), .dead, .dead, .dead, .dead, .dead, .dead, .dead, .dead, .dead, .dead, .dead, .dead, .dead, .dead, .dead, .dead, .dead]
def f115o3_0 : List (Nat × OSh) := [(1, .box [.v (.sl 3 ts_i64), .v (.sl 181 ts_Node)]), (10000000, .root true 216 ts_Key)]
def f115e3_0 (t : Int × List E_i64 × List E_Node × List E_Key) : St := mkS f115h3_0 f115o3_0 (((), (), (), (), t.1, (), (), (), (), (), (), (), (), (), (), (), (), (), (), (), (), (), ()), ((t.2.1, t.2.2.1, ()), t.2.2.2, ()))
def f115g3_0 : List Sh := [.dead, .dead, .dead, .own 10000000, .dead, .dead, .dead, .dead, .dead, .dead, .dead, .dead, .dead, .dead, .dead, .dead, .dead, .dead, .dead, .dead, .dead, .dead]
def f115p3_0 : List (Nat × OSh) := [(10000000, .root true 216 ts_Key)]
def f115x3_0 (t : List E_Key) : St := mkS f115g3_0 f115p3_0 (((), (), (), (), (), (), (), (), (), (), (), (), (), (), (), (), (), (), (), (), (), (), ()), (t, ()))
def f115u3_0 (s : St) : Option (Int × List E_i64 × List E_Node × List E_Key) := (unS f115h3_0 f115o3_0 s).map fun v => (v.1.2.2.2.2.1, v.2.1.1, v.2.1.2.1, v.2.2.1)
theorem f115un3_0 : ∀ (s : St) (t : Int × List E_i64 × List E_Node × List E_Key), f115u3_0 s = some t → f115e3_0 t = s := fun s v h => by
  obtain ⟨u, hu, rfl⟩ := Option.map_eq_some_iff.1 h
  exact mkS_un f115h3_0 f115o3_0 s u hu
def f115u3 : St → Option (Int × List E_i64 × List E_Node × List E_Key) := f115u3_0
def f115e3 : (Int × List E_i64 × List E_Node × List E_Key) → St := f115e3_0
theorem f115un3 : ∀ (s : St) (t : Int × List E_i64 × List E_Node × List E_Key), f115u3 s = some t → f115e3 t = s := f115un3_0
noncomputable def f115P : Lp := fun i s {_R} κ => bif Nat.beq i 3 then (f115u3 s).bind fun t => L_spec_TreeKeys_3 (fun t => κ (some 0) (f115x3_0 t)) t else none
noncomputable def f115c3 : Code := (loopsOf f115B).getD 0 .skip
theorem f115A3 : C.live 115 (firstRegion f115c3) = some ([1, 3, 4], [3]) := by kernel_rfl
theorem f115B3 {R : Type} (κ : Option Nat → St → Option R) (s : St) : f115P (firstRegion f115c3) s κ = (f115u3 s).bind fun t => iter (S_spec_TreeKeys_3 (fun t => κ (some 0) (f115x3_0 t))) FUEL t := by kernel_rfl
theorem f115C3 {R : Type} (κ : Option Nat → St → Option R) (again : St → Option R) (t : T_spec_TreeKeys_3) : stepL C f115K f115P 115 f115c3 [1, 3, 4] [3] κ again (f115e3 t) = S_spec_TreeKeys_3 (fun t => κ (some 0) (f115x3_0 t)) (fun t => again (f115e3 t)) t := by kernel_rfl
theorem f115ok3 : LoopOk C f115K f115P 115 f115c3 := loop_ok f115A3 f115e3 f115u3 f115un3 (fun {_R} κ => S_spec_TreeKeys_3 (fun t => κ (some 0) (f115x3_0 t))) (fun {_R} κ s => f115B3 κ s) (fun {_R} κ again t => f115C3 κ again t)
theorem k115 : Contract C Try.prog f115K := contract_tab _ (fun p hp => by
    simp only [List.mem_cons, List.mem_nil_iff, or_false] at hp
    rcases hp with rfl
    · exact ok150)
theorem ev115 (x : List E_i64 × List E_Node) : evalB C f115K f115P 115 Try.f115 f115B ⟨[.v true [(.sl 3 ts_i64), (.sl 181 ts_Node)] [false, false]], [⟨false, [(.sl 216 ts_Key)], [true]⟩]⟩ [(.sl 3 ts_i64), (.sl 181 ts_Node)] [(.sl 216 ts_Key)] x = F_spec_TreeKeys x := by kernel_rfl
theorem ok115 : ContractAt C Try.prog 115 F_spec_TreeKeys := fn_sound (lp := f115P) tok mixed k115 (fn := Try.f115) (c := f115B) (sg := ⟨[.v true [(.sl 3 ts_i64), (.sl 181 ts_Node)] [false, false]], [⟨false, [(.sl 216 ts_Key)], [true]⟩]⟩) Try.func115 (by decide) (by kernel_rfl) (by kernel_rfl) (by kernel_rfl) (fun c' hc' => by
    rw [show loopsOf f115B = [f115c3] by kernel_rfl] at hc'
    simp only [List.mem_cons, List.mem_nil_iff, or_false] at hc'
    rcases hc' with rfl
    · exact f115ok3) (by decide) (by decide) (fun x y h => (ev115 x).trans h)

/-! ### 52: spec.Bound -/
noncomputable def F_spec_Bound (x : List E_i64 × List E_Node × List E_Age × List E_Cell × List E_Vol × Int) : Option (Int) :=
  Option.bind (F_spec_TreeKeys (x.1, x.2.1)) fun r1 => some (Go.IntKind.wrap .i64 ((Go.IntKind.wrap .i64 (((List.length r1 : Nat) : Int) * (Go.IntKind.wrap .i64 (((List.length x.2.2.1 : Nat) : Int) + (1 : Int))))) + ((List.length x.2.2.1 : Nat) : Int)))
noncomputable def f52B : Code := match Try.f52.body with
  | some c => c
  | none => .skip
noncomputable def f52K : C.Sem := tab [⟨115, F_spec_TreeKeys⟩]
noncomputable def f52P : Lp := fun i s {_R} κ => none
theorem k52 : Contract C Try.prog f52K := contract_tab _ (fun p hp => by
    simp only [List.mem_cons, List.mem_nil_iff, or_false] at hp
    rcases hp with rfl
    · exact ok115)
theorem ev52 (x : List E_i64 × List E_Node × List E_Age × List E_Cell × List E_Vol × Int) : evalB C f52K f52P 52 Try.f52 f52B ⟨[.v true [(.sl 3 ts_i64), (.sl 181 ts_Node), (.sl 185 ts_Age), (.sl 189 ts_Cell), (.sl 192 ts_Vol), (.int .i64)] [false, false, false, false, false, false]], [⟨false, [(.int .i64)], [false]⟩]⟩ [(.sl 3 ts_i64), (.sl 181 ts_Node), (.sl 185 ts_Age), (.sl 189 ts_Cell), (.sl 192 ts_Vol), (.int .i64)] [(.int .i64)] x = F_spec_Bound x := by kernel_rfl
theorem ok52 : ContractAt C Try.prog 52 F_spec_Bound := fn_sound (lp := f52P) tok mixed k52 (fn := Try.f52) (c := f52B) (sg := ⟨[.v true [(.sl 3 ts_i64), (.sl 181 ts_Node), (.sl 185 ts_Age), (.sl 189 ts_Cell), (.sl 192 ts_Vol), (.int .i64)] [false, false, false, false, false, false]], [⟨false, [(.int .i64)], [false]⟩]⟩) Try.func52 (by decide) (by kernel_rfl) (by kernel_rfl) (by kernel_rfl) (fun c' hc' => by
    rw [show loopsOf f52B = [] by kernel_rfl] at hc'
    cases hc') (by decide) (by decide) (fun x y h => (ev52 x).trans h)

/-! ### 151: laws.toIntS -/
abbrev T_laws_toIntS_3 : Type := List E_i64 × Int × List E_i64
noncomputable def S_laws_toIntS_3 {R : Type} (k0 : List E_i64 → Option R) (again : T_laws_toIntS_3 → Option R) (t3 : T_laws_toIntS_3) : Option R :=
  bif (decide (t3.2.1 < ((List.length t3.1 : Nat) : Int))) then if (0 : Int) ≤ t3.2.1 then if t3.2.1 < ((List.length t3.1 : Nat) : Int) then if (0 : Int) ≤ t3.2.1 then if t3.2.1 < ((List.length t3.2.2 : Nat) : Int) then again (t3.1, (Go.IntKind.wrap .i64 (t3.2.1 + (1 : Int))), (List.set t3.2.2 (Int.toNat t3.2.1) (rd_i64 t3.1 t3.2.1))) else none else none else none else none else k0 t3.2.2
noncomputable def L_laws_toIntS_3 {R : Type} (k0 : List E_i64 → Option R) (t : T_laws_toIntS_3) : Option R := iter (S_laws_toIntS_3 k0) FUEL t
noncomputable def F_laws_toIntS (x : List E_i64) : Option (List E_i64) :=
  if (0 : Int) ≤ ((List.length x : Nat) : Int) then if ((List.length x : Nat) : Int) ≤ ((List.length x : Nat) : Int) then if ((List.length x : Nat) : Int) * ((8 : Nat) : Int) ≤ 140737488351232 then L_laws_toIntS_3 (fun x1 => some x1) (x, (0 : Int), (List.replicate (Int.toNat ((List.length x : Nat) : Int)) z_i64)) else none else none else none
noncomputable def f151B : Code := match Try.f151.body with
  | some c => c
  | none => .skip
noncomputable def f151K : C.Sem := tab []
def f151h3_0 : List Sh := [.v (.sl 3 ts_i64), .dead, .dead, .own 10000000, .v (.int .i64), .dead, .dead, .dead, .dead, .dead, .dead, .dead, .dead, .dead, .dead, .dead, .dead, .dead, .dead, .dead, .dead, .dead]
def f151o3_0 : List (Nat × OSh) := [(10000000, .root true 3 ts_i64)]
def f151e3_0 (t : List E_i64 × Int × List E_i64) : St := mkS f151h3_0 f151o3_0 ((t.1, (), (), (), t.2.1, (), (), (), (), (), (), (), (), (), (), (), (), (), (), (), (), (), ()), (t.2.2, ()))
def f151g3_0 : List Sh := [.dead, .dead, .dead, .own 10000000, .dead, .dead, .dead, .dead, .dead, .dead, .dead, .dead, .dead, .dead, .dead, .dead, .dead, .dead, .dead, .dead, .dead, .dead]
def f151p3_0 : List (Nat × OSh) := [(10000000, .root true 3 ts_i64)]
def f151x3_0 (t : List E_i64) : St := mkS f151g3_0 f151p3_0 (((), (), (), (), (), (), (), (), (), (), (), (), (), (), (), (), (), (), (), (), (), (), ()), (t, ()))
def f151u3_0 (s : St) : Option (List E_i64 × Int × List E_i64) := (unS f151h3_0 f151o3_0 s).map fun v => (v.1.1, v.1.2.2.2.2.1, v.2.1)
theorem f151un3_0 : ∀ (s : St) (t : List E_i64 × Int × List E_i64), f151u3_0 s = some t → f151e3_0 t = s := fun s v h => by
  obtain ⟨u, hu, rfl⟩ := Option.map_eq_some_iff.1 h
  exact mkS_un f151h3_0 f151o3_0 s u hu
def f151u3 : St → Option (List E_i64 × Int × List E_i64) := f151u3_0
def f151e3 : (List E_i64 × Int × List E_i64) → St := f151e3_0
theorem f151un3 : ∀ (s : St) (t : List E_i64 × Int × List E_i64), f151u3 s = some t → f151e3 t = s := f151un3_0
noncomputable def f151P : Lp := fun i s {_R} κ => bif Nat.beq i 3 then (f151u3 s).bind fun t => L_laws_toIntS_3 (fun t => κ (some 0) (f151x3_0 t)) t else none
noncomputable def f151c3 : Code := (loopsOf f151B).getD 0 .skip
theorem f151A3 : C.live 151 (firstRegion f151c3) = some ([0, 3, 4], [3]) := by kernel_rfl
theorem f151B3 {R : Type} (κ : Option Nat → St → Option R) (s : St) : f151P (firstRegion f151c3) s κ = (f151u3 s).bind fun t => iter (S_laws_toIntS_3 (fun t => κ (some 0) (f151x3_0 t))) FUEL t := by kernel_rfl
theorem f151C3 {R : Type} (κ : Option Nat → St → Option R) (again : St → Option R) (t : T_laws_toIntS_3) : stepL C f151K f151P 151 f151c3 [0, 3, 4] [3] κ again (f151e3 t) = S_laws_toIntS_3 (fun t => κ (some 0) (f151x3_0 t)) (fun t => again (f151e3 t)) t := by kernel_rfl
theorem f151ok3 : LoopOk C f151K f151P 151 f151c3 := loop_ok f151A3 f151e3 f151u3 f151un3 (fun {_R} κ => S_laws_toIntS_3 (fun t => κ (some 0) (f151x3_0 t))) (fun {_R} κ s => f151B3 κ s) (fun {_R} κ again t => f151C3 κ again t)
theorem k151 : Contract C Try.prog f151K := contract_tab _ (fun p hp => by cases hp)
theorem ev151 (x : List E_i64) : evalB C f151K f151P 151 Try.f151 f151B ⟨[.v false [(.sl 3 ts_i64)] [false]], [⟨false, [(.sl 3 ts_i64)], [true]⟩]⟩ [(.sl 3 ts_i64)] [(.sl 3 ts_i64)] x = F_laws_toIntS x := by kernel_rfl
theorem ok151 : ContractAt C Try.prog 151 F_laws_toIntS := fn_sound (lp := f151P) tok mixed k151 (fn := Try.f151) (c := f151B) (sg := ⟨[.v false [(.sl 3 ts_i64)] [false]], [⟨false, [(.sl 3 ts_i64)], [true]⟩]⟩) Try.func151 (by decide) (by kernel_rfl) (by kernel_rfl) (by kernel_rfl) (fun c' hc' => by
    rw [show loopsOf f151B = [f151c3] by kernel_rfl] at hc'
    simp only [List.mem_cons, List.mem_nil_iff, or_false] at hc'
    rcases hc' with rfl
    · exact f151ok3) (by decide) (by decide) (fun x y h => (ev151 x).trans h)

/-! ### 192: laws.toKey -/
noncomputable def F_laws_toKey (x : Int × Int × Int × Int × Int) : Option (Int × Int × Int × Int × Int) :=
  some (x.1, x.2.1, x.2.2.1, x.2.2.2.1, x.2.2.2.2)
noncomputable def f192B : Code := match Try.f192.body with
  | some c => c
  | none => .skip
noncomputable def f192K : C.Sem := tab []
noncomputable def f192P : Lp := fun i s {_R} κ => none
theorem k192 : Contract C Try.prog f192K := contract_tab _ (fun p hp => by cases hp)
theorem ev192 (x : Int × Int × Int × Int × Int) : evalB C f192K f192P 192 Try.f192 f192B ⟨[.v true [(.int .i64), (.int .i64), (.int .i64), (.int .i64), (.int .i64)] [false, false, false, false, false]], [⟨true, [(.int .i64), (.int .i64), (.int .i64), (.int .i64), (.int .i64)], [false, false, false, false, false]⟩]⟩ [(.int .i64), (.int .i64), (.int .i64), (.int .i64), (.int .i64)] [(.int .i64), (.int .i64), (.int .i64), (.int .i64), (.int .i64)] x = F_laws_toKey x := by kernel_rfl
theorem ok192 : ContractAt C Try.prog 192 F_laws_toKey := fn_sound (lp := f192P) tok mixed k192 (fn := Try.f192) (c := f192B) (sg := ⟨[.v true [(.int .i64), (.int .i64), (.int .i64), (.int .i64), (.int .i64)] [false, false, false, false, false]], [⟨true, [(.int .i64), (.int .i64), (.int .i64), (.int .i64), (.int .i64)], [false, false, false, false, false]⟩]⟩) Try.func192 (by decide) (by kernel_rfl) (by kernel_rfl) (by kernel_rfl) (fun c' hc' => by
    rw [show loopsOf f192B = [] by kernel_rfl] at hc'
    cases hc') (by decide) (by decide) (fun x y h => (ev192 x).trans h)

/-! ### 188: laws.toKeyS -/
abbrev T_laws_toKeyS_3 : Type := List E_LKey × Int × List E_Key
noncomputable def S_laws_toKeyS_3 {R : Type} (k0 : List E_Key → Option R) (again : T_laws_toKeyS_3 → Option R) (t3 : T_laws_toKeyS_3) : Option R :=
  bif (decide (t3.2.1 < ((List.length t3.1 : Nat) : Int))) then if (0 : Int) ≤ t3.2.1 then if t3.2.1 < ((List.length t3.1 : Nat) : Int) then Option.bind (F_laws_toKey ((rd_LKey t3.1 t3.2.1).1, (rd_LKey t3.1 t3.2.1).2.1, (rd_LKey t3.1 t3.2.1).2.2.1, (rd_LKey t3.1 t3.2.1).2.2.2.1, (rd_LKey t3.1 t3.2.1).2.2.2.2)) fun r1 => if (0 : Int) ≤ t3.2.1 then if t3.2.1 < ((List.length t3.2.2 : Nat) : Int) then again (t3.1, (Go.IntKind.wrap .i64 (t3.2.1 + (1 : Int))), (List.set t3.2.2 (Int.toNat t3.2.1) (r1.1, r1.2.1, r1.2.2.1, r1.2.2.2.1, r1.2.2.2.2))) else none else none else none else none else k0 t3.2.2
noncomputable def L_laws_toKeyS_3 {R : Type} (k0 : List E_Key → Option R) (t : T_laws_toKeyS_3) : Option R := iter (S_laws_toKeyS_3 k0) FUEL t
noncomputable def F_laws_toKeyS (x : List E_LKey) : Option (List E_Key) :=
  if (0 : Int) ≤ ((List.length x : Nat) : Int) then if ((List.length x : Nat) : Int) ≤ ((List.length x : Nat) : Int) then if ((List.length x : Nat) : Int) * ((40 : Nat) : Int) ≤ 140737488351232 then L_laws_toKeyS_3 (fun x2 => some x2) (x, (0 : Int), (List.replicate (Int.toNat ((List.length x : Nat) : Int)) z_Key)) else none else none else none
noncomputable def f188B : Code := match Try.f188.body with
  | some c => c
  | none => .skip
noncomputable def f188K : C.Sem := tab [⟨192, F_laws_toKey⟩]
def f188h3_0 : List Sh := [.v (.sl 225 ts_LKey), .dead, .dead, .own 10000000, .v (.int .i64), .dead, .dead, .dead, .dead, .dead, .dead, .dead, .dead, .dead, .dead, .dead, .dead, .dead, .dead, .dead, .dead, .dead, .dead]
def f188o3_0 : List (Nat × OSh) := [(10000000, .root true 216 ts_Key)]
def f188e3_0 (t : List E_LKey × Int × List E_Key) : St := mkS f188h3_0 f188o3_0 ((t.1, (), (), (), t.2.1, (), (), (), (), (), (), (), (), (), (), (), (), (), (), (), (), (), (), ()), (t.2.2, ()))
def f188g3_0 : List Sh := [.dead, .dead, .dead, .own 10000000, .dead, .dead, .dead, .dead, .dead, .dead, .dead, .dead, .dead, .dead, .dead, .dead, .dead, .dead, .dead, .dead, .dead, .dead, .dead]
def f188p3_0 : List (Nat × OSh) := [(10000000, .root true 216 ts_Key)]
def f188x3_0 (t : List E_Key) : St := mkS f188g3_0 f188p3_0 (((), (), (), (), (), (), (), (), (), (), (), (), (), (), (), (), (), (), (), (), (), (), (), ()), (t, ()))
def f188u3_0 (s : St) : Option (List E_LKey × Int × List E_Key) := (unS f188h3_0 f188o3_0 s).map fun v => (v.1.1, v.1.2.2.2.2.1, v.2.1)
theorem f188un3_0 : ∀ (s : St) (t : List E_LKey × Int × List E_Key), f188u3_0 s = some t → f188e3_0 t = s := fun s v h => by
  obtain ⟨u, hu, rfl⟩ := Option.map_eq_some_iff.1 h
  exact mkS_un f188h3_0 f188o3_0 s u hu
def f188u3 : St → Option (List E_LKey × Int × List E_Key) := f188u3_0
def f188e3 : (List E_LKey × Int × List E_Key) → St := f188e3_0
theorem f188un3 : ∀ (s : St) (t : List E_LKey × Int × List E_Key), f188u3 s = some t → f188e3 t = s := f188un3_0
noncomputable def f188P : Lp := fun i s {_R} κ => bif Nat.beq i 3 then (f188u3 s).bind fun t => L_laws_toKeyS_3 (fun t => κ (some 0) (f188x3_0 t)) t else none
noncomputable def f188c3 : Code := (loopsOf f188B).getD 0 .skip
theorem f188A3 : C.live 188 (firstRegion f188c3) = some ([0, 3, 4], [3]) := by kernel_rfl
theorem f188B3 {R : Type} (κ : Option Nat → St → Option R) (s : St) : f188P (firstRegion f188c3) s κ = (f188u3 s).bind fun t => iter (S_laws_toKeyS_3 (fun t => κ (some 0) (f188x3_0 t))) FUEL t := by kernel_rfl
theorem f188C3 {R : Type} (κ : Option Nat → St → Option R) (again : St → Option R) (t : T_laws_toKeyS_3) : stepL C f188K f188P 188 f188c3 [0, 3, 4] [3] κ again (f188e3 t) = S_laws_toKeyS_3 (fun t => κ (some 0) (f188x3_0 t)) (fun t => again (f188e3 t)) t := by kernel_rfl
theorem f188ok3 : LoopOk C f188K f188P 188 f188c3 := loop_ok f188A3 f188e3 f188u3 f188un3 (fun {_R} κ => S_laws_toKeyS_3 (fun t => κ (some 0) (f188x3_0 t))) (fun {_R} κ s => f188B3 κ s) (fun {_R} κ again t => f188C3 κ again t)
theorem k188 : Contract C Try.prog f188K := contract_tab _ (fun p hp => by
    simp only [List.mem_cons, List.mem_nil_iff, or_false] at hp
    rcases hp with rfl
    · exact ok192)
theorem ev188 (x : List E_LKey) : evalB C f188K f188P 188 Try.f188 f188B ⟨[.v false [(.sl 225 ts_LKey)] [false]], [⟨false, [(.sl 216 ts_Key)], [true]⟩]⟩ [(.sl 225 ts_LKey)] [(.sl 216 ts_Key)] x = F_laws_toKeyS x := by kernel_rfl
theorem ok188 : ContractAt C Try.prog 188 F_laws_toKeyS := fn_sound (lp := f188P) tok mixed k188 (fn := Try.f188) (c := f188B) (sg := ⟨[.v false [(.sl 225 ts_LKey)] [false]], [⟨false, [(.sl 216 ts_Key)], [true]⟩]⟩) Try.func188 (by decide) (by kernel_rfl) (by kernel_rfl) (by kernel_rfl) (fun c' hc' => by
    rw [show loopsOf f188B = [f188c3] by kernel_rfl] at hc'
    simp only [List.mem_cons, List.mem_nil_iff, or_false] at hc'
    rcases hc' with rfl
    · exact f188ok3) (by decide) (by decide) (fun x y h => (ev188 x).trans h)

/-! ### 181: laws.toKeySS -/
abbrev T_laws_toKeySS_3 : Type := List E_s_LKey × Int × List E_s_Key
noncomputable def S_laws_toKeySS_3 {R : Type} (k0 : List E_s_Key → Option R) (again : T_laws_toKeySS_3 → Option R) (t3 : T_laws_toKeySS_3) : Option R :=
  bif (decide (t3.2.1 < ((List.length t3.1 : Nat) : Int))) then if (0 : Int) ≤ t3.2.1 then if t3.2.1 < ((List.length t3.1 : Nat) : Int) then Option.bind (F_laws_toKeyS (rd_s_LKey t3.1 t3.2.1)) fun r1 => if (0 : Int) ≤ t3.2.1 then if t3.2.1 < ((List.length t3.2.2 : Nat) : Int) then again (t3.1, (Go.IntKind.wrap .i64 (t3.2.1 + (1 : Int))), (List.set t3.2.2 (Int.toNat t3.2.1) r1)) else none else none else none else none else k0 t3.2.2
noncomputable def L_laws_toKeySS_3 {R : Type} (k0 : List E_s_Key → Option R) (t : T_laws_toKeySS_3) : Option R := iter (S_laws_toKeySS_3 k0) FUEL t
noncomputable def F_laws_toKeySS (x : List E_s_LKey) : Option (List E_s_Key) :=
  if (0 : Int) ≤ ((List.length x : Nat) : Int) then if ((List.length x : Nat) : Int) ≤ ((List.length x : Nat) : Int) then if ((List.length x : Nat) : Int) * ((24 : Nat) : Int) ≤ 140737488351232 then L_laws_toKeySS_3 (fun x2 => some x2) (x, (0 : Int), (List.replicate (Int.toNat ((List.length x : Nat) : Int)) z_s_Key)) else none else none else none
noncomputable def f181B : Code := match Try.f181.body with
  | some c => c
  | none => .skip
noncomputable def f181K : C.Sem := tab [⟨188, F_laws_toKeyS⟩]
def f181h3_0 : List Sh := [.v (.sl 220 ts_s_LKey), .dead, .dead, .own 10000000, .v (.int .i64), .dead, .dead, .dead, .dead, .dead, .dead, .dead, .dead, .dead, .dead, .dead, .dead, .dead, .dead, .dead, .dead, .dead, .dead]
def f181o3_0 : List (Nat × OSh) := [(10000000, .root true 141 ts_s_Key)]
def f181e3_0 (t : List E_s_LKey × Int × List E_s_Key) : St := mkS f181h3_0 f181o3_0 ((t.1, (), (), (), t.2.1, (), (), (), (), (), (), (), (), (), (), (), (), (), (), (), (), (), (), ()), (t.2.2, ()))
def f181g3_0 : List Sh := [.dead, .dead, .dead, .own 10000000, .dead, .dead, .dead, .dead, .dead, .dead, .dead, .dead, .dead, .dead, .dead, .dead, .dead, .dead, .dead, .dead, .dead, .dead, .dead]
def f181p3_0 : List (Nat × OSh) := [(10000000, .root true 141 ts_s_Key)]
def f181x3_0 (t : List E_s_Key) : St := mkS f181g3_0 f181p3_0 (((), (), (), (), (), (), (), (), (), (), (), (), (), (), (), (), (), (), (), (), (), (), (), ()), (t, ()))
def f181u3_0 (s : St) : Option (List E_s_LKey × Int × List E_s_Key) := (unS f181h3_0 f181o3_0 s).map fun v => (v.1.1, v.1.2.2.2.2.1, v.2.1)
theorem f181un3_0 : ∀ (s : St) (t : List E_s_LKey × Int × List E_s_Key), f181u3_0 s = some t → f181e3_0 t = s := fun s v h => by
  obtain ⟨u, hu, rfl⟩ := Option.map_eq_some_iff.1 h
  exact mkS_un f181h3_0 f181o3_0 s u hu
def f181u3 : St → Option (List E_s_LKey × Int × List E_s_Key) := f181u3_0
def f181e3 : (List E_s_LKey × Int × List E_s_Key) → St := f181e3_0
theorem f181un3 : ∀ (s : St) (t : List E_s_LKey × Int × List E_s_Key), f181u3 s = some t → f181e3 t = s := f181un3_0
noncomputable def f181P : Lp := fun i s {_R} κ => bif Nat.beq i 3 then (f181u3 s).bind fun t => L_laws_toKeySS_3 (fun t => κ (some 0) (f181x3_0 t)) t else none
noncomputable def f181c3 : Code := (loopsOf f181B).getD 0 .skip
theorem f181A3 : C.live 181 (firstRegion f181c3) = some ([0, 3, 4], [3]) := by kernel_rfl
theorem f181B3 {R : Type} (κ : Option Nat → St → Option R) (s : St) : f181P (firstRegion f181c3) s κ = (f181u3 s).bind fun t => iter (S_laws_toKeySS_3 (fun t => κ (some 0) (f181x3_0 t))) FUEL t := by kernel_rfl
theorem f181C3 {R : Type} (κ : Option Nat → St → Option R) (again : St → Option R) (t : T_laws_toKeySS_3) : stepL C f181K f181P 181 f181c3 [0, 3, 4] [3] κ again (f181e3 t) = S_laws_toKeySS_3 (fun t => κ (some 0) (f181x3_0 t)) (fun t => again (f181e3 t)) t := by kernel_rfl
theorem f181ok3 : LoopOk C f181K f181P 181 f181c3 := loop_ok f181A3 f181e3 f181u3 f181un3 (fun {_R} κ => S_laws_toKeySS_3 (fun t => κ (some 0) (f181x3_0 t))) (fun {_R} κ s => f181B3 κ s) (fun {_R} κ again t => f181C3 κ again t)
theorem k181 : Contract C Try.prog f181K := contract_tab _ (fun p hp => by
    simp only [List.mem_cons, List.mem_nil_iff, or_false] at hp
    rcases hp with rfl
    · exact ok188)
theorem ev181 (x : List E_s_LKey) : evalB C f181K f181P 181 Try.f181 f181B ⟨[.v false [(.sl 220 ts_s_LKey)] [false]], [⟨false, [(.sl 141 ts_s_Key)], [true]⟩]⟩ [(.sl 220 ts_s_LKey)] [(.sl 141 ts_s_Key)] x = F_laws_toKeySS x := by kernel_rfl
theorem ok181 : ContractAt C Try.prog 181 F_laws_toKeySS := fn_sound (lp := f181P) tok mixed k181 (fn := Try.f181) (c := f181B) (sg := ⟨[.v false [(.sl 220 ts_s_LKey)] [false]], [⟨false, [(.sl 141 ts_s_Key)], [true]⟩]⟩) Try.func181 (by decide) (by kernel_rfl) (by kernel_rfl) (by kernel_rfl) (fun c' hc' => by
    rw [show loopsOf f181B = [f181c3] by kernel_rfl] at hc'
    simp only [List.mem_cons, List.mem_nil_iff, or_false] at hc'
    rcases hc' with rfl
    · exact f181ok3) (by decide) (by decide) (fun x y h => (ev181 x).trans h)

/-! ### 174: laws.toNode -/
noncomputable def F_laws_toNode (x : List E_s_LKey) : Option (List E_s_Key) :=
  Option.bind (F_laws_toKeySS x) fun r1 => some r1
noncomputable def f174B : Code := match Try.f174.body with
  | some c => c
  | none => .skip
noncomputable def f174K : C.Sem := tab [⟨181, F_laws_toKeySS⟩]
noncomputable def f174P : Lp := fun i s {_R} κ => none
theorem k174 : Contract C Try.prog f174K := contract_tab _ (fun p hp => by
    simp only [List.mem_cons, List.mem_nil_iff, or_false] at hp
    rcases hp with rfl
    · exact ok181)
theorem ev174 (x : List E_s_LKey) : evalB C f174K f174P 174 Try.f174 f174B ⟨[.v true [(.sl 220 ts_s_LKey)] [false]], [⟨true, [(.sl 141 ts_s_Key)], [true]⟩]⟩ [(.sl 220 ts_s_LKey)] [(.sl 141 ts_s_Key)] x = F_laws_toNode x := by kernel_rfl
theorem ok174 : ContractAt C Try.prog 174 F_laws_toNode := fn_sound (lp := f174P) tok mixed k174 (fn := Try.f174) (c := f174B) (sg := ⟨[.v true [(.sl 220 ts_s_LKey)] [false]], [⟨true, [(.sl 141 ts_s_Key)], [true]⟩]⟩) Try.func174 (by decide) (by kernel_rfl) (by kernel_rfl) (by kernel_rfl) (fun c' hc' => by
    rw [show loopsOf f174B = [] by kernel_rfl] at hc'
    cases hc') (by decide) (by decide) (fun x y h => (ev174 x).trans h)

/-! ### 152: laws.toNodeS -/
abbrev T_laws_toNodeS_3 : Type := List E_LNode × Int × List E_Node
noncomputable def S_laws_toNodeS_3 {R : Type} (k0 : List E_Node → Option R) (again : T_laws_toNodeS_3 → Option R) (t3 : T_laws_toNodeS_3) : Option R :=
  bif (decide (t3.2.1 < ((List.length t3.1 : Nat) : Int))) then if (0 : Int) ≤ t3.2.1 then if t3.2.1 < ((List.length t3.1 : Nat) : Int) then Option.bind (F_laws_toNode (rd_LNode t3.1 t3.2.1)) fun r1 => if (0 : Int) ≤ t3.2.1 then if t3.2.1 < ((List.length t3.2.2 : Nat) : Int) then again (t3.1, (Go.IntKind.wrap .i64 (t3.2.1 + (1 : Int))), (List.set t3.2.2 (Int.toNat t3.2.1) r1)) else none else none else none else none else k0 t3.2.2
noncomputable def L_laws_toNodeS_3 {R : Type} (k0 : List E_Node → Option R) (t : T_laws_toNodeS_3) : Option R := iter (S_laws_toNodeS_3 k0) FUEL t
noncomputable def F_laws_toNodeS (x : List E_LNode) : Option (List E_Node) :=
  if (0 : Int) ≤ ((List.length x : Nat) : Int) then if ((List.length x : Nat) : Int) ≤ ((List.length x : Nat) : Int) then if ((List.length x : Nat) : Int) * ((24 : Nat) : Int) ≤ 140737488351232 then L_laws_toNodeS_3 (fun x2 => some x2) (x, (0 : Int), (List.replicate (Int.toNat ((List.length x : Nat) : Int)) z_Node)) else none else none else none
noncomputable def f152B : Code := match Try.f152.body with
  | some c => c
  | none => .skip
noncomputable def f152K : C.Sem := tab [⟨174, F_laws_toNode⟩]
def f152h3_0 : List Sh := [.v (.sl 207 ts_LNode), .dead, .dead, .own 10000000, .v (.int .i64), .dead, .dead, .dead, .dead, .dead, .dead, .dead, .dead, .dead, .dead, .dead, .dead, .dead, .dead, .dead, .dead, .dead, .dead]
def f152o3_0 : List (Nat × OSh) := [(10000000, .root true 181 ts_Node)]
def f152e3_0 (t : List E_LNode × Int × List E_Node) : St := mkS f152h3_0 f152o3_0 ((t.1, (), (), (), t.2.1, (), (), (), (), (), (), (), (), (), (), (), (), (), (), (), (), (), (), ()), (t.2.2, ()))
def f152g3_0 : List Sh := [.dead, .dead, .dead, .own 10000000, .dead, .dead, .dead, .dead, .dead, .dead, .dead, .dead, .dead, .dead, .dead, .dead, .dead, .dead, .dead, .dead, .dead, .dead, .dead]
def f152p3_0 : List (Nat × OSh) := [(10000000, .root true 181 ts_Node)]
def f152x3_0 (t : List E_Node) : St := mkS f152g3_0 f152p3_0 (((), (), (), (), (), (), (), (), (), (), (), (), (), (), (), (), (), (), (), (), (), (), (), ()), (t, ()))
def f152u3_0 (s : St) : Option (List E_LNode × Int × List E_Node) := (unS f152h3_0 f152o3_0 s).map fun v => (v.1.1, v.1.2.2.2.2.1, v.2.1)
theorem f152un3_0 : ∀ (s : St) (t : List E_LNode × Int × List E_Node), f152u3_0 s = some t → f152e3_0 t = s := fun s v h => by
  obtain ⟨u, hu, rfl⟩ := Option.map_eq_some_iff.1 h
  exact mkS_un f152h3_0 f152o3_0 s u hu
def f152u3 : St → Option (List E_LNode × Int × List E_Node) := f152u3_0
def f152e3 : (List E_LNode × Int × List E_Node) → St := f152e3_0
theorem f152un3 : ∀ (s : St) (t : List E_LNode × Int × List E_Node), f152u3 s = some t → f152e3 t = s := f152un3_0
noncomputable def f152P : Lp := fun i s {_R} κ => bif Nat.beq i 3 then (f152u3 s).bind fun t => L_laws_toNodeS_3 (fun t => κ (some 0) (f152x3_0 t)) t else none
noncomputable def f152c3 : Code := (loopsOf f152B).getD 0 .skip
theorem f152A3 : C.live 152 (firstRegion f152c3) = some ([0, 3, 4], [3]) := by kernel_rfl
theorem f152B3 {R : Type} (κ : Option Nat → St → Option R) (s : St) : f152P (firstRegion f152c3) s κ = (f152u3 s).bind fun t => iter (S_laws_toNodeS_3 (fun t => κ (some 0) (f152x3_0 t))) FUEL t := by kernel_rfl
theorem f152C3 {R : Type} (κ : Option Nat → St → Option R) (again : St → Option R) (t : T_laws_toNodeS_3) : stepL C f152K f152P 152 f152c3 [0, 3, 4] [3] κ again (f152e3 t) = S_laws_toNodeS_3 (fun t => κ (some 0) (f152x3_0 t)) (fun t => again (f152e3 t)) t := by kernel_rfl
theorem f152ok3 : LoopOk C f152K f152P 152 f152c3 := loop_ok f152A3 f152e3 f152u3 f152un3 (fun {_R} κ => S_laws_toNodeS_3 (fun t => κ (some 0) (f152x3_0 t))) (fun {_R} κ s => f152B3 κ s) (fun {_R} κ again t => f152C3 κ again t)
theorem k152 : Contract C Try.prog f152K := contract_tab _ (fun p hp => by
    simp only [List.mem_cons, List.mem_nil_iff, or_false] at hp
    rcases hp with rfl
    · exact ok174)
theorem ev152 (x : List E_LNode) : evalB C f152K f152P 152 Try.f152 f152B ⟨[.v false [(.sl 207 ts_LNode)] [false]], [⟨false, [(.sl 181 ts_Node)], [true]⟩]⟩ [(.sl 207 ts_LNode)] [(.sl 181 ts_Node)] x = F_laws_toNodeS x := by kernel_rfl
theorem ok152 : ContractAt C Try.prog 152 F_laws_toNodeS := fn_sound (lp := f152P) tok mixed k152 (fn := Try.f152) (c := f152B) (sg := ⟨[.v false [(.sl 207 ts_LNode)] [false]], [⟨false, [(.sl 181 ts_Node)], [true]⟩]⟩) Try.func152 (by decide) (by kernel_rfl) (by kernel_rfl) (by kernel_rfl) (fun c' hc' => by
    rw [show loopsOf f152B = [f152c3] by kernel_rfl] at hc'
    simp only [List.mem_cons, List.mem_nil_iff, or_false] at hc'
    rcases hc' with rfl
    · exact f152ok3) (by decide) (by decide) (fun x y h => (ev152 x).trans h)

/-! ### 116: laws.toTree -/
noncomputable def F_laws_toTree (x : List E_i64 × List E_LNode) : Option (List E_i64 × List E_Node) :=
  Option.bind (F_laws_toIntS x.1) fun r1 => Option.bind (F_laws_toNodeS x.2) fun r2 => some (r1, r2)
noncomputable def f116B : Code := match Try.f116.body with
  | some c => c
  | none => .skip
noncomputable def f116K : C.Sem := tab [⟨151, F_laws_toIntS⟩, ⟨152, F_laws_toNodeS⟩]
noncomputable def f116P : Lp := fun i s {_R} κ => none
theorem k116 : Contract C Try.prog f116K := contract_tab _ (fun p hp => by
    simp only [List.mem_cons, List.mem_nil_iff, or_false] at hp
    rcases hp with rfl | rfl
    · exact ok151
    · exact ok152)
theorem ev116 (x : List E_i64 × List E_LNode) : evalB C f116K f116P 116 Try.f116 f116B ⟨[.v true [(.sl 3 ts_i64), (.sl 207 ts_LNode)] [false, false]], [⟨true, [(.sl 3 ts_i64), (.sl 181 ts_Node)], [true, true]⟩]⟩ [(.sl 3 ts_i64), (.sl 207 ts_LNode)] [(.sl 3 ts_i64), (.sl 181 ts_Node)] x = F_laws_toTree x := by kernel_rfl
theorem ok116 : ContractAt C Try.prog 116 F_laws_toTree := fn_sound (lp := f116P) tok mixed k116 (fn := Try.f116) (c := f116B) (sg := ⟨[.v true [(.sl 3 ts_i64), (.sl 207 ts_LNode)] [false, false]], [⟨true, [(.sl 3 ts_i64), (.sl 181 ts_Node)], [true, true]⟩]⟩) Try.func116 (by decide) (by kernel_rfl) (by kernel_rfl) (by kernel_rfl) (fun c' hc' => by
    rw [show loopsOf f116B = [] by kernel_rfl] at hc'
    cases hc') (by decide) (by decide) (fun x y h => (ev116 x).trans h)

/-! ### 153: laws.toAge -/
noncomputable def F_laws_toAge (x : Int × Int) : Option (Int × Int) :=
  some (x.1, x.2)
noncomputable def f153B : Code := match Try.f153.body with
  | some c => c
  | none => .skip
noncomputable def f153K : C.Sem := tab []
noncomputable def f153P : Lp := fun i s {_R} κ => none
theorem k153 : Contract C Try.prog f153K := contract_tab _ (fun p hp => by cases hp)
theorem ev153 (x : Int × Int) : evalB C f153K f153P 153 Try.f153 f153B ⟨[.v true [(.int .i64), (.int .i64)] [false, false]], [⟨true, [(.int .i64), (.int .i64)], [false, false]⟩]⟩ [(.int .i64), (.int .i64)] [(.int .i64), (.int .i64)] x = F_laws_toAge x := by kernel_rfl
theorem ok153 : ContractAt C Try.prog 153 F_laws_toAge := fn_sound (lp := f153P) tok mixed k153 (fn := Try.f153) (c := f153B) (sg := ⟨[.v true [(.int .i64), (.int .i64)] [false, false]], [⟨true, [(.int .i64), (.int .i64)], [false, false]⟩]⟩) Try.func153 (by decide) (by kernel_rfl) (by kernel_rfl) (by kernel_rfl) (fun c' hc' => by
    rw [show loopsOf f153B = [] by kernel_rfl] at hc'
    cases hc') (by decide) (by decide) (fun x y h => (ev153 x).trans h)

/-! ### 117: laws.toAgeS -/
abbrev T_laws_toAgeS_3 : Type := List E_LAge × Int × List E_Age
noncomputable def S_laws_toAgeS_3 {R : Type} (k0 : List E_Age → Option R) (again : T_laws_toAgeS_3 → Option R) (t3 : T_laws_toAgeS_3) : Option R :=
  bif (decide (t3.2.1 < ((List.length t3.1 : Nat) : Int))) then if (0 : Int) ≤ t3.2.1 then if t3.2.1 < ((List.length t3.1 : Nat) : Int) then Option.bind (F_laws_toAge ((rd_LAge t3.1 t3.2.1).1, (rd_LAge t3.1 t3.2.1).2)) fun r1 => if (0 : Int) ≤ t3.2.1 then if t3.2.1 < ((List.length t3.2.2 : Nat) : Int) then again (t3.1, (Go.IntKind.wrap .i64 (t3.2.1 + (1 : Int))), (List.set t3.2.2 (Int.toNat t3.2.1) (r1.1, r1.2))) else none else none else none else none else k0 t3.2.2
noncomputable def L_laws_toAgeS_3 {R : Type} (k0 : List E_Age → Option R) (t : T_laws_toAgeS_3) : Option R := iter (S_laws_toAgeS_3 k0) FUEL t
noncomputable def F_laws_toAgeS (x : List E_LAge) : Option (List E_Age) :=
  if (0 : Int) ≤ ((List.length x : Nat) : Int) then if ((List.length x : Nat) : Int) ≤ ((List.length x : Nat) : Int) then if ((List.length x : Nat) : Int) * ((16 : Nat) : Int) ≤ 140737488351232 then L_laws_toAgeS_3 (fun x2 => some x2) (x, (0 : Int), (List.replicate (Int.toNat ((List.length x : Nat) : Int)) z_Age)) else none else none else none
noncomputable def f117B : Code := match Try.f117.body with
  | some c => c
  | none => .skip
noncomputable def f117K : C.Sem := tab [⟨153, F_laws_toAge⟩]
def f117h3_0 : List Sh := [.v (.sl 187 ts_LAge), .dead, .dead, .own 10000000, .v (.int .i64), .dead, .dead, .dead, .dead, .dead, .dead, .dead, .dead, .dead, .dead, .dead, .dead, .dead, .dead, .dead, .dead, .dead, .dead]
def f117o3_0 : List (Nat × OSh) := [(10000000, .root true 185 ts_Age)]
def f117e3_0 (t : List E_LAge × Int × List E_Age) : St := mkS f117h3_0 f117o3_0 ((t.1, (), (), (), t.2.1, (), (), (), (), (), (), (), (), (), (), (), (), (), (), (), (), (), (), ()), (t.2.2, ()))
def f117g3_0 : List Sh := [.dead, .dead, .dead, .own 10000000, .dead, .dead, .dead, .dead, .dead, .dead, .dead, .dead, .dead, .dead, .dead, .dead, .dead, .dead, .dead, .dead, .dead, .dead, .dead]
def f117p3_0 : List (Nat × OSh) := [(10000000, .root true 185 ts_Age)]
def f117x3_0 (t : List E_Age) : St := mkS f117g3_0 f117p3_0 (((), (), (), (), (), (), (), (), (), (), (), (), (), (), (), (), (), (), (), (), (), (), (), ()), (t, ()))
def f117u3_0 (s : St) : Option (List E_LAge × Int × List E_Age) := (unS f117h3_0 f117o3_0 s).map fun v => (v.1.1, v.1.2.2.2.2.1, v.2.1)
theorem f117un3_0 : ∀ (s : St) (t : List E_LAge × Int × List E_Age), f117u3_0 s = some t → f117e3_0 t = s := fun s v h => by
  obtain ⟨u, hu, rfl⟩ := Option.map_eq_some_iff.1 h
  exact mkS_un f117h3_0 f117o3_0 s u hu
def f117u3 : St → Option (List E_LAge × Int × List E_Age) := f117u3_0
def f117e3 : (List E_LAge × Int × List E_Age) → St := f117e3_0
theorem f117un3 : ∀ (s : St) (t : List E_LAge × Int × List E_Age), f117u3 s = some t → f117e3 t = s := f117un3_0
noncomputable def f117P : Lp := fun i s {_R} κ => bif Nat.beq i 3 then (f117u3 s).bind fun t => L_laws_toAgeS_3 (fun t => κ (some 0) (f117x3_0 t)) t else none
noncomputable def f117c3 : Code := (loopsOf f117B).getD 0 .skip
theorem f117A3 : C.live 117 (firstRegion f117c3) = some ([0, 3, 4], [3]) := by kernel_rfl
theorem f117B3 {R : Type} (κ : Option Nat → St → Option R) (s : St) : f117P (firstRegion f117c3) s κ = (f117u3 s).bind fun t => iter (S_laws_toAgeS_3 (fun t => κ (some 0) (f117x3_0 t))) FUEL t := by kernel_rfl
theorem f117C3 {R : Type} (κ : Option Nat → St → Option R) (again : St → Option R) (t : T_laws_toAgeS_3) : stepL C f117K f117P 117 f117c3 [0, 3, 4] [3] κ again (f117e3 t) = S_laws_toAgeS_3 (fun t => κ (some 0) (f117x3_0 t)) (fun t => again (f117e3 t)) t := by kernel_rfl
theorem f117ok3 : LoopOk C f117K f117P 117 f117c3 := loop_ok f117A3 f117e3 f117u3 f117un3 (fun {_R} κ => S_laws_toAgeS_3 (fun t => κ (some 0) (f117x3_0 t))) (fun {_R} κ s => f117B3 κ s) (fun {_R} κ again t => f117C3 κ again t)
theorem k117 : Contract C Try.prog f117K := contract_tab _ (fun p hp => by
    simp only [List.mem_cons, List.mem_nil_iff, or_false] at hp
    rcases hp with rfl
    · exact ok153)
theorem ev117 (x : List E_LAge) : evalB C f117K f117P 117 Try.f117 f117B ⟨[.v false [(.sl 187 ts_LAge)] [false]], [⟨false, [(.sl 185 ts_Age)], [true]⟩]⟩ [(.sl 187 ts_LAge)] [(.sl 185 ts_Age)] x = F_laws_toAgeS x := by kernel_rfl
theorem ok117 : ContractAt C Try.prog 117 F_laws_toAgeS := fn_sound (lp := f117P) tok mixed k117 (fn := Try.f117) (c := f117B) (sg := ⟨[.v false [(.sl 187 ts_LAge)] [false]], [⟨false, [(.sl 185 ts_Age)], [true]⟩]⟩) Try.func117 (by decide) (by kernel_rfl) (by kernel_rfl) (by kernel_rfl) (fun c' hc' => by
    rw [show loopsOf f117B = [f117c3] by kernel_rfl] at hc'
    simp only [List.mem_cons, List.mem_nil_iff, or_false] at hc'
    rcases hc' with rfl
    · exact f117ok3) (by decide) (by decide) (fun x y h => (ev117 x).trans h)

/-! ### 154: laws.toCell -/
noncomputable def F_laws_toCell (x : Int × Bool × Int) : Option (Int × Bool × Int) :=
  some (x.1, x.2.1, x.2.2)
noncomputable def f154B : Code := match Try.f154.body with
  | some c => c
  | none => .skip
noncomputable def f154K : C.Sem := tab []
noncomputable def f154P : Lp := fun i s {_R} κ => none
theorem k154 : Contract C Try.prog f154K := contract_tab _ (fun p hp => by cases hp)
theorem ev154 (x : Int × Bool × Int) : evalB C f154K f154P 154 Try.f154 f154B ⟨[.v true [(.int .i64), .bool, (.int .i64)] [false, false, false]], [⟨true, [(.int .i64), .bool, (.int .i64)], [false, false, false]⟩]⟩ [(.int .i64), .bool, (.int .i64)] [(.int .i64), .bool, (.int .i64)] x = F_laws_toCell x := by kernel_rfl
theorem ok154 : ContractAt C Try.prog 154 F_laws_toCell := fn_sound (lp := f154P) tok mixed k154 (fn := Try.f154) (c := f154B) (sg := ⟨[.v true [(.int .i64), .bool, (.int .i64)] [false, false, false]], [⟨true, [(.int .i64), .bool, (.int .i64)], [false, false, false]⟩]⟩) Try.func154 (by decide) (by kernel_rfl) (by kernel_rfl) (by kernel_rfl) (fun c' hc' => by
    rw [show loopsOf f154B = [] by kernel_rfl] at hc'
    cases hc') (by decide) (by decide) (fun x y h => (ev154 x).trans h)

/-! ### 118: laws.toCellS -/
abbrev T_laws_toCellS_3 : Type := List E_LCell × Int × List E_Cell
noncomputable def S_laws_toCellS_3 {R : Type} (k0 : List E_Cell → Option R) (again : T_laws_toCellS_3 → Option R) (t3 : T_laws_toCellS_3) : Option R :=
  bif (decide (t3.2.1 < ((List.length t3.1 : Nat) : Int))) then if (0 : Int) ≤ t3.2.1 then if t3.2.1 < ((List.length t3.1 : Nat) : Int) then Option.bind (F_laws_toCell ((rd_LCell t3.1 t3.2.1).1, (rd_LCell t3.1 t3.2.1).2.1, (rd_LCell t3.1 t3.2.1).2.2)) fun r1 => if (0 : Int) ≤ t3.2.1 then if t3.2.1 < ((List.length t3.2.2 : Nat) : Int) then again (t3.1, (Go.IntKind.wrap .i64 (t3.2.1 + (1 : Int))), (List.set t3.2.2 (Int.toNat t3.2.1) (r1.1, r1.2.1, r1.2.2))) else none else none else none else none else k0 t3.2.2
noncomputable def L_laws_toCellS_3 {R : Type} (k0 : List E_Cell → Option R) (t : T_laws_toCellS_3) : Option R := iter (S_laws_toCellS_3 k0) FUEL t
noncomputable def F_laws_toCellS (x : List E_LCell) : Option (List E_Cell) :=
  if (0 : Int) ≤ ((List.length x : Nat) : Int) then if ((List.length x : Nat) : Int) ≤ ((List.length x : Nat) : Int) then if ((List.length x : Nat) : Int) * ((24 : Nat) : Int) ≤ 140737488351232 then L_laws_toCellS_3 (fun x2 => some x2) (x, (0 : Int), (List.replicate (Int.toNat ((List.length x : Nat) : Int)) z_Cell)) else none else none else none
noncomputable def f118B : Code := match Try.f118.body with
  | some c => c
  | none => .skip
noncomputable def f118K : C.Sem := tab [⟨154, F_laws_toCell⟩]
def f118h3_0 : List Sh := [.v (.sl 191 ts_LCell), .dead, .dead, .own 10000000, .v (.int .i64), .dead, .dead, .dead, .dead, .dead, .dead, .dead, .dead, .dead, .dead, .dead, .dead, .dead, .dead, .dead, .dead, .dead, .dead]
def f118o3_0 : List (Nat × OSh) := [(10000000, .root true 189 ts_Cell)]
def f118e3_0 (t : List E_LCell × Int × List E_Cell) : St := mkS f118h3_0 f118o3_0 ((t.1, (), (), (), t.2.1, (), (), (), (), (), (), (), (), (), (), (), (), (), (), (), (), (), (), ()), (t.2.2, ()))
def f118g3_0 : List Sh := [.dead, .dead, .dead, .own 10000000, .dead, .dead, .dead, .dead, .dead, .dead, .dead, .dead, .dead, .dead, .dead, .dead, .dead, .dead, .dead, .dead, .dead, .dead, .dead]
def f118p3_0 : List (Nat × OSh) := [(10000000, .root true 189 ts_Cell)]
def f118x3_0 (t : List E_Cell) : St := mkS f118g3_0 f118p3_0 (((), (), (), (), (), (), (), (), (), (), (), (), (), (), (), (), (), (), (), (), (), (), (), ()), (t, ()))
def f118u3_0 (s : St) : Option (List E_LCell × Int × List E_Cell) := (unS f118h3_0 f118o3_0 s).map fun v => (v.1.1, v.1.2.2.2.2.1, v.2.1)
theorem f118un3_0 : ∀ (s : St) (t : List E_LCell × Int × List E_Cell), f118u3_0 s = some t → f118e3_0 t = s := fun s v h => by
  obtain ⟨u, hu, rfl⟩ := Option.map_eq_some_iff.1 h
  exact mkS_un f118h3_0 f118o3_0 s u hu
def f118u3 : St → Option (List E_LCell × Int × List E_Cell) := f118u3_0
def f118e3 : (List E_LCell × Int × List E_Cell) → St := f118e3_0
theorem f118un3 : ∀ (s : St) (t : List E_LCell × Int × List E_Cell), f118u3 s = some t → f118e3 t = s := f118un3_0
noncomputable def f118P : Lp := fun i s {_R} κ => bif Nat.beq i 3 then (f118u3 s).bind fun t => L_laws_toCellS_3 (fun t => κ (some 0) (f118x3_0 t)) t else none
noncomputable def f118c3 : Code := (loopsOf f118B).getD 0 .skip
theorem f118A3 : C.live 118 (firstRegion f118c3) = some ([0, 3, 4], [3]) := by kernel_rfl
theorem f118B3 {R : Type} (κ : Option Nat → St → Option R) (s : St) : f118P (firstRegion f118c3) s κ = (f118u3 s).bind fun t => iter (S_laws_toCellS_3 (fun t => κ (some 0) (f118x3_0 t))) FUEL t := by kernel_rfl
theorem f118C3 {R : Type} (κ : Option Nat → St → Option R) (again : St → Option R) (t : T_laws_toCellS_3) : stepL C f118K f118P 118 f118c3 [0, 3, 4] [3] κ again (f118e3 t) = S_laws_toCellS_3 (fun t => κ (some 0) (f118x3_0 t)) (fun t => again (f118e3 t)) t := by kernel_rfl
theorem f118ok3 : LoopOk C f118K f118P 118 f118c3 := loop_ok f118A3 f118e3 f118u3 f118un3 (fun {_R} κ => S_laws_toCellS_3 (fun t => κ (some 0) (f118x3_0 t))) (fun {_R} κ s => f118B3 κ s) (fun {_R} κ again t => f118C3 κ again t)
theorem k118 : Contract C Try.prog f118K := contract_tab _ (fun p hp => by
    simp only [List.mem_cons, List.mem_nil_iff, or_false] at hp
    rcases hp with rfl
    · exact ok154)
theorem ev118 (x : List E_LCell) : evalB C f118K f118P 118 Try.f118 f118B ⟨[.v false [(.sl 191 ts_LCell)] [false]], [⟨false, [(.sl 189 ts_Cell)], [true]⟩]⟩ [(.sl 191 ts_LCell)] [(.sl 189 ts_Cell)] x = F_laws_toCellS x := by kernel_rfl
theorem ok118 : ContractAt C Try.prog 118 F_laws_toCellS := fn_sound (lp := f118P) tok mixed k118 (fn := Try.f118) (c := f118B) (sg := ⟨[.v false [(.sl 191 ts_LCell)] [false]], [⟨false, [(.sl 189 ts_Cell)], [true]⟩]⟩) Try.func118 (by decide) (by kernel_rfl) (by kernel_rfl) (by kernel_rfl) (fun c' hc' => by
    rw [show loopsOf f118B = [f118c3] by kernel_rfl] at hc'
    simp only [List.mem_cons, List.mem_nil_iff, or_false] at hc'
    rcases hc' with rfl
    · exact f118ok3) (by decide) (by decide) (fun x y h => (ev118 x).trans h)

/-! ### 155: laws.toVol -/
noncomputable def F_laws_toVol (x : ByteArray × Int × Int × Bool) : Option (ByteArray × Int × Int × Bool) :=
  some (x.1, x.2.1, x.2.2.1, x.2.2.2)
noncomputable def f155B : Code := match Try.f155.body with
  | some c => c
  | none => .skip
noncomputable def f155K : C.Sem := tab []
noncomputable def f155P : Lp := fun i s {_R} κ => none
theorem k155 : Contract C Try.prog f155K := contract_tab _ (fun p hp => by cases hp)
theorem ev155 (x : ByteArray × Int × Int × Bool) : evalB C f155K f155P 155 Try.f155 f155B ⟨[.v true [.str, (.int .i64), (.int .i64), .bool] [false, false, false, false]], [⟨true, [.str, (.int .i64), (.int .i64), .bool], [false, false, false, false]⟩]⟩ [.str, (.int .i64), (.int .i64), .bool] [.str, (.int .i64), (.int .i64), .bool] x = F_laws_toVol x := by kernel_rfl
theorem ok155 : ContractAt C Try.prog 155 F_laws_toVol := fn_sound (lp := f155P) tok mixed k155 (fn := Try.f155) (c := f155B) (sg := ⟨[.v true [.str, (.int .i64), (.int .i64), .bool] [false, false, false, false]], [⟨true, [.str, (.int .i64), (.int .i64), .bool], [false, false, false, false]⟩]⟩) Try.func155 (by decide) (by kernel_rfl) (by kernel_rfl) (by kernel_rfl) (fun c' hc' => by
    rw [show loopsOf f155B = [] by kernel_rfl] at hc'
    cases hc') (by decide) (by decide) (fun x y h => (ev155 x).trans h)

/-! ### 119: laws.toVolS -/
abbrev T_laws_toVolS_3 : Type := List E_LVol × Int × List E_Vol
noncomputable def S_laws_toVolS_3 {R : Type} (k0 : List E_Vol → Option R) (again : T_laws_toVolS_3 → Option R) (t3 : T_laws_toVolS_3) : Option R :=
  bif (decide (t3.2.1 < ((List.length t3.1 : Nat) : Int))) then if (0 : Int) ≤ t3.2.1 then if t3.2.1 < ((List.length t3.1 : Nat) : Int) then Option.bind (F_laws_toVol ((rd_LVol t3.1 t3.2.1).1, (rd_LVol t3.1 t3.2.1).2.1, (rd_LVol t3.1 t3.2.1).2.2.1, (rd_LVol t3.1 t3.2.1).2.2.2)) fun r1 => if (0 : Int) ≤ t3.2.1 then if t3.2.1 < ((List.length t3.2.2 : Nat) : Int) then again (t3.1, (Go.IntKind.wrap .i64 (t3.2.1 + (1 : Int))), (List.set t3.2.2 (Int.toNat t3.2.1) (r1.1, r1.2.1, r1.2.2.1, r1.2.2.2))) else none else none else none else none else k0 t3.2.2
noncomputable def L_laws_toVolS_3 {R : Type} (k0 : List E_Vol → Option R) (t : T_laws_toVolS_3) : Option R := iter (S_laws_toVolS_3 k0) FUEL t
noncomputable def F_laws_toVolS (x : List E_LVol) : Option (List E_Vol) :=
  if (0 : Int) ≤ ((List.length x : Nat) : Int) then if ((List.length x : Nat) : Int) ≤ ((List.length x : Nat) : Int) then if ((List.length x : Nat) : Int) * ((40 : Nat) : Int) ≤ 140737488351232 then L_laws_toVolS_3 (fun x2 => some x2) (x, (0 : Int), (List.replicate (Int.toNat ((List.length x : Nat) : Int)) z_Vol)) else none else none else none
noncomputable def f119B : Code := match Try.f119.body with
  | some c => c
  | none => .skip
noncomputable def f119K : C.Sem := tab [⟨155, F_laws_toVol⟩]
def f119h3_0 : List Sh := [.v (.sl 177 ts_LVol), .dead, .dead, .own 10000000, .v (.int .i64), .dead, .dead, .dead, .dead, .dead, .dead, .dead, .dead, .dead, .dead, .dead, .dead, .dead, .dead, .dead, .dead, .dead, .dead]
def f119o3_0 : List (Nat × OSh) := [(10000000, .root true 192 ts_Vol)]
def f119e3_0 (t : List E_LVol × Int × List E_Vol) : St := mkS f119h3_0 f119o3_0 ((t.1, (), (), (), t.2.1, (), (), (), (), (), (), (), (), (), (), (), (), (), (), (), (), (), (), ()), (t.2.2, ()))
def f119g3_0 : List Sh := [.dead, .dead, .dead, .own 10000000, .dead, .dead, .dead, .dead, .dead, .dead, .dead, .dead, .dead, .dead, .dead, .dead, .dead, .dead, .dead, .dead, .dead, .dead, .dead]
def f119p3_0 : List (Nat × OSh) := [(10000000, .root true 192 ts_Vol)]
def f119x3_0 (t : List E_Vol) : St := mkS f119g3_0 f119p3_0 (((), (), (), (), (), (), (), (), (), (), (), (), (), (), (), (), (), (), (), (), (), (), (), ()), (t, ()))
def f119u3_0 (s : St) : Option (List E_LVol × Int × List E_Vol) := (unS f119h3_0 f119o3_0 s).map fun v => (v.1.1, v.1.2.2.2.2.1, v.2.1)
theorem f119un3_0 : ∀ (s : St) (t : List E_LVol × Int × List E_Vol), f119u3_0 s = some t → f119e3_0 t = s := fun s v h => by
  obtain ⟨u, hu, rfl⟩ := Option.map_eq_some_iff.1 h
  exact mkS_un f119h3_0 f119o3_0 s u hu
def f119u3 : St → Option (List E_LVol × Int × List E_Vol) := f119u3_0
def f119e3 : (List E_LVol × Int × List E_Vol) → St := f119e3_0
theorem f119un3 : ∀ (s : St) (t : List E_LVol × Int × List E_Vol), f119u3 s = some t → f119e3 t = s := f119un3_0
noncomputable def f119P : Lp := fun i s {_R} κ => bif Nat.beq i 3 then (f119u3 s).bind fun t => L_laws_toVolS_3 (fun t => κ (some 0) (f119x3_0 t)) t else none
noncomputable def f119c3 : Code := (loopsOf f119B).getD 0 .skip
theorem f119A3 : C.live 119 (firstRegion f119c3) = some ([0, 3, 4], [3]) := by kernel_rfl
theorem f119B3 {R : Type} (κ : Option Nat → St → Option R) (s : St) : f119P (firstRegion f119c3) s κ = (f119u3 s).bind fun t => iter (S_laws_toVolS_3 (fun t => κ (some 0) (f119x3_0 t))) FUEL t := by kernel_rfl
theorem f119C3 {R : Type} (κ : Option Nat → St → Option R) (again : St → Option R) (t : T_laws_toVolS_3) : stepL C f119K f119P 119 f119c3 [0, 3, 4] [3] κ again (f119e3 t) = S_laws_toVolS_3 (fun t => κ (some 0) (f119x3_0 t)) (fun t => again (f119e3 t)) t := by kernel_rfl
theorem f119ok3 : LoopOk C f119K f119P 119 f119c3 := loop_ok f119A3 f119e3 f119u3 f119un3 (fun {_R} κ => S_laws_toVolS_3 (fun t => κ (some 0) (f119x3_0 t))) (fun {_R} κ s => f119B3 κ s) (fun {_R} κ again t => f119C3 κ again t)
theorem k119 : Contract C Try.prog f119K := contract_tab _ (fun p hp => by
    simp only [List.mem_cons, List.mem_nil_iff, or_false] at hp
    rcases hp with rfl
    · exact ok155)
theorem ev119 (x : List E_LVol) : evalB C f119K f119P 119 Try.f119 f119B ⟨[.v false [(.sl 177 ts_LVol)] [false]], [⟨false, [(.sl 192 ts_Vol)], [true]⟩]⟩ [(.sl 177 ts_LVol)] [(.sl 192 ts_Vol)] x = F_laws_toVolS x := by kernel_rfl
theorem ok119 : ContractAt C Try.prog 119 F_laws_toVolS := fn_sound (lp := f119P) tok mixed k119 (fn := Try.f119) (c := f119B) (sg := ⟨[.v false [(.sl 177 ts_LVol)] [false]], [⟨false, [(.sl 192 ts_Vol)], [true]⟩]⟩) Try.func119 (by decide) (by kernel_rfl) (by kernel_rfl) (by kernel_rfl) (fun c' hc' => by
    rw [show loopsOf f119B = [f119c3] by kernel_rfl] at hc'
    simp only [List.mem_cons, List.mem_nil_iff, or_false] at hc'
    rcases hc' with rfl
    · exact f119ok3) (by decide) (by decide) (fun x y h => (ev119 x).trans h)

/-! ### 53: laws.toPool -/
noncomputable def F_laws_toPool (x : List E_i64 × List E_LNode × List E_LAge × List E_LCell × List E_LVol × Int) : Option (List E_i64 × List E_Node × List E_Age × List E_Cell × List E_Vol × Int) :=
  Option.bind (F_laws_toTree (x.1, x.2.1)) fun r1 => Option.bind (F_laws_toAgeS x.2.2.1) fun r2 => Option.bind (F_laws_toCellS x.2.2.2.1) fun r3 => Option.bind (F_laws_toVolS x.2.2.2.2.1) fun r4 => some (r1.1, r1.2, r2, r3, r4, x.2.2.2.2.2)
noncomputable def f53B : Code := match Try.f53.body with
  | some c => c
  | none => .skip
noncomputable def f53K : C.Sem := tab [⟨116, F_laws_toTree⟩, ⟨117, F_laws_toAgeS⟩, ⟨118, F_laws_toCellS⟩, ⟨119, F_laws_toVolS⟩]
noncomputable def f53P : Lp := fun i s {_R} κ => none
theorem k53 : Contract C Try.prog f53K := contract_tab _ (fun p hp => by
    simp only [List.mem_cons, List.mem_nil_iff, or_false] at hp
    rcases hp with rfl | rfl | rfl | rfl
    · exact ok116
    · exact ok117
    · exact ok118
    · exact ok119)
theorem ev53 (x : List E_i64 × List E_LNode × List E_LAge × List E_LCell × List E_LVol × Int) : evalB C f53K f53P 53 Try.f53 f53B ⟨[.v true [(.sl 3 ts_i64), (.sl 207 ts_LNode), (.sl 187 ts_LAge), (.sl 191 ts_LCell), (.sl 177 ts_LVol), (.int .i64)] [false, false, false, false, false, false]], [⟨true, [(.sl 3 ts_i64), (.sl 181 ts_Node), (.sl 185 ts_Age), (.sl 189 ts_Cell), (.sl 192 ts_Vol), (.int .i64)], [true, true, true, true, true, false]⟩]⟩ [(.sl 3 ts_i64), (.sl 207 ts_LNode), (.sl 187 ts_LAge), (.sl 191 ts_LCell), (.sl 177 ts_LVol), (.int .i64)] [(.sl 3 ts_i64), (.sl 181 ts_Node), (.sl 185 ts_Age), (.sl 189 ts_Cell), (.sl 192 ts_Vol), (.int .i64)] x = F_laws_toPool x := by kernel_rfl
theorem ok53 : ContractAt C Try.prog 53 F_laws_toPool := fn_sound (lp := f53P) tok mixed k53 (fn := Try.f53) (c := f53B) (sg := ⟨[.v true [(.sl 3 ts_i64), (.sl 207 ts_LNode), (.sl 187 ts_LAge), (.sl 191 ts_LCell), (.sl 177 ts_LVol), (.int .i64)] [false, false, false, false, false, false]], [⟨true, [(.sl 3 ts_i64), (.sl 181 ts_Node), (.sl 185 ts_Age), (.sl 189 ts_Cell), (.sl 192 ts_Vol), (.int .i64)], [true, true, true, true, true, false]⟩]⟩) Try.func53 (by decide) (by kernel_rfl) (by kernel_rfl) (by kernel_rfl) (fun c' hc' => by
    rw [show loopsOf f53B = [] by kernel_rfl] at hc'
    cases hc') (by decide) (by decide) (fun x y h => (ev53 x).trans h)

/-! ### 182: impl.copyKeys -/
noncomputable def F_impl_copyKeys (x : List E_Key) : Option (List E_Key) :=
  if (List.length ([] : List E_Key) + List.length x) * 40 < 140737488355328 then some (([] : List E_Key) ++ x) else none
noncomputable def f182B : Code := match Try.f182.body with
  | some c => c
  | none => .skip
noncomputable def f182K : C.Sem := tab []
noncomputable def f182P : Lp := fun i s {_R} κ => none
theorem k182 : Contract C Try.prog f182K := contract_tab _ (fun p hp => by cases hp)
theorem ev182 (x : List E_Key) : evalB C f182K f182P 182 Try.f182 f182B ⟨[.v false [(.sl 216 ts_Key)] [false]], [⟨false, [(.sl 216 ts_Key)], [true]⟩]⟩ [(.sl 216 ts_Key)] [(.sl 216 ts_Key)] x = F_impl_copyKeys x := by kernel_rfl
theorem ok182 : ContractAt C Try.prog 182 F_impl_copyKeys := fn_sound (lp := f182P) tok mixed k182 (fn := Try.f182) (c := f182B) (sg := ⟨[.v false [(.sl 216 ts_Key)] [false]], [⟨false, [(.sl 216 ts_Key)], [true]⟩]⟩) Try.func182 (by decide) (by kernel_rfl) (by kernel_rfl) (by kernel_rfl) (fun c' hc' => by
    rw [show loopsOf f182B = [] by kernel_rfl] at hc'
    cases hc') (by decide) (by decide) (fun x y h => (ev182 x).trans h)

/-! ### 189: impl.LessKey -/
noncomputable def F_impl_LessKey (x : Int × Int × Int × Int × Int × Int × Int × Int × Int × Int) : Option (Bool) :=
  Option.bind (bif (decide (x.1 < x.2.2.2.2.2.1)) then some true else Option.bind (bif (x.1 == x.2.2.2.2.2.1) then some (decide (x.2.1 < x.2.2.2.2.2.2.1)) else some false) fun u2 => some u2) fun u1 => some u1
noncomputable def f189B : Code := match Try.f189.body with
  | some c => c
  | none => .skip
noncomputable def f189K : C.Sem := tab []
noncomputable def f189P : Lp := fun i s {_R} κ => none
theorem k189 : Contract C Try.prog f189K := contract_tab _ (fun p hp => by cases hp)
theorem ev189 (x : Int × Int × Int × Int × Int × Int × Int × Int × Int × Int) : evalB C f189K f189P 189 Try.f189 f189B ⟨[.v true [(.int .i64), (.int .i64), (.int .i64), (.int .i64), (.int .i64)] [false, false, false, false, false], .v true [(.int .i64), (.int .i64), (.int .i64), (.int .i64), (.int .i64)] [false, false, false, false, false]], [⟨false, [.bool], [false]⟩]⟩ [(.int .i64), (.int .i64), (.int .i64), (.int .i64), (.int .i64), (.int .i64), (.int .i64), (.int .i64), (.int .i64), (.int .i64)] [.bool] x = F_impl_LessKey x := by kernel_rfl
theorem ok189 : ContractAt C Try.prog 189 F_impl_LessKey := fn_sound (lp := f189P) tok mixed k189 (fn := Try.f189) (c := f189B) (sg := ⟨[.v true [(.int .i64), (.int .i64), (.int .i64), (.int .i64), (.int .i64)] [false, false, false, false, false], .v true [(.int .i64), (.int .i64), (.int .i64), (.int .i64), (.int .i64)] [false, false, false, false, false]], [⟨false, [.bool], [false]⟩]⟩) Try.func189 (by decide) (by kernel_rfl) (by kernel_rfl) (by kernel_rfl) (fun c' hc' => by
    rw [show loopsOf f189B = [] by kernel_rfl] at hc'
    cases hc') (by decide) (by decide) (fun x y h => (ev189 x).trans h)

/-! ### 190: impl.SameSpot -/
noncomputable def F_impl_SameSpot (x : Int × Int × Int × Int × Int × Int × Int × Int × Int × Int) : Option (Bool) :=
  Option.bind (bif (x.1 == x.2.2.2.2.2.1) then some (x.2.1 == x.2.2.2.2.2.2.1) else some false) fun u1 => some u1
noncomputable def f190B : Code := match Try.f190.body with
  | some c => c
  | none => .skip
noncomputable def f190K : C.Sem := tab []
noncomputable def f190P : Lp := fun i s {_R} κ => none
theorem k190 : Contract C Try.prog f190K := contract_tab _ (fun p hp => by cases hp)
theorem ev190 (x : Int × Int × Int × Int × Int × Int × Int × Int × Int × Int) : evalB C f190K f190P 190 Try.f190 f190B ⟨[.v true [(.int .i64), (.int .i64), (.int .i64), (.int .i64), (.int .i64)] [false, false, false, false, false], .v true [(.int .i64), (.int .i64), (.int .i64), (.int .i64), (.int .i64)] [false, false, false, false, false]], [⟨false, [.bool], [false]⟩]⟩ [(.int .i64), (.int .i64), (.int .i64), (.int .i64), (.int .i64), (.int .i64), (.int .i64), (.int .i64), (.int .i64), (.int .i64)] [.bool] x = F_impl_SameSpot x := by kernel_rfl
theorem ok190 : ContractAt C Try.prog 190 F_impl_SameSpot := fn_sound (lp := f190P) tok mixed k190 (fn := Try.f190) (c := f190B) (sg := ⟨[.v true [(.int .i64), (.int .i64), (.int .i64), (.int .i64), (.int .i64)] [false, false, false, false, false], .v true [(.int .i64), (.int .i64), (.int .i64), (.int .i64), (.int .i64)] [false, false, false, false, false]], [⟨false, [.bool], [false]⟩]⟩) Try.func190 (by decide) (by kernel_rfl) (by kernel_rfl) (by kernel_rfl) (fun c' hc' => by
    rw [show loopsOf f190B = [] by kernel_rfl] at hc'
    cases hc') (by decide) (by decide) (fun x y h => (ev190 x).trans h)

/-! ### 183: impl.SetPut -/
abbrev T_impl_SetPut_4 : Type := Bool × List E_Key × Int × Int × Int × Int × Int × Int × Int × List E_Key
noncomputable def S_impl_SetPut_4 {R : Type} (k0 : (Bool × Int × Int × Int × Int × Int × List E_Key) → Option R) (again : T_impl_SetPut_4 → Option R) (t4 : T_impl_SetPut_4) : Option R :=
  bif (decide (t4.2.2.2.1 < t4.2.2.1)) then if (0 : Int) ≤ t4.2.2.2.1 then if t4.2.2.2.1 < ((List.length t4.2.1 : Nat) : Int) then Option.bind (bif (!t4.1) then Option.bind (F_impl_LessKey ((rd_Key t4.2.1 t4.2.2.2.1).1, (rd_Key t4.2.1 t4.2.2.2.1).2.1, (rd_Key t4.2.1 t4.2.2.2.1).2.2.1, (rd_Key t4.2.1 t4.2.2.2.1).2.2.2.1, (rd_Key t4.2.1 t4.2.2.2.1).2.2.2.2, t4.2.2.2.2.1, t4.2.2.2.2.2.1, t4.2.2.2.2.2.2.1, t4.2.2.2.2.2.2.2.1, t4.2.2.2.2.2.2.2.2.1)) fun r2 => some (!r2) else some false) fun u1 => bif u1 then if (List.length t4.2.2.2.2.2.2.2.2.2 + List.length ([(t4.2.2.2.2.1, t4.2.2.2.2.2.1, t4.2.2.2.2.2.2.1, t4.2.2.2.2.2.2.2.1, t4.2.2.2.2.2.2.2.2.1)] : List E_Key)) * 40 < 140737488355328 then Option.bind (F_impl_SameSpot ((rd_Key t4.2.1 t4.2.2.2.1).1, (rd_Key t4.2.1 t4.2.2.2.1).2.1, (rd_Key t4.2.1 t4.2.2.2.1).2.2.1, (rd_Key t4.2.1 t4.2.2.2.1).2.2.2.1, (rd_Key t4.2.1 t4.2.2.2.1).2.2.2.2, t4.2.2.2.2.1, t4.2.2.2.2.2.1, t4.2.2.2.2.2.2.1, t4.2.2.2.2.2.2.2.1, t4.2.2.2.2.2.2.2.2.1)) fun r3 => bif (!r3) then if (List.length (t4.2.2.2.2.2.2.2.2.2 ++ ([(t4.2.2.2.2.1, t4.2.2.2.2.2.1, t4.2.2.2.2.2.2.1, t4.2.2.2.2.2.2.2.1, t4.2.2.2.2.2.2.2.2.1)] : List E_Key)) + List.length ([((rd_Key t4.2.1 t4.2.2.2.1).1, (rd_Key t4.2.1 t4.2.2.2.1).2.1, (rd_Key t4.2.1 t4.2.2.2.1).2.2.1, (rd_Key t4.2.1 t4.2.2.2.1).2.2.2.1, (rd_Key t4.2.1 t4.2.2.2.1).2.2.2.2)] : List E_Key)) * 40 < 140737488355328 then again (true, t4.2.1, t4.2.2.1, (Go.IntKind.wrap .i64 (t4.2.2.2.1 + (1 : Int))), t4.2.2.2.2.1, t4.2.2.2.2.2.1, t4.2.2.2.2.2.2.1, t4.2.2.2.2.2.2.2.1, t4.2.2.2.2.2.2.2.2.1, ((t4.2.2.2.2.2.2.2.2.2 ++ ([(t4.2.2.2.2.1, t4.2.2.2.2.2.1, t4.2.2.2.2.2.2.1, t4.2.2.2.2.2.2.2.1, t4.2.2.2.2.2.2.2.2.1)] : List E_Key)) ++ ([((rd_Key t4.2.1 t4.2.2.2.1).1, (rd_Key t4.2.1 t4.2.2.2.1).2.1, (rd_Key t4.2.1 t4.2.2.2.1).2.2.1, (rd_Key t4.2.1 t4.2.2.2.1).2.2.2.1, (rd_Key t4.2.1 t4.2.2.2.1).2.2.2.2)] : List E_Key))) else none else again (true, t4.2.1, t4.2.2.1, (Go.IntKind.wrap .i64 (t4.2.2.2.1 + (1 : Int))), t4.2.2.2.2.1, t4.2.2.2.2.2.1, t4.2.2.2.2.2.2.1, t4.2.2.2.2.2.2.2.1, t4.2.2.2.2.2.2.2.2.1, (t4.2.2.2.2.2.2.2.2.2 ++ ([(t4.2.2.2.2.1, t4.2.2.2.2.2.1, t4.2.2.2.2.2.2.1, t4.2.2.2.2.2.2.2.1, t4.2.2.2.2.2.2.2.2.1)] : List E_Key))) else none else Option.bind (F_impl_SameSpot ((rd_Key t4.2.1 t4.2.2.2.1).1, (rd_Key t4.2.1 t4.2.2.2.1).2.1, (rd_Key t4.2.1 t4.2.2.2.1).2.2.1, (rd_Key t4.2.1 t4.2.2.2.1).2.2.2.1, (rd_Key t4.2.1 t4.2.2.2.1).2.2.2.2, t4.2.2.2.2.1, t4.2.2.2.2.2.1, t4.2.2.2.2.2.2.1, t4.2.2.2.2.2.2.2.1, t4.2.2.2.2.2.2.2.2.1)) fun r4 => bif (!r4) then if (List.length t4.2.2.2.2.2.2.2.2.2 + List.length ([((rd_Key t4.2.1 t4.2.2.2.1).1, (rd_Key t4.2.1 t4.2.2.2.1).2.1, (rd_Key t4.2.1 t4.2.2.2.1).2.2.1, (rd_Key t4.2.1 t4.2.2.2.1).2.2.2.1, (rd_Key t4.2.1 t4.2.2.2.1).2.2.2.2)] : List E_Key)) * 40 < 140737488355328 then again (t4.1, t4.2.1, t4.2.2.1, (Go.IntKind.wrap .i64 (t4.2.2.2.1 + (1 : Int))), t4.2.2.2.2.1, t4.2.2.2.2.2.1, t4.2.2.2.2.2.2.1, t4.2.2.2.2.2.2.2.1, t4.2.2.2.2.2.2.2.2.1, (t4.2.2.2.2.2.2.2.2.2 ++ ([((rd_Key t4.2.1 t4.2.2.2.1).1, (rd_Key t4.2.1 t4.2.2.2.1).2.1, (rd_Key t4.2.1 t4.2.2.2.1).2.2.1, (rd_Key t4.2.1 t4.2.2.2.1).2.2.2.1, (rd_Key t4.2.1 t4.2.2.2.1).2.2.2.2)] : List E_Key))) else none else again (t4.1, t4.2.1, t4.2.2.1, (Go.IntKind.wrap .i64 (t4.2.2.2.1 + (1 : Int))), t4.2.2.2.2.1, t4.2.2.2.2.2.1, t4.2.2.2.2.2.2.1, t4.2.2.2.2.2.2.2.1, t4.2.2.2.2.2.2.2.2.1, t4.2.2.2.2.2.2.2.2.2) else none else none else k0 (t4.1, t4.2.2.2.2.1, t4.2.2.2.2.2.1, t4.2.2.2.2.2.2.1, t4.2.2.2.2.2.2.2.1, t4.2.2.2.2.2.2.2.2.1, t4.2.2.2.2.2.2.2.2.2)
noncomputable def L_impl_SetPut_4 {R : Type} (k0 : (Bool × Int × Int × Int × Int × Int × List E_Key) → Option R) (t : T_impl_SetPut_4) : Option R := iter (S_impl_SetPut_4 k0) FUEL t
noncomputable def F_impl_SetPut (x : List E_Key × Int × Int × Int × Int × Int) : Option (List E_Key) :=
  L_impl_SetPut_4 (fun x5 => bif (!x5.1) then if (List.length x5.2.2.2.2.2.2 + List.length ([(x5.2.1, x5.2.2.1, x5.2.2.2.1, x5.2.2.2.2.1, x5.2.2.2.2.2.1)] : List E_Key)) * 40 < 140737488355328 then some (x5.2.2.2.2.2.2 ++ ([(x5.2.1, x5.2.2.1, x5.2.2.2.1, x5.2.2.2.2.1, x5.2.2.2.2.2.1)] : List E_Key)) else none else some x5.2.2.2.2.2.2) (false, x.1, ((List.length x.1 : Nat) : Int), (0 : Int), x.2.1, x.2.2.1, x.2.2.2.1, x.2.2.2.2.1, x.2.2.2.2.2, ([] : List E_Key))
noncomputable def f183B : Code := match Try.f183.body with
  | some c => c
  | none => .skip
noncomputable def f183K : C.Sem := tab [⟨189, F_impl_LessKey⟩, ⟨190, F_impl_SameSpot⟩]
def f183h4_0 : List Sh := [.dead, .dead, .dead, .box 3 0, .dead, .own 10000000, .v .bool, .dead, .dead, .dead, .v (.sl 216 ts_Key), .v (.int .i64), .v (.int .i64), .dead, .dead, .dead, .dead, .dead, .dead, .dead, .dead, .dead, .dead, .dead, .dead, .dead, .dead, .dead, .dead, .dead, .dead, .dead, .dead, .dead, .dead, .dead, .dead, .dead, .dead, .dead, .dead, .dead, .dead, .dead]
def f183o4_0 : List (Nat × OSh) := [(3, .box [.v (.int .i64), .v (.int .i64), .v (.int .i64), .v (.int .i64), .v (.int .i64)]), (10000000, .root true 216 ts_Key)]
def f183e4_0 (t : Bool × List E_Key × Int × Int × Int × Int × Int × Int × Int × List E_Key) : St := mkS f183h4_0 f183o4_0 (((), (), (), (), (), (), t.1, (), (), (), t.2.1, t.2.2.1, t.2.2.2.1, (), (), (), (), (), (), (), (), (), (), (), (), (), (), (), (), (), (), (), (), (), (), (), (), (), (), (), (), (), (), (), ()), ((t.2.2.2.2.1, t.2.2.2.2.2.1, t.2.2.2.2.2.2.1, t.2.2.2.2.2.2.2.1, t.2.2.2.2.2.2.2.2.1, ()), t.2.2.2.2.2.2.2.2.2, ()))
def f183g4_0 : List Sh := [.dead, .dead, .dead, .box 3 0, .dead, .own 10000000, .v .bool, .dead, .dead, .dead, .dead, .dead, .dead, .dead, .dead, .dead, .dead, .dead, .dead, .dead, .dead, .dead, .dead, .dead, .dead, .dead, .dead, .dead, .dead, .dead, .dead, .dead, .dead, .dead, .dead, .dead, .dead, .dead, .dead, .dead, .dead, .dead, .dead, .dead]
def f183p4_0 : List (Nat × OSh) := [(3, .box [.v (.int .i64), .v (.int .i64), .v (.int .i64), .v (.int .i64), .v (.int .i64)]), (10000000, .root true 216 ts_Key)]
def f183x4_0 (t : Bool × Int × Int × Int × Int × Int × List E_Key) : St := mkS f183g4_0 f183p4_0 (((), (), (), (), (), (), t.1, (), (), (), (), (), (), (), (), (), (), (), (), (), (), (), (), (), (), (), (), (), (), (), (), (), (), (), (), (), (), (), (), (), (), (), (), (), ()), ((t.2.1, t.2.2.1, t.2.2.2.1, t.2.2.2.2.1, t.2.2.2.2.2.1, ()), t.2.2.2.2.2.2, ()))
def f183u4_0 (s : St) : Option (Bool × List E_Key × Int × Int × Int × Int × Int × Int × Int × List E_Key) := (unS f183h4_0 f183o4_0 s).map fun v => (v.1.2.2.2.2.2.2.1, v.1.2.2.2.2.2.2.2.2.2.2.1, v.1.2.2.2.2.2.2.2.2.2.2.2.1, v.1.2.2.2.2.2.2.2.2.2.2.2.2.1, v.2.1.1, v.2.1.2.1, v.2.1.2.2.1, v.2.1.2.2.2.1, v.2.1.2.2.2.2.1, v.2.2.1)
theorem f183un4_0 : ∀ (s : St) (t : Bool × List E_Key × Int × Int × Int × Int × Int × Int × Int × List E_Key), f183u4_0 s = some t → f183e4_0 t = s := fun s v h => by
  obtain ⟨u, hu, rfl⟩ := Option.map_eq_some_iff.1 h
  exact mkS_un f183h4_0 f183o4_0 s u hu
def f183u4 : St → Option (Bool × List E_Key × Int × Int × Int × Int × Int × Int × Int × List E_Key) := f183u4_0
def f183e4 : (Bool × List E_Key × Int × Int × Int × Int × Int × Int × Int × List E_Key) → St := f183e4_0
theorem f183un4 : ∀ (s : St) (t : Bool × List E_Key × Int × Int × Int × Int × Int × Int × Int × List E_Key), f183u4 s = some t → f183e4 t = s := f183un4_0
noncomputable def f183P : Lp := fun i s {_R} κ => bif Nat.beq i 4 then (f183u4 s).bind fun t => L_impl_SetPut_4 (fun t => κ (some 0) (f183x4_0 t)) t else none
noncomputable def f183c4 : Code := (loopsOf f183B).getD 0 .skip
theorem f183A4 : C.live 183 (firstRegion f183c4) = some ([3, 5, 6, 10, 11, 12, 19, 20, 21, 22], [3, 5, 6]) := by kernel_rfl
theorem f183B4 {R : Type} (κ : Option Nat → St → Option R) (s : St) : f183P (firstRegion f183c4) s κ = (f183u4 s).bind fun t => iter (S_impl_SetPut_4 (fun t => κ (some 0) (f183x4_0 t))) FUEL t := by kernel_rfl
theorem f183C4 {R : Type} (κ : Option Nat → St → Option R) (again : St → Option R) (t : T_impl_SetPut_4) : stepL C f183K f183P 183 f183c4 [3, 5, 6, 10, 11, 12, 19, 20, 21, 22] [3, 5, 6] κ again (f183e4 t) = S_impl_SetPut_4 (fun t => κ (some 0) (f183x4_0 t)) (fun t => again (f183e4 t)) t := by kernel_rfl
theorem f183ok4 : LoopOk C f183K f183P 183 f183c4 := loop_ok f183A4 f183e4 f183u4 f183un4 (fun {_R} κ => S_impl_SetPut_4 (fun t => κ (some 0) (f183x4_0 t))) (fun {_R} κ s => f183B4 κ s) (fun {_R} κ again t => f183C4 κ again t)
theorem k183 : Contract C Try.prog f183K := contract_tab _ (fun p hp => by
    simp only [List.mem_cons, List.mem_nil_iff, or_false] at hp
    rcases hp with rfl | rfl
    · exact ok189
    · exact ok190)
theorem ev183 (x : List E_Key × Int × Int × Int × Int × Int) : evalB C f183K f183P 183 Try.f183 f183B ⟨[.v false [(.sl 216 ts_Key)] [false], .v true [(.int .i64), (.int .i64), (.int .i64), (.int .i64), (.int .i64)] [false, false, false, false, false]], [⟨false, [(.sl 216 ts_Key)], [true]⟩]⟩ [(.sl 216 ts_Key), (.int .i64), (.int .i64), (.int .i64), (.int .i64), (.int .i64)] [(.sl 216 ts_Key)] x = F_impl_SetPut x := by kernel_rfl
theorem ok183 : ContractAt C Try.prog 183 F_impl_SetPut := fn_sound (lp := f183P) tok mixed k183 (fn := Try.f183) (c := f183B) (sg := ⟨[.v false [(.sl 216 ts_Key)] [false], .v true [(.int .i64), (.int .i64), (.int .i64), (.int .i64), (.int .i64)] [false, false, false, false, false]], [⟨false, [(.sl 216 ts_Key)], [true]⟩]⟩) Try.func183 (by decide) (by kernel_rfl) (by kernel_rfl) (by kernel_rfl) (fun c' hc' => by
    rw [show loopsOf f183B = [f183c4] by kernel_rfl] at hc'
    simp only [List.mem_cons, List.mem_nil_iff, or_false] at hc'
    rcases hc' with rfl
    · exact f183ok4) (by decide) (by decide) (fun x y h => (ev183 x).trans h)

/-! ### 175: impl.MergeSets -/
abbrev T_impl_MergeSets_3 : Type := List E_Key × Int × Int × List E_Key
noncomputable def S_impl_MergeSets_3 {R : Type} (k0 : List E_Key → Option R) (again : T_impl_MergeSets_3 → Option R) (t3 : T_impl_MergeSets_3) : Option R :=
  bif (decide (t3.2.2.1 < t3.2.1)) then if (0 : Int) ≤ t3.2.2.1 then if t3.2.2.1 < ((List.length t3.1 : Nat) : Int) then Option.bind (F_impl_SetPut (t3.2.2.2, (rd_Key t3.1 t3.2.2.1).1, (rd_Key t3.1 t3.2.2.1).2.1, (rd_Key t3.1 t3.2.2.1).2.2.1, (rd_Key t3.1 t3.2.2.1).2.2.2.1, (rd_Key t3.1 t3.2.2.1).2.2.2.2)) fun r2 => again (t3.1, t3.2.1, (Go.IntKind.wrap .i64 (t3.2.2.1 + (1 : Int))), r2) else none else none else k0 t3.2.2.2
noncomputable def L_impl_MergeSets_3 {R : Type} (k0 : List E_Key → Option R) (t : T_impl_MergeSets_3) : Option R := iter (S_impl_MergeSets_3 k0) FUEL t
noncomputable def F_impl_MergeSets (x : List E_Key × List E_Key) : Option (List E_Key) :=
  Option.bind (F_impl_copyKeys x.1) fun r1 => L_impl_MergeSets_3 (fun x3 => some x3) (x.2, ((List.length x.2 : Nat) : Int), (0 : Int), r1)
noncomputable def f175B : Code := match Try.f175.body with
  | some c => c
  | none => .skip
noncomputable def f175K : C.Sem := tab [⟨182, F_impl_copyKeys⟩, ⟨183, F_impl_SetPut⟩]
def f175h3_0 : List Sh := [.dead, .dead, .dead, .dead, .dead, .own 10000000, .dead, .dead, .dead, .dead, .v (.sl 216 ts_Key), .v (.int .i64), .v (.int .i64), .dead, .dead, .dead, .dead, .dead, .dead, .dead, .dead]
def f175o3_0 : List (Nat × OSh) := [(10000000, .root true 216 ts_Key)]
def f175e3_0 (t : List E_Key × Int × Int × List E_Key) : St := mkS f175h3_0 f175o3_0 (((), (), (), (), (), (), (), (), (), (), t.1, t.2.1, t.2.2.1, (), (), (), (), (), (), (), (), ()), (t.2.2.2, ()))
def f175g3_0 : List Sh := [.dead, .dead, .dead, .dead, .dead, .own 10000000, .dead, .dead, .dead, .dead, .dead, .dead, .dead, .dead, .dead, .dead, .dead, .dead, .dead, .dead, .dead]
def f175p3_0 : List (Nat × OSh) := [(10000000, .root true 216 ts_Key)]
def f175x3_0 (t : List E_Key) : St := mkS f175g3_0 f175p3_0 (((), (), (), (), (), (), (), (), (), (), (), (), (), (), (), (), (), (), (), (), (), ()), (t, ()))
def f175u3_0 (s : St) : Option (List E_Key × Int × Int × List E_Key) := (unS f175h3_0 f175o3_0 s).map fun v => (v.1.2.2.2.2.2.2.2.2.2.2.1, v.1.2.2.2.2.2.2.2.2.2.2.2.1, v.1.2.2.2.2.2.2.2.2.2.2.2.2.1, v.2.1)
theorem f175un3_0 : ∀ (s : St) (t : List E_Key × Int × Int × List E_Key), f175u3_0 s = some t → f175e3_0 t = s := fun s v h => by
  obtain ⟨u, hu, rfl⟩ := Option.map_eq_some_iff.1 h
  exact mkS_un f175h3_0 f175o3_0 s u hu
def f175u3 : St → Option (List E_Key × Int × Int × List E_Key) := f175u3_0
def f175e3 : (List E_Key × Int × Int × List E_Key) → St := f175e3_0
theorem f175un3 : ∀ (s : St) (t : List E_Key × Int × Int × List E_Key), f175u3 s = some t → f175e3 t = s := f175un3_0
noncomputable def f175P : Lp := fun i s {_R} κ => bif Nat.beq i 3 then (f175u3 s).bind fun t => L_impl_MergeSets_3 (fun t => κ (some 0) (f175x3_0 t)) t else none
noncomputable def f175c3 : Code := (loopsOf f175B).getD 0 .skip
theorem f175A3 : C.live 175 (firstRegion f175c3) = some ([5, 10, 11, 12], [5]) := by kernel_rfl
theorem f175B3 {R : Type} (κ : Option Nat → St → Option R) (s : St) : f175P (firstRegion f175c3) s κ = (f175u3 s).bind fun t => iter (S_impl_MergeSets_3 (fun t => κ (some 0) (f175x3_0 t))) FUEL t := by kernel_rfl
theorem f175C3 {R : Type} (κ : Option Nat → St → Option R) (again : St → Option R) (t : T_impl_MergeSets_3) : stepL C f175K f175P 175 f175c3 [5, 10, 11, 12] [5] κ again (f175e3 t) = S_impl_MergeSets_3 (fun t => κ (some 0) (f175x3_0 t)) (fun t => again (f175e3 t)) t := by kernel_rfl
theorem f175ok3 : LoopOk C f175K f175P 175 f175c3 := loop_ok f175A3 f175e3 f175u3 f175un3 (fun {_R} κ => S_impl_MergeSets_3 (fun t => κ (some 0) (f175x3_0 t))) (fun {_R} κ s => f175B3 κ s) (fun {_R} κ again t => f175C3 κ again t)
theorem k175 : Contract C Try.prog f175K := contract_tab _ (fun p hp => by
    simp only [List.mem_cons, List.mem_nil_iff, or_false] at hp
    rcases hp with rfl | rfl
    · exact ok182
    · exact ok183)
theorem ev175 (x : List E_Key × List E_Key) : evalB C f175K f175P 175 Try.f175 f175B ⟨[.v false [(.sl 216 ts_Key)] [false], .v false [(.sl 216 ts_Key)] [false]], [⟨false, [(.sl 216 ts_Key)], [true]⟩]⟩ [(.sl 216 ts_Key), (.sl 216 ts_Key)] [(.sl 216 ts_Key)] x = F_impl_MergeSets x := by kernel_rfl
theorem ok175 : ContractAt C Try.prog 175 F_impl_MergeSets := fn_sound (lp := f175P) tok mixed k175 (fn := Try.f175) (c := f175B) (sg := ⟨[.v false [(.sl 216 ts_Key)] [false], .v false [(.sl 216 ts_Key)] [false]], [⟨false, [(.sl 216 ts_Key)], [true]⟩]⟩) Try.func175 (by decide) (by kernel_rfl) (by kernel_rfl) (by kernel_rfl) (fun c' hc' => by
    rw [show loopsOf f175B = [f175c3] by kernel_rfl] at hc'
    simp only [List.mem_cons, List.mem_nil_iff, or_false] at hc'
    rcases hc' with rfl
    · exact f175ok3) (by decide) (by decide) (fun x y h => (ev175 x).trans h)

/-! ### 176: impl.Drop -/
abbrev T_impl_Drop_3 : Type := List E_Key × Int × Int × List E_Key
noncomputable def S_impl_Drop_3 {R : Type} (k0 : List E_Key → Option R) (again : T_impl_Drop_3 → Option R) (t3 : T_impl_Drop_3) : Option R :=
  bif (decide (t3.2.2.1 < t3.2.1)) then if (0 : Int) ≤ t3.2.2.1 then if t3.2.2.1 < ((List.length t3.1 : Nat) : Int) then bif ((rd_Key t3.1 t3.2.2.1).2.2.1 != (0 : Int)) then if (List.length t3.2.2.2 + List.length ([((rd_Key t3.1 t3.2.2.1).1, (rd_Key t3.1 t3.2.2.1).2.1, (rd_Key t3.1 t3.2.2.1).2.2.1, (rd_Key t3.1 t3.2.2.1).2.2.2.1, (rd_Key t3.1 t3.2.2.1).2.2.2.2)] : List E_Key)) * 40 < 140737488355328 then again (t3.1, t3.2.1, (Go.IntKind.wrap .i64 (t3.2.2.1 + (1 : Int))), (t3.2.2.2 ++ ([((rd_Key t3.1 t3.2.2.1).1, (rd_Key t3.1 t3.2.2.1).2.1, (rd_Key t3.1 t3.2.2.1).2.2.1, (rd_Key t3.1 t3.2.2.1).2.2.2.1, (rd_Key t3.1 t3.2.2.1).2.2.2.2)] : List E_Key))) else none else again (t3.1, t3.2.1, (Go.IntKind.wrap .i64 (t3.2.2.1 + (1 : Int))), t3.2.2.2) else none else none else k0 t3.2.2.2
noncomputable def L_impl_Drop_3 {R : Type} (k0 : List E_Key → Option R) (t : T_impl_Drop_3) : Option R := iter (S_impl_Drop_3 k0) FUEL t
noncomputable def F_impl_Drop (x : List E_Key) : Option (List E_Key) :=
  L_impl_Drop_3 (fun x1 => some x1) (x, ((List.length x : Nat) : Int), (0 : Int), ([] : List E_Key))
noncomputable def f176B : Code := match Try.f176.body with
  | some c => c
  | none => .skip
noncomputable def f176K : C.Sem := tab []
def f176h3_0 : List Sh := [.dead, .dead, .dead, .own 10000000, .dead, .dead, .dead, .v (.sl 216 ts_Key), .v (.int .i64), .v (.int .i64), .dead, .dead, .dead, .dead, .dead, .dead, .dead, .dead, .dead, .dead, .dead, .dead]
def f176o3_0 : List (Nat × OSh) := [(10000000, .root true 216 ts_Key)]
def f176e3_0 (t : List E_Key × Int × Int × List E_Key) : St := mkS f176h3_0 f176o3_0 (((), (), (), (), (), (), (), t.1, t.2.1, t.2.2.1, (), (), (), (), (), (), (), (), (), (), (), (), ()), (t.2.2.2, ()))
def f176g3_0 : List Sh := [.dead, .dead, .dead, .own 10000000, .dead, .dead, .dead, .dead, .dead, .dead, .dead, .dead, .dead, .dead, .dead, .dead, .dead, .dead, .dead, .dead, .dead, .dead]
def f176p3_0 : List (Nat × OSh) := [(10000000, .root true 216 ts_Key)]
def f176x3_0 (t : List E_Key) : St := mkS f176g3_0 f176p3_0 (((), (), (), (), (), (), (), (), (), (), (), (), (), (), (), (), (), (), (), (), (), (), ()), (t, ()))
def f176u3_0 (s : St) : Option (List E_Key × Int × Int × List E_Key) := (unS f176h3_0 f176o3_0 s).map fun v => (v.1.2.2.2.2.2.2.2.1, v.1.2.2.2.2.2.2.2.2.1, v.1.2.2.2.2.2.2.2.2.2.1, v.2.1)
theorem f176un3_0 : ∀ (s : St) (t : List E_Key × Int × Int × List E_Key), f176u3_0 s = some t → f176e3_0 t = s := fun s v h => by
  obtain ⟨u, hu, rfl⟩ := Option.map_eq_some_iff.1 h
  exact mkS_un f176h3_0 f176o3_0 s u hu
def f176u3 : St → Option (List E_Key × Int × Int × List E_Key) := f176u3_0
def f176e3 : (List E_Key × Int × Int × List E_Key) → St := f176e3_0
theorem f176un3 : ∀ (s : St) (t : List E_Key × Int × Int × List E_Key), f176u3 s = some t → f176e3 t = s := f176un3_0
noncomputable def f176P : Lp := fun i s {_R} κ => bif Nat.beq i 3 then (f176u3 s).bind fun t => L_impl_Drop_3 (fun t => κ (some 0) (f176x3_0 t)) t else none
noncomputable def f176c3 : Code := (loopsOf f176B).getD 0 .skip
theorem f176A3 : C.live 176 (firstRegion f176c3) = some ([3, 7, 8, 9], [3]) := by kernel_rfl
theorem f176B3 {R : Type} (κ : Option Nat → St → Option R) (s : St) : f176P (firstRegion f176c3) s κ = (f176u3 s).bind fun t => iter (S_impl_Drop_3 (fun t => κ (some 0) (f176x3_0 t))) FUEL t := by kernel_rfl
theorem f176C3 {R : Type} (κ : Option Nat → St → Option R) (again : St → Option R) (t : T_impl_Drop_3) : stepL C f176K f176P 176 f176c3 [3, 7, 8, 9] [3] κ again (f176e3 t) = S_impl_Drop_3 (fun t => κ (some 0) (f176x3_0 t)) (fun t => again (f176e3 t)) t := by kernel_rfl
theorem f176ok3 : LoopOk C f176K f176P 176 f176c3 := loop_ok f176A3 f176e3 f176u3 f176un3 (fun {_R} κ => S_impl_Drop_3 (fun t => κ (some 0) (f176x3_0 t))) (fun {_R} κ s => f176B3 κ s) (fun {_R} κ again t => f176C3 κ again t)
theorem k176 : Contract C Try.prog f176K := contract_tab _ (fun p hp => by cases hp)
theorem ev176 (x : List E_Key) : evalB C f176K f176P 176 Try.f176 f176B ⟨[.v false [(.sl 216 ts_Key)] [false]], [⟨false, [(.sl 216 ts_Key)], [true]⟩]⟩ [(.sl 216 ts_Key)] [(.sl 216 ts_Key)] x = F_impl_Drop x := by kernel_rfl
theorem ok176 : ContractAt C Try.prog 176 F_impl_Drop := fn_sound (lp := f176P) tok mixed k176 (fn := Try.f176) (c := f176B) (sg := ⟨[.v false [(.sl 216 ts_Key)] [false]], [⟨false, [(.sl 216 ts_Key)], [true]⟩]⟩) Try.func176 (by decide) (by kernel_rfl) (by kernel_rfl) (by kernel_rfl) (fun c' hc' => by
    rw [show loopsOf f176B = [f176c3] by kernel_rfl] at hc'
    simp only [List.mem_cons, List.mem_nil_iff, or_false] at hc'
    rcases hc' with rfl
    · exact f176ok3) (by decide) (by decide) (fun x y h => (ev176 x).trans h)

/-! ### 156: impl.NodeKeys -/
abbrev T_impl_NodeKeys_3 : Type := List E_s_Key × Int × Int × List E_Key
noncomputable def S_impl_NodeKeys_3 {R : Type} (k0 : List E_Key → Option R) (again : T_impl_NodeKeys_3 → Option R) (t3 : T_impl_NodeKeys_3) : Option R :=
  bif (decide (t3.2.2.1 < t3.2.1)) then if (0 : Int) ≤ t3.2.2.1 then if t3.2.2.1 < ((List.length t3.1 : Nat) : Int) then Option.bind (F_impl_MergeSets (t3.2.2.2, (rd_s_Key t3.1 t3.2.2.1))) fun r1 => again (t3.1, t3.2.1, (Go.IntKind.wrap .i64 (t3.2.2.1 + (1 : Int))), r1) else none else none else k0 t3.2.2.2
noncomputable def L_impl_NodeKeys_3 {R : Type} (k0 : List E_Key → Option R) (t : T_impl_NodeKeys_3) : Option R := iter (S_impl_NodeKeys_3 k0) FUEL t
noncomputable def F_impl_NodeKeys (x : List E_s_Key) : Option (List E_Key) :=
  L_impl_NodeKeys_3 (fun x2 => Option.bind (F_impl_Drop x2) fun r3 => some r3) (x, ((List.length x : Nat) : Int), (0 : Int), ([] : List E_Key))
noncomputable def f156B : Code := match Try.f156.body with
  | some c => c
  | none => .skip
noncomputable def f156K : C.Sem := tab [⟨175, F_impl_MergeSets⟩, ⟨176, F_impl_Drop⟩]
def f156h3_0 : List Sh := [.dead, .dead, .dead, .own 10000000, .dead, .dead, .dead, .dead, .v (.sl 141 ts_s_Key), .v (.int .i64), .v (.int .i64), .dead, .dead, .dead, .dead, .dead, .dead, .dead, .dead, .dead]
def f156o3_0 : List (Nat × OSh) := [(10000000, .root true 216 ts_Key)]
def f156e3_0 (t : List E_s_Key × Int × Int × List E_Key) : St := mkS f156h3_0 f156o3_0 (((), (), (), (), (), (), (), (), t.1, t.2.1, t.2.2.1, (), (), (), (), (), (), (), (), (), ()), (t.2.2.2, ()))
def f156g3_0 : List Sh := [.dead, .dead, .dead, .own 10000000, .dead, .dead, .dead, .dead, .dead, .dead, .dead, .dead, .dead, .dead, .dead, .dead, .dead, .dead, .dead, .dead]
def f156p3_0 : List (Nat × OSh) := [(10000000, .root true 216 ts_Key)]
def f156x3_0 (t : List E_Key) : St := mkS f156g3_0 f156p3_0 (((), (), (), (), (), (), (), (), (), (), (), (), (), (), (), (), (), (), (), (), ()), (t, ()))
def f156u3_0 (s : St) : Option (List E_s_Key × Int × Int × List E_Key) := (unS f156h3_0 f156o3_0 s).map fun v => (v.1.2.2.2.2.2.2.2.2.1, v.1.2.2.2.2.2.2.2.2.2.1, v.1.2.2.2.2.2.2.2.2.2.2.1, v.2.1)
theorem f156un3_0 : ∀ (s : St) (t : List E_s_Key × Int × Int × List E_Key), f156u3_0 s = some t → f156e3_0 t = s := fun s v h => by
  obtain ⟨u, hu, rfl⟩ := Option.map_eq_some_iff.1 h
  exact mkS_un f156h3_0 f156o3_0 s u hu
def f156u3 : St → Option (List E_s_Key × Int × Int × List E_Key) := f156u3_0
def f156e3 : (List E_s_Key × Int × Int × List E_Key) → St := f156e3_0
theorem f156un3 : ∀ (s : St) (t : List E_s_Key × Int × Int × List E_Key), f156u3 s = some t → f156e3 t = s := f156un3_0
noncomputable def f156P : Lp := fun i s {_R} κ => bif Nat.beq i 3 then (f156u3 s).bind fun t => L_impl_NodeKeys_3 (fun t => κ (some 0) (f156x3_0 t)) t else none
noncomputable def f156c3 : Code := (loopsOf f156B).getD 0 .skip
theorem f156A3 : C.live 156 (firstRegion f156c3) = some ([3, 8, 9, 10], [3]) := by kernel_rfl
theorem f156B3 {R : Type} (κ : Option Nat → St → Option R) (s : St) : f156P (firstRegion f156c3) s κ = (f156u3 s).bind fun t => iter (S_impl_NodeKeys_3 (fun t => κ (some 0) (f156x3_0 t))) FUEL t := by kernel_rfl
theorem f156C3 {R : Type} (κ : Option Nat → St → Option R) (again : St → Option R) (t : T_impl_NodeKeys_3) : stepL C f156K f156P 156 f156c3 [3, 8, 9, 10] [3] κ again (f156e3 t) = S_impl_NodeKeys_3 (fun t => κ (some 0) (f156x3_0 t)) (fun t => again (f156e3 t)) t := by kernel_rfl
theorem f156ok3 : LoopOk C f156K f156P 156 f156c3 := loop_ok f156A3 f156e3 f156u3 f156un3 (fun {_R} κ => S_impl_NodeKeys_3 (fun t => κ (some 0) (f156x3_0 t))) (fun {_R} κ s => f156B3 κ s) (fun {_R} κ again t => f156C3 κ again t)
theorem k156 : Contract C Try.prog f156K := contract_tab _ (fun p hp => by
    simp only [List.mem_cons, List.mem_nil_iff, or_false] at hp
    rcases hp with rfl | rfl
    · exact ok175
    · exact ok176)
theorem ev156 (x : List E_s_Key) : evalB C f156K f156P 156 Try.f156 f156B ⟨[.v true [(.sl 141 ts_s_Key)] [false]], [⟨false, [(.sl 216 ts_Key)], [true]⟩]⟩ [(.sl 141 ts_s_Key)] [(.sl 216 ts_Key)] x = F_impl_NodeKeys x := by kernel_rfl
theorem ok156 : ContractAt C Try.prog 156 F_impl_NodeKeys := fn_sound (lp := f156P) tok mixed k156 (fn := Try.f156) (c := f156B) (sg := ⟨[.v true [(.sl 141 ts_s_Key)] [false]], [⟨false, [(.sl 216 ts_Key)], [true]⟩]⟩) Try.func156 (by decide) (by kernel_rfl) (by kernel_rfl) (by kernel_rfl) (fun c' hc' => by
    rw [show loopsOf f156B = [f156c3] by kernel_rfl] at hc'
    simp only [List.mem_cons, List.mem_nil_iff, or_false] at hc'
    rcases hc' with rfl
    · exact f156ok3) (by decide) (by decide) (fun x y h => (ev156 x).trans h)

/-! ### 120: impl.TreeKeys -/
abbrev T_impl_TreeKeys_3 : Type := List E_Node × Int × Int × List E_Key
noncomputable def S_impl_TreeKeys_3 {R : Type} (k0 : List E_Key → Option R) (again : T_impl_TreeKeys_3 → Option R) (t3 : T_impl_TreeKeys_3) : Option R :=
  bif (decide (t3.2.2.1 < t3.2.1)) then if (0 : Int) ≤ t3.2.2.1 then if t3.2.2.1 < ((List.length t3.1 : Nat) : Int) then Option.bind (F_impl_NodeKeys (rd_Node t3.1 t3.2.2.1)) fun r1 => if (List.length t3.2.2.2 + List.length r1) * 40 < 140737488355328 then again (t3.1, t3.2.1, (Go.IntKind.wrap .i64 (t3.2.2.1 + (1 : Int))), (t3.2.2.2 ++ r1)) else none else none else none else k0 t3.2.2.2
noncomputable def L_impl_TreeKeys_3 {R : Type} (k0 : List E_Key → Option R) (t : T_impl_TreeKeys_3) : Option R := iter (S_impl_TreeKeys_3 k0) FUEL t
noncomputable def F_impl_TreeKeys (x : List E_i64 × List E_Node) : Option (List E_Key) :=
  L_impl_TreeKeys_3 (fun x2 => some x2) (x.2, ((List.length x.2 : Nat) : Int), (0 : Int), ([] : List E_Key))
noncomputable def f120B : Code := match Try.f120.body with
  | some c => c
  | none => .skip
noncomputable def f120K : C.Sem := tab [⟨156, F_impl_NodeKeys⟩]
def f120h3_0 : List Sh := [.dead, .dead, .dead, .own 10000000, .dead, .dead, .dead, .dead, .v (.sl 181 ts_Node), .v (.int .i64), .v (.int .i64), .dead, .dead, .dead, .dead, .dead, .dead, .dead, .dead, .dead]
def f120o3_0 : List (Nat × OSh) := [(10000000, .root true 216 ts_Key)]
def f120e3_0 (t : List E_Node × Int × Int × List E_Key) : St := mkS f120h3_0 f120o3_0 (((), (), (), (), (), (), (), (), t.1, t.2.1, t.2.2.1, (), (), (), (), (), (), (), (), (), ()), (t.2.2.2, ()))
def f120g3_0 : List Sh := [.dead, .dead, .dead, .own 10000000, .dead, .dead, .dead, .dead, .dead, .dead, .dead, .dead, .dead, .dead, .dead, .dead, .dead, .dead, .dead, .dead]
def f120p3_0 : List (Nat × OSh) := [(10000000, .root true 216 ts_Key)]
def f120x3_0 (t : List E_Key) : St := mkS f120g3_0 f120p3_0 (((), (), (), (), (), (), (), (), (), (), (), (), (), (), (), (), (), (), (), (), ()), (t, ()))
def f120u3_0 (s : St) : Option (List E_Node × Int × Int × List E_Key) := (unS f120h3_0 f120o3_0 s).map fun v => (v.1.2.2.2.2.2.2.2.2.1, v.1.2.2.2.2.2.2.2.2.2.1, v.1.2.2.2.2.2.2.2.2.2.2.1, v.2.1)
theorem f120un3_0 : ∀ (s : St) (t : List E_Node × Int × Int × List E_Key), f120u3_0 s = some t → f120e3_0 t = s := fun s v h => by
  obtain ⟨u, hu, rfl⟩ := Option.map_eq_some_iff.1 h
  exact mkS_un f120h3_0 f120o3_0 s u hu
def f120u3 : St → Option (List E_Node × Int × Int × List E_Key) := f120u3_0
def f120e3 : (List E_Node × Int × Int × List E_Key) → St := f120e3_0
theorem f120un3 : ∀ (s : St) (t : List E_Node × Int × Int × List E_Key), f120u3 s = some t → f120e3 t = s := f120un3_0
noncomputable def f120P : Lp := fun i s {_R} κ => bif Nat.beq i 3 then (f120u3 s).bind fun t => L_impl_TreeKeys_3 (fun t => κ (some 0) (f120x3_0 t)) t else none
noncomputable def f120c3 : Code := (loopsOf f120B).getD 0 .skip
theorem f120A3 : C.live 120 (firstRegion f120c3) = some ([3, 8, 9, 10], [3]) := by kernel_rfl
theorem f120B3 {R : Type} (κ : Option Nat → St → Option R) (s : St) : f120P (firstRegion f120c3) s κ = (f120u3 s).bind fun t => iter (S_impl_TreeKeys_3 (fun t => κ (some 0) (f120x3_0 t))) FUEL t := by kernel_rfl
theorem f120C3 {R : Type} (κ : Option Nat → St → Option R) (again : St → Option R) (t : T_impl_TreeKeys_3) : stepL C f120K f120P 120 f120c3 [3, 8, 9, 10] [3] κ again (f120e3 t) = S_impl_TreeKeys_3 (fun t => κ (some 0) (f120x3_0 t)) (fun t => again (f120e3 t)) t := by kernel_rfl
theorem f120ok3 : LoopOk C f120K f120P 120 f120c3 := loop_ok f120A3 f120e3 f120u3 f120un3 (fun {_R} κ => S_impl_TreeKeys_3 (fun t => κ (some 0) (f120x3_0 t))) (fun {_R} κ s => f120B3 κ s) (fun {_R} κ again t => f120C3 κ again t)
theorem k120 : Contract C Try.prog f120K := contract_tab _ (fun p hp => by
    simp only [List.mem_cons, List.mem_nil_iff, or_false] at hp
    rcases hp with rfl
    · exact ok156)
theorem ev120 (x : List E_i64 × List E_Node) : evalB C f120K f120P 120 Try.f120 f120B ⟨[.v true [(.sl 3 ts_i64), (.sl 181 ts_Node)] [false, false]], [⟨false, [(.sl 216 ts_Key)], [true]⟩]⟩ [(.sl 3 ts_i64), (.sl 181 ts_Node)] [(.sl 216 ts_Key)] x = F_impl_TreeKeys x := by kernel_rfl
theorem ok120 : ContractAt C Try.prog 120 F_impl_TreeKeys := fn_sound (lp := f120P) tok mixed k120 (fn := Try.f120) (c := f120B) (sg := ⟨[.v true [(.sl 3 ts_i64), (.sl 181 ts_Node)] [false, false]], [⟨false, [(.sl 216 ts_Key)], [true]⟩]⟩) Try.func120 (by decide) (by kernel_rfl) (by kernel_rfl) (by kernel_rfl) (fun c' hc' => by
    rw [show loopsOf f120B = [f120c3] by kernel_rfl] at hc'
    simp only [List.mem_cons, List.mem_nil_iff, or_false] at hc'
    rcases hc' with rfl
    · exact f120ok3) (by decide) (by decide) (fun x y h => (ev120 x).trans h)

/-! ### 54: impl.Bound -/
noncomputable def F_impl_Bound (x : List E_i64 × List E_Node × List E_Age × List E_Cell × List E_Vol × Int) : Option (Int) :=
  Option.bind (F_impl_TreeKeys (x.1, x.2.1)) fun r1 => some (Go.IntKind.wrap .i64 ((Go.IntKind.wrap .i64 (((List.length r1 : Nat) : Int) * (Go.IntKind.wrap .i64 (((List.length x.2.2.1 : Nat) : Int) + (1 : Int))))) + ((List.length x.2.2.1 : Nat) : Int)))
noncomputable def f54B : Code := match Try.f54.body with
  | some c => c
  | none => .skip
noncomputable def f54K : C.Sem := tab [⟨120, F_impl_TreeKeys⟩]
noncomputable def f54P : Lp := fun i s {_R} κ => none
theorem k54 : Contract C Try.prog f54K := contract_tab _ (fun p hp => by
    simp only [List.mem_cons, List.mem_nil_iff, or_false] at hp
    rcases hp with rfl
    · exact ok120)
theorem ev54 (x : List E_i64 × List E_Node × List E_Age × List E_Cell × List E_Vol × Int) : evalB C f54K f54P 54 Try.f54 f54B ⟨[.v true [(.sl 3 ts_i64), (.sl 181 ts_Node), (.sl 185 ts_Age), (.sl 189 ts_Cell), (.sl 192 ts_Vol), (.int .i64)] [false, false, false, false, false, false]], [⟨false, [(.int .i64)], [false]⟩]⟩ [(.sl 3 ts_i64), (.sl 181 ts_Node), (.sl 185 ts_Age), (.sl 189 ts_Cell), (.sl 192 ts_Vol), (.int .i64)] [(.int .i64)] x = F_impl_Bound x := by kernel_rfl
theorem ok54 : ContractAt C Try.prog 54 F_impl_Bound := fn_sound (lp := f54P) tok mixed k54 (fn := Try.f54) (c := f54B) (sg := ⟨[.v true [(.sl 3 ts_i64), (.sl 181 ts_Node), (.sl 185 ts_Age), (.sl 189 ts_Cell), (.sl 192 ts_Vol), (.int .i64)] [false, false, false, false, false, false]], [⟨false, [(.int .i64)], [false]⟩]⟩) Try.func54 (by decide) (by kernel_rfl) (by kernel_rfl) (by kernel_rfl) (fun c' hc' => by
    rw [show loopsOf f54B = [] by kernel_rfl] at hc'
    cases hc') (by decide) (by decide) (fun x y h => (ev54 x).trans h)

/-! ### 157: laws.eqIntS -/
abbrev T_laws_eqIntS_4 : Type := List E_i64 × List E_i64 × Int
noncomputable def S_laws_eqIntS_4 {R : Type} (k0 : Bool → Option R) (k1 : Unit → Option R) (again : T_laws_eqIntS_4 → Option R) (t4 : T_laws_eqIntS_4) : Option R :=
  bif (decide (t4.2.2 < ((List.length t4.1 : Nat) : Int))) then if (0 : Int) ≤ t4.2.2 then if t4.2.2 < ((List.length t4.1 : Nat) : Int) then if (0 : Int) ≤ t4.2.2 then if t4.2.2 < ((List.length t4.2.1 : Nat) : Int) then bif ((rd_i64 t4.1 t4.2.2) != (rd_i64 t4.2.1 t4.2.2)) then k0 false else again (t4.1, t4.2.1, (Go.IntKind.wrap .i64 (t4.2.2 + (1 : Int)))) else none else none else none else none else k1 ()
noncomputable def L_laws_eqIntS_4 {R : Type} (k0 : Bool → Option R) (k1 : Unit → Option R) (t : T_laws_eqIntS_4) : Option R := iter (S_laws_eqIntS_4 k0 k1) FUEL t
noncomputable def F_laws_eqIntS (x : List E_i64 × List E_i64) : Option (Bool) :=
  bif (((List.length x.1 : Nat) : Int) != ((List.length x.2 : Nat) : Int)) then some false else L_laws_eqIntS_4 (fun x1 => some x1) (fun x2 => some true) (x.1, x.2, (0 : Int))
noncomputable def f157B : Code := match Try.f157.body with
  | some c => c
  | none => .skip
noncomputable def f157K : C.Sem := tab []
def f157h4_0 : List Sh := [.v (.sl 3 ts_i64), .v (.sl 3 ts_i64), .dead, .dead, .dead, .v (.int .i64), .dead, .dead, .dead, .dead, .dead, .dead, .dead, .dead, .dead, .dead, .dead, .dead, .dead, .dead, .dead, .dead, .dead, .dead, .dead, .dead]
def f157o4_0 : List (Nat × OSh) := []
def f157e4_0 (t : List E_i64 × List E_i64 × Int) : St := mkS f157h4_0 f157o4_0 ((t.1, t.2.1, (), (), (), t.2.2, (), (), (), (), (), (), (), (), (), (), (), (), (), (), (), (), (), (), (), (), ()), ())
def f157g4_0 : List Sh := [.dead, .dead, .dead, .dead, .v .bool, .dead, .dead, .dead, .dead, .dead, .dead, .dead, .dead, .dead, .dead, .dead, .dead, .dead, .dead, .dead, .dead, .dead, .dead, .dead, .dead, .dead]
def f157p4_0 : List (Nat × OSh) := []
def f157x4_0 (t : Bool) : St := mkS f157g4_0 f157p4_0 (((), (), (), (), t, (), (), (), (), (), (), (), (), (), (), (), (), (), (), (), (), (), (), (), (), (), ()), ())
def f157g4_1 : List Sh := [.dead, .dead, .dead, .dead, .dead, .dead, .dead, .dead, .dead, .dead, .dead, .dead, .dead, .dead, .dead, .dead, .dead, .dead, .dead, .dead, .dead, .dead, .dead, .dead, .dead, .dead]
def f157p4_1 : List (Nat × OSh) := []
def f157x4_1 (t : Unit) : St := mkS f157g4_1 f157p4_1 (((), (), (), (), (), (), (), (), (), (), (), (), (), (), (), (), (), (), (), (), (), (), (), (), (), (), ()), ())
def f157u4_0 (s : St) : Option (List E_i64 × List E_i64 × Int) := (unS f157h4_0 f157o4_0 s).map fun v => (v.1.1, v.1.2.1, v.1.2.2.2.2.2.1)
theorem f157un4_0 : ∀ (s : St) (t : List E_i64 × List E_i64 × Int), f157u4_0 s = some t → f157e4_0 t = s := fun s v h => by
  obtain ⟨u, hu, rfl⟩ := Option.map_eq_some_iff.1 h
  exact mkS_un f157h4_0 f157o4_0 s u hu
def f157u4 : St → Option (List E_i64 × List E_i64 × Int) := f157u4_0
def f157e4 : (List E_i64 × List E_i64 × Int) → St := f157e4_0
theorem f157un4 : ∀ (s : St) (t : List E_i64 × List E_i64 × Int), f157u4 s = some t → f157e4 t = s := f157un4_0
noncomputable def f157P : Lp := fun i s {_R} κ => bif Nat.beq i 4 then (f157u4 s).bind fun t => L_laws_eqIntS_4 (fun t => κ (none) (f157x4_0 t)) (fun t => κ (some 0) (f157x4_1 t)) t else none
noncomputable def f157c4 : Code := (loopsOf f157B).getD 0 .skip
theorem f157A4 : C.live 157 (firstRegion f157c4) = some ([0, 1, 5], [4]) := by kernel_rfl
theorem f157B4 {R : Type} (κ : Option Nat → St → Option R) (s : St) : f157P (firstRegion f157c4) s κ = (f157u4 s).bind fun t => iter (S_laws_eqIntS_4 (fun t => κ (none) (f157x4_0 t)) (fun t => κ (some 0) (f157x4_1 t))) FUEL t := by kernel_rfl
theorem f157C4 {R : Type} (κ : Option Nat → St → Option R) (again : St → Option R) (t : T_laws_eqIntS_4) : stepL C f157K f157P 157 f157c4 [0, 1, 5] [4] κ again (f157e4 t) = S_laws_eqIntS_4 (fun t => κ (none) (f157x4_0 t)) (fun t => κ (some 0) (f157x4_1 t)) (fun t => again (f157e4 t)) t := by kernel_rfl
theorem f157ok4 : LoopOk C f157K f157P 157 f157c4 := loop_ok f157A4 f157e4 f157u4 f157un4 (fun {_R} κ => S_laws_eqIntS_4 (fun t => κ (none) (f157x4_0 t)) (fun t => κ (some 0) (f157x4_1 t))) (fun {_R} κ s => f157B4 κ s) (fun {_R} κ again t => f157C4 κ again t)
theorem k157 : Contract C Try.prog f157K := contract_tab _ (fun p hp => by cases hp)
theorem ev157 (x : List E_i64 × List E_i64) : evalB C f157K f157P 157 Try.f157 f157B ⟨[.v false [(.sl 3 ts_i64)] [false], .v false [(.sl 3 ts_i64)] [false]], [⟨false, [.bool], [false]⟩]⟩ [(.sl 3 ts_i64), (.sl 3 ts_i64)] [.bool] x = F_laws_eqIntS x := by kernel_rfl
theorem ok157 : ContractAt C Try.prog 157 F_laws_eqIntS := fn_sound (lp := f157P) tok mixed k157 (fn := Try.f157) (c := f157B) (sg := ⟨[.v false [(.sl 3 ts_i64)] [false], .v false [(.sl 3 ts_i64)] [false]], [⟨false, [.bool], [false]⟩]⟩) Try.func157 (by decide) (by kernel_rfl) (by kernel_rfl) (by kernel_rfl) (fun c' hc' => by
    rw [show loopsOf f157B = [f157c4] by kernel_rfl] at hc'
    simp only [List.mem_cons, List.mem_nil_iff, or_false] at hc'
    rcases hc' with rfl
    · exact f157ok4) (by decide) (by decide) (fun x y h => (ev157 x).trans h)

/-! ### 193: laws.eqKey -/
noncomputable def F_laws_eqKey (x : Int × Int × Int × Int × Int × Int × Int × Int × Int × Int) : Option (Bool) :=
  bif (x.1 != x.2.2.2.2.2.1) then some false else bif (x.2.1 != x.2.2.2.2.2.2.1) then some false else bif (x.2.2.1 != x.2.2.2.2.2.2.2.1) then some false else bif (x.2.2.2.1 != x.2.2.2.2.2.2.2.2.1) then some false else bif (x.2.2.2.2.1 != x.2.2.2.2.2.2.2.2.2) then some false else some true
noncomputable def f193B : Code := match Try.f193.body with
  | some c => c
  | none => .skip
noncomputable def f193K : C.Sem := tab []
noncomputable def f193P : Lp := fun i s {_R} κ => none
theorem k193 : Contract C Try.prog f193K := contract_tab _ (fun p hp => by cases hp)
theorem ev193 (x : Int × Int × Int × Int × Int × Int × Int × Int × Int × Int) : evalB C f193K f193P 193 Try.f193 f193B ⟨[.v true [(.int .i64), (.int .i64), (.int .i64), (.int .i64), (.int .i64)] [false, false, false, false, false], .v true [(.int .i64), (.int .i64), (.int .i64), (.int .i64), (.int .i64)] [false, false, false, false, false]], [⟨false, [.bool], [false]⟩]⟩ [(.int .i64), (.int .i64), (.int .i64), (.int .i64), (.int .i64), (.int .i64), (.int .i64), (.int .i64), (.int .i64), (.int .i64)] [.bool] x = F_laws_eqKey x := by kernel_rfl
theorem ok193 : ContractAt C Try.prog 193 F_laws_eqKey := fn_sound (lp := f193P) tok mixed k193 (fn := Try.f193) (c := f193B) (sg := ⟨[.v true [(.int .i64), (.int .i64), (.int .i64), (.int .i64), (.int .i64)] [false, false, false, false, false], .v true [(.int .i64), (.int .i64), (.int .i64), (.int .i64), (.int .i64)] [false, false, false, false, false]], [⟨false, [.bool], [false]⟩]⟩) Try.func193 (by decide) (by kernel_rfl) (by kernel_rfl) (by kernel_rfl) (fun c' hc' => by
    rw [show loopsOf f193B = [] by kernel_rfl] at hc'
    cases hc') (by decide) (by decide) (fun x y h => (ev193 x).trans h)

/-! ### 191: laws.eqKeyS -/
abbrev T_laws_eqKeyS_4 : Type := List E_Key × List E_Key × Int
noncomputable def S_laws_eqKeyS_4 {R : Type} (k0 : Bool → Option R) (k1 : Unit → Option R) (again : T_laws_eqKeyS_4 → Option R) (t4 : T_laws_eqKeyS_4) : Option R :=
  bif (decide (t4.2.2 < ((List.length t4.1 : Nat) : Int))) then if (0 : Int) ≤ t4.2.2 then if t4.2.2 < ((List.length t4.1 : Nat) : Int) then if (0 : Int) ≤ t4.2.2 then if t4.2.2 < ((List.length t4.2.1 : Nat) : Int) then Option.bind (F_laws_eqKey ((rd_Key t4.1 t4.2.2).1, (rd_Key t4.1 t4.2.2).2.1, (rd_Key t4.1 t4.2.2).2.2.1, (rd_Key t4.1 t4.2.2).2.2.2.1, (rd_Key t4.1 t4.2.2).2.2.2.2, (rd_Key t4.2.1 t4.2.2).1, (rd_Key t4.2.1 t4.2.2).2.1, (rd_Key t4.2.1 t4.2.2).2.2.1, (rd_Key t4.2.1 t4.2.2).2.2.2.1, (rd_Key t4.2.1 t4.2.2).2.2.2.2)) fun r1 => bif (!r1) then k0 false else again (t4.1, t4.2.1, (Go.IntKind.wrap .i64 (t4.2.2 + (1 : Int)))) else none else none else none else none else k1 ()
noncomputable def L_laws_eqKeyS_4 {R : Type} (k0 : Bool → Option R) (k1 : Unit → Option R) (t : T_laws_eqKeyS_4) : Option R := iter (S_laws_eqKeyS_4 k0 k1) FUEL t
noncomputable def F_laws_eqKeyS (x : List E_Key × List E_Key) : Option (Bool) :=
  bif (((List.length x.1 : Nat) : Int) != ((List.length x.2 : Nat) : Int)) then some false else L_laws_eqKeyS_4 (fun x2 => some x2) (fun x3 => some true) (x.1, x.2, (0 : Int))
noncomputable def f191B : Code := match Try.f191.body with
  | some c => c
  | none => .skip
noncomputable def f191K : C.Sem := tab [⟨193, F_laws_eqKey⟩]
def f191h4_0 : List Sh := [.v (.sl 216 ts_Key), .v (.sl 216 ts_Key), .dead, .dead, .dead, .v (.int .i64), .dead, .dead, .dead, .dead, .dead, .dead, .dead, .dead, .dead, .dead, .dead, .dead, .dead, .dead, .dead, .dead, .dead, .dead, .dead, .dead, .dead]
def f191o4_0 : List (Nat × OSh) := []
def f191e4_0 (t : List E_Key × List E_Key × Int) : St := mkS f191h4_0 f191o4_0 ((t.1, t.2.1, (), (), (), t.2.2, (), (), (), (), (), (), (), (), (), (), (), (), (), (), (), (), (), (), (), (), (), ()), ())
def f191g4_0 : List Sh := [.dead, .dead, .dead, .dead, .v .bool, .dead, .dead, .dead, .dead, .dead, .dead, .dead, .dead, .dead, .dead, .dead, .dead, .dead, .dead, .dead, .dead, .dead, .dead, .dead, .dead, .dead, .dead]
def f191p4_0 : List (Nat × OSh) := []
def f191x4_0 (t : Bool) : St := mkS f191g4_0 f191p4_0 (((), (), (), (), t, (), (), (), (), (), (), (), (), (), (), (), (), (), (), (), (), (), (), (), (), (), (), ()), ())
def f191g4_1 : List Sh := [.dead, .dead, .dead, .dead, .dead, .dead, .dead, .dead, .dead, .dead, .dead, .dead, .dead, .dead, .dead, .dead, .dead, .dead, .dead, .dead, .dead, .dead, .dead, .dead, .dead, .dead, .dead]
def f191p4_1 : List (Nat × OSh) := []
def f191x4_1 (t : Unit) : St := mkS f191g4_1 f191p4_1 (((), (), (), (), (), (), (), (), (), (), (), (), (), (), (), (), (), (), (), (), (), (), (), (), (), (), (), ()), ())
def f191u4_0 (s : St) : Option (List E_Key × List E_Key × Int) := (unS f191h4_0 f191o4_0 s).map fun v => (v.1.1, v.1.2.1, v.1.2.2.2.2.2.1)
theorem f191un4_0 : ∀ (s : St) (t : List E_Key × List E_Key × Int), f191u4_0 s = some t → f191e4_0 t = s := fun s v h => by
  obtain ⟨u, hu, rfl⟩ := Option.map_eq_some_iff.1 h
  exact mkS_un f191h4_0 f191o4_0 s u hu
def f191u4 : St → Option (List E_Key × List E_Key × Int) := f191u4_0
def f191e4 : (List E_Key × List E_Key × Int) → St := f191e4_0
theorem f191un4 : ∀ (s : St) (t : List E_Key × List E_Key × Int), f191u4 s = some t → f191e4 t = s := f191un4_0
noncomputable def f191P : Lp := fun i s {_R} κ => bif Nat.beq i 4 then (f191u4 s).bind fun t => L_laws_eqKeyS_4 (fun t => κ (none) (f191x4_0 t)) (fun t => κ (some 0) (f191x4_1 t)) t else none
noncomputable def f191c4 : Code := (loopsOf f191B).getD 0 .skip
theorem f191A4 : C.live 191 (firstRegion f191c4) = some ([0, 1, 5], [4]) := by kernel_rfl
theorem f191B4 {R : Type} (κ : Option Nat → St → Option R) (s : St) : f191P (firstRegion f191c4) s κ = (f191u4 s).bind fun t => iter (S_laws_eqKeyS_4 (fun t => κ (none) (f191x4_0 t)) (fun t => κ (some 0) (f191x4_1 t))) FUEL t := by kernel_rfl
theorem f191C4 {R : Type} (κ : Option Nat → St → Option R) (again : St → Option R) (t : T_laws_eqKeyS_4) : stepL C f191K f191P 191 f191c4 [0, 1, 5] [4] κ again (f191e4 t) = S_laws_eqKeyS_4 (fun t => κ (none) (f191x4_0 t)) (fun t => κ (some 0) (f191x4_1 t)) (fun t => again (f191e4 t)) t := by kernel_rfl
theorem f191ok4 : LoopOk C f191K f191P 191 f191c4 := loop_ok f191A4 f191e4 f191u4 f191un4 (fun {_R} κ => S_laws_eqKeyS_4 (fun t => κ (none) (f191x4_0 t)) (fun t => κ (some 0) (f191x4_1 t))) (fun {_R} κ s => f191B4 κ s) (fun {_R} κ again t => f191C4 κ again t)
theorem k191 : Contract C Try.prog f191K := contract_tab _ (fun p hp => by
    simp only [List.mem_cons, List.mem_nil_iff, or_false] at hp
    rcases hp with rfl
    · exact ok193)
theorem ev191 (x : List E_Key × List E_Key) : evalB C f191K f191P 191 Try.f191 f191B ⟨[.v false [(.sl 216 ts_Key)] [false], .v false [(.sl 216 ts_Key)] [false]], [⟨false, [.bool], [false]⟩]⟩ [(.sl 216 ts_Key), (.sl 216 ts_Key)] [.bool] x = F_laws_eqKeyS x := by kernel_rfl
theorem ok191 : ContractAt C Try.prog 191 F_laws_eqKeyS := fn_sound (lp := f191P) tok mixed k191 (fn := Try.f191) (c := f191B) (sg := ⟨[.v false [(.sl 216 ts_Key)] [false], .v false [(.sl 216 ts_Key)] [false]], [⟨false, [.bool], [false]⟩]⟩) Try.func191 (by decide) (by kernel_rfl) (by kernel_rfl) (by kernel_rfl) (fun c' hc' => by
    rw [show loopsOf f191B = [f191c4] by kernel_rfl] at hc'
    simp only [List.mem_cons, List.mem_nil_iff, or_false] at hc'
    rcases hc' with rfl
    · exact f191ok4) (by decide) (by decide) (fun x y h => (ev191 x).trans h)

/-! ### 184: laws.eqKeySS -/
abbrev T_laws_eqKeySS_4 : Type := List E_s_Key × List E_s_Key × Int
noncomputable def S_laws_eqKeySS_4 {R : Type} (k0 : Bool → Option R) (k1 : Unit → Option R) (again : T_laws_eqKeySS_4 → Option R) (t4 : T_laws_eqKeySS_4) : Option R :=
  bif (decide (t4.2.2 < ((List.length t4.1 : Nat) : Int))) then if (0 : Int) ≤ t4.2.2 then if t4.2.2 < ((List.length t4.1 : Nat) : Int) then if (0 : Int) ≤ t4.2.2 then if t4.2.2 < ((List.length t4.2.1 : Nat) : Int) then Option.bind (F_laws_eqKeyS ((rd_s_Key t4.1 t4.2.2), (rd_s_Key t4.2.1 t4.2.2))) fun r1 => bif (!r1) then k0 false else again (t4.1, t4.2.1, (Go.IntKind.wrap .i64 (t4.2.2 + (1 : Int)))) else none else none else none else none else k1 ()
noncomputable def L_laws_eqKeySS_4 {R : Type} (k0 : Bool → Option R) (k1 : Unit → Option R) (t : T_laws_eqKeySS_4) : Option R := iter (S_laws_eqKeySS_4 k0 k1) FUEL t
noncomputable def F_laws_eqKeySS (x : List E_s_Key × List E_s_Key) : Option (Bool) :=
  bif (((List.length x.1 : Nat) : Int) != ((List.length x.2 : Nat) : Int)) then some false else L_laws_eqKeySS_4 (fun x2 => some x2) (fun x3 => some true) (x.1, x.2, (0 : Int))
noncomputable def f184B : Code := match Try.f184.body with
  | some c => c
  | none => .skip
noncomputable def f184K : C.Sem := tab [⟨191, F_laws_eqKeyS⟩]
def f184h4_0 : List Sh := [.v (.sl 141 ts_s_Key), .v (.sl 141 ts_s_Key), .dead, .dead, .dead, .v (.int .i64), .dead, .dead, .dead, .dead, .dead, .dead, .dead, .dead, .dead, .dead, .dead, .dead, .dead, .dead, .dead, .dead, .dead, .dead, .dead, .dead, .dead]
def f184o4_0 : List (Nat × OSh) := []
def f184e4_0 (t : List E_s_Key × List E_s_Key × Int) : St := mkS f184h4_0 f184o4_0 ((t.1, t.2.1, (), (), (), t.2.2, (), (), (), (), (), (), (), (), (), (), (), (), (), (), (), (), (), (), (), (), (), ()), ())
def f184g4_0 : List Sh := [.dead, .dead, .dead, .dead, .v .bool, .dead, .dead, .dead, .dead, .dead, .dead, .dead, .dead, .dead, .dead, .dead, .dead, .dead, .dead, .dead, .dead, .dead, .dead, .dead, .dead, .dead, .dead]
def f184p4_0 : List (Nat × OSh) := []
def f184x4_0 (t : Bool) : St := mkS f184g4_0 f184p4_0 (((), (), (), (), t, (), (), (), (), (), (), (), (), (), (), (), (), (), (), (), (), (), (), (), (), (), (), ()), ())
def f184g4_1 : List Sh := [.dead, .dead, .dead, .dead, .dead, .dead, .dead, .dead, .dead, .dead, .dead, .dead, .dead, .dead, .dead, .dead, .dead, .dead, .dead, .dead, .dead, .dead, .dead, .dead, .dead, .dead, .dead]
def f184p4_1 : List (Nat × OSh) := []
def f184x4_1 (t : Unit) : St := mkS f184g4_1 f184p4_1 (((), (), (), (), (), (), (), (), (), (), (), (), (), (), (), (), (), (), (), (), (), (), (), (), (), (), (), ()), ())
def f184u4_0 (s : St) : Option (List E_s_Key × List E_s_Key × Int) := (unS f184h4_0 f184o4_0 s).map fun v => (v.1.1, v.1.2.1, v.1.2.2.2.2.2.1)
theorem f184un4_0 : ∀ (s : St) (t : List E_s_Key × List E_s_Key × Int), f184u4_0 s = some t → f184e4_0 t = s := fun s v h => by
  obtain ⟨u, hu, rfl⟩ := Option.map_eq_some_iff.1 h
  exact mkS_un f184h4_0 f184o4_0 s u hu
def f184u4 : St → Option (List E_s_Key × List E_s_Key × Int) := f184u4_0
def f184e4 : (List E_s_Key × List E_s_Key × Int) → St := f184e4_0
theorem f184un4 : ∀ (s : St) (t : List E_s_Key × List E_s_Key × Int), f184u4 s = some t → f184e4 t = s := f184un4_0
noncomputable def f184P : Lp := fun i s {_R} κ => bif Nat.beq i 4 then (f184u4 s).bind fun t => L_laws_eqKeySS_4 (fun t => κ (none) (f184x4_0 t)) (fun t => κ (some 0) (f184x4_1 t)) t else none
noncomputable def f184c4 : Code := (loopsOf f184B).getD 0 .skip
theorem f184A4 : C.live 184 (firstRegion f184c4) = some ([0, 1, 5], [4]) := by kernel_rfl
theorem f184B4 {R : Type} (κ : Option Nat → St → Option R) (s : St) : f184P (firstRegion f184c4) s κ = (f184u4 s).bind fun t => iter (S_laws_eqKeySS_4 (fun t => κ (none) (f184x4_0 t)) (fun t => κ (some 0) (f184x4_1 t))) FUEL t := by kernel_rfl
theorem f184C4 {R : Type} (κ : Option Nat → St → Option R) (again : St → Option R) (t : T_laws_eqKeySS_4) : stepL C f184K f184P 184 f184c4 [0, 1, 5] [4] κ again (f184e4 t) = S_laws_eqKeySS_4 (fun t => κ (none) (f184x4_0 t)) (fun t => κ (some 0) (f184x4_1 t)) (fun t => again (f184e4 t)) t := by kernel_rfl
theorem f184ok4 : LoopOk C f184K f184P 184 f184c4 := loop_ok f184A4 f184e4 f184u4 f184un4 (fun {_R} κ => S_laws_eqKeySS_4 (fun t => κ (none) (f184x4_0 t)) (fun t => κ (some 0) (f184x4_1 t))) (fun {_R} κ s => f184B4 κ s) (fun {_R} κ again t => f184C4 κ again t)
theorem k184 : Contract C Try.prog f184K := contract_tab _ (fun p hp => by
    simp only [List.mem_cons, List.mem_nil_iff, or_false] at hp
    rcases hp with rfl
    · exact ok191)
theorem ev184 (x : List E_s_Key × List E_s_Key) : evalB C f184K f184P 184 Try.f184 f184B ⟨[.v false [(.sl 141 ts_s_Key)] [false], .v false [(.sl 141 ts_s_Key)] [false]], [⟨false, [.bool], [false]⟩]⟩ [(.sl 141 ts_s_Key), (.sl 141 ts_s_Key)] [.bool] x = F_laws_eqKeySS x := by kernel_rfl
theorem ok184 : ContractAt C Try.prog 184 F_laws_eqKeySS := fn_sound (lp := f184P) tok mixed k184 (fn := Try.f184) (c := f184B) (sg := ⟨[.v false [(.sl 141 ts_s_Key)] [false], .v false [(.sl 141 ts_s_Key)] [false]], [⟨false, [.bool], [false]⟩]⟩) Try.func184 (by decide) (by kernel_rfl) (by kernel_rfl) (by kernel_rfl) (fun c' hc' => by
    rw [show loopsOf f184B = [f184c4] by kernel_rfl] at hc'
    simp only [List.mem_cons, List.mem_nil_iff, or_false] at hc'
    rcases hc' with rfl
    · exact f184ok4) (by decide) (by decide) (fun x y h => (ev184 x).trans h)

/-! ### 177: laws.eqNode -/
noncomputable def F_laws_eqNode (x : List E_s_Key × List E_s_Key) : Option (Bool) :=
  Option.bind (F_laws_eqKeySS (x.1, x.2)) fun r1 => bif (!r1) then some false else some true
noncomputable def f177B : Code := match Try.f177.body with
  | some c => c
  | none => .skip
noncomputable def f177K : C.Sem := tab [⟨184, F_laws_eqKeySS⟩]
noncomputable def f177P : Lp := fun i s {_R} κ => none
theorem k177 : Contract C Try.prog f177K := contract_tab _ (fun p hp => by
    simp only [List.mem_cons, List.mem_nil_iff, or_false] at hp
    rcases hp with rfl
    · exact ok184)
theorem ev177 (x : List E_s_Key × List E_s_Key) : evalB C f177K f177P 177 Try.f177 f177B ⟨[.v true [(.sl 141 ts_s_Key)] [false], .v true [(.sl 141 ts_s_Key)] [false]], [⟨false, [.bool], [false]⟩]⟩ [(.sl 141 ts_s_Key), (.sl 141 ts_s_Key)] [.bool] x = F_laws_eqNode x := by kernel_rfl
theorem ok177 : ContractAt C Try.prog 177 F_laws_eqNode := fn_sound (lp := f177P) tok mixed k177 (fn := Try.f177) (c := f177B) (sg := ⟨[.v true [(.sl 141 ts_s_Key)] [false], .v true [(.sl 141 ts_s_Key)] [false]], [⟨false, [.bool], [false]⟩]⟩) Try.func177 (by decide) (by kernel_rfl) (by kernel_rfl) (by kernel_rfl) (fun c' hc' => by
    rw [show loopsOf f177B = [] by kernel_rfl] at hc'
    cases hc') (by decide) (by decide) (fun x y h => (ev177 x).trans h)

/-! ### 158: laws.eqNodeS -/
abbrev T_laws_eqNodeS_4 : Type := List E_Node × List E_Node × Int
noncomputable def S_laws_eqNodeS_4 {R : Type} (k0 : Bool → Option R) (k1 : Unit → Option R) (again : T_laws_eqNodeS_4 → Option R) (t4 : T_laws_eqNodeS_4) : Option R :=
  bif (decide (t4.2.2 < ((List.length t4.1 : Nat) : Int))) then if (0 : Int) ≤ t4.2.2 then if t4.2.2 < ((List.length t4.1 : Nat) : Int) then if (0 : Int) ≤ t4.2.2 then if t4.2.2 < ((List.length t4.2.1 : Nat) : Int) then Option.bind (F_laws_eqNode ((rd_Node t4.1 t4.2.2), (rd_Node t4.2.1 t4.2.2))) fun r1 => bif (!r1) then k0 false else again (t4.1, t4.2.1, (Go.IntKind.wrap .i64 (t4.2.2 + (1 : Int)))) else none else none else none else none else k1 ()
noncomputable def L_laws_eqNodeS_4 {R : Type} (k0 : Bool → Option R) (k1 : Unit → Option R) (t : T_laws_eqNodeS_4) : Option R := iter (S_laws_eqNodeS_4 k0 k1) FUEL t
noncomputable def F_laws_eqNodeS (x : List E_Node × List E_Node) : Option (Bool) :=
  bif (((List.length x.1 : Nat) : Int) != ((List.length x.2 : Nat) : Int)) then some false else L_laws_eqNodeS_4 (fun x2 => some x2) (fun x3 => some true) (x.1, x.2, (0 : Int))
noncomputable def f158B : Code := match Try.f158.body with
  | some c => c
  | none => .skip
noncomputable def f158K : C.Sem := tab [⟨177, F_laws_eqNode⟩]
def f158h4_0 : List Sh := [.v (.sl 181 ts_Node), .v (.sl 181 ts_Node), .dead, .dead, .dead, .v (.int .i64), .dead, .dead, .dead, .dead, .dead, .dead, .dead, .dead, .dead, .dead, .dead, .dead, .dead, .dead, .dead, .dead, .dead, .dead, .dead, .dead, .dead]
def f158o4_0 : List (Nat × OSh) := []
def f158e4_0 (t : List E_Node × List E_Node × Int) : St := mkS f158h4_0 f158o4_0 ((t.1, t.2.1, (), (), (), t.2.2, (), (), (), (), (), (), (), (), (), (), (), (), (), (), (), (), (), (), (), (), (), ()), ())
def f158g4_0 : List Sh := [.dead, .dead, .dead, .dead, .v .bool, .dead, .dead, .dead, .dead, .dead, .dead, .dead, .dead, .dead, .dead, .dead, .dead, .dead, .dead, .dead, .dead, .dead, .dead, .dead, .dead, .dead, .dead]
def f158p4_0 : List (Nat × OSh) := []
def f158x4_0 (t : Bool) : St := mkS f158g4_0 f158p4_0 (((), (), (), (), t, (), (), (), (), (), (), (), (), (), (), (), (), (), (), (), (), (), (), (), (), (), (), ()), ())
def f158g4_1 : List Sh := [.dead, .dead, .dead, .dead, .dead, .dead, .dead, .dead, .dead, .dead, .dead, .dead, .dead, .dead, .dead, .dead, .dead, .dead, .dead, .dead, .dead, .dead, .dead, .dead, .dead, .dead, .dead]
def f158p4_1 : List (Nat × OSh) := []
def f158x4_1 (t : Unit) : St := mkS f158g4_1 f158p4_1 (((), (), (), (), (), (), (), (), (), (), (), (), (), (), (), (), (), (), (), (), (), (), (), (), (), (), (), ()), ())
def f158u4_0 (s : St) : Option (List E_Node × List E_Node × Int) := (unS f158h4_0 f158o4_0 s).map fun v => (v.1.1, v.1.2.1, v.1.2.2.2.2.2.1)
theorem f158un4_0 : ∀ (s : St) (t : List E_Node × List E_Node × Int), f158u4_0 s = some t → f158e4_0 t = s := fun s v h => by
  obtain ⟨u, hu, rfl⟩ := Option.map_eq_some_iff.1 h
  exact mkS_un f158h4_0 f158o4_0 s u hu
def f158u4 : St → Option (List E_Node × List E_Node × Int) := f158u4_0
def f158e4 : (List E_Node × List E_Node × Int) → St := f158e4_0
theorem f158un4 : ∀ (s : St) (t : List E_Node × List E_Node × Int), f158u4 s = some t → f158e4 t = s := f158un4_0
noncomputable def f158P : Lp := fun i s {_R} κ => bif Nat.beq i 4 then (f158u4 s).bind fun t => L_laws_eqNodeS_4 (fun t => κ (none) (f158x4_0 t)) (fun t => κ (some 0) (f158x4_1 t)) t else none
noncomputable def f158c4 : Code := (loopsOf f158B).getD 0 .skip
theorem f158A4 : C.live 158 (firstRegion f158c4) = some ([0, 1, 5], [4]) := by kernel_rfl
theorem f158B4 {R : Type} (κ : Option Nat → St → Option R) (s : St) : f158P (firstRegion f158c4) s κ = (f158u4 s).bind fun t => iter (S_laws_eqNodeS_4 (fun t => κ (none) (f158x4_0 t)) (fun t => κ (some 0) (f158x4_1 t))) FUEL t := by kernel_rfl
theorem f158C4 {R : Type} (κ : Option Nat → St → Option R) (again : St → Option R) (t : T_laws_eqNodeS_4) : stepL C f158K f158P 158 f158c4 [0, 1, 5] [4] κ again (f158e4 t) = S_laws_eqNodeS_4 (fun t => κ (none) (f158x4_0 t)) (fun t => κ (some 0) (f158x4_1 t)) (fun t => again (f158e4 t)) t := by kernel_rfl
theorem f158ok4 : LoopOk C f158K f158P 158 f158c4 := loop_ok f158A4 f158e4 f158u4 f158un4 (fun {_R} κ => S_laws_eqNodeS_4 (fun t => κ (none) (f158x4_0 t)) (fun t => κ (some 0) (f158x4_1 t))) (fun {_R} κ s => f158B4 κ s) (fun {_R} κ again t => f158C4 κ again t)
theorem k158 : Contract C Try.prog f158K := contract_tab _ (fun p hp => by
    simp only [List.mem_cons, List.mem_nil_iff, or_false] at hp
    rcases hp with rfl
    · exact ok177)
theorem ev158 (x : List E_Node × List E_Node) : evalB C f158K f158P 158 Try.f158 f158B ⟨[.v false [(.sl 181 ts_Node)] [false], .v false [(.sl 181 ts_Node)] [false]], [⟨false, [.bool], [false]⟩]⟩ [(.sl 181 ts_Node), (.sl 181 ts_Node)] [.bool] x = F_laws_eqNodeS x := by kernel_rfl
theorem ok158 : ContractAt C Try.prog 158 F_laws_eqNodeS := fn_sound (lp := f158P) tok mixed k158 (fn := Try.f158) (c := f158B) (sg := ⟨[.v false [(.sl 181 ts_Node)] [false], .v false [(.sl 181 ts_Node)] [false]], [⟨false, [.bool], [false]⟩]⟩) Try.func158 (by decide) (by kernel_rfl) (by kernel_rfl) (by kernel_rfl) (fun c' hc' => by
    rw [show loopsOf f158B = [f158c4] by kernel_rfl] at hc'
    simp only [List.mem_cons, List.mem_nil_iff, or_false] at hc'
    rcases hc' with rfl
    · exact f158ok4) (by decide) (by decide) (fun x y h => (ev158 x).trans h)

/-! ### 121: laws.eqTree -/
noncomputable def F_laws_eqTree (x : List E_i64 × List E_Node × List E_i64 × List E_Node) : Option (Bool) :=
  Option.bind (F_laws_eqIntS (x.1, x.2.2.1)) fun r1 => bif (!r1) then some false else Option.bind (F_laws_eqNodeS (x.2.1, x.2.2.2)) fun r2 => bif (!r2) then some false else some true
noncomputable def f121B : Code := match Try.f121.body with
  | some c => c
  | none => .skip
noncomputable def f121K : C.Sem := tab [⟨157, F_laws_eqIntS⟩, ⟨158, F_laws_eqNodeS⟩]
noncomputable def f121P : Lp := fun i s {_R} κ => none
theorem k121 : Contract C Try.prog f121K := contract_tab _ (fun p hp => by
    simp only [List.mem_cons, List.mem_nil_iff, or_false] at hp
    rcases hp with rfl | rfl
    · exact ok157
    · exact ok158)
theorem ev121 (x : List E_i64 × List E_Node × List E_i64 × List E_Node) : evalB C f121K f121P 121 Try.f121 f121B ⟨[.v true [(.sl 3 ts_i64), (.sl 181 ts_Node)] [false, false], .v true [(.sl 3 ts_i64), (.sl 181 ts_Node)] [false, false]], [⟨false, [.bool], [false]⟩]⟩ [(.sl 3 ts_i64), (.sl 181 ts_Node), (.sl 3 ts_i64), (.sl 181 ts_Node)] [.bool] x = F_laws_eqTree x := by kernel_rfl
theorem ok121 : ContractAt C Try.prog 121 F_laws_eqTree := fn_sound (lp := f121P) tok mixed k121 (fn := Try.f121) (c := f121B) (sg := ⟨[.v true [(.sl 3 ts_i64), (.sl 181 ts_Node)] [false, false], .v true [(.sl 3 ts_i64), (.sl 181 ts_Node)] [false, false]], [⟨false, [.bool], [false]⟩]⟩) Try.func121 (by decide) (by kernel_rfl) (by kernel_rfl) (by kernel_rfl) (fun c' hc' => by
    rw [show loopsOf f121B = [] by kernel_rfl] at hc'
    cases hc') (by decide) (by decide) (fun x y h => (ev121 x).trans h)

/-! ### 159: laws.eqAge -/
noncomputable def F_laws_eqAge (x : Int × Int × Int × Int) : Option (Bool) :=
  bif (x.1 != x.2.2.1) then some false else bif (x.2.1 != x.2.2.2) then some false else some true
noncomputable def f159B : Code := match Try.f159.body with
  | some c => c
  | none => .skip
noncomputable def f159K : C.Sem := tab []
noncomputable def f159P : Lp := fun i s {_R} κ => none
theorem k159 : Contract C Try.prog f159K := contract_tab _ (fun p hp => by cases hp)
theorem ev159 (x : Int × Int × Int × Int) : evalB C f159K f159P 159 Try.f159 f159B ⟨[.v true [(.int .i64), (.int .i64)] [false, false], .v true [(.int .i64), (.int .i64)] [false, false]], [⟨false, [.bool], [false]⟩]⟩ [(.int .i64), (.int .i64), (.int .i64), (.int .i64)] [.bool] x = F_laws_eqAge x := by kernel_rfl
theorem ok159 : ContractAt C Try.prog 159 F_laws_eqAge := fn_sound (lp := f159P) tok mixed k159 (fn := Try.f159) (c := f159B) (sg := ⟨[.v true [(.int .i64), (.int .i64)] [false, false], .v true [(.int .i64), (.int .i64)] [false, false]], [⟨false, [.bool], [false]⟩]⟩) Try.func159 (by decide) (by kernel_rfl) (by kernel_rfl) (by kernel_rfl) (fun c' hc' => by
    rw [show loopsOf f159B = [] by kernel_rfl] at hc'
    cases hc') (by decide) (by decide) (fun x y h => (ev159 x).trans h)

/-! ### 122: laws.eqAgeS -/
abbrev T_laws_eqAgeS_4 : Type := List E_Age × List E_Age × Int
noncomputable def S_laws_eqAgeS_4 {R : Type} (k0 : Bool → Option R) (k1 : Unit → Option R) (again : T_laws_eqAgeS_4 → Option R) (t4 : T_laws_eqAgeS_4) : Option R :=
  bif (decide (t4.2.2 < ((List.length t4.1 : Nat) : Int))) then if (0 : Int) ≤ t4.2.2 then if t4.2.2 < ((List.length t4.1 : Nat) : Int) then if (0 : Int) ≤ t4.2.2 then if t4.2.2 < ((List.length t4.2.1 : Nat) : Int) then Option.bind (F_laws_eqAge ((rd_Age t4.1 t4.2.2).1, (rd_Age t4.1 t4.2.2).2, (rd_Age t4.2.1 t4.2.2).1, (rd_Age t4.2.1 t4.2.2).2)) fun r1 => bif (!r1) then k0 false else again (t4.1, t4.2.1, (Go.IntKind.wrap .i64 (t4.2.2 + (1 : Int)))) else none else none else none else none else k1 ()
noncomputable def L_laws_eqAgeS_4 {R : Type} (k0 : Bool → Option R) (k1 : Unit → Option R) (t : T_laws_eqAgeS_4) : Option R := iter (S_laws_eqAgeS_4 k0 k1) FUEL t
noncomputable def F_laws_eqAgeS (x : List E_Age × List E_Age) : Option (Bool) :=
  bif (((List.length x.1 : Nat) : Int) != ((List.length x.2 : Nat) : Int)) then some false else L_laws_eqAgeS_4 (fun x2 => some x2) (fun x3 => some true) (x.1, x.2, (0 : Int))
noncomputable def f122B : Code := match Try.f122.body with
  | some c => c
  | none => .skip
noncomputable def f122K : C.Sem := tab [⟨159, F_laws_eqAge⟩]
def f122h4_0 : List Sh := [.v (.sl 185 ts_Age), .v (.sl 185 ts_Age), .dead, .dead, .dead, .v (.int .i64), .dead, .dead, .dead, .dead, .dead, .dead, .dead, .dead, .dead, .dead, .dead, .dead, .dead, .dead, .dead, .dead, .dead, .dead, .dead, .dead, .dead]
def f122o4_0 : List (Nat × OSh) := []
def f122e4_0 (t : List E_Age × List E_Age × Int) : St := mkS f122h4_0 f122o4_0 ((t.1, t.2.1, (), (), (), t.2.2, (), (), (), (), (), (), (), (), (), (), (), (), (), (), (), (), (), (), (), (), (), ()), ())
def f122g4_0 : List Sh := [.dead, .dead, .dead, .dead, .v .bool, .dead, .dead, .dead, .dead, .dead, .dead, .dead, .dead, .dead, .dead, .dead, .dead, .dead, .dead, .dead, .dead, .dead, .dead, .dead, .dead, .dead, .dead]
def f122p4_0 : List (Nat × OSh) := []
def f122x4_0 (t : Bool) : St := mkS f122g4_0 f122p4_0 (((), (), (), (), t, (), (), (), (), (), (), (), (), (), (), (), (), (), (), (), (), (), (), (), (), (), (), ()), ())
def f122g4_1 : List Sh := [.dead, .dead, .dead, .dead, .dead, .dead, .dead, .dead, .dead, .dead, .dead, .dead, .dead, .dead, .dead, .dead, .dead, .dead, .dead, .dead, .dead, .dead, .dead, .dead, .dead, .dead, .dead]
def f122p4_1 : List (Nat × OSh) := []
def f122x4_1 (t : Unit) : St := mkS f122g4_1 f122p4_1 (((), (), (), (), (), (), (), (), (), (), (), (), (), (), (), (), (), (), (), (), (), (), (), (), (), (), (), ()), ())
def f122u4_0 (s : St) : Option (List E_Age × List E_Age × Int) := (unS f122h4_0 f122o4_0 s).map fun v => (v.1.1, v.1.2.1, v.1.2.2.2.2.2.1)
theorem f122un4_0 : ∀ (s : St) (t : List E_Age × List E_Age × Int), f122u4_0 s = some t → f122e4_0 t = s := fun s v h => by
  obtain ⟨u, hu, rfl⟩ := Option.map_eq_some_iff.1 h
  exact mkS_un f122h4_0 f122o4_0 s u hu
def f122u4 : St → Option (List E_Age × List E_Age × Int) := f122u4_0
def f122e4 : (List E_Age × List E_Age × Int) → St := f122e4_0
theorem f122un4 : ∀ (s : St) (t : List E_Age × List E_Age × Int), f122u4 s = some t → f122e4 t = s := f122un4_0
noncomputable def f122P : Lp := fun i s {_R} κ => bif Nat.beq i 4 then (f122u4 s).bind fun t => L_laws_eqAgeS_4 (fun t => κ (none) (f122x4_0 t)) (fun t => κ (some 0) (f122x4_1 t)) t else none
noncomputable def f122c4 : Code := (loopsOf f122B).getD 0 .skip
theorem f122A4 : C.live 122 (firstRegion f122c4) = some ([0, 1, 5], [4]) := by kernel_rfl
theorem f122B4 {R : Type} (κ : Option Nat → St → Option R) (s : St) : f122P (firstRegion f122c4) s κ = (f122u4 s).bind fun t => iter (S_laws_eqAgeS_4 (fun t => κ (none) (f122x4_0 t)) (fun t => κ (some 0) (f122x4_1 t))) FUEL t := by kernel_rfl
theorem f122C4 {R : Type} (κ : Option Nat → St → Option R) (again : St → Option R) (t : T_laws_eqAgeS_4) : stepL C f122K f122P 122 f122c4 [0, 1, 5] [4] κ again (f122e4 t) = S_laws_eqAgeS_4 (fun t => κ (none) (f122x4_0 t)) (fun t => κ (some 0) (f122x4_1 t)) (fun t => again (f122e4 t)) t := by kernel_rfl
theorem f122ok4 : LoopOk C f122K f122P 122 f122c4 := loop_ok f122A4 f122e4 f122u4 f122un4 (fun {_R} κ => S_laws_eqAgeS_4 (fun t => κ (none) (f122x4_0 t)) (fun t => κ (some 0) (f122x4_1 t))) (fun {_R} κ s => f122B4 κ s) (fun {_R} κ again t => f122C4 κ again t)
theorem k122 : Contract C Try.prog f122K := contract_tab _ (fun p hp => by
    simp only [List.mem_cons, List.mem_nil_iff, or_false] at hp
    rcases hp with rfl
    · exact ok159)
theorem ev122 (x : List E_Age × List E_Age) : evalB C f122K f122P 122 Try.f122 f122B ⟨[.v false [(.sl 185 ts_Age)] [false], .v false [(.sl 185 ts_Age)] [false]], [⟨false, [.bool], [false]⟩]⟩ [(.sl 185 ts_Age), (.sl 185 ts_Age)] [.bool] x = F_laws_eqAgeS x := by kernel_rfl
theorem ok122 : ContractAt C Try.prog 122 F_laws_eqAgeS := fn_sound (lp := f122P) tok mixed k122 (fn := Try.f122) (c := f122B) (sg := ⟨[.v false [(.sl 185 ts_Age)] [false], .v false [(.sl 185 ts_Age)] [false]], [⟨false, [.bool], [false]⟩]⟩) Try.func122 (by decide) (by kernel_rfl) (by kernel_rfl) (by kernel_rfl) (fun c' hc' => by
    rw [show loopsOf f122B = [f122c4] by kernel_rfl] at hc'
    simp only [List.mem_cons, List.mem_nil_iff, or_false] at hc'
    rcases hc' with rfl
    · exact f122ok4) (by decide) (by decide) (fun x y h => (ev122 x).trans h)

/-! ### 160: laws.eqCell -/
noncomputable def F_laws_eqCell (x : Int × Bool × Int × Int × Bool × Int) : Option (Bool) :=
  bif (x.1 != x.2.2.2.1) then some false else bif (!(x.2.1 == x.2.2.2.2.1)) then some false else bif (x.2.2.1 != x.2.2.2.2.2) then some false else some true
noncomputable def f160B : Code := match Try.f160.body with
  | some c => c
  | none => .skip
noncomputable def f160K : C.Sem := tab []
noncomputable def f160P : Lp := fun i s {_R} κ => none
theorem k160 : Contract C Try.prog f160K := contract_tab _ (fun p hp => by cases hp)
theorem ev160 (x : Int × Bool × Int × Int × Bool × Int) : evalB C f160K f160P 160 Try.f160 f160B ⟨[.v true [(.int .i64), .bool, (.int .i64)] [false, false, false], .v true [(.int .i64), .bool, (.int .i64)] [false, false, false]], [⟨false, [.bool], [false]⟩]⟩ [(.int .i64), .bool, (.int .i64), (.int .i64), .bool, (.int .i64)] [.bool] x = F_laws_eqCell x := by kernel_rfl
theorem ok160 : ContractAt C Try.prog 160 F_laws_eqCell := fn_sound (lp := f160P) tok mixed k160 (fn := Try.f160) (c := f160B) (sg := ⟨[.v true [(.int .i64), .bool, (.int .i64)] [false, false, false], .v true [(.int .i64), .bool, (.int .i64)] [false, false, false]], [⟨false, [.bool], [false]⟩]⟩) Try.func160 (by decide) (by kernel_rfl) (by kernel_rfl) (by kernel_rfl) (fun c' hc' => by
    rw [show loopsOf f160B = [] by kernel_rfl] at hc'
    cases hc') (by decide) (by decide) (fun x y h => (ev160 x).trans h)

/-! ### 123: laws.eqCellS -/
abbrev T_laws_eqCellS_4 : Type := List E_Cell × List E_Cell × Int
noncomputable def S_laws_eqCellS_4 {R : Type} (k0 : Bool → Option R) (k1 : Unit → Option R) (again : T_laws_eqCellS_4 → Option R) (t4 : T_laws_eqCellS_4) : Option R :=
  bif (decide (t4.2.2 < ((List.length t4.1 : Nat) : Int))) then if (0 : Int) ≤ t4.2.2 then if t4.2.2 < ((List.length t4.1 : Nat) : Int) then if (0 : Int) ≤ t4.2.2 then if t4.2.2 < ((List.length t4.2.1 : Nat) : Int) then Option.bind (F_laws_eqCell ((rd_Cell t4.1 t4.2.2).1, (rd_Cell t4.1 t4.2.2).2.1, (rd_Cell t4.1 t4.2.2).2.2, (rd_Cell t4.2.1 t4.2.2).1, (rd_Cell t4.2.1 t4.2.2).2.1, (rd_Cell t4.2.1 t4.2.2).2.2)) fun r1 => bif (!r1) then k0 false else again (t4.1, t4.2.1, (Go.IntKind.wrap .i64 (t4.2.2 + (1 : Int)))) else none else none else none else none else k1 ()
noncomputable def L_laws_eqCellS_4 {R : Type} (k0 : Bool → Option R) (k1 : Unit → Option R) (t : T_laws_eqCellS_4) : Option R := iter (S_laws_eqCellS_4 k0 k1) FUEL t
noncomputable def F_laws_eqCellS (x : List E_Cell × List E_Cell) : Option (Bool) :=
  bif (((List.length x.1 : Nat) : Int) != ((List.length x.2 : Nat) : Int)) then some false else L_laws_eqCellS_4 (fun x2 => some x2) (fun x3 => some true) (x.1, x.2, (0 : Int))
noncomputable def f123B : Code := match Try.f123.body with
  | some c => c
  | none => .skip
noncomputable def f123K : C.Sem := tab [⟨160, F_laws_eqCell⟩]
def f123h4_0 : List Sh := [.v (.sl 189 ts_Cell), .v (.sl 189 ts_Cell), .dead, .dead, .dead, .v (.int .i64), .dead, .dead, .dead, .dead, .dead, .dead, .dead, .dead, .dead, .dead, .dead, .dead, .dead, .dead, .dead, .dead, .dead, .dead, .dead, .dead, .dead]
def f123o4_0 : List (Nat × OSh) := []
def f123e4_0 (t : List E_Cell × List E_Cell × Int) : St := mkS f123h4_0 f123o4_0 ((t.1, t.2.1, (), (), (), t.2.2, (), (), (), (), (), (), (), (), (), (), (), (), (), (), (), (), (), (), (), (), (), ()), ())
def f123g4_0 : List Sh := [.dead, .dead, .dead, .dead, .v .bool, .dead, .dead, .dead, .dead, .dead, .dead, .dead, .dead, .dead, .dead, .dead, .dead, .dead, .dead, .dead, .dead, .dead, .dead, .dead, .dead, .dead, .dead]
def f123p4_0 : List (Nat × OSh) := []
def f123x4_0 (t : Bool) : St := mkS f123g4_0 f123p4_0 (((), (), (), (), t, (), (), (), (), (), (), (), (), (), (), (), (), (), (), (), (), (), (), (), (), (), (), ()), ())
def f123g4_1 : List Sh := [.dead, .dead, .dead, .dead, .dead, .dead, .dead, .dead, .dead, .dead, .dead, .dead, .dead, .dead, .dead, .dead, .dead, .dead, .dead, .dead, .dead, .dead, .dead, .dead, .dead, .dead, .dead]
def f123p4_1 : List (Nat × OSh) := []
def f123x4_1 (t : Unit) : St := mkS f123g4_1 f123p4_1 (((), (), (), (), (), (), (), (), (), (), (), (), (), (), (), (), (), (), (), (), (), (), (), (), (), (), (), ()), ())
def f123u4_0 (s : St) : Option (List E_Cell × List E_Cell × Int) := (unS f123h4_0 f123o4_0 s).map fun v => (v.1.1, v.1.2.1, v.1.2.2.2.2.2.1)
theorem f123un4_0 : ∀ (s : St) (t : List E_Cell × List E_Cell × Int), f123u4_0 s = some t → f123e4_0 t = s := fun s v h => by
  obtain ⟨u, hu, rfl⟩ := Option.map_eq_some_iff.1 h
  exact mkS_un f123h4_0 f123o4_0 s u hu
def f123u4 : St → Option (List E_Cell × List E_Cell × Int) := f123u4_0
def f123e4 : (List E_Cell × List E_Cell × Int) → St := f123e4_0
theorem f123un4 : ∀ (s : St) (t : List E_Cell × List E_Cell × Int), f123u4 s = some t → f123e4 t = s := f123un4_0
noncomputable def f123P : Lp := fun i s {_R} κ => bif Nat.beq i 4 then (f123u4 s).bind fun t => L_laws_eqCellS_4 (fun t => κ (none) (f123x4_0 t)) (fun t => κ (some 0) (f123x4_1 t)) t else none
noncomputable def f123c4 : Code := (loopsOf f123B).getD 0 .skip
theorem f123A4 : C.live 123 (firstRegion f123c4) = some ([0, 1, 5], [4]) := by kernel_rfl
theorem f123B4 {R : Type} (κ : Option Nat → St → Option R) (s : St) : f123P (firstRegion f123c4) s κ = (f123u4 s).bind fun t => iter (S_laws_eqCellS_4 (fun t => κ (none) (f123x4_0 t)) (fun t => κ (some 0) (f123x4_1 t))) FUEL t := by kernel_rfl
theorem f123C4 {R : Type} (κ : Option Nat → St → Option R) (again : St → Option R) (t : T_laws_eqCellS_4) : stepL C f123K f123P 123 f123c4 [0, 1, 5] [4] κ again (f123e4 t) = S_laws_eqCellS_4 (fun t => κ (none) (f123x4_0 t)) (fun t => κ (some 0) (f123x4_1 t)) (fun t => again (f123e4 t)) t := by kernel_rfl
theorem f123ok4 : LoopOk C f123K f123P 123 f123c4 := loop_ok f123A4 f123e4 f123u4 f123un4 (fun {_R} κ => S_laws_eqCellS_4 (fun t => κ (none) (f123x4_0 t)) (fun t => κ (some 0) (f123x4_1 t))) (fun {_R} κ s => f123B4 κ s) (fun {_R} κ again t => f123C4 κ again t)
theorem k123 : Contract C Try.prog f123K := contract_tab _ (fun p hp => by
    simp only [List.mem_cons, List.mem_nil_iff, or_false] at hp
    rcases hp with rfl
    · exact ok160)
theorem ev123 (x : List E_Cell × List E_Cell) : evalB C f123K f123P 123 Try.f123 f123B ⟨[.v false [(.sl 189 ts_Cell)] [false], .v false [(.sl 189 ts_Cell)] [false]], [⟨false, [.bool], [false]⟩]⟩ [(.sl 189 ts_Cell), (.sl 189 ts_Cell)] [.bool] x = F_laws_eqCellS x := by kernel_rfl
theorem ok123 : ContractAt C Try.prog 123 F_laws_eqCellS := fn_sound (lp := f123P) tok mixed k123 (fn := Try.f123) (c := f123B) (sg := ⟨[.v false [(.sl 189 ts_Cell)] [false], .v false [(.sl 189 ts_Cell)] [false]], [⟨false, [.bool], [false]⟩]⟩) Try.func123 (by decide) (by kernel_rfl) (by kernel_rfl) (by kernel_rfl) (fun c' hc' => by
    rw [show loopsOf f123B = [f123c4] by kernel_rfl] at hc'
    simp only [List.mem_cons, List.mem_nil_iff, or_false] at hc'
    rcases hc' with rfl
    · exact f123ok4) (by decide) (by decide) (fun x y h => (ev123 x).trans h)

/-! ### 161: laws.eqVol -/
noncomputable def F_laws_eqVol (x : ByteArray × Int × Int × Bool × ByteArray × Int × Int × Bool) : Option (Bool) :=
  bif (!((ByteArray.toList x.1) == (ByteArray.toList x.2.2.2.2.1))) then some false else bif (x.2.1 != x.2.2.2.2.2.1) then some false else bif (x.2.2.1 != x.2.2.2.2.2.2.1) then some false else bif (!(x.2.2.2.1 == x.2.2.2.2.2.2.2)) then some false else some true
noncomputable def f161B : Code := match Try.f161.body with
  | some c => c
  | none => .skip
noncomputable def f161K : C.Sem := tab []
noncomputable def f161P : Lp := fun i s {_R} κ => none
theorem k161 : Contract C Try.prog f161K := contract_tab _ (fun p hp => by cases hp)
theorem ev161 (x : ByteArray × Int × Int × Bool × ByteArray × Int × Int × Bool) : evalB C f161K f161P 161 Try.f161 f161B ⟨[.v true [.str, (.int .i64), (.int .i64), .bool] [false, false, false, false], .v true [.str, (.int .i64), (.int .i64), .bool] [false, false, false, false]], [⟨false, [.bool], [false]⟩]⟩ [.str, (.int .i64), (.int .i64), .bool, .str, (.int .i64), (.int .i64), .bool] [.bool] x = F_laws_eqVol x := by kernel_rfl
theorem ok161 : ContractAt C Try.prog 161 F_laws_eqVol := fn_sound (lp := f161P) tok mixed k161 (fn := Try.f161) (c := f161B) (sg := ⟨[.v true [.str, (.int .i64), (.int .i64), .bool] [false, false, false, false], .v true [.str, (.int .i64), (.int .i64), .bool] [false, false, false, false]], [⟨false, [.bool], [false]⟩]⟩) Try.func161 (by decide) (by kernel_rfl) (by kernel_rfl) (by kernel_rfl) (fun c' hc' => by
    rw [show loopsOf f161B = [] by kernel_rfl] at hc'
    cases hc') (by decide) (by decide) (fun x y h => (ev161 x).trans h)

/-! ### 124: laws.eqVolS -/
abbrev T_laws_eqVolS_4 : Type := List E_Vol × List E_Vol × Int
noncomputable def S_laws_eqVolS_4 {R : Type} (k0 : Bool → Option R) (k1 : Unit → Option R) (again : T_laws_eqVolS_4 → Option R) (t4 : T_laws_eqVolS_4) : Option R :=
  bif (decide (t4.2.2 < ((List.length t4.1 : Nat) : Int))) then if (0 : Int) ≤ t4.2.2 then if t4.2.2 < ((List.length t4.1 : Nat) : Int) then if (0 : Int) ≤ t4.2.2 then if t4.2.2 < ((List.length t4.2.1 : Nat) : Int) then Option.bind (F_laws_eqVol ((rd_Vol t4.1 t4.2.2).1, (rd_Vol t4.1 t4.2.2).2.1, (rd_Vol t4.1 t4.2.2).2.2.1, (rd_Vol t4.1 t4.2.2).2.2.2, (rd_Vol t4.2.1 t4.2.2).1, (rd_Vol t4.2.1 t4.2.2).2.1, (rd_Vol t4.2.1 t4.2.2).2.2.1, (rd_Vol t4.2.1 t4.2.2).2.2.2)) fun r1 => bif (!r1) then k0 false else again (t4.1, t4.2.1, (Go.IntKind.wrap .i64 (t4.2.2 + (1 : Int)))) else none else none else none else none else k1 ()
noncomputable def L_laws_eqVolS_4 {R : Type} (k0 : Bool → Option R) (k1 : Unit → Option R) (t : T_laws_eqVolS_4) : Option R := iter (S_laws_eqVolS_4 k0 k1) FUEL t
noncomputable def F_laws_eqVolS (x : List E_Vol × List E_Vol) : Option (Bool) :=
  bif (((List.length x.1 : Nat) : Int) != ((List.length x.2 : Nat) : Int)) then some false else L_laws_eqVolS_4 (fun x2 => some x2) (fun x3 => some true) (x.1, x.2, (0 : Int))
noncomputable def f124B : Code := match Try.f124.body with
  | some c => c
  | none => .skip
noncomputable def f124K : C.Sem := tab [⟨161, F_laws_eqVol⟩]
def f124h4_0 : List Sh := [.v (.sl 192 ts_Vol), .v (.sl 192 ts_Vol), .dead, .dead, .dead, .v (.int .i64), .dead, .dead, .dead, .dead, .dead, .dead, .dead, .dead, .dead, .dead, .dead, .dead, .dead, .dead, .dead, .dead, .dead, .dead, .dead, .dead, .dead]
def f124o4_0 : List (Nat × OSh) := []
def f124e4_0 (t : List E_Vol × List E_Vol × Int) : St := mkS f124h4_0 f124o4_0 ((t.1, t.2.1, (), (), (), t.2.2, (), (), (), (), (), (), (), (), (), (), (), (), (), (), (), (), (), (), (), (), (), ()), ())
def f124g4_0 : List Sh := [.dead, .dead, .dead, .dead, .v .bool, .dead, .dead, .dead, .dead, .dead, .dead, .dead, .dead, .dead, .dead, .dead, .dead, .dead, .dead, .dead, .dead, .dead, .dead, .dead, .dead, .dead, .dead]
def f124p4_0 : List (Nat × OSh) := []
def f124x4_0 (t : Bool) : St := mkS f124g4_0 f124p4_0 (((), (), (), (), t, (), (), (), (), (), (), (), (), (), (), (), (), (), (), (), (), (), (), (), (), (), (), ()), ())
def f124g4_1 : List Sh := [.dead, .dead, .dead, .dead, .dead, .dead, .dead, .dead, .dead, .dead, .dead, .dead, .dead, .dead, .dead, .dead, .dead, .dead, .dead, .dead, .dead, .dead, .dead, .dead, .dead, .dead, .dead]
def f124p4_1 : List (Nat × OSh) := []
def f124x4_1 (t : Unit) : St := mkS f124g4_1 f124p4_1 (((), (), (), (), (), (), (), (), (), (), (), (), (), (), (), (), (), (), (), (), (), (), (), (), (), (), (), ()), ())
def f124u4_0 (s : St) : Option (List E_Vol × List E_Vol × Int) := (unS f124h4_0 f124o4_0 s).map fun v => (v.1.1, v.1.2.1, v.1.2.2.2.2.2.1)
theorem f124un4_0 : ∀ (s : St) (t : List E_Vol × List E_Vol × Int), f124u4_0 s = some t → f124e4_0 t = s := fun s v h => by
  obtain ⟨u, hu, rfl⟩ := Option.map_eq_some_iff.1 h
  exact mkS_un f124h4_0 f124o4_0 s u hu
def f124u4 : St → Option (List E_Vol × List E_Vol × Int) := f124u4_0
def f124e4 : (List E_Vol × List E_Vol × Int) → St := f124e4_0
theorem f124un4 : ∀ (s : St) (t : List E_Vol × List E_Vol × Int), f124u4 s = some t → f124e4 t = s := f124un4_0
noncomputable def f124P : Lp := fun i s {_R} κ => bif Nat.beq i 4 then (f124u4 s).bind fun t => L_laws_eqVolS_4 (fun t => κ (none) (f124x4_0 t)) (fun t => κ (some 0) (f124x4_1 t)) t else none
noncomputable def f124c4 : Code := (loopsOf f124B).getD 0 .skip
theorem f124A4 : C.live 124 (firstRegion f124c4) = some ([0, 1, 5], [4]) := by kernel_rfl
theorem f124B4 {R : Type} (κ : Option Nat → St → Option R) (s : St) : f124P (firstRegion f124c4) s κ = (f124u4 s).bind fun t => iter (S_laws_eqVolS_4 (fun t => κ (none) (f124x4_0 t)) (fun t => κ (some 0) (f124x4_1 t))) FUEL t := by kernel_rfl
theorem f124C4 {R : Type} (κ : Option Nat → St → Option R) (again : St → Option R) (t : T_laws_eqVolS_4) : stepL C f124K f124P 124 f124c4 [0, 1, 5] [4] κ again (f124e4 t) = S_laws_eqVolS_4 (fun t => κ (none) (f124x4_0 t)) (fun t => κ (some 0) (f124x4_1 t)) (fun t => again (f124e4 t)) t := by kernel_rfl
theorem f124ok4 : LoopOk C f124K f124P 124 f124c4 := loop_ok f124A4 f124e4 f124u4 f124un4 (fun {_R} κ => S_laws_eqVolS_4 (fun t => κ (none) (f124x4_0 t)) (fun t => κ (some 0) (f124x4_1 t))) (fun {_R} κ s => f124B4 κ s) (fun {_R} κ again t => f124C4 κ again t)
theorem k124 : Contract C Try.prog f124K := contract_tab _ (fun p hp => by
    simp only [List.mem_cons, List.mem_nil_iff, or_false] at hp
    rcases hp with rfl
    · exact ok161)
theorem ev124 (x : List E_Vol × List E_Vol) : evalB C f124K f124P 124 Try.f124 f124B ⟨[.v false [(.sl 192 ts_Vol)] [false], .v false [(.sl 192 ts_Vol)] [false]], [⟨false, [.bool], [false]⟩]⟩ [(.sl 192 ts_Vol), (.sl 192 ts_Vol)] [.bool] x = F_laws_eqVolS x := by kernel_rfl
theorem ok124 : ContractAt C Try.prog 124 F_laws_eqVolS := fn_sound (lp := f124P) tok mixed k124 (fn := Try.f124) (c := f124B) (sg := ⟨[.v false [(.sl 192 ts_Vol)] [false], .v false [(.sl 192 ts_Vol)] [false]], [⟨false, [.bool], [false]⟩]⟩) Try.func124 (by decide) (by kernel_rfl) (by kernel_rfl) (by kernel_rfl) (fun c' hc' => by
    rw [show loopsOf f124B = [f124c4] by kernel_rfl] at hc'
    simp only [List.mem_cons, List.mem_nil_iff, or_false] at hc'
    rcases hc' with rfl
    · exact f124ok4) (by decide) (by decide) (fun x y h => (ev124 x).trans h)

/-! ### 55: laws.eqPool -/
noncomputable def F_laws_eqPool (x : List E_i64 × List E_Node × List E_Age × List E_Cell × List E_Vol × Int × List E_i64 × List E_Node × List E_Age × List E_Cell × List E_Vol × Int) : Option (Bool) :=
  Option.bind (F_laws_eqTree (x.1, x.2.1, x.2.2.2.2.2.2.1, x.2.2.2.2.2.2.2.1)) fun r1 => bif (!r1) then some false else Option.bind (F_laws_eqAgeS (x.2.2.1, x.2.2.2.2.2.2.2.2.1)) fun r2 => bif (!r2) then some false else Option.bind (F_laws_eqCellS (x.2.2.2.1, x.2.2.2.2.2.2.2.2.2.1)) fun r3 => bif (!r3) then some false else Option.bind (F_laws_eqVolS (x.2.2.2.2.1, x.2.2.2.2.2.2.2.2.2.2.1)) fun r4 => bif (!r4) then some false else bif (x.2.2.2.2.2.1 != x.2.2.2.2.2.2.2.2.2.2.2) then some false else some true
noncomputable def f55B : Code := match Try.f55.body with
  | some c => c
  | none => .skip
noncomputable def f55K : C.Sem := tab [⟨121, F_laws_eqTree⟩, ⟨122, F_laws_eqAgeS⟩, ⟨123, F_laws_eqCellS⟩, ⟨124, F_laws_eqVolS⟩]
noncomputable def f55P : Lp := fun i s {_R} κ => none
theorem k55 : Contract C Try.prog f55K := contract_tab _ (fun p hp => by
    simp only [List.mem_cons, List.mem_nil_iff, or_false] at hp
    rcases hp with rfl | rfl | rfl | rfl
    · exact ok121
    · exact ok122
    · exact ok123
    · exact ok124)
theorem ev55 (x : List E_i64 × List E_Node × List E_Age × List E_Cell × List E_Vol × Int × List E_i64 × List E_Node × List E_Age × List E_Cell × List E_Vol × Int) : evalB C f55K f55P 55 Try.f55 f55B ⟨[.v true [(.sl 3 ts_i64), (.sl 181 ts_Node), (.sl 185 ts_Age), (.sl 189 ts_Cell), (.sl 192 ts_Vol), (.int .i64)] [false, false, false, false, false, false], .v true [(.sl 3 ts_i64), (.sl 181 ts_Node), (.sl 185 ts_Age), (.sl 189 ts_Cell), (.sl 192 ts_Vol), (.int .i64)] [false, false, false, false, false, false]], [⟨false, [.bool], [false]⟩]⟩ [(.sl 3 ts_i64), (.sl 181 ts_Node), (.sl 185 ts_Age), (.sl 189 ts_Cell), (.sl 192 ts_Vol), (.int .i64), (.sl 3 ts_i64), (.sl 181 ts_Node), (.sl 185 ts_Age), (.sl 189 ts_Cell), (.sl 192 ts_Vol), (.int .i64)] [.bool] x = F_laws_eqPool x := by kernel_rfl
theorem ok55 : ContractAt C Try.prog 55 F_laws_eqPool := fn_sound (lp := f55P) tok mixed k55 (fn := Try.f55) (c := f55B) (sg := ⟨[.v true [(.sl 3 ts_i64), (.sl 181 ts_Node), (.sl 185 ts_Age), (.sl 189 ts_Cell), (.sl 192 ts_Vol), (.int .i64)] [false, false, false, false, false, false], .v true [(.sl 3 ts_i64), (.sl 181 ts_Node), (.sl 185 ts_Age), (.sl 189 ts_Cell), (.sl 192 ts_Vol), (.int .i64)] [false, false, false, false, false, false]], [⟨false, [.bool], [false]⟩]⟩) Try.func55 (by decide) (by kernel_rfl) (by kernel_rfl) (by kernel_rfl) (fun c' hc' => by
    rw [show loopsOf f55B = [] by kernel_rfl] at hc'
    cases hc') (by decide) (by decide) (fun x y h => (ev55 x).trans h)

/-! ### 9: laws.FnExactBound -/
noncomputable def F_laws_FnExactBound (x : List E_i64 × List E_LNode × List E_LAge × List E_LCell × List E_LVol × Int) : Option (Bool) :=
  Option.bind (F_laws_szPool (x.1, x.2.1, x.2.2.1, x.2.2.2.1, x.2.2.2.2.1, x.2.2.2.2.2, (1048576 : Int))) fun r1 => bif (decide (r1 < (0 : Int))) then some true else Option.bind (F_laws_toPool (x.1, x.2.1, x.2.2.1, x.2.2.2.1, x.2.2.2.2.1, x.2.2.2.2.2)) fun r2 => Option.bind (F_spec_Bound (r2.1, r2.2.1, r2.2.2.1, r2.2.2.2.1, r2.2.2.2.2.1, r2.2.2.2.2.2)) fun r3 => Option.bind (F_laws_toPool (x.1, x.2.1, x.2.2.1, x.2.2.2.1, x.2.2.2.2.1, x.2.2.2.2.2)) fun r4 => Option.bind (F_impl_Bound (r4.1, r4.2.1, r4.2.2.1, r4.2.2.2.1, r4.2.2.2.2.1, r4.2.2.2.2.2)) fun r5 => bif (r5 != r3) then some false else Option.bind (F_laws_toPool (x.1, x.2.1, x.2.2.1, x.2.2.2.1, x.2.2.2.2.1, x.2.2.2.2.2)) fun r6 => Option.bind (F_laws_eqPool (r4.1, r4.2.1, r4.2.2.1, r4.2.2.2.1, r4.2.2.2.2.1, r4.2.2.2.2.2, r6.1, r6.2.1, r6.2.2.1, r6.2.2.2.1, r6.2.2.2.2.1, r6.2.2.2.2.2)) fun r7 => bif (!r7) then some false else some true
noncomputable def f9B : Code := match Try.f9.body with
  | some c => c
  | none => .skip
noncomputable def f9K : C.Sem := tab [⟨51, F_laws_szPool⟩, ⟨52, F_spec_Bound⟩, ⟨53, F_laws_toPool⟩, ⟨54, F_impl_Bound⟩, ⟨55, F_laws_eqPool⟩]
noncomputable def f9P : Lp := fun i s {_R} κ => none
theorem k9 : Contract C Try.prog f9K := contract_tab _ (fun p hp => by
    simp only [List.mem_cons, List.mem_nil_iff, or_false] at hp
    rcases hp with rfl | rfl | rfl | rfl | rfl
    · exact ok51
    · exact ok52
    · exact ok53
    · exact ok54
    · exact ok55)
theorem ev9 (x : List E_i64 × List E_LNode × List E_LAge × List E_LCell × List E_LVol × Int) : evalB C f9K f9P 9 Try.f9 f9B ⟨[.v true [(.sl 3 ts_i64), (.sl 207 ts_LNode), (.sl 187 ts_LAge), (.sl 191 ts_LCell), (.sl 177 ts_LVol), (.int .i64)] [false, false, false, false, false, false]], [⟨false, [.bool], [false]⟩]⟩ [(.sl 3 ts_i64), (.sl 207 ts_LNode), (.sl 187 ts_LAge), (.sl 191 ts_LCell), (.sl 177 ts_LVol), (.int .i64)] [.bool] x = F_laws_FnExactBound x := by kernel_rfl
theorem ok9 : ContractAt C Try.prog 9 F_laws_FnExactBound := fn_sound (lp := f9P) tok mixed k9 (fn := Try.f9) (c := f9B) (sg := ⟨[.v true [(.sl 3 ts_i64), (.sl 207 ts_LNode), (.sl 187 ts_LAge), (.sl 191 ts_LCell), (.sl 177 ts_LVol), (.int .i64)] [false, false, false, false, false, false]], [⟨false, [.bool], [false]⟩]⟩) Try.func9 (by decide) (by kernel_rfl) (by kernel_rfl) (by kernel_rfl) (fun c' hc' => by
    rw [show loopsOf f9B = [] by kernel_rfl] at hc'
    cases hc') (by decide) (by decide) (fun x y h => (ev9 x).trans h)
end Go.Proofs.Ytmanmgafjbnakaa.XB
