/- What functions compute, and that they do; part 0 of O; by a program (dec.py). No condition. -/
import Derived.Test.YtmofdkmggfdciaaGreatXO
set_option linter.all false
namespace Go.Proofs.YtmofdkmggfdciaaGreat.XO
open Go.Proofs.YtmofdkmggfdciaaGreat.R
set_option maxRecDepth 100000
noncomputable def F_laws_szIntS (x : List E_i64 × Int) : Option (Int) :=
  bif (decide ((Go.IntKind.wrap .i64 (x.2 - ((List.length x.1 : Nat) : Int))) < (0 : Int))) then some (-1 : Int) else some (Go.IntKind.wrap .i64 (x.2 - ((List.length x.1 : Nat) : Int)))
noncomputable def f105B : Code := match Tryz.f105.body with
  | some c => c
  | none => .skip
noncomputable def f105K : C.Sem := tab []
noncomputable def f105P : Lp := fun i s {_R} κ => none
theorem k105 : Contract C Tryz.prog f105K := contract_tab _ (fun p hp => by cases hp)
theorem ev105 (x : List E_i64 × Int) : evalB C f105K f105P 105 Tryz.f105 f105B ⟨[.v false [(.sl 3 ts_i64)] [false], .v false [(.int .i64)] [false]], [⟨false, [(.int .i64)], [false]⟩], false⟩ [(.sl 3 ts_i64), (.int .i64)] [(.int .i64)] x = F_laws_szIntS x := by kernel_rfl
theorem ok105 : ContractAt C Tryz.prog 105 F_laws_szIntS := fn_sound (lp := f105P) tok mixed k105 (by kernel_rfl) (fn := Tryz.f105) (c := f105B) (sg := ⟨[.v false [(.sl 3 ts_i64)] [false], .v false [(.int .i64)] [false]], [⟨false, [(.int .i64)], [false]⟩], false⟩) Tryz.func105 (by decide) (by kernel_rfl) (by kernel_rfl) (by kernel_rfl) (fun c' hc' => by
    rw [show loopsOf f105B = [] by kernel_rfl] at hc'
    cases hc') (by decide) (by decide) (fun x y h => (ev105 x).trans h)
noncomputable def F_laws_szKeyS (x : List E_LKey × Int) : Option (Int) :=
  bif (decide ((Go.IntKind.wrap .i64 (x.2 - ((List.length x.1 : Nat) : Int))) < (0 : Int))) then some (-1 : Int) else some (Go.IntKind.wrap .i64 (x.2 - ((List.length x.1 : Nat) : Int)))
noncomputable def f256B : Code := match Tryz.f256.body with
  | some c => c
  | none => .skip
noncomputable def f256K : C.Sem := tab []
noncomputable def f256P : Lp := fun i s {_R} κ => none
theorem k256 : Contract C Tryz.prog f256K := contract_tab _ (fun p hp => by cases hp)
theorem ev256 (x : List E_LKey × Int) : evalB C f256K f256P 256 Tryz.f256 f256B ⟨[.v false [(.sl 264 ts_LKey)] [false], .v false [(.int .i64)] [false]], [⟨false, [(.int .i64)], [false]⟩], false⟩ [(.sl 264 ts_LKey), (.int .i64)] [(.int .i64)] x = F_laws_szKeyS x := by kernel_rfl
theorem ok256 : ContractAt C Tryz.prog 256 F_laws_szKeyS := fn_sound (lp := f256P) tok mixed k256 (by kernel_rfl) (fn := Tryz.f256) (c := f256B) (sg := ⟨[.v false [(.sl 264 ts_LKey)] [false], .v false [(.int .i64)] [false]], [⟨false, [(.int .i64)], [false]⟩], false⟩) Tryz.func256 (by decide) (by kernel_rfl) (by kernel_rfl) (by kernel_rfl) (fun c' hc' => by
    rw [show loopsOf f256B = [] by kernel_rfl] at hc'
    cases hc') (by decide) (by decide) (fun x y h => (ev256 x).trans h)
abbrev T_laws_szKeySS_5 : Type := List E_s_LKey × Int × Int
noncomputable def S_laws_szKeySS_5 {R : Type} (k0 : (Int × Int) → Option R) (k1 : Int → Option R) (again : T_laws_szKeySS_5 → Option R) (t5 : T_laws_szKeySS_5) : Option R :=
  bif (decide (t5.2.2 < ((List.length t5.1 : Nat) : Int))) then if (0 : Int) ≤ t5.2.2 then if t5.2.2 < ((List.length t5.1 : Nat) : Int) then Option.bind (F_laws_szKeyS ((rd_s_LKey t5.1 t5.2.2), t5.2.1)) fun r1 => bif (decide (r1 < (0 : Int))) then k0 (r1, (-1 : Int)) else again (t5.1, r1, (Go.IntKind.wrap .i64 (t5.2.2 + (1 : Int)))) else none else none else k1 t5.2.1
noncomputable def L_laws_szKeySS_5 {R : Type} (k0 : (Int × Int) → Option R) (k1 : Int → Option R) (t : T_laws_szKeySS_5) : Option R := iter (S_laws_szKeySS_5 k0 k1) FUEL t
noncomputable def F_laws_szKeySS (x : List E_s_LKey × Int) : Option (Int) :=
  bif (decide ((Go.IntKind.wrap .i64 (x.2 - ((List.length x.1 : Nat) : Int))) < (0 : Int))) then some (-1 : Int) else L_laws_szKeySS_5 (fun x2 => some x2.2) (fun x3 => some x3) (x.1, (Go.IntKind.wrap .i64 (x.2 - ((List.length x.1 : Nat) : Int))), (0 : Int))
noncomputable def f222B : Code := match Tryz.f222.body with
  | some c => c
  | none => .skip
noncomputable def f222K : C.Sem := tab [⟨256, F_laws_szKeyS⟩]
def f222h5_0 : List Sh := [.v (.sl 253 ts_s_LKey), .v (.int .i64), .dead, .dead, .dead, .v (.int .i64), .dead, .dead, .dead, .dead, .dead, .dead, .dead, .dead, .dead, .dead, .dead, .dead, .dead, .dead, .dead, .dead, .dead, .dead, .dead, .dead, .dead]
def f222o5_0 : List (Nat × OSh) := []
def f222e5_0 (t : List E_s_LKey × Int × Int) : St := ⟨[.val (.sl 253 ts_s_LKey) t.1, .val (.int .i64) t.2.1, .dead, .dead, .dead, .val (.int .i64) t.2.2, .dead, .dead, .dead, .dead, .dead, .dead, .dead, .dead, .dead, .dead, .dead, .dead, .dead, .dead, .dead, .dead, .dead, .dead, .dead, .dead, .dead], []⟩
def f222x5_0 (t : Int × Int) : St := ⟨[.dead, .val (.int .i64) t.1, .dead, .dead, .val (.int .i64) t.2, .dead, .dead, .dead, .dead, .dead, .dead, .dead, .dead, .dead, .dead, .dead, .dead, .dead, .dead, .dead, .dead, .dead, .dead, .dead, .dead, .dead, .dead], []⟩
def f222x5_1 (t : Int) : St := ⟨[.dead, .val (.int .i64) t, .dead, .dead, .dead, .dead, .dead, .dead, .dead, .dead, .dead, .dead, .dead, .dead, .dead, .dead, .dead, .dead, .dead, .dead, .dead, .dead, .dead, .dead, .dead, .dead, .dead], []⟩
def f222u5_0 (s : St) : Option (List E_s_LKey × Int × Int) := (unS f222h5_0 f222o5_0 s).map fun v => (v.1.1, v.1.2.1, v.1.2.2.2.2.2.1)
theorem f222un5_0 : ∀ (s : St) (t : List E_s_LKey × Int × Int), f222u5_0 s = some t → f222e5_0 t = s := fun s v h => by
  obtain ⟨u, hu, rfl⟩ := Option.map_eq_some_iff.1 h
  exact (show f222e5_0 (u.1.1, u.1.2.1, u.1.2.2.2.2.2.1) = mkS f222h5_0 f222o5_0 u by kernel_rfl).trans (mkS_un f222h5_0 f222o5_0 s u hu)
def f222u5 : St → Option (List E_s_LKey × Int × Int) := f222u5_0
def f222e5 : (List E_s_LKey × Int × Int) → St := f222e5_0
theorem f222un5 : ∀ (s : St) (t : List E_s_LKey × Int × Int), f222u5 s = some t → f222e5 t = s := f222un5_0
noncomputable def f222P : Lp := fun i s {_R} κ => bif Nat.beq i 5 then (f222u5 s).bind fun t => L_laws_szKeySS_5 (fun t => κ (none) (f222x5_0 t)) (fun t => κ (some 0) (f222x5_1 t)) t else none
noncomputable def f222c5 : Code := (loopsOf f222B).getD 0 .skip
theorem f222A5 : C.live 222 (firstRegion f222c5) = some ([0, 1, 5], [1, 4]) := by kernel_rfl
theorem f222B5 {R : Type} (κ : Option Nat → St → Option R) (s : St) : f222P (firstRegion f222c5) s κ = (f222u5 s).bind fun t => iter (S_laws_szKeySS_5 (fun t => κ (none) (f222x5_0 t)) (fun t => κ (some 0) (f222x5_1 t))) FUEL t := by kernel_rfl
theorem f222C5 {R : Type} (κ : Option Nat → St → Option R) (again : St → Option R) (t : T_laws_szKeySS_5) : stepL C f222K f222P 222 f222c5 [0, 1, 5] [1, 4] κ again (f222e5 t) = S_laws_szKeySS_5 (fun t => κ (none) (f222x5_0 t)) (fun t => κ (some 0) (f222x5_1 t)) (fun t => again (f222e5 t)) t := by kernel_rfl
theorem f222ok5 : LoopOk C f222K f222P 222 f222c5 := loop_ok f222A5 f222e5 f222u5 f222un5 (fun {_R} κ => S_laws_szKeySS_5 (fun t => κ (none) (f222x5_0 t)) (fun t => κ (some 0) (f222x5_1 t))) (fun {_R} κ s => f222B5 κ s) (fun {_R} κ again t => f222C5 κ again t)
theorem k222 : Contract C Tryz.prog f222K := contract_tab _ (fun p hp => by
    simp only [List.mem_cons, List.mem_nil_iff, or_false] at hp
    rcases hp with rfl
    · exact ok256)
theorem ev222 (x : List E_s_LKey × Int) : evalB C f222K f222P 222 Tryz.f222 f222B ⟨[.v false [(.sl 253 ts_s_LKey)] [false], .v false [(.int .i64)] [false]], [⟨false, [(.int .i64)], [false]⟩], false⟩ [(.sl 253 ts_s_LKey), (.int .i64)] [(.int .i64)] x = F_laws_szKeySS x := by kernel_rfl
theorem ok222 : ContractAt C Tryz.prog 222 F_laws_szKeySS := fn_sound (lp := f222P) tok mixed k222 (by kernel_rfl) (fn := Tryz.f222) (c := f222B) (sg := ⟨[.v false [(.sl 253 ts_s_LKey)] [false], .v false [(.int .i64)] [false]], [⟨false, [(.int .i64)], [false]⟩], false⟩) Tryz.func222 (by decide) (by kernel_rfl) (by kernel_rfl) (by kernel_rfl) (fun c' hc' => by
    rw [show loopsOf f222B = [f222c5] by kernel_rfl] at hc'
    simp only [List.mem_cons, List.mem_nil_iff, or_false] at hc'
    rcases hc' with rfl
    · exact f222ok5) (by decide) (by decide) (fun x y h => (ev222 x).trans h)
noncomputable def F_laws_szNode (x : List E_s_LKey × Int) : Option (Int) :=
  Option.bind (F_laws_szKeySS (x.1, x.2)) fun r1 => bif (decide (r1 < (0 : Int))) then some (-1 : Int) else some r1
noncomputable def f174B : Code := match Tryz.f174.body with
  | some c => c
  | none => .skip
noncomputable def f174K : C.Sem := tab [⟨222, F_laws_szKeySS⟩]
noncomputable def f174P : Lp := fun i s {_R} κ => none
theorem k174 : Contract C Tryz.prog f174K := contract_tab _ (fun p hp => by
    simp only [List.mem_cons, List.mem_nil_iff, or_false] at hp
    rcases hp with rfl
    · exact ok222)
theorem ev174 (x : List E_s_LKey × Int) : evalB C f174K f174P 174 Tryz.f174 f174B ⟨[.v true [(.sl 253 ts_s_LKey)] [false], .v false [(.int .i64)] [false]], [⟨false, [(.int .i64)], [false]⟩], false⟩ [(.sl 253 ts_s_LKey), (.int .i64)] [(.int .i64)] x = F_laws_szNode x := by kernel_rfl
theorem ok174 : ContractAt C Tryz.prog 174 F_laws_szNode := fn_sound (lp := f174P) tok mixed k174 (by kernel_rfl) (fn := Tryz.f174) (c := f174B) (sg := ⟨[.v true [(.sl 253 ts_s_LKey)] [false], .v false [(.int .i64)] [false]], [⟨false, [(.int .i64)], [false]⟩], false⟩) Tryz.func174 (by decide) (by kernel_rfl) (by kernel_rfl) (by kernel_rfl) (fun c' hc' => by
    rw [show loopsOf f174B = [] by kernel_rfl] at hc'
    cases hc') (by decide) (by decide) (fun x y h => (ev174 x).trans h)
abbrev T_laws_szNodeS_5 : Type := List E_LNode × Int × Int
noncomputable def S_laws_szNodeS_5 {R : Type} (k0 : (Int × Int) → Option R) (k1 : Int → Option R) (again : T_laws_szNodeS_5 → Option R) (t5 : T_laws_szNodeS_5) : Option R :=
  bif (decide (t5.2.2 < ((List.length t5.1 : Nat) : Int))) then if (0 : Int) ≤ t5.2.2 then if t5.2.2 < ((List.length t5.1 : Nat) : Int) then Option.bind (F_laws_szNode ((rd_LNode t5.1 t5.2.2), t5.2.1)) fun r1 => bif (decide (r1 < (0 : Int))) then k0 (r1, (-1 : Int)) else again (t5.1, r1, (Go.IntKind.wrap .i64 (t5.2.2 + (1 : Int)))) else none else none else k1 t5.2.1
noncomputable def L_laws_szNodeS_5 {R : Type} (k0 : (Int × Int) → Option R) (k1 : Int → Option R) (t : T_laws_szNodeS_5) : Option R := iter (S_laws_szNodeS_5 k0 k1) FUEL t
noncomputable def F_laws_szNodeS (x : List E_LNode × Int) : Option (Int) :=
  bif (decide ((Go.IntKind.wrap .i64 (x.2 - ((List.length x.1 : Nat) : Int))) < (0 : Int))) then some (-1 : Int) else L_laws_szNodeS_5 (fun x2 => some x2.2) (fun x3 => some x3) (x.1, (Go.IntKind.wrap .i64 (x.2 - ((List.length x.1 : Nat) : Int))), (0 : Int))
noncomputable def f106B : Code := match Tryz.f106.body with
  | some c => c
  | none => .skip
noncomputable def f106K : C.Sem := tab [⟨174, F_laws_szNode⟩]
def f106h5_0 : List Sh := [.v (.sl 205 ts_LNode), .v (.int .i64), .dead, .dead, .dead, .v (.int .i64), .dead, .dead, .dead, .dead, .dead, .dead, .dead, .dead, .dead, .dead, .dead, .dead, .dead, .dead, .dead, .dead, .dead, .dead, .dead, .dead, .dead]
def f106o5_0 : List (Nat × OSh) := []
def f106e5_0 (t : List E_LNode × Int × Int) : St := ⟨[.val (.sl 205 ts_LNode) t.1, .val (.int .i64) t.2.1, .dead, .dead, .dead, .val (.int .i64) t.2.2, .dead, .dead, .dead, .dead, .dead, .dead, .dead, .dead, .dead, .dead, .dead, .dead, .dead, .dead, .dead, .dead, .dead, .dead, .dead, .dead, .dead], []⟩
def f106x5_0 (t : Int × Int) : St := ⟨[.dead, .val (.int .i64) t.1, .dead, .dead, .val (.int .i64) t.2, .dead, .dead, .dead, .dead, .dead, .dead, .dead, .dead, .dead, .dead, .dead, .dead, .dead, .dead, .dead, .dead, .dead, .dead, .dead, .dead, .dead, .dead], []⟩
def f106x5_1 (t : Int) : St := ⟨[.dead, .val (.int .i64) t, .dead, .dead, .dead, .dead, .dead, .dead, .dead, .dead, .dead, .dead, .dead, .dead, .dead, .dead, .dead, .dead, .dead, .dead, .dead, .dead, .dead, .dead, .dead, .dead, .dead], []⟩
def f106u5_0 (s : St) : Option (List E_LNode × Int × Int) := (unS f106h5_0 f106o5_0 s).map fun v => (v.1.1, v.1.2.1, v.1.2.2.2.2.2.1)
theorem f106un5_0 : ∀ (s : St) (t : List E_LNode × Int × Int), f106u5_0 s = some t → f106e5_0 t = s := fun s v h => by
  obtain ⟨u, hu, rfl⟩ := Option.map_eq_some_iff.1 h
  exact (show f106e5_0 (u.1.1, u.1.2.1, u.1.2.2.2.2.2.1) = mkS f106h5_0 f106o5_0 u by kernel_rfl).trans (mkS_un f106h5_0 f106o5_0 s u hu)
def f106u5 : St → Option (List E_LNode × Int × Int) := f106u5_0
def f106e5 : (List E_LNode × Int × Int) → St := f106e5_0
theorem f106un5 : ∀ (s : St) (t : List E_LNode × Int × Int), f106u5 s = some t → f106e5 t = s := f106un5_0
noncomputable def f106P : Lp := fun i s {_R} κ => bif Nat.beq i 5 then (f106u5 s).bind fun t => L_laws_szNodeS_5 (fun t => κ (none) (f106x5_0 t)) (fun t => κ (some 0) (f106x5_1 t)) t else none
noncomputable def f106c5 : Code := (loopsOf f106B).getD 0 .skip
theorem f106A5 : C.live 106 (firstRegion f106c5) = some ([0, 1, 5], [1, 4]) := by kernel_rfl
theorem f106B5 {R : Type} (κ : Option Nat → St → Option R) (s : St) : f106P (firstRegion f106c5) s κ = (f106u5 s).bind fun t => iter (S_laws_szNodeS_5 (fun t => κ (none) (f106x5_0 t)) (fun t => κ (some 0) (f106x5_1 t))) FUEL t := by kernel_rfl
theorem f106C5 {R : Type} (κ : Option Nat → St → Option R) (again : St → Option R) (t : T_laws_szNodeS_5) : stepL C f106K f106P 106 f106c5 [0, 1, 5] [1, 4] κ again (f106e5 t) = S_laws_szNodeS_5 (fun t => κ (none) (f106x5_0 t)) (fun t => κ (some 0) (f106x5_1 t)) (fun t => again (f106e5 t)) t := by kernel_rfl
theorem f106ok5 : LoopOk C f106K f106P 106 f106c5 := loop_ok f106A5 f106e5 f106u5 f106un5 (fun {_R} κ => S_laws_szNodeS_5 (fun t => κ (none) (f106x5_0 t)) (fun t => κ (some 0) (f106x5_1 t))) (fun {_R} κ s => f106B5 κ s) (fun {_R} κ again t => f106C5 κ again t)
theorem k106 : Contract C Tryz.prog f106K := contract_tab _ (fun p hp => by
    simp only [List.mem_cons, List.mem_nil_iff, or_false] at hp
    rcases hp with rfl
    · exact ok174)
theorem ev106 (x : List E_LNode × Int) : evalB C f106K f106P 106 Tryz.f106 f106B ⟨[.v false [(.sl 205 ts_LNode)] [false], .v false [(.int .i64)] [false]], [⟨false, [(.int .i64)], [false]⟩], false⟩ [(.sl 205 ts_LNode), (.int .i64)] [(.int .i64)] x = F_laws_szNodeS x := by kernel_rfl
theorem ok106 : ContractAt C Tryz.prog 106 F_laws_szNodeS := fn_sound (lp := f106P) tok mixed k106 (by kernel_rfl) (fn := Tryz.f106) (c := f106B) (sg := ⟨[.v false [(.sl 205 ts_LNode)] [false], .v false [(.int .i64)] [false]], [⟨false, [(.int .i64)], [false]⟩], false⟩) Tryz.func106 (by decide) (by kernel_rfl) (by kernel_rfl) (by kernel_rfl) (fun c' hc' => by
    rw [show loopsOf f106B = [f106c5] by kernel_rfl] at hc'
    simp only [List.mem_cons, List.mem_nil_iff, or_false] at hc'
    rcases hc' with rfl
    · exact f106ok5) (by decide) (by decide) (fun x y h => (ev106 x).trans h)
noncomputable def F_laws_szTree (x : List E_i64 × List E_LNode × Int) : Option (Int) :=
  Option.bind (F_laws_szIntS (x.1, x.2.2)) fun r1 => bif (decide (r1 < (0 : Int))) then some (-1 : Int) else Option.bind (F_laws_szNodeS (x.2.1, r1)) fun r2 => bif (decide (r2 < (0 : Int))) then some (-1 : Int) else some r2
noncomputable def f41B : Code := match Tryz.f41.body with
  | some c => c
  | none => .skip
noncomputable def f41K : C.Sem := tab [⟨105, F_laws_szIntS⟩, ⟨106, F_laws_szNodeS⟩]
noncomputable def f41P : Lp := fun i s {_R} κ => none
theorem k41 : Contract C Tryz.prog f41K := contract_tab _ (fun p hp => by
    simp only [List.mem_cons, List.mem_nil_iff, or_false] at hp
    rcases hp with rfl | rfl
    · exact ok105
    · exact ok106)
theorem ev41 (x : List E_i64 × List E_LNode × Int) : evalB C f41K f41P 41 Tryz.f41 f41B ⟨[.v true [(.sl 3 ts_i64), (.sl 205 ts_LNode)] [false, false], .v false [(.int .i64)] [false]], [⟨false, [(.int .i64)], [false]⟩], false⟩ [(.sl 3 ts_i64), (.sl 205 ts_LNode), (.int .i64)] [(.int .i64)] x = F_laws_szTree x := by kernel_rfl
theorem ok41 : ContractAt C Tryz.prog 41 F_laws_szTree := fn_sound (lp := f41P) tok mixed k41 (by kernel_rfl) (fn := Tryz.f41) (c := f41B) (sg := ⟨[.v true [(.sl 3 ts_i64), (.sl 205 ts_LNode)] [false, false], .v false [(.int .i64)] [false]], [⟨false, [(.int .i64)], [false]⟩], false⟩) Tryz.func41 (by decide) (by kernel_rfl) (by kernel_rfl) (by kernel_rfl) (fun c' hc' => by
    rw [show loopsOf f41B = [] by kernel_rfl] at hc'
    cases hc') (by decide) (by decide) (fun x y h => (ev41 x).trans h)
noncomputable def F_laws_szAgeS (x : List E_LAge × Int) : Option (Int) :=
  bif (decide ((Go.IntKind.wrap .i64 (x.2 - ((List.length x.1 : Nat) : Int))) < (0 : Int))) then some (-1 : Int) else some (Go.IntKind.wrap .i64 (x.2 - ((List.length x.1 : Nat) : Int)))
noncomputable def f42B : Code := match Tryz.f42.body with
  | some c => c
  | none => .skip
noncomputable def f42K : C.Sem := tab []
noncomputable def f42P : Lp := fun i s {_R} κ => none
theorem k42 : Contract C Tryz.prog f42K := contract_tab _ (fun p hp => by cases hp)
theorem ev42 (x : List E_LAge × Int) : evalB C f42K f42P 42 Tryz.f42 f42B ⟨[.v false [(.sl 158 ts_LAge)] [false], .v false [(.int .i64)] [false]], [⟨false, [(.int .i64)], [false]⟩], false⟩ [(.sl 158 ts_LAge), (.int .i64)] [(.int .i64)] x = F_laws_szAgeS x := by kernel_rfl
theorem ok42 : ContractAt C Tryz.prog 42 F_laws_szAgeS := fn_sound (lp := f42P) tok mixed k42 (by kernel_rfl) (fn := Tryz.f42) (c := f42B) (sg := ⟨[.v false [(.sl 158 ts_LAge)] [false], .v false [(.int .i64)] [false]], [⟨false, [(.int .i64)], [false]⟩], false⟩) Tryz.func42 (by decide) (by kernel_rfl) (by kernel_rfl) (by kernel_rfl) (fun c' hc' => by
    rw [show loopsOf f42B = [] by kernel_rfl] at hc'
    cases hc') (by decide) (by decide) (fun x y h => (ev42 x).trans h)
noncomputable def F_laws_szCellS (x : List E_LCell × Int) : Option (Int) :=
  bif (decide ((Go.IntKind.wrap .i64 (x.2 - ((List.length x.1 : Nat) : Int))) < (0 : Int))) then some (-1 : Int) else some (Go.IntKind.wrap .i64 (x.2 - ((List.length x.1 : Nat) : Int)))
noncomputable def f43B : Code := match Tryz.f43.body with
  | some c => c
  | none => .skip
noncomputable def f43K : C.Sem := tab []
noncomputable def f43P : Lp := fun i s {_R} κ => none
theorem k43 : Contract C Tryz.prog f43K := contract_tab _ (fun p hp => by cases hp)
theorem ev43 (x : List E_LCell × Int) : evalB C f43K f43P 43 Tryz.f43 f43B ⟨[.v false [(.sl 160 ts_LCell)] [false], .v false [(.int .i64)] [false]], [⟨false, [(.int .i64)], [false]⟩], false⟩ [(.sl 160 ts_LCell), (.int .i64)] [(.int .i64)] x = F_laws_szCellS x := by kernel_rfl
theorem ok43 : ContractAt C Tryz.prog 43 F_laws_szCellS := fn_sound (lp := f43P) tok mixed k43 (by kernel_rfl) (fn := Tryz.f43) (c := f43B) (sg := ⟨[.v false [(.sl 160 ts_LCell)] [false], .v false [(.int .i64)] [false]], [⟨false, [(.int .i64)], [false]⟩], false⟩) Tryz.func43 (by decide) (by kernel_rfl) (by kernel_rfl) (by kernel_rfl) (fun c' hc' => by
    rw [show loopsOf f43B = [] by kernel_rfl] at hc'
    cases hc') (by decide) (by decide) (fun x y h => (ev43 x).trans h)
noncomputable def F_laws_szVol (x : ByteArray × Int × Int × Bool × Int) : Option (Int) :=
  bif (decide ((Go.IntKind.wrap .i64 (x.2.2.2.2 - ((ByteArray.size x.1 : Nat) : Int))) < (0 : Int))) then some (-1 : Int) else some (Go.IntKind.wrap .i64 (x.2.2.2.2 - ((ByteArray.size x.1 : Nat) : Int)))
noncomputable def f107B : Code := match Tryz.f107.body with
  | some c => c
  | none => .skip
noncomputable def f107K : C.Sem := tab []
noncomputable def f107P : Lp := fun i s {_R} κ => none
theorem k107 : Contract C Tryz.prog f107K := contract_tab _ (fun p hp => by cases hp)
theorem ev107 (x : ByteArray × Int × Int × Bool × Int) : evalB C f107K f107P 107 Tryz.f107 f107B ⟨[.v true [.str, (.int .i64), (.int .i64), .bool] [false, false, false, false], .v false [(.int .i64)] [false]], [⟨false, [(.int .i64)], [false]⟩], false⟩ [.str, (.int .i64), (.int .i64), .bool, (.int .i64)] [(.int .i64)] x = F_laws_szVol x := by kernel_rfl
theorem ok107 : ContractAt C Tryz.prog 107 F_laws_szVol := fn_sound (lp := f107P) tok mixed k107 (by kernel_rfl) (fn := Tryz.f107) (c := f107B) (sg := ⟨[.v true [.str, (.int .i64), (.int .i64), .bool] [false, false, false, false], .v false [(.int .i64)] [false]], [⟨false, [(.int .i64)], [false]⟩], false⟩) Tryz.func107 (by decide) (by kernel_rfl) (by kernel_rfl) (by kernel_rfl) (fun c' hc' => by
    rw [show loopsOf f107B = [] by kernel_rfl] at hc'
    cases hc') (by decide) (by decide) (fun x y h => (ev107 x).trans h)
abbrev T_laws_szVolS_5 : Type := List E_LVol × Int × Int
noncomputable def S_laws_szVolS_5 {R : Type} (k0 : (Int × Int) → Option R) (k1 : Int → Option R) (again : T_laws_szVolS_5 → Option R) (t5 : T_laws_szVolS_5) : Option R :=
  bif (decide (t5.2.2 < ((List.length t5.1 : Nat) : Int))) then if (0 : Int) ≤ t5.2.2 then if t5.2.2 < ((List.length t5.1 : Nat) : Int) then Option.bind (F_laws_szVol ((rd_LVol t5.1 t5.2.2).1, (rd_LVol t5.1 t5.2.2).2.1, (rd_LVol t5.1 t5.2.2).2.2.1, (rd_LVol t5.1 t5.2.2).2.2.2, t5.2.1)) fun r1 => bif (decide (r1 < (0 : Int))) then k0 (r1, (-1 : Int)) else again (t5.1, r1, (Go.IntKind.wrap .i64 (t5.2.2 + (1 : Int)))) else none else none else k1 t5.2.1
noncomputable def L_laws_szVolS_5 {R : Type} (k0 : (Int × Int) → Option R) (k1 : Int → Option R) (t : T_laws_szVolS_5) : Option R := iter (S_laws_szVolS_5 k0 k1) FUEL t
noncomputable def F_laws_szVolS (x : List E_LVol × Int) : Option (Int) :=
  bif (decide ((Go.IntKind.wrap .i64 (x.2 - ((List.length x.1 : Nat) : Int))) < (0 : Int))) then some (-1 : Int) else L_laws_szVolS_5 (fun x2 => some x2.2) (fun x3 => some x3) (x.1, (Go.IntKind.wrap .i64 (x.2 - ((List.length x.1 : Nat) : Int))), (0 : Int))
noncomputable def f44B : Code := match Tryz.f44.body with
  | some c => c
  | none => .skip
noncomputable def f44K : C.Sem := tab [⟨107, F_laws_szVol⟩]
def f44h5_0 : List Sh := [.v (.sl 150 ts_LVol), .v (.int .i64), .dead, .dead, .dead, .v (.int .i64), .dead, .dead, .dead, .dead, .dead, .dead, .dead, .dead, .dead, .dead, .dead, .dead, .dead, .dead, .dead, .dead, .dead, .dead, .dead, .dead, .dead]
def f44o5_0 : List (Nat × OSh) := []
def f44e5_0 (t : List E_LVol × Int × Int) : St := ⟨[.val (.sl 150 ts_LVol) t.1, .val (.int .i64) t.2.1, .dead, .dead, .dead, .val (.int .i64) t.2.2, .dead, .dead, .dead, .dead, .dead, .dead, .dead, .dead, .dead, .dead, .dead, .dead, .dead, .dead, .dead, .dead, .dead, .dead, .dead, .dead, .dead], []⟩
def f44x5_0 (t : Int × Int) : St := ⟨[.dead, .val (.int .i64) t.1, .dead, .dead, .val (.int .i64) t.2, .dead, .dead, .dead, .dead, .dead, .dead, .dead, .dead, .dead, .dead, .dead, .dead, .dead, .dead, .dead, .dead, .dead, .dead, .dead, .dead, .dead, .dead], []⟩
def f44x5_1 (t : Int) : St := ⟨[.dead, .val (.int .i64) t, .dead, .dead, .dead, .dead, .dead, .dead, .dead, .dead, .dead, .dead, .dead, .dead, .dead, .dead, .dead, .dead, .dead, .dead, .dead, .dead, .dead, .dead, .dead, .dead, .dead], []⟩
def f44u5_0 (s : St) : Option (List E_LVol × Int × Int) := (unS f44h5_0 f44o5_0 s).map fun v => (v.1.1, v.1.2.1, v.1.2.2.2.2.2.1)
theorem f44un5_0 : ∀ (s : St) (t : List E_LVol × Int × Int), f44u5_0 s = some t → f44e5_0 t = s := fun s v h => by
  obtain ⟨u, hu, rfl⟩ := Option.map_eq_some_iff.1 h
  exact (show f44e5_0 (u.1.1, u.1.2.1, u.1.2.2.2.2.2.1) = mkS f44h5_0 f44o5_0 u by kernel_rfl).trans (mkS_un f44h5_0 f44o5_0 s u hu)
def f44u5 : St → Option (List E_LVol × Int × Int) := f44u5_0
def f44e5 : (List E_LVol × Int × Int) → St := f44e5_0
theorem f44un5 : ∀ (s : St) (t : List E_LVol × Int × Int), f44u5 s = some t → f44e5 t = s := f44un5_0
noncomputable def f44P : Lp := fun i s {_R} κ => bif Nat.beq i 5 then (f44u5 s).bind fun t => L_laws_szVolS_5 (fun t => κ (none) (f44x5_0 t)) (fun t => κ (some 0) (f44x5_1 t)) t else none
noncomputable def f44c5 : Code := (loopsOf f44B).getD 0 .skip
theorem f44A5 : C.live 44 (firstRegion f44c5) = some ([0, 1, 5], [1, 4]) := by kernel_rfl
theorem f44B5 {R : Type} (κ : Option Nat → St → Option R) (s : St) : f44P (firstRegion f44c5) s κ = (f44u5 s).bind fun t => iter (S_laws_szVolS_5 (fun t => κ (none) (f44x5_0 t)) (fun t => κ (some 0) (f44x5_1 t))) FUEL t := by kernel_rfl
theorem f44C5 {R : Type} (κ : Option Nat → St → Option R) (again : St → Option R) (t : T_laws_szVolS_5) : stepL C f44K f44P 44 f44c5 [0, 1, 5] [1, 4] κ again (f44e5 t) = S_laws_szVolS_5 (fun t => κ (none) (f44x5_0 t)) (fun t => κ (some 0) (f44x5_1 t)) (fun t => again (f44e5 t)) t := by kernel_rfl
theorem f44ok5 : LoopOk C f44K f44P 44 f44c5 := loop_ok f44A5 f44e5 f44u5 f44un5 (fun {_R} κ => S_laws_szVolS_5 (fun t => κ (none) (f44x5_0 t)) (fun t => κ (some 0) (f44x5_1 t))) (fun {_R} κ s => f44B5 κ s) (fun {_R} κ again t => f44C5 κ again t)
theorem k44 : Contract C Tryz.prog f44K := contract_tab _ (fun p hp => by
    simp only [List.mem_cons, List.mem_nil_iff, or_false] at hp
    rcases hp with rfl
    · exact ok107)
theorem ev44 (x : List E_LVol × Int) : evalB C f44K f44P 44 Tryz.f44 f44B ⟨[.v false [(.sl 150 ts_LVol)] [false], .v false [(.int .i64)] [false]], [⟨false, [(.int .i64)], [false]⟩], false⟩ [(.sl 150 ts_LVol), (.int .i64)] [(.int .i64)] x = F_laws_szVolS x := by kernel_rfl
theorem ok44 : ContractAt C Tryz.prog 44 F_laws_szVolS := fn_sound (lp := f44P) tok mixed k44 (by kernel_rfl) (fn := Tryz.f44) (c := f44B) (sg := ⟨[.v false [(.sl 150 ts_LVol)] [false], .v false [(.int .i64)] [false]], [⟨false, [(.int .i64)], [false]⟩], false⟩) Tryz.func44 (by decide) (by kernel_rfl) (by kernel_rfl) (by kernel_rfl) (fun c' hc' => by
    rw [show loopsOf f44B = [f44c5] by kernel_rfl] at hc'
    simp only [List.mem_cons, List.mem_nil_iff, or_false] at hc'
    rcases hc' with rfl
    · exact f44ok5) (by decide) (by decide) (fun x y h => (ev44 x).trans h)
noncomputable def F_laws_szPool (x : List E_i64 × List E_LNode × List E_LAge × List E_LCell × List E_LVol × Int × Int) : Option (Int) :=
  Option.bind (F_laws_szTree (x.1, x.2.1, x.2.2.2.2.2.2)) fun r1 => bif (decide (r1 < (0 : Int))) then some (-1 : Int) else Option.bind (F_laws_szAgeS (x.2.2.1, r1)) fun r2 => bif (decide (r2 < (0 : Int))) then some (-1 : Int) else Option.bind (F_laws_szCellS (x.2.2.2.1, r2)) fun r3 => bif (decide (r3 < (0 : Int))) then some (-1 : Int) else Option.bind (F_laws_szVolS (x.2.2.2.2.1, r3)) fun r4 => bif (decide (r4 < (0 : Int))) then some (-1 : Int) else some r4
noncomputable def f14B : Code := match Tryz.f14.body with
  | some c => c
  | none => .skip
noncomputable def f14K : C.Sem := tab [⟨41, F_laws_szTree⟩, ⟨42, F_laws_szAgeS⟩, ⟨43, F_laws_szCellS⟩, ⟨44, F_laws_szVolS⟩]
noncomputable def f14P : Lp := fun i s {_R} κ => none
theorem k14 : Contract C Tryz.prog f14K := contract_tab _ (fun p hp => by
    simp only [List.mem_cons, List.mem_nil_iff, or_false] at hp
    rcases hp with rfl | rfl | rfl | rfl
    · exact ok41
    · exact ok42
    · exact ok43
    · exact ok44)
theorem ev14 (x : List E_i64 × List E_LNode × List E_LAge × List E_LCell × List E_LVol × Int × Int) : evalB C f14K f14P 14 Tryz.f14 f14B ⟨[.v true [(.sl 3 ts_i64), (.sl 205 ts_LNode), (.sl 158 ts_LAge), (.sl 160 ts_LCell), (.sl 150 ts_LVol), (.int .i64)] [false, false, false, false, false, false], .v false [(.int .i64)] [false]], [⟨false, [(.int .i64)], [false]⟩], false⟩ [(.sl 3 ts_i64), (.sl 205 ts_LNode), (.sl 158 ts_LAge), (.sl 160 ts_LCell), (.sl 150 ts_LVol), (.int .i64), (.int .i64)] [(.int .i64)] x = F_laws_szPool x := by kernel_rfl
theorem ok14 : ContractAt C Tryz.prog 14 F_laws_szPool := fn_sound (lp := f14P) tok mixed k14 (by kernel_rfl) (fn := Tryz.f14) (c := f14B) (sg := ⟨[.v true [(.sl 3 ts_i64), (.sl 205 ts_LNode), (.sl 158 ts_LAge), (.sl 160 ts_LCell), (.sl 150 ts_LVol), (.int .i64)] [false, false, false, false, false, false], .v false [(.int .i64)] [false]], [⟨false, [(.int .i64)], [false]⟩], false⟩) Tryz.func14 (by decide) (by kernel_rfl) (by kernel_rfl) (by kernel_rfl) (fun c' hc' => by
    rw [show loopsOf f14B = [] by kernel_rfl] at hc'
    cases hc') (by decide) (by decide) (fun x y h => (ev14 x).trans h)
noncomputable def F_laws_szByteS (x : List E_u8 × Int) : Option (Int) :=
  bif (decide ((Go.IntKind.wrap .i64 (x.2 - ((List.length x.1 : Nat) : Int))) < (0 : Int))) then some (-1 : Int) else some (Go.IntKind.wrap .i64 (x.2 - ((List.length x.1 : Nat) : Int)))
noncomputable def f134B : Code := match Tryz.f134.body with
  | some c => c
  | none => .skip
noncomputable def f134K : C.Sem := tab []
noncomputable def f134P : Lp := fun i s {_R} κ => none
theorem k134 : Contract C Tryz.prog f134K := contract_tab _ (fun p hp => by cases hp)
theorem ev134 (x : List E_u8 × Int) : evalB C f134K f134P 134 Tryz.f134 f134B ⟨[.v false [(.sl 5 ts_u8)] [false], .v false [(.int .i64)] [false]], [⟨false, [(.int .i64)], [false]⟩], false⟩ [(.sl 5 ts_u8), (.int .i64)] [(.int .i64)] x = F_laws_szByteS x := by kernel_rfl
theorem ok134 : ContractAt C Tryz.prog 134 F_laws_szByteS := fn_sound (lp := f134P) tok mixed k134 (by kernel_rfl) (fn := Tryz.f134) (c := f134B) (sg := ⟨[.v false [(.sl 5 ts_u8)] [false], .v false [(.int .i64)] [false]], [⟨false, [(.int .i64)], [false]⟩], false⟩) Tryz.func134 (by decide) (by kernel_rfl) (by kernel_rfl) (by kernel_rfl) (fun c' hc' => by
    rw [show loopsOf f134B = [] by kernel_rfl] at hc'
    cases hc') (by decide) (by decide) (fun x y h => (ev134 x).trans h)
abbrev T_laws_szByteSS_5 : Type := List E_s_u8 × Int × Int
noncomputable def S_laws_szByteSS_5 {R : Type} (k0 : (Int × Int) → Option R) (k1 : Int → Option R) (again : T_laws_szByteSS_5 → Option R) (t5 : T_laws_szByteSS_5) : Option R :=
  bif (decide (t5.2.2 < ((List.length t5.1 : Nat) : Int))) then if (0 : Int) ≤ t5.2.2 then if t5.2.2 < ((List.length t5.1 : Nat) : Int) then Option.bind (F_laws_szByteS ((rd_s_u8 t5.1 t5.2.2), t5.2.1)) fun r1 => bif (decide (r1 < (0 : Int))) then k0 (r1, (-1 : Int)) else again (t5.1, r1, (Go.IntKind.wrap .i64 (t5.2.2 + (1 : Int)))) else none else none else k1 t5.2.1
noncomputable def L_laws_szByteSS_5 {R : Type} (k0 : (Int × Int) → Option R) (k1 : Int → Option R) (t : T_laws_szByteSS_5) : Option R := iter (S_laws_szByteSS_5 k0 k1) FUEL t
noncomputable def F_laws_szByteSS (x : List E_s_u8 × Int) : Option (Int) :=
  bif (decide ((Go.IntKind.wrap .i64 (x.2 - ((List.length x.1 : Nat) : Int))) < (0 : Int))) then some (-1 : Int) else L_laws_szByteSS_5 (fun x2 => some x2.2) (fun x3 => some x3) (x.1, (Go.IntKind.wrap .i64 (x.2 - ((List.length x.1 : Nat) : Int))), (0 : Int))
noncomputable def f67B : Code := match Tryz.f67.body with
  | some c => c
  | none => .skip
noncomputable def f67K : C.Sem := tab [⟨134, F_laws_szByteS⟩]
def f67h5_0 : List Sh := [.v (.sl 56 ts_s_u8), .v (.int .i64), .dead, .dead, .dead, .v (.int .i64), .dead, .dead, .dead, .dead, .dead, .dead, .dead, .dead, .dead, .dead, .dead, .dead, .dead, .dead, .dead, .dead, .dead, .dead, .dead, .dead, .dead]
def f67o5_0 : List (Nat × OSh) := []
def f67e5_0 (t : List E_s_u8 × Int × Int) : St := ⟨[.val (.sl 56 ts_s_u8) t.1, .val (.int .i64) t.2.1, .dead, .dead, .dead, .val (.int .i64) t.2.2, .dead, .dead, .dead, .dead, .dead, .dead, .dead, .dead, .dead, .dead, .dead, .dead, .dead, .dead, .dead, .dead, .dead, .dead, .dead, .dead, .dead], []⟩
def f67x5_0 (t : Int × Int) : St := ⟨[.dead, .val (.int .i64) t.1, .dead, .dead, .val (.int .i64) t.2, .dead, .dead, .dead, .dead, .dead, .dead, .dead, .dead, .dead, .dead, .dead, .dead, .dead, .dead, .dead, .dead, .dead, .dead, .dead, .dead, .dead, .dead], []⟩
def f67x5_1 (t : Int) : St := ⟨[.dead, .val (.int .i64) t, .dead, .dead, .dead, .dead, .dead, .dead, .dead, .dead, .dead, .dead, .dead, .dead, .dead, .dead, .dead, .dead, .dead, .dead, .dead, .dead, .dead, .dead, .dead, .dead, .dead], []⟩
def f67u5_0 (s : St) : Option (List E_s_u8 × Int × Int) := (unS f67h5_0 f67o5_0 s).map fun v => (v.1.1, v.1.2.1, v.1.2.2.2.2.2.1)
theorem f67un5_0 : ∀ (s : St) (t : List E_s_u8 × Int × Int), f67u5_0 s = some t → f67e5_0 t = s := fun s v h => by
  obtain ⟨u, hu, rfl⟩ := Option.map_eq_some_iff.1 h
  exact (show f67e5_0 (u.1.1, u.1.2.1, u.1.2.2.2.2.2.1) = mkS f67h5_0 f67o5_0 u by kernel_rfl).trans (mkS_un f67h5_0 f67o5_0 s u hu)
def f67u5 : St → Option (List E_s_u8 × Int × Int) := f67u5_0
def f67e5 : (List E_s_u8 × Int × Int) → St := f67e5_0
theorem f67un5 : ∀ (s : St) (t : List E_s_u8 × Int × Int), f67u5 s = some t → f67e5 t = s := f67un5_0
noncomputable def f67P : Lp := fun i s {_R} κ => bif Nat.beq i 5 then (f67u5 s).bind fun t => L_laws_szByteSS_5 (fun t => κ (none) (f67x5_0 t)) (fun t => κ (some 0) (f67x5_1 t)) t else none
noncomputable def f67c5 : Code := (loopsOf f67B).getD 0 .skip
theorem f67A5 : C.live 67 (firstRegion f67c5) = some ([0, 1, 5], [1, 4]) := by kernel_rfl
theorem f67B5 {R : Type} (κ : Option Nat → St → Option R) (s : St) : f67P (firstRegion f67c5) s κ = (f67u5 s).bind fun t => iter (S_laws_szByteSS_5 (fun t => κ (none) (f67x5_0 t)) (fun t => κ (some 0) (f67x5_1 t))) FUEL t := by kernel_rfl
theorem f67C5 {R : Type} (κ : Option Nat → St → Option R) (again : St → Option R) (t : T_laws_szByteSS_5) : stepL C f67K f67P 67 f67c5 [0, 1, 5] [1, 4] κ again (f67e5 t) = S_laws_szByteSS_5 (fun t => κ (none) (f67x5_0 t)) (fun t => κ (some 0) (f67x5_1 t)) (fun t => again (f67e5 t)) t := by kernel_rfl
theorem f67ok5 : LoopOk C f67K f67P 67 f67c5 := loop_ok f67A5 f67e5 f67u5 f67un5 (fun {_R} κ => S_laws_szByteSS_5 (fun t => κ (none) (f67x5_0 t)) (fun t => κ (some 0) (f67x5_1 t))) (fun {_R} κ s => f67B5 κ s) (fun {_R} κ again t => f67C5 κ again t)
theorem k67 : Contract C Tryz.prog f67K := contract_tab _ (fun p hp => by
    simp only [List.mem_cons, List.mem_nil_iff, or_false] at hp
    rcases hp with rfl
    · exact ok134)
theorem ev67 (x : List E_s_u8 × Int) : evalB C f67K f67P 67 Tryz.f67 f67B ⟨[.v false [(.sl 56 ts_s_u8)] [false], .v false [(.int .i64)] [false]], [⟨false, [(.int .i64)], [false]⟩], false⟩ [(.sl 56 ts_s_u8), (.int .i64)] [(.int .i64)] x = F_laws_szByteSS x := by kernel_rfl
theorem ok67 : ContractAt C Tryz.prog 67 F_laws_szByteSS := fn_sound (lp := f67P) tok mixed k67 (by kernel_rfl) (fn := Tryz.f67) (c := f67B) (sg := ⟨[.v false [(.sl 56 ts_s_u8)] [false], .v false [(.int .i64)] [false]], [⟨false, [(.int .i64)], [false]⟩], false⟩) Tryz.func67 (by decide) (by kernel_rfl) (by kernel_rfl) (by kernel_rfl) (fun c' hc' => by
    rw [show loopsOf f67B = [f67c5] by kernel_rfl] at hc'
    simp only [List.mem_cons, List.mem_nil_iff, or_false] at hc'
    rcases hc' with rfl
    · exact f67ok5) (by decide) (by decide) (fun x y h => (ev67 x).trans h)
noncomputable def F_laws_szWr (x : Int × List E_u8 × Int) : Option (Int) :=
  Option.bind (F_laws_szByteS (x.2.1, x.2.2)) fun r1 => bif (decide (r1 < (0 : Int))) then some (-1 : Int) else some r1
noncomputable def f135B : Code := match Tryz.f135.body with
  | some c => c
  | none => .skip
noncomputable def f135K : C.Sem := tab [⟨134, F_laws_szByteS⟩]
noncomputable def f135P : Lp := fun i s {_R} κ => none
theorem k135 : Contract C Tryz.prog f135K := contract_tab _ (fun p hp => by
    simp only [List.mem_cons, List.mem_nil_iff, or_false] at hp
    rcases hp with rfl
    · exact ok134)
theorem ev135 (x : Int × List E_u8 × Int) : evalB C f135K f135P 135 Tryz.f135 f135B ⟨[.v true [(.int .i64), (.sl 5 ts_u8)] [false, false], .v false [(.int .i64)] [false]], [⟨false, [(.int .i64)], [false]⟩], false⟩ [(.int .i64), (.sl 5 ts_u8), (.int .i64)] [(.int .i64)] x = F_laws_szWr x := by kernel_rfl
theorem ok135 : ContractAt C Tryz.prog 135 F_laws_szWr := fn_sound (lp := f135P) tok mixed k135 (by kernel_rfl) (fn := Tryz.f135) (c := f135B) (sg := ⟨[.v true [(.int .i64), (.sl 5 ts_u8)] [false, false], .v false [(.int .i64)] [false]], [⟨false, [(.int .i64)], [false]⟩], false⟩) Tryz.func135 (by decide) (by kernel_rfl) (by kernel_rfl) (by kernel_rfl) (fun c' hc' => by
    rw [show loopsOf f135B = [] by kernel_rfl] at hc'
    cases hc') (by decide) (by decide) (fun x y h => (ev135 x).trans h)
abbrev T_laws_szWrS_5 : Type := List E_LWr × Int × Int
noncomputable def S_laws_szWrS_5 {R : Type} (k0 : (Int × Int) → Option R) (k1 : Int → Option R) (again : T_laws_szWrS_5 → Option R) (t5 : T_laws_szWrS_5) : Option R :=
  bif (decide (t5.2.2 < ((List.length t5.1 : Nat) : Int))) then if (0 : Int) ≤ t5.2.2 then if t5.2.2 < ((List.length t5.1 : Nat) : Int) then Option.bind (F_laws_szWr ((rd_LWr t5.1 t5.2.2).1, (rd_LWr t5.1 t5.2.2).2, t5.2.1)) fun r1 => bif (decide (r1 < (0 : Int))) then k0 (r1, (-1 : Int)) else again (t5.1, r1, (Go.IntKind.wrap .i64 (t5.2.2 + (1 : Int)))) else none else none else k1 t5.2.1
noncomputable def L_laws_szWrS_5 {R : Type} (k0 : (Int × Int) → Option R) (k1 : Int → Option R) (t : T_laws_szWrS_5) : Option R := iter (S_laws_szWrS_5 k0 k1) FUEL t
noncomputable def F_laws_szWrS (x : List E_LWr × Int) : Option (Int) :=
  bif (decide ((Go.IntKind.wrap .i64 (x.2 - ((List.length x.1 : Nat) : Int))) < (0 : Int))) then some (-1 : Int) else L_laws_szWrS_5 (fun x2 => some x2.2) (fun x3 => some x3) (x.1, (Go.IntKind.wrap .i64 (x.2 - ((List.length x.1 : Nat) : Int))), (0 : Int))
noncomputable def f68B : Code := match Tryz.f68.body with
  | some c => c
  | none => .skip
noncomputable def f68K : C.Sem := tab [⟨135, F_laws_szWr⟩]
def f68h5_0 : List Sh := [.v (.sl 173 ts_LWr), .v (.int .i64), .dead, .dead, .dead, .v (.int .i64), .dead, .dead, .dead, .dead, .dead, .dead, .dead, .dead, .dead, .dead, .dead, .dead, .dead, .dead, .dead, .dead, .dead, .dead, .dead, .dead, .dead]
def f68o5_0 : List (Nat × OSh) := []
def f68e5_0 (t : List E_LWr × Int × Int) : St := ⟨[.val (.sl 173 ts_LWr) t.1, .val (.int .i64) t.2.1, .dead, .dead, .dead, .val (.int .i64) t.2.2, .dead, .dead, .dead, .dead, .dead, .dead, .dead, .dead, .dead, .dead, .dead, .dead, .dead, .dead, .dead, .dead, .dead, .dead, .dead, .dead, .dead], []⟩
def f68x5_0 (t : Int × Int) : St := ⟨[.dead, .val (.int .i64) t.1, .dead, .dead, .val (.int .i64) t.2, .dead, .dead, .dead, .dead, .dead, .dead, .dead, .dead, .dead, .dead, .dead, .dead, .dead, .dead, .dead, .dead, .dead, .dead, .dead, .dead, .dead, .dead], []⟩
def f68x5_1 (t : Int) : St := ⟨[.dead, .val (.int .i64) t, .dead, .dead, .dead, .dead, .dead, .dead, .dead, .dead, .dead, .dead, .dead, .dead, .dead, .dead, .dead, .dead, .dead, .dead, .dead, .dead, .dead, .dead, .dead, .dead, .dead], []⟩
def f68u5_0 (s : St) : Option (List E_LWr × Int × Int) := (unS f68h5_0 f68o5_0 s).map fun v => (v.1.1, v.1.2.1, v.1.2.2.2.2.2.1)
theorem f68un5_0 : ∀ (s : St) (t : List E_LWr × Int × Int), f68u5_0 s = some t → f68e5_0 t = s := fun s v h => by
  obtain ⟨u, hu, rfl⟩ := Option.map_eq_some_iff.1 h
  exact (show f68e5_0 (u.1.1, u.1.2.1, u.1.2.2.2.2.2.1) = mkS f68h5_0 f68o5_0 u by kernel_rfl).trans (mkS_un f68h5_0 f68o5_0 s u hu)
def f68u5 : St → Option (List E_LWr × Int × Int) := f68u5_0
def f68e5 : (List E_LWr × Int × Int) → St := f68e5_0
theorem f68un5 : ∀ (s : St) (t : List E_LWr × Int × Int), f68u5 s = some t → f68e5 t = s := f68un5_0
noncomputable def f68P : Lp := fun i s {_R} κ => bif Nat.beq i 5 then (f68u5 s).bind fun t => L_laws_szWrS_5 (fun t => κ (none) (f68x5_0 t)) (fun t => κ (some 0) (f68x5_1 t)) t else none
noncomputable def f68c5 : Code := (loopsOf f68B).getD 0 .skip
theorem f68A5 : C.live 68 (firstRegion f68c5) = some ([0, 1, 5], [1, 4]) := by kernel_rfl
theorem f68B5 {R : Type} (κ : Option Nat → St → Option R) (s : St) : f68P (firstRegion f68c5) s κ = (f68u5 s).bind fun t => iter (S_laws_szWrS_5 (fun t => κ (none) (f68x5_0 t)) (fun t => κ (some 0) (f68x5_1 t))) FUEL t := by kernel_rfl
theorem f68C5 {R : Type} (κ : Option Nat → St → Option R) (again : St → Option R) (t : T_laws_szWrS_5) : stepL C f68K f68P 68 f68c5 [0, 1, 5] [1, 4] κ again (f68e5 t) = S_laws_szWrS_5 (fun t => κ (none) (f68x5_0 t)) (fun t => κ (some 0) (f68x5_1 t)) (fun t => again (f68e5 t)) t := by kernel_rfl
theorem f68ok5 : LoopOk C f68K f68P 68 f68c5 := loop_ok f68A5 f68e5 f68u5 f68un5 (fun {_R} κ => S_laws_szWrS_5 (fun t => κ (none) (f68x5_0 t)) (fun t => κ (some 0) (f68x5_1 t))) (fun {_R} κ s => f68B5 κ s) (fun {_R} κ again t => f68C5 κ again t)
theorem k68 : Contract C Tryz.prog f68K := contract_tab _ (fun p hp => by
    simp only [List.mem_cons, List.mem_nil_iff, or_false] at hp
    rcases hp with rfl
    · exact ok135)
theorem ev68 (x : List E_LWr × Int) : evalB C f68K f68P 68 Tryz.f68 f68B ⟨[.v false [(.sl 173 ts_LWr)] [false], .v false [(.int .i64)] [false]], [⟨false, [(.int .i64)], [false]⟩], false⟩ [(.sl 173 ts_LWr), (.int .i64)] [(.int .i64)] x = F_laws_szWrS x := by kernel_rfl
theorem ok68 : ContractAt C Tryz.prog 68 F_laws_szWrS := fn_sound (lp := f68P) tok mixed k68 (by kernel_rfl) (fn := Tryz.f68) (c := f68B) (sg := ⟨[.v false [(.sl 173 ts_LWr)] [false], .v false [(.int .i64)] [false]], [⟨false, [(.int .i64)], [false]⟩], false⟩) Tryz.func68 (by decide) (by kernel_rfl) (by kernel_rfl) (by kernel_rfl) (fun c' hc' => by
    rw [show loopsOf f68B = [f68c5] by kernel_rfl] at hc'
    simp only [List.mem_cons, List.mem_nil_iff, or_false] at hc'
    rcases hc' with rfl
    · exact f68ok5) (by decide) (by decide) (fun x y h => (ev68 x).trans h)
noncomputable def F_laws_szDev (x : List E_s_u8 × List E_LWr × Int × Bool × Int) : Option (Int) :=
  Option.bind (F_laws_szByteSS (x.1, x.2.2.2.2)) fun r1 => bif (decide (r1 < (0 : Int))) then some (-1 : Int) else Option.bind (F_laws_szWrS (x.2.1, r1)) fun r2 => bif (decide (r2 < (0 : Int))) then some (-1 : Int) else some r2
noncomputable def f23B : Code := match Tryz.f23.body with
  | some c => c
  | none => .skip
noncomputable def f23K : C.Sem := tab [⟨67, F_laws_szByteSS⟩, ⟨68, F_laws_szWrS⟩]
noncomputable def f23P : Lp := fun i s {_R} κ => none
theorem k23 : Contract C Tryz.prog f23K := contract_tab _ (fun p hp => by
    simp only [List.mem_cons, List.mem_nil_iff, or_false] at hp
    rcases hp with rfl | rfl
    · exact ok67
    · exact ok68)
theorem ev23 (x : List E_s_u8 × List E_LWr × Int × Bool × Int) : evalB C f23K f23P 23 Tryz.f23 f23B ⟨[.v true [(.sl 56 ts_s_u8), (.sl 173 ts_LWr), (.int .i64), .bool] [false, false, false, false], .v false [(.int .i64)] [false]], [⟨false, [(.int .i64)], [false]⟩], false⟩ [(.sl 56 ts_s_u8), (.sl 173 ts_LWr), (.int .i64), .bool, (.int .i64)] [(.int .i64)] x = F_laws_szDev x := by kernel_rfl
theorem ok23 : ContractAt C Tryz.prog 23 F_laws_szDev := fn_sound (lp := f23P) tok mixed k23 (by kernel_rfl) (fn := Tryz.f23) (c := f23B) (sg := ⟨[.v true [(.sl 56 ts_s_u8), (.sl 173 ts_LWr), (.int .i64), .bool] [false, false, false, false], .v false [(.int .i64)] [false]], [⟨false, [(.int .i64)], [false]⟩], false⟩) Tryz.func23 (by decide) (by kernel_rfl) (by kernel_rfl) (by kernel_rfl) (fun c' hc' => by
    rw [show loopsOf f23B = [] by kernel_rfl] at hc'
    cases hc') (by decide) (by decide) (fun x y h => (ev23 x).trans h)
noncomputable def F_laws_szStore (x : List E_s_u8 × List E_LWr × Int × Bool × List E_i64 × List E_LNode × List E_LAge × List E_LCell × List E_LVol × Int × Int × Int × Int × Int) : Option (Int) :=
  Option.bind (F_laws_szDev (x.1, x.2.1, x.2.2.1, x.2.2.2.1, x.2.2.2.2.2.2.2.2.2.2.2.2.2)) fun r1 => bif (decide (r1 < (0 : Int))) then some (-1 : Int) else Option.bind (F_laws_szPool (x.2.2.2.2.1, x.2.2.2.2.2.1, x.2.2.2.2.2.2.1, x.2.2.2.2.2.2.2.1, x.2.2.2.2.2.2.2.2.1, x.2.2.2.2.2.2.2.2.2.1, r1)) fun r2 => bif (decide (r2 < (0 : Int))) then some (-1 : Int) else some r2
noncomputable def f9B : Code := match Tryz.f9.body with
  | some c => c
  | none => .skip
noncomputable def f9K : C.Sem := tab [⟨14, F_laws_szPool⟩, ⟨23, F_laws_szDev⟩]
noncomputable def f9P : Lp := fun i s {_R} κ => none
theorem k9 : Contract C Tryz.prog f9K := contract_tab _ (fun p hp => by
    simp only [List.mem_cons, List.mem_nil_iff, or_false] at hp
    rcases hp with rfl | rfl
    · exact ok14
    · exact ok23)
theorem ev9 (x : List E_s_u8 × List E_LWr × Int × Bool × List E_i64 × List E_LNode × List E_LAge × List E_LCell × List E_LVol × Int × Int × Int × Int × Int) : evalB C f9K f9P 9 Tryz.f9 f9B ⟨[.v true [(.sl 56 ts_s_u8), (.sl 173 ts_LWr), (.int .i64), .bool, (.sl 3 ts_i64), (.sl 205 ts_LNode), (.sl 158 ts_LAge), (.sl 160 ts_LCell), (.sl 150 ts_LVol), (.int .i64), (.int .i64), (.int .i64), (.int .i64)] [false, false, false, false, false, false, false, false, false, false, false, false, false], .v false [(.int .i64)] [false]], [⟨false, [(.int .i64)], [false]⟩], false⟩ [(.sl 56 ts_s_u8), (.sl 173 ts_LWr), (.int .i64), .bool, (.sl 3 ts_i64), (.sl 205 ts_LNode), (.sl 158 ts_LAge), (.sl 160 ts_LCell), (.sl 150 ts_LVol), (.int .i64), (.int .i64), (.int .i64), (.int .i64), (.int .i64)] [(.int .i64)] x = F_laws_szStore x := by kernel_rfl
theorem ok9 : ContractAt C Tryz.prog 9 F_laws_szStore := fn_sound (lp := f9P) tok mixed k9 (by kernel_rfl) (fn := Tryz.f9) (c := f9B) (sg := ⟨[.v true [(.sl 56 ts_s_u8), (.sl 173 ts_LWr), (.int .i64), .bool, (.sl 3 ts_i64), (.sl 205 ts_LNode), (.sl 158 ts_LAge), (.sl 160 ts_LCell), (.sl 150 ts_LVol), (.int .i64), (.int .i64), (.int .i64), (.int .i64)] [false, false, false, false, false, false, false, false, false, false, false, false, false], .v false [(.int .i64)] [false]], [⟨false, [(.int .i64)], [false]⟩], false⟩) Tryz.func9 (by decide) (by kernel_rfl) (by kernel_rfl) (by kernel_rfl) (fun c' hc' => by
    rw [show loopsOf f9B = [] by kernel_rfl] at hc'
    cases hc') (by decide) (by decide) (fun x y h => (ev9 x).trans h)
noncomputable def F_spec_l1In (x : Int × Int × Int) : Option (Bool) :=
  Option.bind (bif (decide (x.1 ≥ x.2.1)) then some (decide (x.1 ≤ x.2.2)) else some false) fun u1 => some u1
noncomputable def f39B : Code := match Tryz.f39.body with
  | some c => c
  | none => .skip
noncomputable def f39K : C.Sem := tab []
noncomputable def f39P : Lp := fun i s {_R} κ => none
theorem k39 : Contract C Tryz.prog f39K := contract_tab _ (fun p hp => by cases hp)
theorem ev39 (x : Int × Int × Int) : evalB C f39K f39P 39 Tryz.f39 f39B ⟨[.v false [(.int .i64)] [false], .v false [(.int .i64)] [false], .v false [(.int .i64)] [false]], [⟨false, [.bool], [false]⟩], false⟩ [(.int .i64), (.int .i64), (.int .i64)] [.bool] x = F_spec_l1In x := by kernel_rfl
theorem ok39 : ContractAt C Tryz.prog 39 F_spec_l1In := fn_sound (lp := f39P) tok mixed k39 (by kernel_rfl) (fn := Tryz.f39) (c := f39B) (sg := ⟨[.v false [(.int .i64)] [false], .v false [(.int .i64)] [false], .v false [(.int .i64)] [false]], [⟨false, [.bool], [false]⟩], false⟩) Tryz.func39 (by decide) (by kernel_rfl) (by kernel_rfl) (by kernel_rfl) (fun c' hc' => by
    rw [show loopsOf f39B = [] by kernel_rfl] at hc'
    cases hc') (by decide) (by decide) (fun x y h => (ev39 x).trans h)
abbrev T_spec_Drop_3 : Type := List E_Key × Int × List E_Key
noncomputable def S_spec_Drop_3 {R : Type} (k0 : List E_Key → Option R) (again : T_spec_Drop_3 → Option R) (t3 : T_spec_Drop_3) : Option R :=
  bif (decide (t3.2.1 < ((List.length t3.1 : Nat) : Int))) then if (0 : Int) ≤ t3.2.1 then if t3.2.1 < ((List.length t3.1 : Nat) : Int) then bif ((rd_Key t3.1 t3.2.1).2.2.1 != (0 : Int)) then if (0 : Int) ≤ t3.2.1 then if t3.2.1 < ((List.length t3.1 : Nat) : Int) then if (List.length t3.2.2 + List.length ([((rd_Key t3.1 t3.2.1).1, (rd_Key t3.1 t3.2.1).2.1, (rd_Key t3.1 t3.2.1).2.2.1, (rd_Key t3.1 t3.2.1).2.2.2.1, (rd_Key t3.1 t3.2.1).2.2.2.2)] : List E_Key)) * 40 < 140737488355328 then again (t3.1, (Go.IntKind.wrap .i64 (t3.2.1 + (1 : Int))), (t3.2.2 ++ ([((rd_Key t3.1 t3.2.1).1, (rd_Key t3.1 t3.2.1).2.1, (rd_Key t3.1 t3.2.1).2.2.1, (rd_Key t3.1 t3.2.1).2.2.2.1, (rd_Key t3.1 t3.2.1).2.2.2.2)] : List E_Key))) else none else none else none else again (t3.1, (Go.IntKind.wrap .i64 (t3.2.1 + (1 : Int))), t3.2.2) else none else none else k0 t3.2.2
noncomputable def L_spec_Drop_3 {R : Type} (k0 : List E_Key → Option R) (t : T_spec_Drop_3) : Option R := iter (S_spec_Drop_3 k0) FUEL t
noncomputable def F_spec_Drop (x : List E_Key) : Option (List E_Key) :=
  L_spec_Drop_3 (fun x1 => some x1) (x, (0 : Int), ([] : List E_Key))
noncomputable def f213B : Code := match Tryz.f213.body with
  | some c => c
  | none => .skip
noncomputable def f213K : C.Sem := tab []
def f213h3_0 : List Sh := [.v (.sl 105 ts_Key), .dead, .dead, .own 10000000, .v (.int .i64), .dead, .dead, .dead, .dead, .dead, .dead, .dead, .dead, .dead, .dead, .dead, .dead, .dead, .dead, .dead, .dead, .dead, .dead, .dead, .dead, .dead]
def f213o3_0 : List (Nat × OSh) := [(10000000, .root true 105 ts_Key)]
def f213e3_0 (t : List E_Key × Int × List E_Key) : St := ⟨[.val (.sl 105 ts_Key) t.1, .dead, .dead, .own 10000000, .val (.int .i64) t.2.1, .dead, .dead, .dead, .dead, .dead, .dead, .dead, .dead, .dead, .dead, .dead, .dead, .dead, .dead, .dead, .dead, .dead, .dead, .dead, .dead, .dead], [(10000000, .root true 105 ts_Key t.2.2)]⟩
def f213x3_0 (t : List E_Key) : St := ⟨[.dead, .dead, .dead, .own 10000000, .dead, .dead, .dead, .dead, .dead, .dead, .dead, .dead, .dead, .dead, .dead, .dead, .dead, .dead, .dead, .dead, .dead, .dead, .dead, .dead, .dead, .dead], [(10000000, .root true 105 ts_Key t)]⟩
def f213u3_0 (s : St) : Option (List E_Key × Int × List E_Key) := (unS f213h3_0 f213o3_0 s).map fun v => (v.1.1, v.1.2.2.2.2.1, v.2.1)
theorem f213un3_0 : ∀ (s : St) (t : List E_Key × Int × List E_Key), f213u3_0 s = some t → f213e3_0 t = s := fun s v h => by
  obtain ⟨u, hu, rfl⟩ := Option.map_eq_some_iff.1 h
  exact (show f213e3_0 (u.1.1, u.1.2.2.2.2.1, u.2.1) = mkS f213h3_0 f213o3_0 u by kernel_rfl).trans (mkS_un f213h3_0 f213o3_0 s u hu)
def f213u3 : St → Option (List E_Key × Int × List E_Key) := f213u3_0
def f213e3 : (List E_Key × Int × List E_Key) → St := f213e3_0
theorem f213un3 : ∀ (s : St) (t : List E_Key × Int × List E_Key), f213u3 s = some t → f213e3 t = s := f213un3_0
noncomputable def f213P : Lp := fun i s {_R} κ => bif Nat.beq i 3 then (f213u3 s).bind fun t => L_spec_Drop_3 (fun t => κ (some 0) (f213x3_0 t)) t else none
noncomputable def f213c3 : Code := (loopsOf f213B).getD 0 .skip
theorem f213A3 : C.live 213 (firstRegion f213c3) = some ([0, 3, 4], [3]) := by kernel_rfl
theorem f213B3 {R : Type} (κ : Option Nat → St → Option R) (s : St) : f213P (firstRegion f213c3) s κ = (f213u3 s).bind fun t => iter (S_spec_Drop_3 (fun t => κ (some 0) (f213x3_0 t))) FUEL t := by kernel_rfl
theorem f213C3 {R : Type} (κ : Option Nat → St → Option R) (again : St → Option R) (t : T_spec_Drop_3) : stepL C f213K f213P 213 f213c3 [0, 3, 4] [3] κ again (f213e3 t) = S_spec_Drop_3 (fun t => κ (some 0) (f213x3_0 t)) (fun t => again (f213e3 t)) t := by kernel_rfl
theorem f213ok3 : LoopOk C f213K f213P 213 f213c3 := loop_ok f213A3 f213e3 f213u3 f213un3 (fun {_R} κ => S_spec_Drop_3 (fun t => κ (some 0) (f213x3_0 t))) (fun {_R} κ s => f213B3 κ s) (fun {_R} κ again t => f213C3 κ again t)
theorem k213 : Contract C Tryz.prog f213K := contract_tab _ (fun p hp => by cases hp)
theorem ev213 (x : List E_Key) : evalB C f213K f213P 213 Tryz.f213 f213B ⟨[.v false [(.sl 105 ts_Key)] [false]], [⟨false, [(.sl 105 ts_Key)], [true]⟩], false⟩ [(.sl 105 ts_Key)] [(.sl 105 ts_Key)] x = F_spec_Drop x := by kernel_rfl
theorem ok213 : ContractAt C Tryz.prog 213 F_spec_Drop := fn_sound (lp := f213P) tok mixed k213 (by kernel_rfl) (fn := Tryz.f213) (c := f213B) (sg := ⟨[.v false [(.sl 105 ts_Key)] [false]], [⟨false, [(.sl 105 ts_Key)], [true]⟩], false⟩) Tryz.func213 (by decide) (by kernel_rfl) (by kernel_rfl) (by kernel_rfl) (fun c' hc' => by
    rw [show loopsOf f213B = [f213c3] by kernel_rfl] at hc'
    simp only [List.mem_cons, List.mem_nil_iff, or_false] at hc'
    rcases hc' with rfl
    · exact f213ok3) (by decide) (by decide) (fun x y h => (ev213 x).trans h)
noncomputable def F_spec_LessKey (x : Int × Int × Int × Int × Int × Int × Int × Int × Int × Int) : Option (Bool) :=
  bif (x.1 != x.2.2.2.2.2.1) then some (decide (x.1 < x.2.2.2.2.2.1)) else some (decide (x.2.1 < x.2.2.2.2.2.2.1))
noncomputable def f248B : Code := match Tryz.f248.body with
  | some c => c
  | none => .skip
noncomputable def f248K : C.Sem := tab []
noncomputable def f248P : Lp := fun i s {_R} κ => none
theorem k248 : Contract C Tryz.prog f248K := contract_tab _ (fun p hp => by cases hp)
theorem ev248 (x : Int × Int × Int × Int × Int × Int × Int × Int × Int × Int) : evalB C f248K f248P 248 Tryz.f248 f248B ⟨[.v true [(.int .i64), (.int .i64), (.int .i64), (.int .i64), (.int .i64)] [false, false, false, false, false], .v true [(.int .i64), (.int .i64), (.int .i64), (.int .i64), (.int .i64)] [false, false, false, false, false]], [⟨false, [.bool], [false]⟩], false⟩ [(.int .i64), (.int .i64), (.int .i64), (.int .i64), (.int .i64), (.int .i64), (.int .i64), (.int .i64), (.int .i64), (.int .i64)] [.bool] x = F_spec_LessKey x := by kernel_rfl
theorem ok248 : ContractAt C Tryz.prog 248 F_spec_LessKey := fn_sound (lp := f248P) tok mixed k248 (by kernel_rfl) (fn := Tryz.f248) (c := f248B) (sg := ⟨[.v true [(.int .i64), (.int .i64), (.int .i64), (.int .i64), (.int .i64)] [false, false, false, false, false], .v true [(.int .i64), (.int .i64), (.int .i64), (.int .i64), (.int .i64)] [false, false, false, false, false]], [⟨false, [.bool], [false]⟩], false⟩) Tryz.func248 (by decide) (by kernel_rfl) (by kernel_rfl) (by kernel_rfl) (fun c' hc' => by
    rw [show loopsOf f248B = [] by kernel_rfl] at hc'
    cases hc') (by decide) (by decide) (fun x y h => (ev248 x).trans h)
noncomputable def F_spec_SameSpot (x : Int × Int × Int × Int × Int × Int × Int × Int × Int × Int) : Option (Bool) :=
  Option.bind (bif (x.1 == x.2.2.2.2.2.1) then some (x.2.1 == x.2.2.2.2.2.2.1) else some false) fun u1 => some u1
noncomputable def f249B : Code := match Tryz.f249.body with
  | some c => c
  | none => .skip
noncomputable def f249K : C.Sem := tab []
noncomputable def f249P : Lp := fun i s {_R} κ => none
theorem k249 : Contract C Tryz.prog f249K := contract_tab _ (fun p hp => by cases hp)
theorem ev249 (x : Int × Int × Int × Int × Int × Int × Int × Int × Int × Int) : evalB C f249K f249P 249 Tryz.f249 f249B ⟨[.v true [(.int .i64), (.int .i64), (.int .i64), (.int .i64), (.int .i64)] [false, false, false, false, false], .v true [(.int .i64), (.int .i64), (.int .i64), (.int .i64), (.int .i64)] [false, false, false, false, false]], [⟨false, [.bool], [false]⟩], false⟩ [(.int .i64), (.int .i64), (.int .i64), (.int .i64), (.int .i64), (.int .i64), (.int .i64), (.int .i64), (.int .i64), (.int .i64)] [.bool] x = F_spec_SameSpot x := by kernel_rfl
theorem ok249 : ContractAt C Tryz.prog 249 F_spec_SameSpot := fn_sound (lp := f249P) tok mixed k249 (by kernel_rfl) (fn := Tryz.f249) (c := f249B) (sg := ⟨[.v true [(.int .i64), (.int .i64), (.int .i64), (.int .i64), (.int .i64)] [false, false, false, false, false], .v true [(.int .i64), (.int .i64), (.int .i64), (.int .i64), (.int .i64)] [false, false, false, false, false]], [⟨false, [.bool], [false]⟩], false⟩) Tryz.func249 (by decide) (by kernel_rfl) (by kernel_rfl) (by kernel_rfl) (fun c' hc' => by
    rw [show loopsOf f249B = [] by kernel_rfl] at hc'
    cases hc') (by decide) (by decide) (fun x y h => (ev249 x).trans h)
abbrev T_spec_SetPut_4 : Type := List E_Key × Bool × Int × Int × Int × Int × Int × Int × List E_Key
noncomputable def S_spec_SetPut_4 {R : Type} (k0 : (Bool × Int × Int × Int × Int × Int × List E_Key) → Option R) (again : T_spec_SetPut_4 → Option R) (t4 : T_spec_SetPut_4) : Option R :=
  bif (decide (t4.2.2.1 < ((List.length t4.1 : Nat) : Int))) then Option.bind (bif (!t4.2.1) then if (0 : Int) ≤ t4.2.2.1 then if t4.2.2.1 < ((List.length t4.1 : Nat) : Int) then Option.bind (F_spec_LessKey ((rd_Key t4.1 t4.2.2.1).1, (rd_Key t4.1 t4.2.2.1).2.1, (rd_Key t4.1 t4.2.2.1).2.2.1, (rd_Key t4.1 t4.2.2.1).2.2.2.1, (rd_Key t4.1 t4.2.2.1).2.2.2.2, t4.2.2.2.1, t4.2.2.2.2.1, t4.2.2.2.2.2.1, t4.2.2.2.2.2.2.1, t4.2.2.2.2.2.2.2.1)) fun r2 => some (!r2) else none else none else some false) fun u1 => bif u1 then if (List.length t4.2.2.2.2.2.2.2.2 + List.length ([(t4.2.2.2.1, t4.2.2.2.2.1, t4.2.2.2.2.2.1, t4.2.2.2.2.2.2.1, t4.2.2.2.2.2.2.2.1)] : List E_Key)) * 40 < 140737488355328 then if (0 : Int) ≤ t4.2.2.1 then if t4.2.2.1 < ((List.length t4.1 : Nat) : Int) then Option.bind (F_spec_SameSpot ((rd_Key t4.1 t4.2.2.1).1, (rd_Key t4.1 t4.2.2.1).2.1, (rd_Key t4.1 t4.2.2.1).2.2.1, (rd_Key t4.1 t4.2.2.1).2.2.2.1, (rd_Key t4.1 t4.2.2.1).2.2.2.2, t4.2.2.2.1, t4.2.2.2.2.1, t4.2.2.2.2.2.1, t4.2.2.2.2.2.2.1, t4.2.2.2.2.2.2.2.1)) fun r3 => bif (!r3) then if (0 : Int) ≤ t4.2.2.1 then if t4.2.2.1 < ((List.length t4.1 : Nat) : Int) then if (List.length (t4.2.2.2.2.2.2.2.2 ++ ([(t4.2.2.2.1, t4.2.2.2.2.1, t4.2.2.2.2.2.1, t4.2.2.2.2.2.2.1, t4.2.2.2.2.2.2.2.1)] : List E_Key)) + List.length ([((rd_Key t4.1 t4.2.2.1).1, (rd_Key t4.1 t4.2.2.1).2.1, (rd_Key t4.1 t4.2.2.1).2.2.1, (rd_Key t4.1 t4.2.2.1).2.2.2.1, (rd_Key t4.1 t4.2.2.1).2.2.2.2)] : List E_Key)) * 40 < 140737488355328 then again (t4.1, true, (Go.IntKind.wrap .i64 (t4.2.2.1 + (1 : Int))), t4.2.2.2.1, t4.2.2.2.2.1, t4.2.2.2.2.2.1, t4.2.2.2.2.2.2.1, t4.2.2.2.2.2.2.2.1, ((t4.2.2.2.2.2.2.2.2 ++ ([(t4.2.2.2.1, t4.2.2.2.2.1, t4.2.2.2.2.2.1, t4.2.2.2.2.2.2.1, t4.2.2.2.2.2.2.2.1)] : List E_Key)) ++ ([((rd_Key t4.1 t4.2.2.1).1, (rd_Key t4.1 t4.2.2.1).2.1, (rd_Key t4.1 t4.2.2.1).2.2.1, (rd_Key t4.1 t4.2.2.1).2.2.2.1, (rd_Key t4.1 t4.2.2.1).2.2.2.2)] : List E_Key))) else none else none else none else again (t4.1, true, (Go.IntKind.wrap .i64 (t4.2.2.1 + (1 : Int))), t4.2.2.2.1, t4.2.2.2.2.1, t4.2.2.2.2.2.1, t4.2.2.2.2.2.2.1, t4.2.2.2.2.2.2.2.1, (t4.2.2.2.2.2.2.2.2 ++ ([(t4.2.2.2.1, t4.2.2.2.2.1, t4.2.2.2.2.2.1, t4.2.2.2.2.2.2.1, t4.2.2.2.2.2.2.2.1)] : List E_Key))) else none else none else none else if (0 : Int) ≤ t4.2.2.1 then if t4.2.2.1 < ((List.length t4.1 : Nat) : Int) then Option.bind (F_spec_SameSpot ((rd_Key t4.1 t4.2.2.1).1, (rd_Key t4.1 t4.2.2.1).2.1, (rd_Key t4.1 t4.2.2.1).2.2.1, (rd_Key t4.1 t4.2.2.1).2.2.2.1, (rd_Key t4.1 t4.2.2.1).2.2.2.2, t4.2.2.2.1, t4.2.2.2.2.1, t4.2.2.2.2.2.1, t4.2.2.2.2.2.2.1, t4.2.2.2.2.2.2.2.1)) fun r4 => bif (!r4) then if (0 : Int) ≤ t4.2.2.1 then if t4.2.2.1 < ((List.length t4.1 : Nat) : Int) then if (List.length t4.2.2.2.2.2.2.2.2 + List.length ([((rd_Key t4.1 t4.2.2.1).1, (rd_Key t4.1 t4.2.2.1).2.1, (rd_Key t4.1 t4.2.2.1).2.2.1, (rd_Key t4.1 t4.2.2.1).2.2.2.1, (rd_Key t4.1 t4.2.2.1).2.2.2.2)] : List E_Key)) * 40 < 140737488355328 then again (t4.1, t4.2.1, (Go.IntKind.wrap .i64 (t4.2.2.1 + (1 : Int))), t4.2.2.2.1, t4.2.2.2.2.1, t4.2.2.2.2.2.1, t4.2.2.2.2.2.2.1, t4.2.2.2.2.2.2.2.1, (t4.2.2.2.2.2.2.2.2 ++ ([((rd_Key t4.1 t4.2.2.1).1, (rd_Key t4.1 t4.2.2.1).2.1, (rd_Key t4.1 t4.2.2.1).2.2.1, (rd_Key t4.1 t4.2.2.1).2.2.2.1, (rd_Key t4.1 t4.2.2.1).2.2.2.2)] : List E_Key))) else none else none else none else again (t4.1, t4.2.1, (Go.IntKind.wrap .i64 (t4.2.2.1 + (1 : Int))), t4.2.2.2.1, t4.2.2.2.2.1, t4.2.2.2.2.2.1, t4.2.2.2.2.2.2.1, t4.2.2.2.2.2.2.2.1, t4.2.2.2.2.2.2.2.2) else none else none else k0 (t4.2.1, t4.2.2.2.1, t4.2.2.2.2.1, t4.2.2.2.2.2.1, t4.2.2.2.2.2.2.1, t4.2.2.2.2.2.2.2.1, t4.2.2.2.2.2.2.2.2)
noncomputable def L_spec_SetPut_4 {R : Type} (k0 : (Bool × Int × Int × Int × Int × Int × List E_Key) → Option R) (t : T_spec_SetPut_4) : Option R := iter (S_spec_SetPut_4 k0) FUEL t
noncomputable def F_spec_SetPut (x : List E_Key × Int × Int × Int × Int × Int) : Option (List E_Key) :=
  L_spec_SetPut_4 (fun x5 => bif (!x5.1) then if (List.length x5.2.2.2.2.2.2 + List.length ([(x5.2.1, x5.2.2.1, x5.2.2.2.1, x5.2.2.2.2.1, x5.2.2.2.2.2.1)] : List E_Key)) * 40 < 140737488355328 then some (x5.2.2.2.2.2.2 ++ ([(x5.2.1, x5.2.2.1, x5.2.2.2.1, x5.2.2.2.2.1, x5.2.2.2.2.2.1)] : List E_Key)) else none else some x5.2.2.2.2.2.2) (x.1, false, (0 : Int), x.2.1, x.2.2.1, x.2.2.2.1, x.2.2.2.2.1, x.2.2.2.2.2, ([] : List E_Key))
noncomputable def f214B : Code := match Tryz.f214.body with
  | some c => c
  | none => .skip
noncomputable def f214K : C.Sem := tab [⟨248, F_spec_LessKey⟩, ⟨249, F_spec_SameSpot⟩]
def f214h4_0 : List Sh := [.v (.sl 105 ts_Key), .dead, .dead, .box 3 0, .dead, .own 10000000, .v .bool, .v (.int .i64), .dead, .dead, .dead, .dead, .dead, .dead, .dead, .dead, .dead, .dead, .dead, .dead, .dead, .dead, .dead, .dead, .dead, .dead, .dead, .dead, .dead, .dead, .dead, .dead, .dead, .dead, .dead, .dead, .dead, .dead, .dead, .dead, .dead, .dead, .dead, .dead, .dead, .dead, .dead, .dead, .dead, .dead, .dead]
def f214o4_0 : List (Nat × OSh) := [(3, .box [.v (.int .i64), .v (.int .i64), .v (.int .i64), .v (.int .i64), .v (.int .i64)]), (10000000, .root true 105 ts_Key)]
def f214e4_0 (t : List E_Key × Bool × Int × Int × Int × Int × Int × Int × List E_Key) : St := ⟨[.val (.sl 105 ts_Key) t.1, .dead, .dead, .box 3 0, .dead, .own 10000000, .val .bool t.2.1, .val (.int .i64) t.2.2.1, .dead, .dead, .dead, .dead, .dead, .dead, .dead, .dead, .dead, .dead, .dead, .dead, .dead, .dead, .dead, .dead, .dead, .dead, .dead, .dead, .dead, .dead, .dead, .dead, .dead, .dead, .dead, .dead, .dead, .dead, .dead, .dead, .dead, .dead, .dead, .dead, .dead, .dead, .dead, .dead, .dead, .dead, .dead], [(3, .box [.val (.int .i64) t.2.2.2.1, .val (.int .i64) t.2.2.2.2.1, .val (.int .i64) t.2.2.2.2.2.1, .val (.int .i64) t.2.2.2.2.2.2.1, .val (.int .i64) t.2.2.2.2.2.2.2.1]), (10000000, .root true 105 ts_Key t.2.2.2.2.2.2.2.2)]⟩
def f214x4_0 (t : Bool × Int × Int × Int × Int × Int × List E_Key) : St := ⟨[.dead, .dead, .dead, .box 3 0, .dead, .own 10000000, .val .bool t.1, .dead, .dead, .dead, .dead, .dead, .dead, .dead, .dead, .dead, .dead, .dead, .dead, .dead, .dead, .dead, .dead, .dead, .dead, .dead, .dead, .dead, .dead, .dead, .dead, .dead, .dead, .dead, .dead, .dead, .dead, .dead, .dead, .dead, .dead, .dead, .dead, .dead, .dead, .dead, .dead, .dead, .dead, .dead, .dead], [(3, .box [.val (.int .i64) t.2.1, .val (.int .i64) t.2.2.1, .val (.int .i64) t.2.2.2.1, .val (.int .i64) t.2.2.2.2.1, .val (.int .i64) t.2.2.2.2.2.1]), (10000000, .root true 105 ts_Key t.2.2.2.2.2.2)]⟩
def f214u4_0 (s : St) : Option (List E_Key × Bool × Int × Int × Int × Int × Int × Int × List E_Key) := (unS f214h4_0 f214o4_0 s).map fun v => (v.1.1, v.1.2.2.2.2.2.2.1, v.1.2.2.2.2.2.2.2.1, v.2.1.1, v.2.1.2.1, v.2.1.2.2.1, v.2.1.2.2.2.1, v.2.1.2.2.2.2.1, v.2.2.1)
theorem f214un4_0 : ∀ (s : St) (t : List E_Key × Bool × Int × Int × Int × Int × Int × Int × List E_Key), f214u4_0 s = some t → f214e4_0 t = s := fun s v h => by
  obtain ⟨u, hu, rfl⟩ := Option.map_eq_some_iff.1 h
  exact (show f214e4_0 (u.1.1, u.1.2.2.2.2.2.2.1, u.1.2.2.2.2.2.2.2.1, u.2.1.1, u.2.1.2.1, u.2.1.2.2.1, u.2.1.2.2.2.1, u.2.1.2.2.2.2.1, u.2.2.1) = mkS f214h4_0 f214o4_0 u by kernel_rfl).trans (mkS_un f214h4_0 f214o4_0 s u hu)
def f214u4 : St → Option (List E_Key × Bool × Int × Int × Int × Int × Int × Int × List E_Key) := f214u4_0
def f214e4 : (List E_Key × Bool × Int × Int × Int × Int × Int × Int × List E_Key) → St := f214e4_0
theorem f214un4 : ∀ (s : St) (t : List E_Key × Bool × Int × Int × Int × Int × Int × Int × List E_Key), f214u4 s = some t → f214e4 t = s := f214un4_0
noncomputable def f214P : Lp := fun i s {_R} κ => bif Nat.beq i 4 then (f214u4 s).bind fun t => L_spec_SetPut_4 (fun t => κ (some 0) (f214x4_0 t)) t else none
noncomputable def f214c4 : Code := (loopsOf f214B).getD 0 .skip
theorem f214A4 : C.live 214 (firstRegion f214c4) = some ([0, 3, 5, 6, 7, 18, 19, 20, 21, 22, 23, 24], [3, 5, 6]) := by kernel_rfl
theorem f214B4 {R : Type} (κ : Option Nat → St → Option R) (s : St) : f214P (firstRegion f214c4) s κ = (f214u4 s).bind fun t => iter (S_spec_SetPut_4 (fun t => κ (some 0) (f214x4_0 t))) FUEL t := by kernel_rfl
theorem f214C4 {R : Type} (κ : Option Nat → St → Option R) (again : St → Option R) (t : T_spec_SetPut_4) : stepL C f214K f214P 214 f214c4 [0, 3, 5, 6, 7, 18, 19, 20, 21, 22, 23, 24] [3, 5, 6] κ again (f214e4 t) = S_spec_SetPut_4 (fun t => κ (some 0) (f214x4_0 t)) (fun t => again (f214e4 t)) t := by kernel_rfl
theorem f214ok4 : LoopOk C f214K f214P 214 f214c4 := loop_ok f214A4 f214e4 f214u4 f214un4 (fun {_R} κ => S_spec_SetPut_4 (fun t => κ (some 0) (f214x4_0 t))) (fun {_R} κ s => f214B4 κ s) (fun {_R} κ again t => f214C4 κ again t)
theorem k214 : Contract C Tryz.prog f214K := contract_tab _ (fun p hp => by
    simp only [List.mem_cons, List.mem_nil_iff, or_false] at hp
    rcases hp with rfl | rfl
    · exact ok248
    · exact ok249)
theorem ev214 (x : List E_Key × Int × Int × Int × Int × Int) : evalB C f214K f214P 214 Tryz.f214 f214B ⟨[.v false [(.sl 105 ts_Key)] [false], .v true [(.int .i64), (.int .i64), (.int .i64), (.int .i64), (.int .i64)] [false, false, false, false, false]], [⟨false, [(.sl 105 ts_Key)], [true]⟩], false⟩ [(.sl 105 ts_Key), (.int .i64), (.int .i64), (.int .i64), (.int .i64), (.int .i64)] [(.sl 105 ts_Key)] x = F_spec_SetPut x := by kernel_rfl
theorem ok214 : ContractAt C Tryz.prog 214 F_spec_SetPut := fn_sound (lp := f214P) tok mixed k214 (by kernel_rfl) (fn := Tryz.f214) (c := f214B) (sg := ⟨[.v false [(.sl 105 ts_Key)] [false], .v true [(.int .i64), (.int .i64), (.int .i64), (.int .i64), (.int .i64)] [false, false, false, false, false]], [⟨false, [(.sl 105 ts_Key)], [true]⟩], false⟩) Tryz.func214 (by decide) (by kernel_rfl) (by kernel_rfl) (by kernel_rfl) (fun c' hc' => by
    rw [show loopsOf f214B = [f214c4] by kernel_rfl] at hc'
    simp only [List.mem_cons, List.mem_nil_iff, or_false] at hc'
    rcases hc' with rfl
    · exact f214ok4) (by decide) (by decide) (fun x y h => (ev214 x).trans h)
abbrev T_spec_MergeSets_3 : Type := List E_Key × Int × List E_Key
noncomputable def S_spec_MergeSets_3 {R : Type} (k0 : List E_Key → Option R) (again : T_spec_MergeSets_3 → Option R) (t3 : T_spec_MergeSets_3) : Option R :=
  bif (decide (t3.2.1 < ((List.length t3.1 : Nat) : Int))) then if (0 : Int) ≤ t3.2.1 then if t3.2.1 < ((List.length t3.1 : Nat) : Int) then Option.bind (F_spec_SetPut (t3.2.2, (rd_Key t3.1 t3.2.1).1, (rd_Key t3.1 t3.2.1).2.1, (rd_Key t3.1 t3.2.1).2.2.1, (rd_Key t3.1 t3.2.1).2.2.2.1, (rd_Key t3.1 t3.2.1).2.2.2.2)) fun r1 => again (t3.1, (Go.IntKind.wrap .i64 (t3.2.1 + (1 : Int))), r1) else none else none else k0 t3.2.2
noncomputable def L_spec_MergeSets_3 {R : Type} (k0 : List E_Key → Option R) (t : T_spec_MergeSets_3) : Option R := iter (S_spec_MergeSets_3 k0) FUEL t
noncomputable def F_spec_MergeSets (x : List E_Key × List E_Key) : Option (List E_Key) :=
  if (List.length ([] : List E_Key) + List.length x.1) * 40 < 140737488355328 then L_spec_MergeSets_3 (fun x2 => some x2) (x.2, (0 : Int), (([] : List E_Key) ++ x.1)) else none
noncomputable def f235B : Code := match Tryz.f235.body with
  | some c => c
  | none => .skip
noncomputable def f235K : C.Sem := tab [⟨214, F_spec_SetPut⟩]
def f235h3_0 : List Sh := [.dead, .v (.sl 105 ts_Key), .dead, .dead, .dead, .own 10000000, .v (.int .i64), .dead, .dead, .dead, .dead, .dead, .dead, .dead, .dead, .dead, .dead, .dead, .dead, .dead, .dead, .dead, .dead]
def f235o3_0 : List (Nat × OSh) := [(10000000, .root true 105 ts_Key)]
def f235e3_0 (t : List E_Key × Int × List E_Key) : St := ⟨[.dead, .val (.sl 105 ts_Key) t.1, .dead, .dead, .dead, .own 10000000, .val (.int .i64) t.2.1, .dead, .dead, .dead, .dead, .dead, .dead, .dead, .dead, .dead, .dead, .dead, .dead, .dead, .dead, .dead, .dead], [(10000000, .root true 105 ts_Key t.2.2)]⟩
def f235x3_0 (t : List E_Key) : St := ⟨[.dead, .dead, .dead, .dead, .dead, .own 10000000, .dead, .dead, .dead, .dead, .dead, .dead, .dead, .dead, .dead, .dead, .dead, .dead, .dead, .dead, .dead, .dead, .dead], [(10000000, .root true 105 ts_Key t)]⟩
def f235u3_0 (s : St) : Option (List E_Key × Int × List E_Key) := (unS f235h3_0 f235o3_0 s).map fun v => (v.1.2.1, v.1.2.2.2.2.2.2.1, v.2.1)
theorem f235un3_0 : ∀ (s : St) (t : List E_Key × Int × List E_Key), f235u3_0 s = some t → f235e3_0 t = s := fun s v h => by
  obtain ⟨u, hu, rfl⟩ := Option.map_eq_some_iff.1 h
  exact (show f235e3_0 (u.1.2.1, u.1.2.2.2.2.2.2.1, u.2.1) = mkS f235h3_0 f235o3_0 u by kernel_rfl).trans (mkS_un f235h3_0 f235o3_0 s u hu)
def f235u3 : St → Option (List E_Key × Int × List E_Key) := f235u3_0
def f235e3 : (List E_Key × Int × List E_Key) → St := f235e3_0
theorem f235un3 : ∀ (s : St) (t : List E_Key × Int × List E_Key), f235u3 s = some t → f235e3 t = s := f235un3_0
noncomputable def f235P : Lp := fun i s {_R} κ => bif Nat.beq i 3 then (f235u3 s).bind fun t => L_spec_MergeSets_3 (fun t => κ (some 0) (f235x3_0 t)) t else none
noncomputable def f235c3 : Code := (loopsOf f235B).getD 0 .skip
theorem f235A3 : C.live 235 (firstRegion f235c3) = some ([1, 5, 6], [5]) := by kernel_rfl
theorem f235B3 {R : Type} (κ : Option Nat → St → Option R) (s : St) : f235P (firstRegion f235c3) s κ = (f235u3 s).bind fun t => iter (S_spec_MergeSets_3 (fun t => κ (some 0) (f235x3_0 t))) FUEL t := by kernel_rfl
theorem f235C3 {R : Type} (κ : Option Nat → St → Option R) (again : St → Option R) (t : T_spec_MergeSets_3) : stepL C f235K f235P 235 f235c3 [1, 5, 6] [5] κ again (f235e3 t) = S_spec_MergeSets_3 (fun t => κ (some 0) (f235x3_0 t)) (fun t => again (f235e3 t)) t := by kernel_rfl
theorem f235ok3 : LoopOk C f235K f235P 235 f235c3 := loop_ok f235A3 f235e3 f235u3 f235un3 (fun {_R} κ => S_spec_MergeSets_3 (fun t => κ (some 0) (f235x3_0 t))) (fun {_R} κ s => f235B3 κ s) (fun {_R} κ again t => f235C3 κ again t)
theorem k235 : Contract C Tryz.prog f235K := contract_tab _ (fun p hp => by
    simp only [List.mem_cons, List.mem_nil_iff, or_false] at hp
    rcases hp with rfl
    · exact ok214)
theorem ev235 (x : List E_Key × List E_Key) : evalB C f235K f235P 235 Tryz.f235 f235B ⟨[.v false [(.sl 105 ts_Key)] [false], .v false [(.sl 105 ts_Key)] [false]], [⟨false, [(.sl 105 ts_Key)], [true]⟩], false⟩ [(.sl 105 ts_Key), (.sl 105 ts_Key)] [(.sl 105 ts_Key)] x = F_spec_MergeSets x := by kernel_rfl
theorem ok235 : ContractAt C Tryz.prog 235 F_spec_MergeSets := fn_sound (lp := f235P) tok mixed k235 (by kernel_rfl) (fn := Tryz.f235) (c := f235B) (sg := ⟨[.v false [(.sl 105 ts_Key)] [false], .v false [(.sl 105 ts_Key)] [false]], [⟨false, [(.sl 105 ts_Key)], [true]⟩], false⟩) Tryz.func235 (by decide) (by kernel_rfl) (by kernel_rfl) (by kernel_rfl) (fun c' hc' => by
    rw [show loopsOf f235B = [f235c3] by kernel_rfl] at hc'
    simp only [List.mem_cons, List.mem_nil_iff, or_false] at hc'
    rcases hc' with rfl
    · exact f235ok3) (by decide) (by decide) (fun x y h => (ev235 x).trans h)
abbrev T_spec_NodeKeys_3 : Type := Int × List E_s_Key × List E_Key
noncomputable def S_spec_NodeKeys_3 {R : Type} (k0 : List E_Key → Option R) (again : T_spec_NodeKeys_3 → Option R) (t3 : T_spec_NodeKeys_3) : Option R :=
  bif (decide (t3.1 < ((List.length t3.2.1 : Nat) : Int))) then if (0 : Int) ≤ t3.1 then if t3.1 < ((List.length t3.2.1 : Nat) : Int) then Option.bind (F_spec_MergeSets (t3.2.2, (rd_s_Key t3.2.1 t3.1))) fun r1 => again ((Go.IntKind.wrap .i64 (t3.1 + (1 : Int))), t3.2.1, r1) else none else none else k0 t3.2.2
noncomputable def L_spec_NodeKeys_3 {R : Type} (k0 : List E_Key → Option R) (t : T_spec_NodeKeys_3) : Option R := iter (S_spec_NodeKeys_3 k0) FUEL t
noncomputable def F_spec_NodeKeys (x : List E_s_Key) : Option (List E_Key) :=
  L_spec_NodeKeys_3 (fun x2 => Option.bind (F_spec_Drop x2) fun r3 => some r3) ((0 : Int), x, ([] : List E_Key))
noncomputable def f199B : Code := match Tryz.f199.body with
  | some c => c
  | none => .skip
noncomputable def f199K : C.Sem := tab [⟨213, F_spec_Drop⟩, ⟨235, F_spec_MergeSets⟩]
def f199h3_0 : List Sh := [.dead, .box 1 0, .dead, .own 10000000, .v (.int .i64), .dead, .dead, .dead, .dead, .dead, .dead, .dead, .dead, .dead, .dead, .dead, .dead, .dead, .dead, .dead, .dead, .dead]
def f199o3_0 : List (Nat × OSh) := [(1, .box [.v (.sl 99 ts_s_Key)]), (10000000, .root true 105 ts_Key)]
def f199e3_0 (t : Int × List E_s_Key × List E_Key) : St := ⟨[.dead, .box 1 0, .dead, .own 10000000, .val (.int .i64) t.1, .dead, .dead, .dead, .dead, .dead, .dead, .dead, .dead, .dead, .dead, .dead, .dead, .dead, .dead, .dead, .dead, .dead], [(1, .box [.val (.sl 99 ts_s_Key) t.2.1]), (10000000, .root true 105 ts_Key t.2.2)]⟩
def f199x3_0 (t : List E_Key) : St := ⟨[.dead, .dead, .dead, .own 10000000, .dead, .dead, .dead, .dead, .dead, .dead, .dead, .dead, .dead, .dead, .dead, .dead, .dead, .dead, .dead, .dead, .dead, .dead], [(10000000, .root true 105 ts_Key t)]⟩
def f199u3_0 (s : St) : Option (Int × List E_s_Key × List E_Key) := (unS f199h3_0 f199o3_0 s).map fun v => (v.1.2.2.2.2.1, v.2.1.1, v.2.2.1)
theorem f199un3_0 : ∀ (s : St) (t : Int × List E_s_Key × List E_Key), f199u3_0 s = some t → f199e3_0 t = s := fun s v h => by
  obtain ⟨u, hu, rfl⟩ := Option.map_eq_some_iff.1 h
  exact (show f199e3_0 (u.1.2.2.2.2.1, u.2.1.1, u.2.2.1) = mkS f199h3_0 f199o3_0 u by kernel_rfl).trans (mkS_un f199h3_0 f199o3_0 s u hu)
def f199u3 : St → Option (Int × List E_s_Key × List E_Key) := f199u3_0
def f199e3 : (Int × List E_s_Key × List E_Key) → St := f199e3_0
theorem f199un3 : ∀ (s : St) (t : Int × List E_s_Key × List E_Key), f199u3 s = some t → f199e3 t = s := f199un3_0
noncomputable def f199P : Lp := fun i s {_R} κ => bif Nat.beq i 3 then (f199u3 s).bind fun t => L_spec_NodeKeys_3 (fun t => κ (some 0) (f199x3_0 t)) t else none
noncomputable def f199c3 : Code := (loopsOf f199B).getD 0 .skip
theorem f199A3 : C.live 199 (firstRegion f199c3) = some ([1, 3, 4], [3]) := by kernel_rfl
theorem f199B3 {R : Type} (κ : Option Nat → St → Option R) (s : St) : f199P (firstRegion f199c3) s κ = (f199u3 s).bind fun t => iter (S_spec_NodeKeys_3 (fun t => κ (some 0) (f199x3_0 t))) FUEL t := by kernel_rfl
theorem f199C3 {R : Type} (κ : Option Nat → St → Option R) (again : St → Option R) (t : T_spec_NodeKeys_3) : stepL C f199K f199P 199 f199c3 [1, 3, 4] [3] κ again (f199e3 t) = S_spec_NodeKeys_3 (fun t => κ (some 0) (f199x3_0 t)) (fun t => again (f199e3 t)) t := by kernel_rfl
theorem f199ok3 : LoopOk C f199K f199P 199 f199c3 := loop_ok f199A3 f199e3 f199u3 f199un3 (fun {_R} κ => S_spec_NodeKeys_3 (fun t => κ (some 0) (f199x3_0 t))) (fun {_R} κ s => f199B3 κ s) (fun {_R} κ again t => f199C3 κ again t)
theorem k199 : Contract C Tryz.prog f199K := contract_tab _ (fun p hp => by
    simp only [List.mem_cons, List.mem_nil_iff, or_false] at hp
    rcases hp with rfl | rfl
    · exact ok213
    · exact ok235)
theorem ev199 (x : List E_s_Key) : evalB C f199K f199P 199 Tryz.f199 f199B ⟨[.v true [(.sl 99 ts_s_Key)] [false]], [⟨false, [(.sl 105 ts_Key)], [true]⟩], false⟩ [(.sl 99 ts_s_Key)] [(.sl 105 ts_Key)] x = F_spec_NodeKeys x := by kernel_rfl
theorem ok199 : ContractAt C Tryz.prog 199 F_spec_NodeKeys := fn_sound (lp := f199P) tok mixed k199 (by kernel_rfl) (fn := Tryz.f199) (c := f199B) (sg := ⟨[.v true [(.sl 99 ts_s_Key)] [false]], [⟨false, [(.sl 105 ts_Key)], [true]⟩], false⟩) Tryz.func199 (by decide) (by kernel_rfl) (by kernel_rfl) (by kernel_rfl) (fun c' hc' => by
    rw [show loopsOf f199B = [f199c3] by kernel_rfl] at hc'
    simp only [List.mem_cons, List.mem_nil_iff, or_false] at hc'
    rcases hc' with rfl
    · exact f199ok3) (by decide) (by decide) (fun x y h => (ev199 x).trans h)
abbrev T_spec_TreeKeys_3 : Type := Int × List E_i64 × List E_Node × List E_Key
noncomputable def S_spec_TreeKeys_3 {R : Type} (k0 : List E_Key → Option R) (again : T_spec_TreeKeys_3 → Option R) (t3 : T_spec_TreeKeys_3) : Option R :=
  bif (decide (t3.1 < ((List.length t3.2.2.1 : Nat) : Int))) then if (0 : Int) ≤ t3.1 then if t3.1 < ((List.length t3.2.2.1 : Nat) : Int) then Option.bind (F_spec_NodeKeys (rd_Node t3.2.2.1 t3.1)) fun r1 => if (List.length t3.2.2.2 + List.length r1) * 40 < 140737488355328 then again ((Go.IntKind.wrap .i64 (t3.1 + (1 : Int))), t3.2.1, t3.2.2.1, (t3.2.2.2 ++ r1)) else none else none else none else k0 t3.2.2.2
noncomputable def L_spec_TreeKeys_3 {R : Type} (k0 : List E_Key → Option R) (t : T_spec_TreeKeys_3) : Option R := iter (S_spec_TreeKeys_3 k0) FUEL t
noncomputable def F_spec_TreeKeys (x : List E_i64 × List E_Node) : Option (List E_Key) :=
  L_spec_TreeKeys_3 (fun x2 => some x2) ((0 : Int), x.1, x.2, ([] : List E_Key))
noncomputable def f156B : Code := match Tryz.f156.body with
  | some c => c
  | none => .skip
noncomputable def f156K : C.Sem := tab [⟨199, F_spec_NodeKeys⟩]
def f156h3_0 : List Sh := [.dead, .box 1 0, .dead, .own 10000000, .v (.int .i64), .dead, .dead, .dead, .dead, .dead, .dead, .dead, .dead, .dead, .dead, .dead, .dead, .dead, .dead, .dead, .dead, .dead]
def f156o3_0 : List (Nat × OSh) := [(1, .box [.v (.sl 3 ts_i64), .v (.sl 97 ts_Node)]), (10000000, .root true 105 ts_Key)]
def f156e3_0 (t : Int × List E_i64 × List E_Node × List E_Key) : St := ⟨[.dead, .box 1 0, .dead, .own 10000000, .val (.int .i64) t.1, .dead, .dead, .dead, .dead, .dead, .dead, .dead, .dead, .dead, .dead, .dead, .dead, .dead, .dead, .dead, .dead, .dead], [(1, .box [.val (.sl 3 ts_i64) t.2.1, .val (.sl 97 ts_Node) t.2.2.1]), (10000000, .root true 105 ts_Key t.2.2.2)]⟩
def f156x3_0 (t : List E_Key) : St := ⟨[.dead, .dead, .dead, .own 10000000, .dead, .dead, .dead, .dead, .dead, .dead, .dead, .dead, .dead, .dead, .dead, .dead, .dead, .dead, .dead, .dead, .dead, .dead], [(10000000, .root true 105 ts_Key t)]⟩
def f156u3_0 (s : St) : Option (Int × List E_i64 × List E_Node × List E_Key) := (unS f156h3_0 f156o3_0 s).map fun v => (v.1.2.2.2.2.1, v.2.1.1, v.2.1.2.1, v.2.2.1)
theorem f156un3_0 : ∀ (s : St) (t : Int × List E_i64 × List E_Node × List E_Key), f156u3_0 s = some t → f156e3_0 t = s := fun s v h => by
  obtain ⟨u, hu, rfl⟩ := Option.map_eq_some_iff.1 h
  exact (show f156e3_0 (u.1.2.2.2.2.1, u.2.1.1, u.2.1.2.1, u.2.2.1) = mkS f156h3_0 f156o3_0 u by kernel_rfl).trans (mkS_un f156h3_0 f156o3_0 s u hu)
def f156u3 : St → Option (Int × List E_i64 × List E_Node × List E_Key) := f156u3_0
def f156e3 : (Int × List E_i64 × List E_Node × List E_Key) → St := f156e3_0
theorem f156un3 : ∀ (s : St) (t : Int × List E_i64 × List E_Node × List E_Key), f156u3 s = some t → f156e3 t = s := f156un3_0
noncomputable def f156P : Lp := fun i s {_R} κ => bif Nat.beq i 3 then (f156u3 s).bind fun t => L_spec_TreeKeys_3 (fun t => κ (some 0) (f156x3_0 t)) t else none
noncomputable def f156c3 : Code := (loopsOf f156B).getD 0 .skip
theorem f156A3 : C.live 156 (firstRegion f156c3) = some ([1, 3, 4], [3]) := by kernel_rfl
theorem f156B3 {R : Type} (κ : Option Nat → St → Option R) (s : St) : f156P (firstRegion f156c3) s κ = (f156u3 s).bind fun t => iter (S_spec_TreeKeys_3 (fun t => κ (some 0) (f156x3_0 t))) FUEL t := by kernel_rfl
theorem f156C3 {R : Type} (κ : Option Nat → St → Option R) (again : St → Option R) (t : T_spec_TreeKeys_3) : stepL C f156K f156P 156 f156c3 [1, 3, 4] [3] κ again (f156e3 t) = S_spec_TreeKeys_3 (fun t => κ (some 0) (f156x3_0 t)) (fun t => again (f156e3 t)) t := by kernel_rfl
theorem f156ok3 : LoopOk C f156K f156P 156 f156c3 := loop_ok f156A3 f156e3 f156u3 f156un3 (fun {_R} κ => S_spec_TreeKeys_3 (fun t => κ (some 0) (f156x3_0 t))) (fun {_R} κ s => f156B3 κ s) (fun {_R} κ again t => f156C3 κ again t)
theorem k156 : Contract C Tryz.prog f156K := contract_tab _ (fun p hp => by
    simp only [List.mem_cons, List.mem_nil_iff, or_false] at hp
    rcases hp with rfl
    · exact ok199)
theorem ev156 (x : List E_i64 × List E_Node) : evalB C f156K f156P 156 Tryz.f156 f156B ⟨[.v true [(.sl 3 ts_i64), (.sl 97 ts_Node)] [false, false]], [⟨false, [(.sl 105 ts_Key)], [true]⟩], false⟩ [(.sl 3 ts_i64), (.sl 97 ts_Node)] [(.sl 105 ts_Key)] x = F_spec_TreeKeys x := by kernel_rfl
theorem ok156 : ContractAt C Tryz.prog 156 F_spec_TreeKeys := fn_sound (lp := f156P) tok mixed k156 (by kernel_rfl) (fn := Tryz.f156) (c := f156B) (sg := ⟨[.v true [(.sl 3 ts_i64), (.sl 97 ts_Node)] [false, false]], [⟨false, [(.sl 105 ts_Key)], [true]⟩], false⟩) Tryz.func156 (by decide) (by kernel_rfl) (by kernel_rfl) (by kernel_rfl) (fun c' hc' => by
    rw [show loopsOf f156B = [f156c3] by kernel_rfl] at hc'
    simp only [List.mem_cons, List.mem_nil_iff, or_false] at hc'
    rcases hc' with rfl
    · exact f156ok3) (by decide) (by decide) (fun x y h => (ev156 x).trans h)
noncomputable def F_spec_SpotOf (x : Int × Int) : Option (Int) :=
  some (Go.IntKind.wrap .i64 ((Go.IntKind.wrap .i64 ((64 : Int) * x.1)) + x.2))
noncomputable def f246B : Code := match Tryz.f246.body with
  | some c => c
  | none => .skip
noncomputable def f246K : C.Sem := tab []
noncomputable def f246P : Lp := fun i s {_R} κ => none
theorem k246 : Contract C Tryz.prog f246K := contract_tab _ (fun p hp => by cases hp)
theorem ev246 (x : Int × Int) : evalB C f246K f246P 246 Tryz.f246 f246B ⟨[.v false [(.int .i64)] [false], .v false [(.int .i64)] [false]], [⟨false, [(.int .i64)], [false]⟩], false⟩ [(.int .i64), (.int .i64)] [(.int .i64)] x = F_spec_SpotOf x := by kernel_rfl
theorem ok246 : ContractAt C Tryz.prog 246 F_spec_SpotOf := fn_sound (lp := f246P) tok mixed k246 (by kernel_rfl) (fn := Tryz.f246) (c := f246B) (sg := ⟨[.v false [(.int .i64)] [false], .v false [(.int .i64)] [false]], [⟨false, [(.int .i64)], [false]⟩], false⟩) Tryz.func246 (by decide) (by kernel_rfl) (by kernel_rfl) (by kernel_rfl) (fun c' hc' => by
    rw [show loopsOf f246B = [] by kernel_rfl] at hc'
    cases hc') (by decide) (by decide) (fun x y h => (ev246 x).trans h)
noncomputable def F_spec_l6Spot (x : Int × Int × Int × Int × Int) : Option (Int) :=
  Option.bind (F_spec_SpotOf (x.1, x.2.1)) fun r1 => some r1
noncomputable def f215B : Code := match Tryz.f215.body with
  | some c => c
  | none => .skip
noncomputable def f215K : C.Sem := tab [⟨246, F_spec_SpotOf⟩]
noncomputable def f215P : Lp := fun i s {_R} κ => none
theorem k215 : Contract C Tryz.prog f215K := contract_tab _ (fun p hp => by
    simp only [List.mem_cons, List.mem_nil_iff, or_false] at hp
    rcases hp with rfl
    · exact ok246)
theorem ev215 (x : Int × Int × Int × Int × Int) : evalB C f215K f215P 215 Tryz.f215 f215B ⟨[.v true [(.int .i64), (.int .i64), (.int .i64), (.int .i64), (.int .i64)] [false, false, false, false, false]], [⟨false, [(.int .i64)], [false]⟩], false⟩ [(.int .i64), (.int .i64), (.int .i64), (.int .i64), (.int .i64)] [(.int .i64)] x = F_spec_l6Spot x := by kernel_rfl
theorem ok215 : ContractAt C Tryz.prog 215 F_spec_l6Spot := fn_sound (lp := f215P) tok mixed k215 (by kernel_rfl) (fn := Tryz.f215) (c := f215B) (sg := ⟨[.v true [(.int .i64), (.int .i64), (.int .i64), (.int .i64), (.int .i64)] [false, false, false, false, false]], [⟨false, [(.int .i64)], [false]⟩], false⟩) Tryz.func215 (by decide) (by kernel_rfl) (by kernel_rfl) (by kernel_rfl) (fun c' hc' => by
    rw [show loopsOf f215B = [] by kernel_rfl] at hc'
    cases hc') (by decide) (by decide) (fun x y h => (ev215 x).trans h)
noncomputable def F_spec_KeyOk (x : Int × Int × Int × Int × Int) : Option (Bool) :=
  Option.bind (F_spec_l1In (x.1, (0 : Int), (15 : Int))) fun r1 => Option.bind (bif (!r1) then some true else Option.bind (F_spec_l1In (x.2.1, (1 : Int), (60 : Int))) fun r3 => some (!r3)) fun u2 => Option.bind (bif u2 then some true else Option.bind (F_spec_l1In (x.2.2.1, (0 : Int), (2 : Int))) fun r5 => some (!r5)) fun u4 => bif u4 then some false else bif (x.2.2.1 == (1 : Int)) then Option.bind (F_spec_l1In (x.2.2.2.1, (0 : Int), (23 : Int))) fun r6 => Option.bind (bif r6 then Option.bind (F_spec_l1In (x.2.2.2.2, (0 : Int), (999 : Int))) fun r8 => some r8 else some false) fun u7 => some u7 else Option.bind (bif (x.2.2.2.1 == (0 : Int)) then some (x.2.2.2.2 == (0 : Int)) else some false) fun u9 => some u9
noncomputable def f181B : Code := match Tryz.f181.body with
  | some c => c
  | none => .skip
noncomputable def f181K : C.Sem := tab [⟨39, F_spec_l1In⟩]
noncomputable def f181P : Lp := fun i s {_R} κ => none
theorem k181 : Contract C Tryz.prog f181K := contract_tab _ (fun p hp => by
    simp only [List.mem_cons, List.mem_nil_iff, or_false] at hp
    rcases hp with rfl
    · exact ok39)
theorem ev181 (x : Int × Int × Int × Int × Int) : evalB C f181K f181P 181 Tryz.f181 f181B ⟨[.v true [(.int .i64), (.int .i64), (.int .i64), (.int .i64), (.int .i64)] [false, false, false, false, false]], [⟨false, [.bool], [false]⟩], false⟩ [(.int .i64), (.int .i64), (.int .i64), (.int .i64), (.int .i64)] [.bool] x = F_spec_KeyOk x := by kernel_rfl
theorem ok181 : ContractAt C Tryz.prog 181 F_spec_KeyOk := fn_sound (lp := f181P) tok mixed k181 (by kernel_rfl) (fn := Tryz.f181) (c := f181B) (sg := ⟨[.v true [(.int .i64), (.int .i64), (.int .i64), (.int .i64), (.int .i64)] [false, false, false, false, false]], [⟨false, [.bool], [false]⟩], false⟩) Tryz.func181 (by decide) (by kernel_rfl) (by kernel_rfl) (by kernel_rfl) (fun c' hc' => by
    rw [show loopsOf f181B = [] by kernel_rfl] at hc'
    cases hc') (by decide) (by decide) (fun x y h => (ev181 x).trans h)
abbrev T_spec_l4Rises_2 : Type := List E_Key × Int
noncomputable def S_spec_l4Rises_2 {R : Type} (k0 : Bool → Option R) (k1 : Unit → Option R) (again : T_spec_l4Rises_2 → Option R) (t2 : T_spec_l4Rises_2) : Option R :=
  bif (decide (t2.2 < ((List.length t2.1 : Nat) : Int))) then if (0 : Int) ≤ (Go.IntKind.wrap .i64 (t2.2 - (1 : Int))) then if (Go.IntKind.wrap .i64 (t2.2 - (1 : Int))) < ((List.length t2.1 : Nat) : Int) then if (0 : Int) ≤ t2.2 then if t2.2 < ((List.length t2.1 : Nat) : Int) then Option.bind (F_spec_LessKey ((rd_Key t2.1 (Go.IntKind.wrap .i64 (t2.2 - (1 : Int)))).1, (rd_Key t2.1 (Go.IntKind.wrap .i64 (t2.2 - (1 : Int)))).2.1, (rd_Key t2.1 (Go.IntKind.wrap .i64 (t2.2 - (1 : Int)))).2.2.1, (rd_Key t2.1 (Go.IntKind.wrap .i64 (t2.2 - (1 : Int)))).2.2.2.1, (rd_Key t2.1 (Go.IntKind.wrap .i64 (t2.2 - (1 : Int)))).2.2.2.2, (rd_Key t2.1 t2.2).1, (rd_Key t2.1 t2.2).2.1, (rd_Key t2.1 t2.2).2.2.1, (rd_Key t2.1 t2.2).2.2.2.1, (rd_Key t2.1 t2.2).2.2.2.2)) fun r1 => bif (!r1) then k0 false else again (t2.1, (Go.IntKind.wrap .i64 (t2.2 + (1 : Int)))) else none else none else none else none else k1 ()
noncomputable def L_spec_l4Rises_2 {R : Type} (k0 : Bool → Option R) (k1 : Unit → Option R) (t : T_spec_l4Rises_2) : Option R := iter (S_spec_l4Rises_2 k0 k1) FUEL t
noncomputable def F_spec_l4Rises (x : List E_Key) : Option (Bool) :=
  L_spec_l4Rises_2 (fun x2 => some x2) (fun x3 => some true) (x, (1 : Int))
noncomputable def f278B : Code := match Tryz.f278.body with
  | some c => c
  | none => .skip
noncomputable def f278K : C.Sem := tab [⟨248, F_spec_LessKey⟩]
def f278h2_0 : List Sh := [.v (.sl 105 ts_Key), .dead, .dead, .v (.int .i64), .dead, .dead, .dead, .dead, .dead, .dead, .dead, .dead, .dead, .dead, .dead, .dead, .dead, .dead, .dead, .dead, .dead]
def f278o2_0 : List (Nat × OSh) := []
def f278e2_0 (t : List E_Key × Int) : St := ⟨[.val (.sl 105 ts_Key) t.1, .dead, .dead, .val (.int .i64) t.2, .dead, .dead, .dead, .dead, .dead, .dead, .dead, .dead, .dead, .dead, .dead, .dead, .dead, .dead, .dead, .dead, .dead], []⟩
def f278x2_0 (t : Bool) : St := ⟨[.dead, .dead, .val .bool t, .dead, .dead, .dead, .dead, .dead, .dead, .dead, .dead, .dead, .dead, .dead, .dead, .dead, .dead, .dead, .dead, .dead, .dead], []⟩
def f278x2_1 (t : Unit) : St := ⟨[.dead, .dead, .dead, .dead, .dead, .dead, .dead, .dead, .dead, .dead, .dead, .dead, .dead, .dead, .dead, .dead, .dead, .dead, .dead, .dead, .dead], []⟩
def f278u2_0 (s : St) : Option (List E_Key × Int) := (unS f278h2_0 f278o2_0 s).map fun v => (v.1.1, v.1.2.2.2.1)
theorem f278un2_0 : ∀ (s : St) (t : List E_Key × Int), f278u2_0 s = some t → f278e2_0 t = s := fun s v h => by
  obtain ⟨u, hu, rfl⟩ := Option.map_eq_some_iff.1 h
  exact (show f278e2_0 (u.1.1, u.1.2.2.2.1) = mkS f278h2_0 f278o2_0 u by kernel_rfl).trans (mkS_un f278h2_0 f278o2_0 s u hu)
def f278u2 : St → Option (List E_Key × Int) := f278u2_0
def f278e2 : (List E_Key × Int) → St := f278e2_0
theorem f278un2 : ∀ (s : St) (t : List E_Key × Int), f278u2 s = some t → f278e2 t = s := f278un2_0
noncomputable def f278P : Lp := fun i s {_R} κ => bif Nat.beq i 2 then (f278u2 s).bind fun t => L_spec_l4Rises_2 (fun t => κ (none) (f278x2_0 t)) (fun t => κ (some 0) (f278x2_1 t)) t else none
noncomputable def f278c2 : Code := (loopsOf f278B).getD 0 .skip
theorem f278A2 : C.live 278 (firstRegion f278c2) = some ([0, 3], [2]) := by kernel_rfl
theorem f278B2 {R : Type} (κ : Option Nat → St → Option R) (s : St) : f278P (firstRegion f278c2) s κ = (f278u2 s).bind fun t => iter (S_spec_l4Rises_2 (fun t => κ (none) (f278x2_0 t)) (fun t => κ (some 0) (f278x2_1 t))) FUEL t := by kernel_rfl
theorem f278C2 {R : Type} (κ : Option Nat → St → Option R) (again : St → Option R) (t : T_spec_l4Rises_2) : stepL C f278K f278P 278 f278c2 [0, 3] [2] κ again (f278e2 t) = S_spec_l4Rises_2 (fun t => κ (none) (f278x2_0 t)) (fun t => κ (some 0) (f278x2_1 t)) (fun t => again (f278e2 t)) t := by kernel_rfl
theorem f278ok2 : LoopOk C f278K f278P 278 f278c2 := loop_ok f278A2 f278e2 f278u2 f278un2 (fun {_R} κ => S_spec_l4Rises_2 (fun t => κ (none) (f278x2_0 t)) (fun t => κ (some 0) (f278x2_1 t))) (fun {_R} κ s => f278B2 κ s) (fun {_R} κ again t => f278C2 κ again t)
theorem k278 : Contract C Tryz.prog f278K := contract_tab _ (fun p hp => by
    simp only [List.mem_cons, List.mem_nil_iff, or_false] at hp
    rcases hp with rfl
    · exact ok248)
theorem ev278 (x : List E_Key) : evalB C f278K f278P 278 Tryz.f278 f278B ⟨[.v false [(.sl 105 ts_Key)] [false]], [⟨false, [.bool], [false]⟩], false⟩ [(.sl 105 ts_Key)] [.bool] x = F_spec_l4Rises x := by kernel_rfl
theorem ok278 : ContractAt C Tryz.prog 278 F_spec_l4Rises := fn_sound (lp := f278P) tok mixed k278 (by kernel_rfl) (fn := Tryz.f278) (c := f278B) (sg := ⟨[.v false [(.sl 105 ts_Key)] [false]], [⟨false, [.bool], [false]⟩], false⟩) Tryz.func278 (by decide) (by kernel_rfl) (by kernel_rfl) (by kernel_rfl) (fun c' hc' => by
    rw [show loopsOf f278B = [f278c2] by kernel_rfl] at hc'
    simp only [List.mem_cons, List.mem_nil_iff, or_false] at hc'
    rcases hc' with rfl
    · exact f278ok2) (by decide) (by decide) (fun x y h => (ev278 x).trans h)
abbrev T_spec_SetOk_2 : Type := List E_Key × Int
noncomputable def S_spec_SetOk_2 {R : Type} (k0 : (List E_Key × Bool) → Option R) (k1 : List E_Key → Option R) (again : T_spec_SetOk_2 → Option R) (t2 : T_spec_SetOk_2) : Option R :=
  bif (decide (t2.2 < ((List.length t2.1 : Nat) : Int))) then if (0 : Int) ≤ t2.2 then if t2.2 < ((List.length t2.1 : Nat) : Int) then Option.bind (F_spec_KeyOk ((rd_Key t2.1 t2.2).1, (rd_Key t2.1 t2.2).2.1, (rd_Key t2.1 t2.2).2.2.1, (rd_Key t2.1 t2.2).2.2.2.1, (rd_Key t2.1 t2.2).2.2.2.2)) fun r1 => bif (!r1) then k0 (t2.1, false) else again (t2.1, (Go.IntKind.wrap .i64 (t2.2 + (1 : Int)))) else none else none else k1 t2.1
noncomputable def L_spec_SetOk_2 {R : Type} (k0 : (List E_Key × Bool) → Option R) (k1 : List E_Key → Option R) (t : T_spec_SetOk_2) : Option R := iter (S_spec_SetOk_2 k0 k1) FUEL t
noncomputable def F_spec_SetOk (x : List E_Key) : Option (Bool) :=
  L_spec_SetOk_2 (fun x2 => some x2.2) (fun x3 => Option.bind (F_spec_l4Rises x3) fun r4 => Option.bind (bif r4 then some (decide (((List.length x3 : Nat) : Int) ≤ (60 : Int))) else some false) fun u5 => some u5) (x, (0 : Int))
noncomputable def f257B : Code := match Tryz.f257.body with
  | some c => c
  | none => .skip
noncomputable def f257K : C.Sem := tab [⟨181, F_spec_KeyOk⟩, ⟨278, F_spec_l4Rises⟩]
def f257h2_0 : List Sh := [.v (.sl 105 ts_Key), .dead, .dead, .v (.int .i64), .dead, .dead, .dead, .dead, .dead, .dead, .dead, .dead, .dead, .dead, .dead, .dead, .dead, .dead, .dead, .dead, .dead, .dead, .dead]
def f257o2_0 : List (Nat × OSh) := []
def f257e2_0 (t : List E_Key × Int) : St := ⟨[.val (.sl 105 ts_Key) t.1, .dead, .dead, .val (.int .i64) t.2, .dead, .dead, .dead, .dead, .dead, .dead, .dead, .dead, .dead, .dead, .dead, .dead, .dead, .dead, .dead, .dead, .dead, .dead, .dead], []⟩
def f257x2_0 (t : List E_Key × Bool) : St := ⟨[.val (.sl 105 ts_Key) t.1, .dead, .val .bool t.2, .dead, .dead, .dead, .dead, .dead, .dead, .dead, .dead, .dead, .dead, .dead, .dead, .dead, .dead, .dead, .dead, .dead, .dead, .dead, .dead], []⟩
def f257x2_1 (t : List E_Key) : St := ⟨[.val (.sl 105 ts_Key) t, .dead, .dead, .dead, .dead, .dead, .dead, .dead, .dead, .dead, .dead, .dead, .dead, .dead, .dead, .dead, .dead, .dead, .dead, .dead, .dead, .dead, .dead], []⟩
def f257u2_0 (s : St) : Option (List E_Key × Int) := (unS f257h2_0 f257o2_0 s).map fun v => (v.1.1, v.1.2.2.2.1)
theorem f257un2_0 : ∀ (s : St) (t : List E_Key × Int), f257u2_0 s = some t → f257e2_0 t = s := fun s v h => by
  obtain ⟨u, hu, rfl⟩ := Option.map_eq_some_iff.1 h
  exact (show f257e2_0 (u.1.1, u.1.2.2.2.1) = mkS f257h2_0 f257o2_0 u by kernel_rfl).trans (mkS_un f257h2_0 f257o2_0 s u hu)
def f257u2 : St → Option (List E_Key × Int) := f257u2_0
def f257e2 : (List E_Key × Int) → St := f257e2_0
theorem f257un2 : ∀ (s : St) (t : List E_Key × Int), f257u2 s = some t → f257e2 t = s := f257un2_0
noncomputable def f257P : Lp := fun i s {_R} κ => bif Nat.beq i 2 then (f257u2 s).bind fun t => L_spec_SetOk_2 (fun t => κ (none) (f257x2_0 t)) (fun t => κ (some 0) (f257x2_1 t)) t else none
noncomputable def f257c2 : Code := (loopsOf f257B).getD 0 .skip
theorem f257A2 : C.live 257 (firstRegion f257c2) = some ([0, 3, 19, 20, 21], [0, 2, 19, 20, 21]) := by kernel_rfl
theorem f257B2 {R : Type} (κ : Option Nat → St → Option R) (s : St) : f257P (firstRegion f257c2) s κ = (f257u2 s).bind fun t => iter (S_spec_SetOk_2 (fun t => κ (none) (f257x2_0 t)) (fun t => κ (some 0) (f257x2_1 t))) FUEL t := by kernel_rfl
theorem f257C2 {R : Type} (κ : Option Nat → St → Option R) (again : St → Option R) (t : T_spec_SetOk_2) : stepL C f257K f257P 257 f257c2 [0, 3, 19, 20, 21] [0, 2, 19, 20, 21] κ again (f257e2 t) = S_spec_SetOk_2 (fun t => κ (none) (f257x2_0 t)) (fun t => κ (some 0) (f257x2_1 t)) (fun t => again (f257e2 t)) t := by kernel_rfl
theorem f257ok2 : LoopOk C f257K f257P 257 f257c2 := loop_ok f257A2 f257e2 f257u2 f257un2 (fun {_R} κ => S_spec_SetOk_2 (fun t => κ (none) (f257x2_0 t)) (fun t => κ (some 0) (f257x2_1 t))) (fun {_R} κ s => f257B2 κ s) (fun {_R} κ again t => f257C2 κ again t)
theorem k257 : Contract C Tryz.prog f257K := contract_tab _ (fun p hp => by
    simp only [List.mem_cons, List.mem_nil_iff, or_false] at hp
    rcases hp with rfl | rfl
    · exact ok181
    · exact ok278)
theorem ev257 (x : List E_Key) : evalB C f257K f257P 257 Tryz.f257 f257B ⟨[.v false [(.sl 105 ts_Key)] [false]], [⟨false, [.bool], [false]⟩], false⟩ [(.sl 105 ts_Key)] [.bool] x = F_spec_SetOk x := by kernel_rfl
theorem ok257 : ContractAt C Tryz.prog 257 F_spec_SetOk := fn_sound (lp := f257P) tok mixed k257 (by kernel_rfl) (fn := Tryz.f257) (c := f257B) (sg := ⟨[.v false [(.sl 105 ts_Key)] [false]], [⟨false, [.bool], [false]⟩], false⟩) Tryz.func257 (by decide) (by kernel_rfl) (by kernel_rfl) (by kernel_rfl) (fun c' hc' => by
    rw [show loopsOf f257B = [f257c2] by kernel_rfl] at hc'
    simp only [List.mem_cons, List.mem_nil_iff, or_false] at hc'
    rcases hc' with rfl
    · exact f257ok2) (by decide) (by decide) (fun x y h => (ev257 x).trans h)
abbrev T_spec_l5Count_3 : Type := Int × Int × List E_s_Key
noncomputable def S_spec_l5Count_3 {R : Type} (k0 : Int → Option R) (again : T_spec_l5Count_3 → Option R) (t3 : T_spec_l5Count_3) : Option R :=
  bif (decide (t3.2.1 < ((List.length t3.2.2 : Nat) : Int))) then if (0 : Int) ≤ t3.2.1 then if t3.2.1 < ((List.length t3.2.2 : Nat) : Int) then again ((Go.IntKind.wrap .i64 (t3.1 + ((List.length (rd_s_Key t3.2.2 t3.2.1) : Nat) : Int))), (Go.IntKind.wrap .i64 (t3.2.1 + (1 : Int))), t3.2.2) else none else none else k0 t3.1
noncomputable def L_spec_l5Count_3 {R : Type} (k0 : Int → Option R) (t : T_spec_l5Count_3) : Option R := iter (S_spec_l5Count_3 k0) FUEL t
noncomputable def F_spec_l5Count (x : List E_s_Key) : Option (Int) :=
  L_spec_l5Count_3 (fun x1 => some x1) ((0 : Int), (0 : Int), x)
noncomputable def f258B : Code := match Tryz.f258.body with
  | some c => c
  | none => .skip
noncomputable def f258K : C.Sem := tab []
def f258h3_0 : List Sh := [.dead, .box 1 0, .dead, .v (.int .i64), .v (.int .i64), .dead, .dead, .dead, .dead, .dead, .dead, .dead, .dead, .dead, .dead, .dead, .dead, .dead, .dead, .dead, .dead]
def f258o3_0 : List (Nat × OSh) := [(1, .box [.v (.sl 99 ts_s_Key)])]
def f258e3_0 (t : Int × Int × List E_s_Key) : St := ⟨[.dead, .box 1 0, .dead, .val (.int .i64) t.1, .val (.int .i64) t.2.1, .dead, .dead, .dead, .dead, .dead, .dead, .dead, .dead, .dead, .dead, .dead, .dead, .dead, .dead, .dead, .dead], [(1, .box [.val (.sl 99 ts_s_Key) t.2.2])]⟩
def f258x3_0 (t : Int) : St := ⟨[.dead, .dead, .dead, .val (.int .i64) t, .dead, .dead, .dead, .dead, .dead, .dead, .dead, .dead, .dead, .dead, .dead, .dead, .dead, .dead, .dead, .dead, .dead], []⟩
def f258u3_0 (s : St) : Option (Int × Int × List E_s_Key) := (unS f258h3_0 f258o3_0 s).map fun v => (v.1.2.2.2.1, v.1.2.2.2.2.1, v.2.1.1)
theorem f258un3_0 : ∀ (s : St) (t : Int × Int × List E_s_Key), f258u3_0 s = some t → f258e3_0 t = s := fun s v h => by
  obtain ⟨u, hu, rfl⟩ := Option.map_eq_some_iff.1 h
  exact (show f258e3_0 (u.1.2.2.2.1, u.1.2.2.2.2.1, u.2.1.1) = mkS f258h3_0 f258o3_0 u by kernel_rfl).trans (mkS_un f258h3_0 f258o3_0 s u hu)
def f258u3 : St → Option (Int × Int × List E_s_Key) := f258u3_0
def f258e3 : (Int × Int × List E_s_Key) → St := f258e3_0
theorem f258un3 : ∀ (s : St) (t : Int × Int × List E_s_Key), f258u3 s = some t → f258e3 t = s := f258un3_0
noncomputable def f258P : Lp := fun i s {_R} κ => bif Nat.beq i 3 then (f258u3 s).bind fun t => L_spec_l5Count_3 (fun t => κ (some 0) (f258x3_0 t)) t else none
noncomputable def f258c3 : Code := (loopsOf f258B).getD 0 .skip
theorem f258A3 : C.live 258 (firstRegion f258c3) = some ([1, 3, 4], [3]) := by kernel_rfl
theorem f258B3 {R : Type} (κ : Option Nat → St → Option R) (s : St) : f258P (firstRegion f258c3) s κ = (f258u3 s).bind fun t => iter (S_spec_l5Count_3 (fun t => κ (some 0) (f258x3_0 t))) FUEL t := by kernel_rfl
theorem f258C3 {R : Type} (κ : Option Nat → St → Option R) (again : St → Option R) (t : T_spec_l5Count_3) : stepL C f258K f258P 258 f258c3 [1, 3, 4] [3] κ again (f258e3 t) = S_spec_l5Count_3 (fun t => κ (some 0) (f258x3_0 t)) (fun t => again (f258e3 t)) t := by kernel_rfl
theorem f258ok3 : LoopOk C f258K f258P 258 f258c3 := loop_ok f258A3 f258e3 f258u3 f258un3 (fun {_R} κ => S_spec_l5Count_3 (fun t => κ (some 0) (f258x3_0 t))) (fun {_R} κ s => f258B3 κ s) (fun {_R} κ again t => f258C3 κ again t)
theorem k258 : Contract C Tryz.prog f258K := contract_tab _ (fun p hp => by cases hp)
theorem ev258 (x : List E_s_Key) : evalB C f258K f258P 258 Tryz.f258 f258B ⟨[.v true [(.sl 99 ts_s_Key)] [false]], [⟨false, [(.int .i64)], [false]⟩], false⟩ [(.sl 99 ts_s_Key)] [(.int .i64)] x = F_spec_l5Count x := by kernel_rfl
theorem ok258 : ContractAt C Tryz.prog 258 F_spec_l5Count := fn_sound (lp := f258P) tok mixed k258 (by kernel_rfl) (fn := Tryz.f258) (c := f258B) (sg := ⟨[.v true [(.sl 99 ts_s_Key)] [false]], [⟨false, [(.int .i64)], [false]⟩], false⟩) Tryz.func258 (by decide) (by kernel_rfl) (by kernel_rfl) (by kernel_rfl) (fun c' hc' => by
    rw [show loopsOf f258B = [f258c3] by kernel_rfl] at hc'
    simp only [List.mem_cons, List.mem_nil_iff, or_false] at hc'
    rcases hc' with rfl
    · exact f258ok3) (by decide) (by decide) (fun x y h => (ev258 x).trans h)
abbrev T_spec_NodeOk_2 : Type := Int × List E_s_Key
noncomputable def S_spec_NodeOk_2 {R : Type} (k0 : (Bool × List E_s_Key) → Option R) (k1 : List E_s_Key → Option R) (again : T_spec_NodeOk_2 → Option R) (t2 : T_spec_NodeOk_2) : Option R :=
  bif (decide (t2.1 < ((List.length t2.2 : Nat) : Int))) then if (0 : Int) ≤ t2.1 then if t2.1 < ((List.length t2.2 : Nat) : Int) then Option.bind (F_spec_SetOk (rd_s_Key t2.2 t2.1)) fun r1 => Option.bind (bif (!r1) then some true else if (0 : Int) ≤ t2.1 then if t2.1 < ((List.length t2.2 : Nat) : Int) then some (((List.length (rd_s_Key t2.2 t2.1) : Nat) : Int) == (0 : Int)) else none else none) fun u2 => bif u2 then k0 (false, t2.2) else again ((Go.IntKind.wrap .i64 (t2.1 + (1 : Int))), t2.2) else none else none else k1 t2.2
noncomputable def L_spec_NodeOk_2 {R : Type} (k0 : (Bool × List E_s_Key) → Option R) (k1 : List E_s_Key → Option R) (t : T_spec_NodeOk_2) : Option R := iter (S_spec_NodeOk_2 k0 k1) FUEL t
noncomputable def F_spec_NodeOk (x : List E_s_Key) : Option (Bool) :=
  L_spec_NodeOk_2 (fun x3 => some x3.1) (fun x4 => Option.bind (bif (decide (((List.length x4 : Nat) : Int) ≤ (3 : Int))) then Option.bind (F_spec_l5Count x4) fun r6 => some (decide (r6 ≤ (8 : Int))) else some false) fun u5 => some u5) ((0 : Int), x)
noncomputable def f223B : Code := match Tryz.f223.body with
  | some c => c
  | none => .skip
noncomputable def f223K : C.Sem := tab [⟨257, F_spec_SetOk⟩, ⟨258, F_spec_l5Count⟩]
def f223h2_0 : List Sh := [.dead, .box 1 0, .dead, .v (.int .i64), .dead, .dead, .dead, .dead, .dead, .dead, .dead, .dead, .dead, .dead, .dead, .dead, .dead, .dead, .dead, .dead, .dead, .dead, .dead, .dead, .dead, .dead, .dead, .dead, .dead, .dead, .dead, .dead, .dead, .dead, .dead, .dead]
def f223o2_0 : List (Nat × OSh) := [(1, .box [.v (.sl 99 ts_s_Key)])]
def f223e2_0 (t : Int × List E_s_Key) : St := ⟨[.dead, .box 1 0, .dead, .val (.int .i64) t.1, .dead, .dead, .dead, .dead, .dead, .dead, .dead, .dead, .dead, .dead, .dead, .dead, .dead, .dead, .dead, .dead, .dead, .dead, .dead, .dead, .dead, .dead, .dead, .dead, .dead, .dead, .dead, .dead, .dead, .dead, .dead, .dead], [(1, .box [.val (.sl 99 ts_s_Key) t.2])]⟩
def f223x2_0 (t : Bool × List E_s_Key) : St := ⟨[.dead, .box 1 0, .val .bool t.1, .dead, .dead, .dead, .dead, .dead, .dead, .dead, .dead, .dead, .dead, .dead, .dead, .dead, .dead, .dead, .dead, .dead, .dead, .dead, .dead, .dead, .dead, .dead, .dead, .dead, .dead, .dead, .dead, .dead, .dead, .dead, .dead, .dead], [(1, .box [.val (.sl 99 ts_s_Key) t.2])]⟩
def f223x2_1 (t : List E_s_Key) : St := ⟨[.dead, .box 1 0, .dead, .dead, .dead, .dead, .dead, .dead, .dead, .dead, .dead, .dead, .dead, .dead, .dead, .dead, .dead, .dead, .dead, .dead, .dead, .dead, .dead, .dead, .dead, .dead, .dead, .dead, .dead, .dead, .dead, .dead, .dead, .dead, .dead, .dead], [(1, .box [.val (.sl 99 ts_s_Key) t])]⟩
def f223u2_0 (s : St) : Option (Int × List E_s_Key) := (unS f223h2_0 f223o2_0 s).map fun v => (v.1.2.2.2.1, v.2.1.1)
theorem f223un2_0 : ∀ (s : St) (t : Int × List E_s_Key), f223u2_0 s = some t → f223e2_0 t = s := fun s v h => by
  obtain ⟨u, hu, rfl⟩ := Option.map_eq_some_iff.1 h
  exact (show f223e2_0 (u.1.2.2.2.1, u.2.1.1) = mkS f223h2_0 f223o2_0 u by kernel_rfl).trans (mkS_un f223h2_0 f223o2_0 s u hu)
def f223u2 : St → Option (Int × List E_s_Key) := f223u2_0
def f223e2 : (Int × List E_s_Key) → St := f223e2_0
theorem f223un2 : ∀ (s : St) (t : Int × List E_s_Key), f223u2 s = some t → f223e2 t = s := f223un2_0
noncomputable def f223P : Lp := fun i s {_R} κ => bif Nat.beq i 2 then (f223u2 s).bind fun t => L_spec_NodeOk_2 (fun t => κ (none) (f223x2_0 t)) (fun t => κ (some 0) (f223x2_1 t)) t else none
noncomputable def f223c2 : Code := (loopsOf f223B).getD 0 .skip
theorem f223A2 : C.live 223 (firstRegion f223c2) = some ([1, 3, 19, 20, 21, 22, 23, 24, 25, 32, 33, 34], [1, 2, 32, 33, 34]) := by kernel_rfl
theorem f223B2 {R : Type} (κ : Option Nat → St → Option R) (s : St) : f223P (firstRegion f223c2) s κ = (f223u2 s).bind fun t => iter (S_spec_NodeOk_2 (fun t => κ (none) (f223x2_0 t)) (fun t => κ (some 0) (f223x2_1 t))) FUEL t := by kernel_rfl
theorem f223C2 {R : Type} (κ : Option Nat → St → Option R) (again : St → Option R) (t : T_spec_NodeOk_2) : stepL C f223K f223P 223 f223c2 [1, 3, 19, 20, 21, 22, 23, 24, 25, 32, 33, 34] [1, 2, 32, 33, 34] κ again (f223e2 t) = S_spec_NodeOk_2 (fun t => κ (none) (f223x2_0 t)) (fun t => κ (some 0) (f223x2_1 t)) (fun t => again (f223e2 t)) t := by kernel_rfl
theorem f223ok2 : LoopOk C f223K f223P 223 f223c2 := loop_ok f223A2 f223e2 f223u2 f223un2 (fun {_R} κ => S_spec_NodeOk_2 (fun t => κ (none) (f223x2_0 t)) (fun t => κ (some 0) (f223x2_1 t))) (fun {_R} κ s => f223B2 κ s) (fun {_R} κ again t => f223C2 κ again t)
theorem k223 : Contract C Tryz.prog f223K := contract_tab _ (fun p hp => by
    simp only [List.mem_cons, List.mem_nil_iff, or_false] at hp
    rcases hp with rfl | rfl
    · exact ok257
    · exact ok258)
theorem ev223 (x : List E_s_Key) : evalB C f223K f223P 223 Tryz.f223 f223B ⟨[.v true [(.sl 99 ts_s_Key)] [false]], [⟨false, [.bool], [false]⟩], false⟩ [(.sl 99 ts_s_Key)] [.bool] x = F_spec_NodeOk x := by kernel_rfl
theorem ok223 : ContractAt C Tryz.prog 223 F_spec_NodeOk := fn_sound (lp := f223P) tok mixed k223 (by kernel_rfl) (fn := Tryz.f223) (c := f223B) (sg := ⟨[.v true [(.sl 99 ts_s_Key)] [false]], [⟨false, [.bool], [false]⟩], false⟩) Tryz.func223 (by decide) (by kernel_rfl) (by kernel_rfl) (by kernel_rfl) (fun c' hc' => by
    rw [show loopsOf f223B = [f223c2] by kernel_rfl] at hc'
    simp only [List.mem_cons, List.mem_nil_iff, or_false] at hc'
    rcases hc' with rfl
    · exact f223ok2) (by decide) (by decide) (fun x y h => (ev223 x).trans h)
abbrev T_spec_l6Node_8 : Type := Int × Int × Int × List E_i64 × List E_Node × List E_s_Key
noncomputable def S_spec_l6Node_8 {R : Type} (k0 : (Int × Bool × Int × List E_i64 × List E_Node × List E_s_Key) → Option R) (k1 : (Int × Int × List E_i64 × List E_Node × List E_s_Key) → Option R) (again : T_spec_l6Node_8 → Option R) (t8 : T_spec_l6Node_8) : Option R :=
  if (0 : Int) ≤ t8.2.1 then if t8.2.1 < ((List.length t8.2.2.2.2.2 : Nat) : Int) then bif (decide (t8.2.2.1 < ((List.length (rd_s_Key t8.2.2.2.2.2 t8.2.1) : Nat) : Int))) then if (0 : Int) ≤ t8.2.1 then if t8.2.1 < ((List.length t8.2.2.2.2.2 : Nat) : Int) then if (0 : Int) ≤ t8.2.2.1 then if t8.2.2.1 < ((List.length (rd_s_Key t8.2.2.2.2.2 t8.2.1) : Nat) : Int) then Option.bind (F_spec_l6Spot ((rd_Key (rd_s_Key t8.2.2.2.2.2 t8.2.1) t8.2.2.1).1, (rd_Key (rd_s_Key t8.2.2.2.2.2 t8.2.1) t8.2.2.1).2.1, (rd_Key (rd_s_Key t8.2.2.2.2.2 t8.2.1) t8.2.2.1).2.2.1, (rd_Key (rd_s_Key t8.2.2.2.2.2 t8.2.1) t8.2.2.1).2.2.2.1, (rd_Key (rd_s_Key t8.2.2.2.2.2 t8.2.1) t8.2.2.1).2.2.2.2)) fun r5 => if (0 : Int) ≤ t8.1 then if t8.1 < ((List.length t8.2.2.2.1 : Nat) : Int) then Option.bind (bif (decide (r5 < (rd_i64 t8.2.2.2.1 t8.1))) then some true else Option.bind (bif (decide ((Go.IntKind.wrap .i64 (t8.1 + (1 : Int))) < ((List.length t8.2.2.2.1 : Nat) : Int))) then if (0 : Int) ≤ (Go.IntKind.wrap .i64 (t8.1 + (1 : Int))) then if (Go.IntKind.wrap .i64 (t8.1 + (1 : Int))) < ((List.length t8.2.2.2.1 : Nat) : Int) then some (decide (r5 ≥ (rd_i64 t8.2.2.2.1 (Go.IntKind.wrap .i64 (t8.1 + (1 : Int)))))) else none else none else some false) fun u7 => some u7) fun u6 => bif u6 then k0 (t8.1, false, t8.2.1, t8.2.2.2.1, t8.2.2.2.2.1, t8.2.2.2.2.2) else again (t8.1, t8.2.1, (Go.IntKind.wrap .i64 (t8.2.2.1 + (1 : Int))), t8.2.2.2.1, t8.2.2.2.2.1, t8.2.2.2.2.2) else none else none else none else none else none else none else k1 (t8.1, t8.2.1, t8.2.2.2.1, t8.2.2.2.2.1, t8.2.2.2.2.2) else none else none
noncomputable def L_spec_l6Node_8 {R : Type} (k0 : (Int × Bool × Int × List E_i64 × List E_Node × List E_s_Key) → Option R) (k1 : (Int × Int × List E_i64 × List E_Node × List E_s_Key) → Option R) (t : T_spec_l6Node_8) : Option R := iter (S_spec_l6Node_8 k0 k1) FUEL t
abbrev T_spec_l6Node_5 : Type := Int × Int × List E_i64 × List E_Node × List E_s_Key
noncomputable def S_spec_l6Node_5 {R : Type} (k0 : Bool → Option R) (k1 : Unit → Option R) (again : T_spec_l6Node_5 → Option R) (t5 : T_spec_l6Node_5) : Option R :=
  bif (decide (t5.2.1 < ((List.length t5.2.2.2.2 : Nat) : Int))) then L_spec_l6Node_8 (fun x8 => k0 x8.2.1) (fun x9 => again (x9.1, (Go.IntKind.wrap .i64 (x9.2.1 + (1 : Int))), x9.2.2.1, x9.2.2.2.1, x9.2.2.2.2)) (t5.1, t5.2.1, (0 : Int), t5.2.2.1, t5.2.2.2.1, t5.2.2.2.2) else k1 ()
noncomputable def L_spec_l6Node_5 {R : Type} (k0 : Bool → Option R) (k1 : Unit → Option R) (t : T_spec_l6Node_5) : Option R := iter (S_spec_l6Node_5 k0 k1) FUEL t
noncomputable def F_spec_l6Node (x : List E_i64 × List E_Node × Int) : Option (Bool) :=
  if (0 : Int) ≤ x.2.2 then if x.2.2 < ((List.length x.2.1 : Nat) : Int) then Option.bind (F_spec_NodeOk (rd_Node x.2.1 x.2.2)) fun r1 => Option.bind (bif (!r1) then some true else Option.bind (bif (decide (x.2.2 > (0 : Int))) then Option.bind (F_spec_NodeKeys (rd_Node x.2.1 x.2.2)) fun r4 => some (((List.length r4 : Nat) : Int) == (0 : Int)) else some false) fun u3 => some u3) fun u2 => bif u2 then some false else L_spec_l6Node_5 (fun x10 => some x10) (fun x11 => some true) (x.2.2, (0 : Int), x.1, x.2.1, (rd_Node x.2.1 x.2.2)) else none else none
noncomputable def f175B : Code := match Tryz.f175.body with
  | some c => c
  | none => .skip
noncomputable def f175K : C.Sem := tab [⟨199, F_spec_NodeKeys⟩, ⟨215, F_spec_l6Spot⟩, ⟨223, F_spec_NodeOk⟩]
def f175h8_0 : List Sh := [.dead, .v (.int .i64), .box 2 0, .dead, .dead, .box 5 0, .v (.int .i64), .v (.int .i64), .dead, .dead, .dead, .dead, .dead, .dead, .dead, .dead, .dead, .dead, .dead, .dead, .dead, .dead, .dead, .dead, .dead, .dead, .dead, .dead, .dead, .dead, .dead, .dead, .dead, .dead, .dead, .dead, .dead, .dead, .dead, .dead, .dead, .dead, .dead, .dead, .dead, .dead, .dead, .dead, .dead, .dead, .dead, .dead, .dead, .dead, .dead, .dead, .dead, .dead, .dead, .dead, .dead, .dead, .dead, .dead, .dead, .dead, .dead, .dead, .dead, .dead, .dead, .dead, .dead, .dead, .dead, .dead, .dead, .dead]
def f175o8_0 : List (Nat × OSh) := [(2, .box [.v (.sl 3 ts_i64), .v (.sl 97 ts_Node)]), (5, .box [.v (.sl 99 ts_s_Key)])]
def f175e8_0 (t : Int × Int × Int × List E_i64 × List E_Node × List E_s_Key) : St := ⟨[.dead, .val (.int .i64) t.1, .box 2 0, .dead, .dead, .box 5 0, .val (.int .i64) t.2.1, .val (.int .i64) t.2.2.1, .dead, .dead, .dead, .dead, .dead, .dead, .dead, .dead, .dead, .dead, .dead, .dead, .dead, .dead, .dead, .dead, .dead, .dead, .dead, .dead, .dead, .dead, .dead, .dead, .dead, .dead, .dead, .dead, .dead, .dead, .dead, .dead, .dead, .dead, .dead, .dead, .dead, .dead, .dead, .dead, .dead, .dead, .dead, .dead, .dead, .dead, .dead, .dead, .dead, .dead, .dead, .dead, .dead, .dead, .dead, .dead, .dead, .dead, .dead, .dead, .dead, .dead, .dead, .dead, .dead, .dead, .dead, .dead, .dead, .dead], [(2, .box [.val (.sl 3 ts_i64) t.2.2.2.1, .val (.sl 97 ts_Node) t.2.2.2.2.1]), (5, .box [.val (.sl 99 ts_s_Key) t.2.2.2.2.2])]⟩
def f175x8_0 (t : Int × Bool × Int × List E_i64 × List E_Node × List E_s_Key) : St := ⟨[.dead, .val (.int .i64) t.1, .box 2 0, .dead, .val .bool t.2.1, .box 5 0, .val (.int .i64) t.2.2.1, .dead, .dead, .dead, .dead, .dead, .dead, .dead, .dead, .dead, .dead, .dead, .dead, .dead, .dead, .dead, .dead, .dead, .dead, .dead, .dead, .dead, .dead, .dead, .dead, .dead, .dead, .dead, .dead, .dead, .dead, .dead, .dead, .dead, .dead, .dead, .dead, .dead, .dead, .dead, .dead, .dead, .dead, .dead, .dead, .dead, .dead, .dead, .dead, .dead, .dead, .dead, .dead, .dead, .dead, .dead, .dead, .dead, .dead, .dead, .dead, .dead, .dead, .dead, .dead, .dead, .dead, .dead, .dead, .dead, .dead, .dead], [(2, .box [.val (.sl 3 ts_i64) t.2.2.2.1, .val (.sl 97 ts_Node) t.2.2.2.2.1]), (5, .box [.val (.sl 99 ts_s_Key) t.2.2.2.2.2])]⟩
def f175x8_1 (t : Int × Int × List E_i64 × List E_Node × List E_s_Key) : St := ⟨[.dead, .val (.int .i64) t.1, .box 2 0, .dead, .dead, .box 5 0, .val (.int .i64) t.2.1, .dead, .dead, .dead, .dead, .dead, .dead, .dead, .dead, .dead, .dead, .dead, .dead, .dead, .dead, .dead, .dead, .dead, .dead, .dead, .dead, .dead, .dead, .dead, .dead, .dead, .dead, .dead, .dead, .dead, .dead, .dead, .dead, .dead, .dead, .dead, .dead, .dead, .dead, .dead, .dead, .dead, .dead, .dead, .dead, .dead, .dead, .dead, .dead, .dead, .dead, .dead, .dead, .dead, .dead, .dead, .dead, .dead, .dead, .dead, .dead, .dead, .dead, .dead, .dead, .dead, .dead, .dead, .dead, .dead, .dead, .dead], [(2, .box [.val (.sl 3 ts_i64) t.2.2.1, .val (.sl 97 ts_Node) t.2.2.2.1]), (5, .box [.val (.sl 99 ts_s_Key) t.2.2.2.2])]⟩
def f175u8_0 (s : St) : Option (Int × Int × Int × List E_i64 × List E_Node × List E_s_Key) := (unS f175h8_0 f175o8_0 s).map fun v => (v.1.2.1, v.1.2.2.2.2.2.2.1, v.1.2.2.2.2.2.2.2.1, v.2.1.1, v.2.1.2.1, v.2.2.1.1)
theorem f175un8_0 : ∀ (s : St) (t : Int × Int × Int × List E_i64 × List E_Node × List E_s_Key), f175u8_0 s = some t → f175e8_0 t = s := fun s v h => by
  obtain ⟨u, hu, rfl⟩ := Option.map_eq_some_iff.1 h
  exact (show f175e8_0 (u.1.2.1, u.1.2.2.2.2.2.2.1, u.1.2.2.2.2.2.2.2.1, u.2.1.1, u.2.1.2.1, u.2.2.1.1) = mkS f175h8_0 f175o8_0 u by kernel_rfl).trans (mkS_un f175h8_0 f175o8_0 s u hu)
def f175u8 : St → Option (Int × Int × Int × List E_i64 × List E_Node × List E_s_Key) := f175u8_0
def f175e8 : (Int × Int × Int × List E_i64 × List E_Node × List E_s_Key) → St := f175e8_0
theorem f175un8 : ∀ (s : St) (t : Int × Int × Int × List E_i64 × List E_Node × List E_s_Key), f175u8 s = some t → f175e8 t = s := f175un8_0
def f175h5_0 : List Sh := [.dead, .v (.int .i64), .box 2 0, .dead, .dead, .box 5 0, .v (.int .i64), .dead, .dead, .dead, .dead, .dead, .dead, .dead, .dead, .dead, .dead, .dead, .dead, .dead, .dead, .dead, .dead, .dead, .dead, .dead, .dead, .dead, .dead, .dead, .dead, .dead, .dead, .dead, .dead, .dead, .dead, .dead, .dead, .dead, .dead, .dead, .dead, .dead, .dead, .dead, .dead, .dead, .dead, .dead, .dead, .dead, .dead, .dead, .dead, .dead, .dead, .dead, .dead, .dead, .dead, .dead, .dead, .dead, .dead, .dead, .dead, .dead, .dead, .dead, .dead, .dead, .dead, .dead, .dead, .dead, .dead, .dead]
def f175o5_0 : List (Nat × OSh) := [(2, .box [.v (.sl 3 ts_i64), .v (.sl 97 ts_Node)]), (5, .box [.v (.sl 99 ts_s_Key)])]
def f175e5_0 (t : Int × Int × List E_i64 × List E_Node × List E_s_Key) : St := ⟨[.dead, .val (.int .i64) t.1, .box 2 0, .dead, .dead, .box 5 0, .val (.int .i64) t.2.1, .dead, .dead, .dead, .dead, .dead, .dead, .dead, .dead, .dead, .dead, .dead, .dead, .dead, .dead, .dead, .dead, .dead, .dead, .dead, .dead, .dead, .dead, .dead, .dead, .dead, .dead, .dead, .dead, .dead, .dead, .dead, .dead, .dead, .dead, .dead, .dead, .dead, .dead, .dead, .dead, .dead, .dead, .dead, .dead, .dead, .dead, .dead, .dead, .dead, .dead, .dead, .dead, .dead, .dead, .dead, .dead, .dead, .dead, .dead, .dead, .dead, .dead, .dead, .dead, .dead, .dead, .dead, .dead, .dead, .dead, .dead], [(2, .box [.val (.sl 3 ts_i64) t.2.2.1, .val (.sl 97 ts_Node) t.2.2.2.1]), (5, .box [.val (.sl 99 ts_s_Key) t.2.2.2.2])]⟩
def f175x5_0 (t : Bool) : St := ⟨[.dead, .dead, .dead, .dead, .val .bool t, .dead, .dead, .dead, .dead, .dead, .dead, .dead, .dead, .dead, .dead, .dead, .dead, .dead, .dead, .dead, .dead, .dead, .dead, .dead, .dead, .dead, .dead, .dead, .dead, .dead, .dead, .dead, .dead, .dead, .dead, .dead, .dead, .dead, .dead, .dead, .dead, .dead, .dead, .dead, .dead, .dead, .dead, .dead, .dead, .dead, .dead, .dead, .dead, .dead, .dead, .dead, .dead, .dead, .dead, .dead, .dead, .dead, .dead, .dead, .dead, .dead, .dead, .dead, .dead, .dead, .dead, .dead, .dead, .dead, .dead, .dead, .dead, .dead], []⟩
def f175x5_1 (t : Unit) : St := ⟨[.dead, .dead, .dead, .dead, .dead, .dead, .dead, .dead, .dead, .dead, .dead, .dead, .dead, .dead, .dead, .dead, .dead, .dead, .dead, .dead, .dead, .dead, .dead, .dead, .dead, .dead, .dead, .dead, .dead, .dead, .dead, .dead, .dead, .dead, .dead, .dead, .dead, .dead, .dead, .dead, .dead, .dead, .dead, .dead, .dead, .dead, .dead, .dead, .dead, .dead, .dead, .dead, .dead, .dead, .dead, .dead, .dead, .dead, .dead, .dead, .dead, .dead, .dead, .dead, .dead, .dead, .dead, .dead, .dead, .dead, .dead, .dead, .dead, .dead, .dead, .dead, .dead, .dead], []⟩
def f175u5_0 (s : St) : Option (Int × Int × List E_i64 × List E_Node × List E_s_Key) := (unS f175h5_0 f175o5_0 s).map fun v => (v.1.2.1, v.1.2.2.2.2.2.2.1, v.2.1.1, v.2.1.2.1, v.2.2.1.1)
theorem f175un5_0 : ∀ (s : St) (t : Int × Int × List E_i64 × List E_Node × List E_s_Key), f175u5_0 s = some t → f175e5_0 t = s := fun s v h => by
  obtain ⟨u, hu, rfl⟩ := Option.map_eq_some_iff.1 h
  exact (show f175e5_0 (u.1.2.1, u.1.2.2.2.2.2.2.1, u.2.1.1, u.2.1.2.1, u.2.2.1.1) = mkS f175h5_0 f175o5_0 u by kernel_rfl).trans (mkS_un f175h5_0 f175o5_0 s u hu)
def f175u5 : St → Option (Int × Int × List E_i64 × List E_Node × List E_s_Key) := f175u5_0
def f175e5 : (Int × Int × List E_i64 × List E_Node × List E_s_Key) → St := f175e5_0
theorem f175un5 : ∀ (s : St) (t : Int × Int × List E_i64 × List E_Node × List E_s_Key), f175u5 s = some t → f175e5 t = s := f175un5_0
noncomputable def f175P : Lp := fun i s {_R} κ => bif Nat.beq i 5 then (f175u5 s).bind fun t => L_spec_l6Node_5 (fun t => κ (none) (f175x5_0 t)) (fun t => κ (some 0) (f175x5_1 t)) t else bif Nat.beq i 8 then (f175u8 s).bind fun t => L_spec_l6Node_8 (fun t => κ (none) (f175x8_0 t)) (fun t => κ (some 2) (f175x8_1 t)) t else none
noncomputable def f175c8 : Code := (loopsOf f175B).getD 1 .skip
theorem f175A8 : C.live 175 (firstRegion f175c8) = some ([1, 2, 5, 6, 7, 61, 62, 63, 64, 65, 66, 67, 68, 69, 70, 71, 72, 73, 74, 75, 76], [1, 2, 4, 5, 6, 61, 62, 63, 64, 65, 66, 67, 68, 69, 70, 71, 72, 73, 74, 75, 76]) := by kernel_rfl
theorem f175B8 {R : Type} (κ : Option Nat → St → Option R) (s : St) : f175P (firstRegion f175c8) s κ = (f175u8 s).bind fun t => iter (S_spec_l6Node_8 (fun t => κ (none) (f175x8_0 t)) (fun t => κ (some 2) (f175x8_1 t))) FUEL t := by kernel_rfl
theorem f175C8 {R : Type} (κ : Option Nat → St → Option R) (again : St → Option R) (t : T_spec_l6Node_8) : stepL C f175K f175P 175 f175c8 [1, 2, 5, 6, 7, 61, 62, 63, 64, 65, 66, 67, 68, 69, 70, 71, 72, 73, 74, 75, 76] [1, 2, 4, 5, 6, 61, 62, 63, 64, 65, 66, 67, 68, 69, 70, 71, 72, 73, 74, 75, 76] κ again (f175e8 t) = S_spec_l6Node_8 (fun t => κ (none) (f175x8_0 t)) (fun t => κ (some 2) (f175x8_1 t)) (fun t => again (f175e8 t)) t := by kernel_rfl
theorem f175ok8 : LoopOk C f175K f175P 175 f175c8 := loop_ok f175A8 f175e8 f175u8 f175un8 (fun {_R} κ => S_spec_l6Node_8 (fun t => κ (none) (f175x8_0 t)) (fun t => κ (some 2) (f175x8_1 t))) (fun {_R} κ s => f175B8 κ s) (fun {_R} κ again t => f175C8 κ again t)
noncomputable def f175c5 : Code := (loopsOf f175B).getD 0 .skip
theorem f175A5 : C.live 175 (firstRegion f175c5) = some ([1, 2, 5, 6, 61, 62, 63, 64, 65, 66, 67, 68, 69, 70, 71, 72, 73, 74, 75, 76], [4]) := by kernel_rfl
theorem f175B5 {R : Type} (κ : Option Nat → St → Option R) (s : St) : f175P (firstRegion f175c5) s κ = (f175u5 s).bind fun t => iter (S_spec_l6Node_5 (fun t => κ (none) (f175x5_0 t)) (fun t => κ (some 0) (f175x5_1 t))) FUEL t := by kernel_rfl
theorem f175C5 {R : Type} (κ : Option Nat → St → Option R) (again : St → Option R) (t : T_spec_l6Node_5) : stepL C f175K f175P 175 f175c5 [1, 2, 5, 6, 61, 62, 63, 64, 65, 66, 67, 68, 69, 70, 71, 72, 73, 74, 75, 76] [4] κ again (f175e5 t) = S_spec_l6Node_5 (fun t => κ (none) (f175x5_0 t)) (fun t => κ (some 0) (f175x5_1 t)) (fun t => again (f175e5 t)) t := by kernel_rfl
theorem f175ok5 : LoopOk C f175K f175P 175 f175c5 := loop_ok f175A5 f175e5 f175u5 f175un5 (fun {_R} κ => S_spec_l6Node_5 (fun t => κ (none) (f175x5_0 t)) (fun t => κ (some 0) (f175x5_1 t))) (fun {_R} κ s => f175B5 κ s) (fun {_R} κ again t => f175C5 κ again t)
theorem k175 : Contract C Tryz.prog f175K := contract_tab _ (fun p hp => by
    simp only [List.mem_cons, List.mem_nil_iff, or_false] at hp
    rcases hp with rfl | rfl | rfl
    · exact ok199
    · exact ok215
    · exact ok223)
theorem ev175 (x : List E_i64 × List E_Node × Int) : evalB C f175K f175P 175 Tryz.f175 f175B ⟨[.v true [(.sl 3 ts_i64), (.sl 97 ts_Node)] [false, false], .v false [(.int .i64)] [false]], [⟨false, [.bool], [false]⟩], false⟩ [(.sl 3 ts_i64), (.sl 97 ts_Node), (.int .i64)] [.bool] x = F_spec_l6Node x := by kernel_rfl
theorem ok175 : ContractAt C Tryz.prog 175 F_spec_l6Node := fn_sound (lp := f175P) tok mixed k175 (by kernel_rfl) (fn := Tryz.f175) (c := f175B) (sg := ⟨[.v true [(.sl 3 ts_i64), (.sl 97 ts_Node)] [false, false], .v false [(.int .i64)] [false]], [⟨false, [.bool], [false]⟩], false⟩) Tryz.func175 (by decide) (by kernel_rfl) (by kernel_rfl) (by kernel_rfl) (fun c' hc' => by
    rw [show loopsOf f175B = [f175c5, f175c8] by kernel_rfl] at hc'
    simp only [List.mem_cons, List.mem_nil_iff, or_false] at hc'
    rcases hc' with rfl | rfl
    · exact f175ok5
    · exact f175ok8) (by decide) (by decide) (fun x y h => (ev175 x).trans h)
abbrev T_spec_TreeOk_4 : Type := Int × List E_i64 × List E_Node
noncomputable def S_spec_TreeOk_4 {R : Type} (k0 : (Bool × List E_i64 × List E_Node) → Option R) (k1 : (List E_i64 × List E_Node) → Option R) (again : T_spec_TreeOk_4 → Option R) (t4 : T_spec_TreeOk_4) : Option R :=
  bif (decide (t4.1 < ((List.length t4.2.2 : Nat) : Int))) then Option.bind (bif (decide (t4.1 > (0 : Int))) then if (0 : Int) ≤ (Go.IntKind.wrap .i64 (t4.1 - (1 : Int))) then if (Go.IntKind.wrap .i64 (t4.1 - (1 : Int))) < ((List.length t4.2.1 : Nat) : Int) then if (0 : Int) ≤ t4.1 then if t4.1 < ((List.length t4.2.1 : Nat) : Int) then some (decide ((rd_i64 t4.2.1 (Go.IntKind.wrap .i64 (t4.1 - (1 : Int)))) ≥ (rd_i64 t4.2.1 t4.1))) else none else none else none else none else some false) fun u4 => Option.bind (bif u4 then some true else Option.bind (F_spec_l6Node (t4.2.1, t4.2.2, t4.1)) fun r6 => some (!r6)) fun u5 => bif u5 then k0 (false, t4.2.1, t4.2.2) else again ((Go.IntKind.wrap .i64 (t4.1 + (1 : Int))), t4.2.1, t4.2.2) else k1 (t4.2.1, t4.2.2)
noncomputable def L_spec_TreeOk_4 {R : Type} (k0 : (Bool × List E_i64 × List E_Node) → Option R) (k1 : (List E_i64 × List E_Node) → Option R) (t : T_spec_TreeOk_4) : Option R := iter (S_spec_TreeOk_4 k0 k1) FUEL t
noncomputable def F_spec_TreeOk (x : List E_i64 × List E_Node) : Option (Bool) :=
  Option.bind (F_spec_l1In (((List.length x.2 : Nat) : Int), (1 : Int), (20 : Int))) fun r1 => Option.bind (bif (!r1) then some true else some (((List.length x.1 : Nat) : Int) != ((List.length x.2 : Nat) : Int))) fun u2 => Option.bind (bif u2 then some true else if (0 : Int) ≤ (0 : Int) then if (0 : Int) < ((List.length x.1 : Nat) : Int) then some ((rd_i64 x.1 (0 : Int)) != (0 : Int)) else none else none) fun u3 => bif u3 then some false else L_spec_TreeOk_4 (fun x7 => some x7.1) (fun x8 => Option.bind (F_spec_TreeKeys (x8.1, x8.2)) fun r9 => some (decide (((List.length r9 : Nat) : Int) ≤ (60 : Int)))) ((0 : Int), x.1, x.2)
noncomputable def f108B : Code := match Tryz.f108.body with
  | some c => c
  | none => .skip
noncomputable def f108K : C.Sem := tab [⟨39, F_spec_l1In⟩, ⟨156, F_spec_TreeKeys⟩, ⟨175, F_spec_l6Node⟩]
def f108h4_0 : List Sh := [.dead, .box 1 0, .dead, .v (.int .i64), .dead, .dead, .dead, .dead, .dead, .dead, .dead, .dead, .dead, .dead, .dead, .dead, .dead, .dead, .dead, .dead, .dead, .dead, .dead, .dead, .dead, .dead, .dead, .dead, .dead, .dead, .dead, .dead, .dead, .dead, .dead, .dead, .dead, .dead, .dead, .dead, .dead, .dead, .dead, .dead, .dead, .dead, .dead, .dead, .dead, .dead, .dead, .dead, .dead, .dead, .dead, .dead, .dead, .dead]
def f108o4_0 : List (Nat × OSh) := [(1, .box [.v (.sl 3 ts_i64), .v (.sl 97 ts_Node)])]
def f108e4_0 (t : Int × List E_i64 × List E_Node) : St := ⟨[.dead, .box 1 0, .dead, .val (.int .i64) t.1, .dead, .dead, .dead, .dead, .dead, .dead, .dead, .dead, .dead, .dead, .dead, .dead, .dead, .dead, .dead, .dead, .dead, .dead, .dead, .dead, .dead, .dead, .dead, .dead, .dead, .dead, .dead, .dead, .dead, .dead, .dead, .dead, .dead, .dead, .dead, .dead, .dead, .dead, .dead, .dead, .dead, .dead, .dead, .dead, .dead, .dead, .dead, .dead, .dead, .dead, .dead, .dead, .dead, .dead], [(1, .box [.val (.sl 3 ts_i64) t.2.1, .val (.sl 97 ts_Node) t.2.2])]⟩
def f108x4_0 (t : Bool × List E_i64 × List E_Node) : St := ⟨[.dead, .box 1 0, .val .bool t.1, .dead, .dead, .dead, .dead, .dead, .dead, .dead, .dead, .dead, .dead, .dead, .dead, .dead, .dead, .dead, .dead, .dead, .dead, .dead, .dead, .dead, .dead, .dead, .dead, .dead, .dead, .dead, .dead, .dead, .dead, .dead, .dead, .dead, .dead, .dead, .dead, .dead, .dead, .dead, .dead, .dead, .dead, .dead, .dead, .dead, .dead, .dead, .dead, .dead, .dead, .dead, .dead, .dead, .dead, .dead], [(1, .box [.val (.sl 3 ts_i64) t.2.1, .val (.sl 97 ts_Node) t.2.2])]⟩
def f108x4_1 (t : List E_i64 × List E_Node) : St := ⟨[.dead, .box 1 0, .dead, .dead, .dead, .dead, .dead, .dead, .dead, .dead, .dead, .dead, .dead, .dead, .dead, .dead, .dead, .dead, .dead, .dead, .dead, .dead, .dead, .dead, .dead, .dead, .dead, .dead, .dead, .dead, .dead, .dead, .dead, .dead, .dead, .dead, .dead, .dead, .dead, .dead, .dead, .dead, .dead, .dead, .dead, .dead, .dead, .dead, .dead, .dead, .dead, .dead, .dead, .dead, .dead, .dead, .dead, .dead], [(1, .box [.val (.sl 3 ts_i64) t.1, .val (.sl 97 ts_Node) t.2])]⟩
def f108u4_0 (s : St) : Option (Int × List E_i64 × List E_Node) := (unS f108h4_0 f108o4_0 s).map fun v => (v.1.2.2.2.1, v.2.1.1, v.2.1.2.1)
theorem f108un4_0 : ∀ (s : St) (t : Int × List E_i64 × List E_Node), f108u4_0 s = some t → f108e4_0 t = s := fun s v h => by
  obtain ⟨u, hu, rfl⟩ := Option.map_eq_some_iff.1 h
  exact (show f108e4_0 (u.1.2.2.2.1, u.2.1.1, u.2.1.2.1) = mkS f108h4_0 f108o4_0 u by kernel_rfl).trans (mkS_un f108h4_0 f108o4_0 s u hu)
def f108u4 : St → Option (Int × List E_i64 × List E_Node) := f108u4_0
def f108e4 : (Int × List E_i64 × List E_Node) → St := f108e4_0
theorem f108un4 : ∀ (s : St) (t : Int × List E_i64 × List E_Node), f108u4 s = some t → f108e4 t = s := f108un4_0
noncomputable def f108P : Lp := fun i s {_R} κ => bif Nat.beq i 4 then (f108u4 s).bind fun t => L_spec_TreeOk_4 (fun t => κ (none) (f108x4_0 t)) (fun t => κ (some 0) (f108x4_1 t)) t else none
noncomputable def f108c4 : Code := (loopsOf f108B).getD 0 .skip
theorem f108A4 : C.live 108 (firstRegion f108c4) = some ([1, 3, 35, 36, 37, 38, 39, 40, 41, 42, 43, 44, 45, 46, 49, 50, 51, 52], [1, 2]) := by kernel_rfl
theorem f108B4 {R : Type} (κ : Option Nat → St → Option R) (s : St) : f108P (firstRegion f108c4) s κ = (f108u4 s).bind fun t => iter (S_spec_TreeOk_4 (fun t => κ (none) (f108x4_0 t)) (fun t => κ (some 0) (f108x4_1 t))) FUEL t := by kernel_rfl
theorem f108C4 {R : Type} (κ : Option Nat → St → Option R) (again : St → Option R) (t : T_spec_TreeOk_4) : stepL C f108K f108P 108 f108c4 [1, 3, 35, 36, 37, 38, 39, 40, 41, 42, 43, 44, 45, 46, 49, 50, 51, 52] [1, 2] κ again (f108e4 t) = S_spec_TreeOk_4 (fun t => κ (none) (f108x4_0 t)) (fun t => κ (some 0) (f108x4_1 t)) (fun t => again (f108e4 t)) t := by kernel_rfl
theorem f108ok4 : LoopOk C f108K f108P 108 f108c4 := loop_ok f108A4 f108e4 f108u4 f108un4 (fun {_R} κ => S_spec_TreeOk_4 (fun t => κ (none) (f108x4_0 t)) (fun t => κ (some 0) (f108x4_1 t))) (fun {_R} κ s => f108B4 κ s) (fun {_R} κ again t => f108C4 κ again t)
theorem k108 : Contract C Tryz.prog f108K := contract_tab _ (fun p hp => by
    simp only [List.mem_cons, List.mem_nil_iff, or_false] at hp
    rcases hp with rfl | rfl | rfl
    · exact ok39
    · exact ok156
    · exact ok175)
theorem ev108 (x : List E_i64 × List E_Node) : evalB C f108K f108P 108 Tryz.f108 f108B ⟨[.v true [(.sl 3 ts_i64), (.sl 97 ts_Node)] [false, false]], [⟨false, [.bool], [false]⟩], false⟩ [(.sl 3 ts_i64), (.sl 97 ts_Node)] [.bool] x = F_spec_TreeOk x := by kernel_rfl
theorem ok108 : ContractAt C Tryz.prog 108 F_spec_TreeOk := fn_sound (lp := f108P) tok mixed k108 (by kernel_rfl) (fn := Tryz.f108) (c := f108B) (sg := ⟨[.v true [(.sl 3 ts_i64), (.sl 97 ts_Node)] [false, false]], [⟨false, [.bool], [false]⟩], false⟩) Tryz.func108 (by decide) (by kernel_rfl) (by kernel_rfl) (by kernel_rfl) (fun c' hc' => by
    rw [show loopsOf f108B = [f108c4] by kernel_rfl] at hc'
    simp only [List.mem_cons, List.mem_nil_iff, or_false] at hc'
    rcases hc' with rfl
    · exact f108ok4) (by decide) (by decide) (fun x y h => (ev108 x).trans h)
abbrev T_spec_AgeAt_2 : Type := List E_Age × Int × Int
noncomputable def S_spec_AgeAt_2 {R : Type} (k0 : Int → Option R) (k1 : Unit → Option R) (again : T_spec_AgeAt_2 → Option R) (t2 : T_spec_AgeAt_2) : Option R :=
  bif (decide (t2.2.2 < ((List.length t2.1 : Nat) : Int))) then if (0 : Int) ≤ t2.2.2 then if t2.2.2 < ((List.length t2.1 : Nat) : Int) then bif ((rd_Age t2.1 t2.2.2).1 == t2.2.1) then k0 t2.2.2 else again (t2.1, t2.2.1, (Go.IntKind.wrap .i64 (t2.2.2 + (1 : Int)))) else none else none else k1 ()
noncomputable def L_spec_AgeAt_2 {R : Type} (k0 : Int → Option R) (k1 : Unit → Option R) (t : T_spec_AgeAt_2) : Option R := iter (S_spec_AgeAt_2 k0 k1) FUEL t
noncomputable def F_spec_AgeAt (x : List E_Age × Int) : Option (Int) :=
  L_spec_AgeAt_2 (fun x1 => some x1) (fun x2 => some (-1 : Int)) (x.1, x.2, (0 : Int))
noncomputable def f176B : Code := match Tryz.f176.body with
  | some c => c
  | none => .skip
noncomputable def f176K : C.Sem := tab []
def f176h2_0 : List Sh := [.v (.sl 88 ts_Age), .v (.int .i64), .dead, .dead, .dead, .v (.int .i64), .dead, .dead, .dead, .dead, .dead, .dead, .dead, .dead, .dead, .dead, .dead, .dead, .dead, .dead]
def f176o2_0 : List (Nat × OSh) := []
def f176e2_0 (t : List E_Age × Int × Int) : St := ⟨[.val (.sl 88 ts_Age) t.1, .val (.int .i64) t.2.1, .dead, .dead, .dead, .val (.int .i64) t.2.2, .dead, .dead, .dead, .dead, .dead, .dead, .dead, .dead, .dead, .dead, .dead, .dead, .dead, .dead], []⟩
def f176x2_0 (t : Int) : St := ⟨[.dead, .dead, .dead, .dead, .val (.int .i64) t, .dead, .dead, .dead, .dead, .dead, .dead, .dead, .dead, .dead, .dead, .dead, .dead, .dead, .dead, .dead], []⟩
def f176x2_1 (t : Unit) : St := ⟨[.dead, .dead, .dead, .dead, .dead, .dead, .dead, .dead, .dead, .dead, .dead, .dead, .dead, .dead, .dead, .dead, .dead, .dead, .dead, .dead], []⟩
def f176u2_0 (s : St) : Option (List E_Age × Int × Int) := (unS f176h2_0 f176o2_0 s).map fun v => (v.1.1, v.1.2.1, v.1.2.2.2.2.2.1)
theorem f176un2_0 : ∀ (s : St) (t : List E_Age × Int × Int), f176u2_0 s = some t → f176e2_0 t = s := fun s v h => by
  obtain ⟨u, hu, rfl⟩ := Option.map_eq_some_iff.1 h
  exact (show f176e2_0 (u.1.1, u.1.2.1, u.1.2.2.2.2.2.1) = mkS f176h2_0 f176o2_0 u by kernel_rfl).trans (mkS_un f176h2_0 f176o2_0 s u hu)
def f176u2 : St → Option (List E_Age × Int × Int) := f176u2_0
def f176e2 : (List E_Age × Int × Int) → St := f176e2_0
theorem f176un2 : ∀ (s : St) (t : List E_Age × Int × Int), f176u2 s = some t → f176e2 t = s := f176un2_0
noncomputable def f176P : Lp := fun i s {_R} κ => bif Nat.beq i 2 then (f176u2 s).bind fun t => L_spec_AgeAt_2 (fun t => κ (none) (f176x2_0 t)) (fun t => κ (some 0) (f176x2_1 t)) t else none
noncomputable def f176c2 : Code := (loopsOf f176B).getD 0 .skip
theorem f176A2 : C.live 176 (firstRegion f176c2) = some ([0, 1, 5], [4]) := by kernel_rfl
theorem f176B2 {R : Type} (κ : Option Nat → St → Option R) (s : St) : f176P (firstRegion f176c2) s κ = (f176u2 s).bind fun t => iter (S_spec_AgeAt_2 (fun t => κ (none) (f176x2_0 t)) (fun t => κ (some 0) (f176x2_1 t))) FUEL t := by kernel_rfl
theorem f176C2 {R : Type} (κ : Option Nat → St → Option R) (again : St → Option R) (t : T_spec_AgeAt_2) : stepL C f176K f176P 176 f176c2 [0, 1, 5] [4] κ again (f176e2 t) = S_spec_AgeAt_2 (fun t => κ (none) (f176x2_0 t)) (fun t => κ (some 0) (f176x2_1 t)) (fun t => again (f176e2 t)) t := by kernel_rfl
theorem f176ok2 : LoopOk C f176K f176P 176 f176c2 := loop_ok f176A2 f176e2 f176u2 f176un2 (fun {_R} κ => S_spec_AgeAt_2 (fun t => κ (none) (f176x2_0 t)) (fun t => κ (some 0) (f176x2_1 t))) (fun {_R} κ s => f176B2 κ s) (fun {_R} κ again t => f176C2 κ again t)
theorem k176 : Contract C Tryz.prog f176K := contract_tab _ (fun p hp => by cases hp)
theorem ev176 (x : List E_Age × Int) : evalB C f176K f176P 176 Tryz.f176 f176B ⟨[.v false [(.sl 88 ts_Age)] [false], .v false [(.int .i64)] [false]], [⟨false, [(.int .i64)], [false]⟩], false⟩ [(.sl 88 ts_Age), (.int .i64)] [(.int .i64)] x = F_spec_AgeAt x := by kernel_rfl
theorem ok176 : ContractAt C Tryz.prog 176 F_spec_AgeAt := fn_sound (lp := f176P) tok mixed k176 (by kernel_rfl) (fn := Tryz.f176) (c := f176B) (sg := ⟨[.v false [(.sl 88 ts_Age)] [false], .v false [(.int .i64)] [false]], [⟨false, [(.int .i64)], [false]⟩], false⟩) Tryz.func176 (by decide) (by kernel_rfl) (by kernel_rfl) (by kernel_rfl) (fun c' hc' => by
    rw [show loopsOf f176B = [f176c2] by kernel_rfl] at hc'
    simp only [List.mem_cons, List.mem_nil_iff, or_false] at hc'
    rcases hc' with rfl
    · exact f176ok2) (by decide) (by decide) (fun x y h => (ev176 x).trans h)
abbrev T_spec_AgesOk_2 : Type := List E_Age × Int
noncomputable def S_spec_AgesOk_2 {R : Type} (k0 : (List E_Age × Bool) → Option R) (k1 : List E_Age → Option R) (again : T_spec_AgesOk_2 → Option R) (t2 : T_spec_AgesOk_2) : Option R :=
  bif (decide (t2.2 < ((List.length t2.1 : Nat) : Int))) then if (0 : Int) ≤ t2.2 then if t2.2 < ((List.length t2.1 : Nat) : Int) then Option.bind (F_spec_l1In ((rd_Age t2.1 t2.2).1, (1 : Int), (60 : Int))) fun r1 => Option.bind (bif (!r1) then some true else Option.bind (bif (decide (t2.2 > (0 : Int))) then if (0 : Int) ≤ (Go.IntKind.wrap .i64 (t2.2 - (1 : Int))) then if (Go.IntKind.wrap .i64 (t2.2 - (1 : Int))) < ((List.length t2.1 : Nat) : Int) then if (0 : Int) ≤ t2.2 then if t2.2 < ((List.length t2.1 : Nat) : Int) then some (decide ((rd_Age t2.1 (Go.IntKind.wrap .i64 (t2.2 - (1 : Int)))).1 ≥ (rd_Age t2.1 t2.2).1)) else none else none else none else none else some false) fun u3 => some u3) fun u2 => bif u2 then k0 (t2.1, false) else if (0 : Int) ≤ t2.2 then if t2.2 < ((List.length t2.1 : Nat) : Int) then Option.bind (bif ((rd_Age t2.1 t2.2).2 != (0 : Int)) then if (0 : Int) ≤ (0 : Int) then if (0 : Int) ≤ t2.2 then if t2.2 ≤ ((List.length t2.1 : Nat) : Int) then if (0 : Int) ≤ t2.2 then if t2.2 < ((List.length t2.1 : Nat) : Int) then Option.bind (F_spec_AgeAt ((List.drop (Int.toNat (0 : Int)) (List.take (Int.toNat t2.2) t2.1)), (rd_Age t2.1 t2.2).2)) fun r5 => some (decide (r5 < (0 : Int))) else none else none else none else none else none else some false) fun u4 => bif u4 then k0 (t2.1, false) else again (t2.1, (Go.IntKind.wrap .i64 (t2.2 + (1 : Int)))) else none else none else none else none else k1 t2.1
noncomputable def L_spec_AgesOk_2 {R : Type} (k0 : (List E_Age × Bool) → Option R) (k1 : List E_Age → Option R) (t : T_spec_AgesOk_2) : Option R := iter (S_spec_AgesOk_2 k0 k1) FUEL t
noncomputable def F_spec_AgesOk (x : List E_Age) : Option (Bool) :=
  L_spec_AgesOk_2 (fun x6 => some x6.2) (fun x7 => some (decide (((List.length x7 : Nat) : Int) ≤ (16 : Int)))) (x, (0 : Int))
noncomputable def f109B : Code := match Tryz.f109.body with
  | some c => c
  | none => .skip
noncomputable def f109K : C.Sem := tab [⟨39, F_spec_l1In⟩, ⟨176, F_spec_AgeAt⟩]
def f109h2_0 : List Sh := [.v (.sl 88 ts_Age), .dead, .dead, .v (.int .i64), .dead, .dead, .dead, .dead, .dead, .dead, .dead, .dead, .dead, .dead, .dead, .dead, .dead, .dead, .dead, .dead, .dead, .dead, .dead, .dead, .dead, .dead, .dead, .dead, .dead, .dead, .dead, .dead, .dead, .dead, .dead, .dead, .dead, .dead, .dead, .dead, .dead, .dead, .dead, .dead, .dead, .dead, .dead, .dead, .dead, .dead, .dead, .dead, .dead, .dead, .dead, .dead]
def f109o2_0 : List (Nat × OSh) := []
def f109e2_0 (t : List E_Age × Int) : St := ⟨[.val (.sl 88 ts_Age) t.1, .dead, .dead, .val (.int .i64) t.2, .dead, .dead, .dead, .dead, .dead, .dead, .dead, .dead, .dead, .dead, .dead, .dead, .dead, .dead, .dead, .dead, .dead, .dead, .dead, .dead, .dead, .dead, .dead, .dead, .dead, .dead, .dead, .dead, .dead, .dead, .dead, .dead, .dead, .dead, .dead, .dead, .dead, .dead, .dead, .dead, .dead, .dead, .dead, .dead, .dead, .dead, .dead, .dead, .dead, .dead, .dead, .dead], []⟩
def f109x2_0 (t : List E_Age × Bool) : St := ⟨[.val (.sl 88 ts_Age) t.1, .dead, .val .bool t.2, .dead, .dead, .dead, .dead, .dead, .dead, .dead, .dead, .dead, .dead, .dead, .dead, .dead, .dead, .dead, .dead, .dead, .dead, .dead, .dead, .dead, .dead, .dead, .dead, .dead, .dead, .dead, .dead, .dead, .dead, .dead, .dead, .dead, .dead, .dead, .dead, .dead, .dead, .dead, .dead, .dead, .dead, .dead, .dead, .dead, .dead, .dead, .dead, .dead, .dead, .dead, .dead, .dead], []⟩
def f109x2_1 (t : List E_Age) : St := ⟨[.val (.sl 88 ts_Age) t, .dead, .dead, .dead, .dead, .dead, .dead, .dead, .dead, .dead, .dead, .dead, .dead, .dead, .dead, .dead, .dead, .dead, .dead, .dead, .dead, .dead, .dead, .dead, .dead, .dead, .dead, .dead, .dead, .dead, .dead, .dead, .dead, .dead, .dead, .dead, .dead, .dead, .dead, .dead, .dead, .dead, .dead, .dead, .dead, .dead, .dead, .dead, .dead, .dead, .dead, .dead, .dead, .dead, .dead, .dead], []⟩
def f109u2_0 (s : St) : Option (List E_Age × Int) := (unS f109h2_0 f109o2_0 s).map fun v => (v.1.1, v.1.2.2.2.1)
theorem f109un2_0 : ∀ (s : St) (t : List E_Age × Int), f109u2_0 s = some t → f109e2_0 t = s := fun s v h => by
  obtain ⟨u, hu, rfl⟩ := Option.map_eq_some_iff.1 h
  exact (show f109e2_0 (u.1.1, u.1.2.2.2.1) = mkS f109h2_0 f109o2_0 u by kernel_rfl).trans (mkS_un f109h2_0 f109o2_0 s u hu)
def f109u2 : St → Option (List E_Age × Int) := f109u2_0
def f109e2 : (List E_Age × Int) → St := f109e2_0
theorem f109un2 : ∀ (s : St) (t : List E_Age × Int), f109u2 s = some t → f109e2 t = s := f109un2_0
noncomputable def f109P : Lp := fun i s {_R} κ => bif Nat.beq i 2 then (f109u2 s).bind fun t => L_spec_AgesOk_2 (fun t => κ (none) (f109x2_0 t)) (fun t => κ (some 0) (f109x2_1 t)) t else none
noncomputable def f109c2 : Code := (loopsOf f109B).getD 0 .skip
theorem f109A2 : C.live 109 (firstRegion f109c2) = some ([0, 3, 18, 19, 20, 21, 22, 23, 24, 25, 26, 27, 28, 29, 30, 31, 32, 33, 42, 43, 44, 45, 46, 47, 48, 49, 50, 51], [0, 2]) := by kernel_rfl
theorem f109B2 {R : Type} (κ : Option Nat → St → Option R) (s : St) : f109P (firstRegion f109c2) s κ = (f109u2 s).bind fun t => iter (S_spec_AgesOk_2 (fun t => κ (none) (f109x2_0 t)) (fun t => κ (some 0) (f109x2_1 t))) FUEL t := by kernel_rfl
theorem f109C2 {R : Type} (κ : Option Nat → St → Option R) (again : St → Option R) (t : T_spec_AgesOk_2) : stepL C f109K f109P 109 f109c2 [0, 3, 18, 19, 20, 21, 22, 23, 24, 25, 26, 27, 28, 29, 30, 31, 32, 33, 42, 43, 44, 45, 46, 47, 48, 49, 50, 51] [0, 2] κ again (f109e2 t) = S_spec_AgesOk_2 (fun t => κ (none) (f109x2_0 t)) (fun t => κ (some 0) (f109x2_1 t)) (fun t => again (f109e2 t)) t := by kernel_rfl
theorem f109ok2 : LoopOk C f109K f109P 109 f109c2 := loop_ok f109A2 f109e2 f109u2 f109un2 (fun {_R} κ => S_spec_AgesOk_2 (fun t => κ (none) (f109x2_0 t)) (fun t => κ (some 0) (f109x2_1 t))) (fun {_R} κ s => f109B2 κ s) (fun {_R} κ again t => f109C2 κ again t)
theorem k109 : Contract C Tryz.prog f109K := contract_tab _ (fun p hp => by
    simp only [List.mem_cons, List.mem_nil_iff, or_false] at hp
    rcases hp with rfl | rfl
    · exact ok39
    · exact ok176)
theorem ev109 (x : List E_Age) : evalB C f109K f109P 109 Tryz.f109 f109B ⟨[.v false [(.sl 88 ts_Age)] [false]], [⟨false, [.bool], [false]⟩], false⟩ [(.sl 88 ts_Age)] [.bool] x = F_spec_AgesOk x := by kernel_rfl
theorem ok109 : ContractAt C Tryz.prog 109 F_spec_AgesOk := fn_sound (lp := f109P) tok mixed k109 (by kernel_rfl) (fn := Tryz.f109) (c := f109B) (sg := ⟨[.v false [(.sl 88 ts_Age)] [false]], [⟨false, [.bool], [false]⟩], false⟩) Tryz.func109 (by decide) (by kernel_rfl) (by kernel_rfl) (by kernel_rfl) (fun c' hc' => by
    rw [show loopsOf f109B = [f109c2] by kernel_rfl] at hc'
    simp only [List.mem_cons, List.mem_nil_iff, or_false] at hc'
    rcases hc' with rfl
    · exact f109ok2) (by decide) (by decide) (fun x y h => (ev109 x).trans h)
noncomputable def F_spec_l1Word (x : Int) : Option (Bool) :=
  Option.bind (F_spec_l1In (x, (0 : Int), (65535 : Int))) fun r1 => some r1
noncomputable def f177B : Code := match Tryz.f177.body with
  | some c => c
  | none => .skip
noncomputable def f177K : C.Sem := tab [⟨39, F_spec_l1In⟩]
noncomputable def f177P : Lp := fun i s {_R} κ => none
theorem k177 : Contract C Tryz.prog f177K := contract_tab _ (fun p hp => by
    simp only [List.mem_cons, List.mem_nil_iff, or_false] at hp
    rcases hp with rfl
    · exact ok39)
theorem ev177 (x : Int) : evalB C f177K f177P 177 Tryz.f177 f177B ⟨[.v false [(.int .i64)] [false]], [⟨false, [.bool], [false]⟩], false⟩ [(.int .i64)] [.bool] x = F_spec_l1Word x := by kernel_rfl
theorem ok177 : ContractAt C Tryz.prog 177 F_spec_l1Word := fn_sound (lp := f177P) tok mixed k177 (by kernel_rfl) (fn := Tryz.f177) (c := f177B) (sg := ⟨[.v false [(.int .i64)] [false]], [⟨false, [.bool], [false]⟩], false⟩) Tryz.func177 (by decide) (by kernel_rfl) (by kernel_rfl) (by kernel_rfl) (fun c' hc' => by
    rw [show loopsOf f177B = [] by kernel_rfl] at hc'
    cases hc') (by decide) (by decide) (fun x y h => (ev177 x).trans h)
abbrev T_spec_CellsOk_2 : Type := List E_Cell × Int
noncomputable def S_spec_CellsOk_2 {R : Type} (k0 : (List E_Cell × Bool) → Option R) (k1 : List E_Cell → Option R) (again : T_spec_CellsOk_2 → Option R) (t2 : T_spec_CellsOk_2) : Option R :=
  bif (decide (t2.2 < ((List.length t2.1 : Nat) : Int))) then if (0 : Int) ≤ t2.2 then if t2.2 < ((List.length t2.1 : Nat) : Int) then Option.bind (F_spec_l1In ((rd_Cell t2.1 t2.2).1, (0 : Int), (999 : Int))) fun r1 => Option.bind (bif (!r1) then some true else if (0 : Int) ≤ t2.2 then if t2.2 < ((List.length t2.1 : Nat) : Int) then Option.bind (F_spec_l1Word ((rd_Cell t2.1 t2.2).2.2)) fun r3 => some (!r3) else none else none) fun u2 => Option.bind (bif u2 then some true else if (0 : Int) ≤ t2.2 then if t2.2 < ((List.length t2.1 : Nat) : Int) then Option.bind (bif (!((rd_Cell t2.1 t2.2).2.1)) then if (0 : Int) ≤ t2.2 then if t2.2 < ((List.length t2.1 : Nat) : Int) then some ((rd_Cell t2.1 t2.2).2.2 != (0 : Int)) else none else none else some false) fun u5 => some u5 else none else none) fun u4 => bif u4 then k0 (t2.1, false) else again (t2.1, (Go.IntKind.wrap .i64 (t2.2 + (1 : Int)))) else none else none else k1 t2.1
noncomputable def L_spec_CellsOk_2 {R : Type} (k0 : (List E_Cell × Bool) → Option R) (k1 : List E_Cell → Option R) (t : T_spec_CellsOk_2) : Option R := iter (S_spec_CellsOk_2 k0 k1) FUEL t
noncomputable def F_spec_CellsOk (x : List E_Cell) : Option (Bool) :=
  L_spec_CellsOk_2 (fun x6 => some x6.2) (fun x7 => some (((List.length x7 : Nat) : Int) == (24 : Int))) (x, (0 : Int))
noncomputable def f110B : Code := match Tryz.f110.body with
  | some c => c
  | none => .skip
noncomputable def f110K : C.Sem := tab [⟨39, F_spec_l1In⟩, ⟨177, F_spec_l1Word⟩]
def f110h2_0 : List Sh := [.v (.sl 94 ts_Cell), .dead, .dead, .v (.int .i64), .dead, .dead, .dead, .dead, .dead, .dead, .dead, .dead, .dead, .dead, .dead, .dead, .dead, .dead, .dead, .dead, .dead, .dead, .dead, .dead, .dead, .dead, .dead, .dead, .dead, .dead, .dead, .dead, .dead, .dead, .dead, .dead, .dead, .dead, .dead, .dead, .dead, .dead, .dead, .dead, .dead]
def f110o2_0 : List (Nat × OSh) := []
def f110e2_0 (t : List E_Cell × Int) : St := ⟨[.val (.sl 94 ts_Cell) t.1, .dead, .dead, .val (.int .i64) t.2, .dead, .dead, .dead, .dead, .dead, .dead, .dead, .dead, .dead, .dead, .dead, .dead, .dead, .dead, .dead, .dead, .dead, .dead, .dead, .dead, .dead, .dead, .dead, .dead, .dead, .dead, .dead, .dead, .dead, .dead, .dead, .dead, .dead, .dead, .dead, .dead, .dead, .dead, .dead, .dead, .dead], []⟩
def f110x2_0 (t : List E_Cell × Bool) : St := ⟨[.val (.sl 94 ts_Cell) t.1, .dead, .val .bool t.2, .dead, .dead, .dead, .dead, .dead, .dead, .dead, .dead, .dead, .dead, .dead, .dead, .dead, .dead, .dead, .dead, .dead, .dead, .dead, .dead, .dead, .dead, .dead, .dead, .dead, .dead, .dead, .dead, .dead, .dead, .dead, .dead, .dead, .dead, .dead, .dead, .dead, .dead, .dead, .dead, .dead, .dead], []⟩
def f110x2_1 (t : List E_Cell) : St := ⟨[.val (.sl 94 ts_Cell) t, .dead, .dead, .dead, .dead, .dead, .dead, .dead, .dead, .dead, .dead, .dead, .dead, .dead, .dead, .dead, .dead, .dead, .dead, .dead, .dead, .dead, .dead, .dead, .dead, .dead, .dead, .dead, .dead, .dead, .dead, .dead, .dead, .dead, .dead, .dead, .dead, .dead, .dead, .dead, .dead, .dead, .dead, .dead, .dead], []⟩
def f110u2_0 (s : St) : Option (List E_Cell × Int) := (unS f110h2_0 f110o2_0 s).map fun v => (v.1.1, v.1.2.2.2.1)
theorem f110un2_0 : ∀ (s : St) (t : List E_Cell × Int), f110u2_0 s = some t → f110e2_0 t = s := fun s v h => by
  obtain ⟨u, hu, rfl⟩ := Option.map_eq_some_iff.1 h
  exact (show f110e2_0 (u.1.1, u.1.2.2.2.1) = mkS f110h2_0 f110o2_0 u by kernel_rfl).trans (mkS_un f110h2_0 f110o2_0 s u hu)
def f110u2 : St → Option (List E_Cell × Int) := f110u2_0
def f110e2 : (List E_Cell × Int) → St := f110e2_0
theorem f110un2 : ∀ (s : St) (t : List E_Cell × Int), f110u2 s = some t → f110e2 t = s := f110un2_0
noncomputable def f110P : Lp := fun i s {_R} κ => bif Nat.beq i 2 then (f110u2 s).bind fun t => L_spec_CellsOk_2 (fun t => κ (none) (f110x2_0 t)) (fun t => κ (some 0) (f110x2_1 t)) t else none
noncomputable def f110c2 : Code := (loopsOf f110B).getD 0 .skip
theorem f110A2 : C.live 110 (firstRegion f110c2) = some ([0, 3, 18, 19, 20, 21, 22, 23, 24, 27, 28, 29, 30, 31, 32, 33, 34, 35, 36, 37, 38, 39, 40], [0, 2]) := by kernel_rfl
theorem f110B2 {R : Type} (κ : Option Nat → St → Option R) (s : St) : f110P (firstRegion f110c2) s κ = (f110u2 s).bind fun t => iter (S_spec_CellsOk_2 (fun t => κ (none) (f110x2_0 t)) (fun t => κ (some 0) (f110x2_1 t))) FUEL t := by kernel_rfl
theorem f110C2 {R : Type} (κ : Option Nat → St → Option R) (again : St → Option R) (t : T_spec_CellsOk_2) : stepL C f110K f110P 110 f110c2 [0, 3, 18, 19, 20, 21, 22, 23, 24, 27, 28, 29, 30, 31, 32, 33, 34, 35, 36, 37, 38, 39, 40] [0, 2] κ again (f110e2 t) = S_spec_CellsOk_2 (fun t => κ (none) (f110x2_0 t)) (fun t => κ (some 0) (f110x2_1 t)) (fun t => again (f110e2 t)) t := by kernel_rfl
theorem f110ok2 : LoopOk C f110K f110P 110 f110c2 := loop_ok f110A2 f110e2 f110u2 f110un2 (fun {_R} κ => S_spec_CellsOk_2 (fun t => κ (none) (f110x2_0 t)) (fun t => κ (some 0) (f110x2_1 t))) (fun {_R} κ s => f110B2 κ s) (fun {_R} κ again t => f110C2 κ again t)
theorem k110 : Contract C Tryz.prog f110K := contract_tab _ (fun p hp => by
    simp only [List.mem_cons, List.mem_nil_iff, or_false] at hp
    rcases hp with rfl | rfl
    · exact ok39
    · exact ok177)
theorem ev110 (x : List E_Cell) : evalB C f110K f110P 110 Tryz.f110 f110B ⟨[.v false [(.sl 94 ts_Cell)] [false]], [⟨false, [.bool], [false]⟩], false⟩ [(.sl 94 ts_Cell)] [.bool] x = F_spec_CellsOk x := by kernel_rfl
theorem ok110 : ContractAt C Tryz.prog 110 F_spec_CellsOk := fn_sound (lp := f110P) tok mixed k110 (by kernel_rfl) (fn := Tryz.f110) (c := f110B) (sg := ⟨[.v false [(.sl 94 ts_Cell)] [false]], [⟨false, [.bool], [false]⟩], false⟩) Tryz.func110 (by decide) (by kernel_rfl) (by kernel_rfl) (by kernel_rfl) (fun c' hc' => by
    rw [show loopsOf f110B = [f110c2] by kernel_rfl] at hc'
    simp only [List.mem_cons, List.mem_nil_iff, or_false] at hc'
    rcases hc' with rfl
    · exact f110ok2) (by decide) (by decide) (fun x y h => (ev110 x).trans h)
abbrev T_spec_NameOk_2 : Type := ByteArray × Int
noncomputable def S_spec_NameOk_2 {R : Type} (k0 : (ByteArray × Bool) → Option R) (k1 : ByteArray → Option R) (again : T_spec_NameOk_2 → Option R) (t2 : T_spec_NameOk_2) : Option R :=
  bif (decide (t2.2 < ((ByteArray.size t2.1 : Nat) : Int))) then if (0 : Int) ≤ t2.2 then if h1 : Int.toNat t2.2 < ByteArray.size t2.1 then Option.bind (F_spec_l1In ((Go.IntKind.wrap .i64 ((UInt8.toNat (ByteArray.get t2.1 (Int.toNat t2.2) h1) : Nat) : Int)), (97 : Int), (122 : Int))) fun r2 => Option.bind (bif (!r2) then if (0 : Int) ≤ t2.2 then if h4 : Int.toNat t2.2 < ByteArray.size t2.1 then Option.bind (F_spec_l1In ((Go.IntKind.wrap .i64 ((UInt8.toNat (ByteArray.get t2.1 (Int.toNat t2.2) h4) : Nat) : Int)), (48 : Int), (57 : Int))) fun r5 => some (!r5) else none else none else some false) fun u3 => bif u3 then k0 (t2.1, false) else again (t2.1, (Go.IntKind.wrap .i64 (t2.2 + (1 : Int)))) else none else none else k1 t2.1
noncomputable def L_spec_NameOk_2 {R : Type} (k0 : (ByteArray × Bool) → Option R) (k1 : ByteArray → Option R) (t : T_spec_NameOk_2) : Option R := iter (S_spec_NameOk_2 k0 k1) FUEL t
noncomputable def F_spec_NameOk (x : ByteArray) : Option (Bool) :=
  L_spec_NameOk_2 (fun x6 => some x6.2) (fun x7 => Option.bind (F_spec_l1In (((ByteArray.size x7 : Nat) : Int), (1 : Int), (6 : Int))) fun r8 => some r8) (x, (0 : Int))
noncomputable def f178B : Code := match Tryz.f178.body with
  | some c => c
  | none => .skip
noncomputable def f178K : C.Sem := tab [⟨39, F_spec_l1In⟩]
def f178h2_0 : List Sh := [.v .str, .dead, .dead, .v (.int .i64), .dead, .dead, .dead, .dead, .dead, .dead, .dead, .dead, .dead, .dead, .dead, .dead, .dead, .dead, .dead, .dead, .dead, .dead, .dead, .dead, .dead, .dead, .dead]
def f178o2_0 : List (Nat × OSh) := []
def f178e2_0 (t : ByteArray × Int) : St := ⟨[.val .str t.1, .dead, .dead, .val (.int .i64) t.2, .dead, .dead, .dead, .dead, .dead, .dead, .dead, .dead, .dead, .dead, .dead, .dead, .dead, .dead, .dead, .dead, .dead, .dead, .dead, .dead, .dead, .dead, .dead], []⟩
def f178x2_0 (t : ByteArray × Bool) : St := ⟨[.val .str t.1, .dead, .val .bool t.2, .dead, .dead, .dead, .dead, .dead, .dead, .dead, .dead, .dead, .dead, .dead, .dead, .dead, .dead, .dead, .dead, .dead, .dead, .dead, .dead, .dead, .dead, .dead, .dead], []⟩
def f178x2_1 (t : ByteArray) : St := ⟨[.val .str t, .dead, .dead, .dead, .dead, .dead, .dead, .dead, .dead, .dead, .dead, .dead, .dead, .dead, .dead, .dead, .dead, .dead, .dead, .dead, .dead, .dead, .dead, .dead, .dead, .dead, .dead], []⟩
def f178u2_0 (s : St) : Option (ByteArray × Int) := (unS f178h2_0 f178o2_0 s).map fun v => (v.1.1, v.1.2.2.2.1)
theorem f178un2_0 : ∀ (s : St) (t : ByteArray × Int), f178u2_0 s = some t → f178e2_0 t = s := fun s v h => by
  obtain ⟨u, hu, rfl⟩ := Option.map_eq_some_iff.1 h
  exact (show f178e2_0 (u.1.1, u.1.2.2.2.1) = mkS f178h2_0 f178o2_0 u by kernel_rfl).trans (mkS_un f178h2_0 f178o2_0 s u hu)
def f178u2 : St → Option (ByteArray × Int) := f178u2_0
def f178e2 : (ByteArray × Int) → St := f178e2_0
theorem f178un2 : ∀ (s : St) (t : ByteArray × Int), f178u2 s = some t → f178e2 t = s := f178un2_0
noncomputable def f178P : Lp := fun i s {_R} κ => bif Nat.beq i 2 then (f178u2 s).bind fun t => L_spec_NameOk_2 (fun t => κ (none) (f178x2_0 t)) (fun t => κ (some 0) (f178x2_1 t)) t else none
noncomputable def f178c2 : Code := (loopsOf f178B).getD 0 .skip
theorem f178A2 : C.live 178 (firstRegion f178c2) = some ([0, 3, 17, 18, 19, 20, 21, 22], [0, 2]) := by kernel_rfl
theorem f178B2 {R : Type} (κ : Option Nat → St → Option R) (s : St) : f178P (firstRegion f178c2) s κ = (f178u2 s).bind fun t => iter (S_spec_NameOk_2 (fun t => κ (none) (f178x2_0 t)) (fun t => κ (some 0) (f178x2_1 t))) FUEL t := by kernel_rfl
theorem f178C2 {R : Type} (κ : Option Nat → St → Option R) (again : St → Option R) (t : T_spec_NameOk_2) : stepL C f178K f178P 178 f178c2 [0, 3, 17, 18, 19, 20, 21, 22] [0, 2] κ again (f178e2 t) = S_spec_NameOk_2 (fun t => κ (none) (f178x2_0 t)) (fun t => κ (some 0) (f178x2_1 t)) (fun t => again (f178e2 t)) t := by kernel_rfl
theorem f178ok2 : LoopOk C f178K f178P 178 f178c2 := loop_ok f178A2 f178e2 f178u2 f178un2 (fun {_R} κ => S_spec_NameOk_2 (fun t => κ (none) (f178x2_0 t)) (fun t => κ (some 0) (f178x2_1 t))) (fun {_R} κ s => f178B2 κ s) (fun {_R} κ again t => f178C2 κ again t)
theorem k178 : Contract C Tryz.prog f178K := contract_tab _ (fun p hp => by
    simp only [List.mem_cons, List.mem_nil_iff, or_false] at hp
    rcases hp with rfl
    · exact ok39)
theorem ev178 (x : ByteArray) : evalB C f178K f178P 178 Tryz.f178 f178B ⟨[.v false [.str] [false]], [⟨false, [.bool], [false]⟩], false⟩ [.str] [.bool] x = F_spec_NameOk x := by kernel_rfl
theorem ok178 : ContractAt C Tryz.prog 178 F_spec_NameOk := fn_sound (lp := f178P) tok mixed k178 (by kernel_rfl) (fn := Tryz.f178) (c := f178B) (sg := ⟨[.v false [.str] [false]], [⟨false, [.bool], [false]⟩], false⟩) Tryz.func178 (by decide) (by kernel_rfl) (by kernel_rfl) (by kernel_rfl) (fun c' hc' => by
    rw [show loopsOf f178B = [f178c2] by kernel_rfl] at hc'
    simp only [List.mem_cons, List.mem_nil_iff, or_false] at hc'
    rcases hc' with rfl
    · exact f178ok2) (by decide) (by decide) (fun x y h => (ev178 x).trans h)
abbrev T_spec_KidsOf_3 : Type := List E_Age × Int × Int × List E_i64
noncomputable def S_spec_KidsOf_3 {R : Type} (k0 : List E_i64 → Option R) (again : T_spec_KidsOf_3 → Option R) (t3 : T_spec_KidsOf_3) : Option R :=
  bif (decide (t3.2.2.1 < ((List.length t3.1 : Nat) : Int))) then if (0 : Int) ≤ t3.2.2.1 then if t3.2.2.1 < ((List.length t3.1 : Nat) : Int) then Option.bind (bif ((rd_Age t3.1 t3.2.2.1).2 == t3.2.1) then some (t3.2.1 != (0 : Int)) else some false) fun u1 => bif u1 then if (0 : Int) ≤ t3.2.2.1 then if t3.2.2.1 < ((List.length t3.1 : Nat) : Int) then if (List.length t3.2.2.2 + List.length ([(rd_Age t3.1 t3.2.2.1).1] : List E_i64)) * 8 < 140737488355328 then again (t3.1, t3.2.1, (Go.IntKind.wrap .i64 (t3.2.2.1 + (1 : Int))), (t3.2.2.2 ++ ([(rd_Age t3.1 t3.2.2.1).1] : List E_i64))) else none else none else none else again (t3.1, t3.2.1, (Go.IntKind.wrap .i64 (t3.2.2.1 + (1 : Int))), t3.2.2.2) else none else none else k0 t3.2.2.2
noncomputable def L_spec_KidsOf_3 {R : Type} (k0 : List E_i64 → Option R) (t : T_spec_KidsOf_3) : Option R := iter (S_spec_KidsOf_3 k0) FUEL t
noncomputable def F_spec_KidsOf (x : List E_Age × Int) : Option (List E_i64) :=
  L_spec_KidsOf_3 (fun x2 => some x2) (x.1, x.2, (0 : Int), ([] : List E_i64))
noncomputable def f179B : Code := match Tryz.f179.body with
  | some c => c
  | none => .skip
noncomputable def f179K : C.Sem := tab []
def f179h3_0 : List Sh := [.v (.sl 88 ts_Age), .v (.int .i64), .dead, .dead, .dead, .own 10000000, .v (.int .i64), .dead, .dead, .dead, .dead, .dead, .dead, .dead, .dead, .dead, .dead, .dead, .dead, .dead, .dead, .dead, .dead, .dead, .dead, .dead, .dead, .dead, .dead, .dead, .dead, .dead, .dead, .dead]
def f179o3_0 : List (Nat × OSh) := [(10000000, .root true 3 ts_i64)]
def f179e3_0 (t : List E_Age × Int × Int × List E_i64) : St := ⟨[.val (.sl 88 ts_Age) t.1, .val (.int .i64) t.2.1, .dead, .dead, .dead, .own 10000000, .val (.int .i64) t.2.2.1, .dead, .dead, .dead, .dead, .dead, .dead, .dead, .dead, .dead, .dead, .dead, .dead, .dead, .dead, .dead, .dead, .dead, .dead, .dead, .dead, .dead, .dead, .dead, .dead, .dead, .dead, .dead], [(10000000, .root true 3 ts_i64 t.2.2.2)]⟩
def f179x3_0 (t : List E_i64) : St := ⟨[.dead, .dead, .dead, .dead, .dead, .own 10000000, .dead, .dead, .dead, .dead, .dead, .dead, .dead, .dead, .dead, .dead, .dead, .dead, .dead, .dead, .dead, .dead, .dead, .dead, .dead, .dead, .dead, .dead, .dead, .dead, .dead, .dead, .dead, .dead], [(10000000, .root true 3 ts_i64 t)]⟩
def f179u3_0 (s : St) : Option (List E_Age × Int × Int × List E_i64) := (unS f179h3_0 f179o3_0 s).map fun v => (v.1.1, v.1.2.1, v.1.2.2.2.2.2.2.1, v.2.1)
theorem f179un3_0 : ∀ (s : St) (t : List E_Age × Int × Int × List E_i64), f179u3_0 s = some t → f179e3_0 t = s := fun s v h => by
  obtain ⟨u, hu, rfl⟩ := Option.map_eq_some_iff.1 h
  exact (show f179e3_0 (u.1.1, u.1.2.1, u.1.2.2.2.2.2.2.1, u.2.1) = mkS f179h3_0 f179o3_0 u by kernel_rfl).trans (mkS_un f179h3_0 f179o3_0 s u hu)
def f179u3 : St → Option (List E_Age × Int × Int × List E_i64) := f179u3_0
def f179e3 : (List E_Age × Int × Int × List E_i64) → St := f179e3_0
theorem f179un3 : ∀ (s : St) (t : List E_Age × Int × Int × List E_i64), f179u3 s = some t → f179e3 t = s := f179un3_0
noncomputable def f179P : Lp := fun i s {_R} κ => bif Nat.beq i 3 then (f179u3 s).bind fun t => L_spec_KidsOf_3 (fun t => κ (some 0) (f179x3_0 t)) t else none
noncomputable def f179c3 : Code := (loopsOf f179B).getD 0 .skip
theorem f179A3 : C.live 179 (firstRegion f179c3) = some ([0, 1, 5, 6, 22, 23], [5]) := by kernel_rfl
theorem f179B3 {R : Type} (κ : Option Nat → St → Option R) (s : St) : f179P (firstRegion f179c3) s κ = (f179u3 s).bind fun t => iter (S_spec_KidsOf_3 (fun t => κ (some 0) (f179x3_0 t))) FUEL t := by kernel_rfl
theorem f179C3 {R : Type} (κ : Option Nat → St → Option R) (again : St → Option R) (t : T_spec_KidsOf_3) : stepL C f179K f179P 179 f179c3 [0, 1, 5, 6, 22, 23] [5] κ again (f179e3 t) = S_spec_KidsOf_3 (fun t => κ (some 0) (f179x3_0 t)) (fun t => again (f179e3 t)) t := by kernel_rfl
theorem f179ok3 : LoopOk C f179K f179P 179 f179c3 := loop_ok f179A3 f179e3 f179u3 f179un3 (fun {_R} κ => S_spec_KidsOf_3 (fun t => κ (some 0) (f179x3_0 t))) (fun {_R} κ s => f179B3 κ s) (fun {_R} κ again t => f179C3 κ again t)
theorem k179 : Contract C Tryz.prog f179K := contract_tab _ (fun p hp => by cases hp)
theorem ev179 (x : List E_Age × Int) : evalB C f179K f179P 179 Tryz.f179 f179B ⟨[.v false [(.sl 88 ts_Age)] [false], .v false [(.int .i64)] [false]], [⟨false, [(.sl 3 ts_i64)], [true]⟩], false⟩ [(.sl 88 ts_Age), (.int .i64)] [(.sl 3 ts_i64)] x = F_spec_KidsOf x := by kernel_rfl
theorem ok179 : ContractAt C Tryz.prog 179 F_spec_KidsOf := fn_sound (lp := f179P) tok mixed k179 (by kernel_rfl) (fn := Tryz.f179) (c := f179B) (sg := ⟨[.v false [(.sl 88 ts_Age)] [false], .v false [(.int .i64)] [false]], [⟨false, [(.sl 3 ts_i64)], [true]⟩], false⟩) Tryz.func179 (by decide) (by kernel_rfl) (by kernel_rfl) (by kernel_rfl) (fun c' hc' => by
    rw [show loopsOf f179B = [f179c3] by kernel_rfl] at hc'
    simp only [List.mem_cons, List.mem_nil_iff, or_false] at hc'
    rcases hc' with rfl
    · exact f179ok3) (by decide) (by decide) (fun x y h => (ev179 x).trans h)
abbrev T_spec_l10Vols_8 : Type := Int × Int × List E_i64 × List E_Node × List E_Age × List E_Cell × List E_Vol × Int × ByteArray × Int × Int × Bool
noncomputable def S_spec_l10Vols_8 {R : Type} (k0 : (Bool × Int × List E_i64 × List E_Node × List E_Age × List E_Cell × List E_Vol × Int) → Option R) (k1 : (Int × List E_i64 × List E_Node × List E_Age × List E_Cell × List E_Vol × Int) → Option R) (again : T_spec_l10Vols_8 → Option R) (t8 : T_spec_l10Vols_8) : Option R :=
  bif (decide (t8.2.1 < t8.1)) then if (0 : Int) ≤ t8.2.1 then if t8.2.1 < ((List.length t8.2.2.2.2.2.2.1 : Nat) : Int) then bif ((rd_Vol t8.2.2.2.2.2.2.1 t8.2.1).2.1 == t8.2.2.2.2.2.2.2.2.2.1) then k0 (false, t8.1, t8.2.2.1, t8.2.2.2.1, t8.2.2.2.2.1, t8.2.2.2.2.2.1, t8.2.2.2.2.2.2.1, t8.2.2.2.2.2.2.2.1) else again (t8.1, (Go.IntKind.wrap .i64 (t8.2.1 + (1 : Int))), t8.2.2.1, t8.2.2.2.1, t8.2.2.2.2.1, t8.2.2.2.2.2.1, t8.2.2.2.2.2.2.1, t8.2.2.2.2.2.2.2.1, t8.2.2.2.2.2.2.2.2.1, t8.2.2.2.2.2.2.2.2.2.1, t8.2.2.2.2.2.2.2.2.2.2.1, t8.2.2.2.2.2.2.2.2.2.2.2) else none else none else k1 (t8.1, t8.2.2.1, t8.2.2.2.1, t8.2.2.2.2.1, t8.2.2.2.2.2.1, t8.2.2.2.2.2.2.1, t8.2.2.2.2.2.2.2.1)
noncomputable def L_spec_l10Vols_8 {R : Type} (k0 : (Bool × Int × List E_i64 × List E_Node × List E_Age × List E_Cell × List E_Vol × Int) → Option R) (k1 : (Int × List E_i64 × List E_Node × List E_Age × List E_Cell × List E_Vol × Int) → Option R) (t : T_spec_l10Vols_8) : Option R := iter (S_spec_l10Vols_8 k0 k1) FUEL t
abbrev T_spec_l10Vols_2 : Type := Int × List E_i64 × List E_Node × List E_Age × List E_Cell × List E_Vol × Int
noncomputable def S_spec_l10Vols_2 {R : Type} (k0 : (Bool × List E_i64 × List E_Node × List E_Age × List E_Cell × List E_Vol × Int) → Option R) (k1 : (List E_i64 × List E_Node × List E_Age × List E_Cell × List E_Vol × Int) → Option R) (again : T_spec_l10Vols_2 → Option R) (t2 : T_spec_l10Vols_2) : Option R :=
  bif (decide (t2.1 < ((List.length t2.2.2.2.2.2.1 : Nat) : Int))) then if (0 : Int) ≤ t2.1 then if t2.1 < ((List.length t2.2.2.2.2.2.1 : Nat) : Int) then Option.bind (F_spec_NameOk ((rd_Vol t2.2.2.2.2.2.1 t2.1).1)) fun r1 => Option.bind (bif (!r1) then some true else Option.bind (F_spec_l1In ((rd_Vol t2.2.2.2.2.2.1 t2.1).2.2.1, (1 : Int), (12 : Int))) fun r3 => some (!r3)) fun u2 => Option.bind (bif u2 then some true else Option.bind (F_spec_AgeAt (t2.2.2.2.1, (rd_Vol t2.2.2.2.2.2.1 t2.1).2.1)) fun r5 => some (decide (r5 < (0 : Int)))) fun u4 => Option.bind (bif u4 then some true else Option.bind (F_spec_KidsOf (t2.2.2.2.1, (rd_Vol t2.2.2.2.2.2.1 t2.1).2.1)) fun r7 => some (decide (((List.length r7 : Nat) : Int) > (0 : Int)))) fun u6 => Option.bind (bif u6 then some true else Option.bind (bif (decide (t2.1 > (0 : Int))) then if (0 : Int) ≤ (Go.IntKind.wrap .i64 (t2.1 - (1 : Int))) then if (Go.IntKind.wrap .i64 (t2.1 - (1 : Int))) < ((List.length t2.2.2.2.2.2.1 : Nat) : Int) then some (!Go.Op.bytesLess (ByteArray.toList ((rd_Vol t2.2.2.2.2.2.1 (Go.IntKind.wrap .i64 (t2.1 - (1 : Int)))).1)) (ByteArray.toList ((rd_Vol t2.2.2.2.2.2.1 t2.1).1))) else none else none else some false) fun u9 => some u9) fun u8 => bif u8 then k0 (false, t2.2.1, t2.2.2.1, t2.2.2.2.1, t2.2.2.2.2.1, t2.2.2.2.2.2.1, t2.2.2.2.2.2.2) else L_spec_l10Vols_8 (fun x10 => k0 (x10.1, x10.2.2.1, x10.2.2.2.1, x10.2.2.2.2.1, x10.2.2.2.2.2.1, x10.2.2.2.2.2.2.1, x10.2.2.2.2.2.2.2)) (fun x11 => again ((Go.IntKind.wrap .i64 (x11.1 + (1 : Int))), x11.2.1, x11.2.2.1, x11.2.2.2.1, x11.2.2.2.2.1, x11.2.2.2.2.2.1, x11.2.2.2.2.2.2)) (t2.1, (0 : Int), t2.2.1, t2.2.2.1, t2.2.2.2.1, t2.2.2.2.2.1, t2.2.2.2.2.2.1, t2.2.2.2.2.2.2, (rd_Vol t2.2.2.2.2.2.1 t2.1).1, (rd_Vol t2.2.2.2.2.2.1 t2.1).2.1, (rd_Vol t2.2.2.2.2.2.1 t2.1).2.2.1, (rd_Vol t2.2.2.2.2.2.1 t2.1).2.2.2) else none else none else k1 (t2.2.1, t2.2.2.1, t2.2.2.2.1, t2.2.2.2.2.1, t2.2.2.2.2.2.1, t2.2.2.2.2.2.2)
noncomputable def L_spec_l10Vols_2 {R : Type} (k0 : (Bool × List E_i64 × List E_Node × List E_Age × List E_Cell × List E_Vol × Int) → Option R) (k1 : (List E_i64 × List E_Node × List E_Age × List E_Cell × List E_Vol × Int) → Option R) (t : T_spec_l10Vols_2) : Option R := iter (S_spec_l10Vols_2 k0 k1) FUEL t
noncomputable def F_spec_l10Vols (x : List E_i64 × List E_Node × List E_Age × List E_Cell × List E_Vol × Int) : Option (Bool) :=
  L_spec_l10Vols_2 (fun x12 => some x12.1) (fun x13 => some (decide (((List.length x13.2.2.2.2.1 : Nat) : Int) ≤ (6 : Int)))) ((0 : Int), x.1, x.2.1, x.2.2.1, x.2.2.2.1, x.2.2.2.2.1, x.2.2.2.2.2)
noncomputable def f111B : Code := match Tryz.f111.body with
  | some c => c
  | none => .skip
noncomputable def f111K : C.Sem := tab [⟨39, F_spec_l1In⟩, ⟨176, F_spec_AgeAt⟩, ⟨178, F_spec_NameOk⟩, ⟨179, F_spec_KidsOf⟩]
def f111h8_0 : List Sh := [.dead, .box 1 0, .dead, .v (.int .i64), .box 4 0, .v (.int .i64), .dead, .dead, .dead, .dead, .dead, .dead, .dead, .dead, .dead, .dead, .dead, .dead, .dead, .dead, .dead, .dead, .dead, .dead, .dead, .dead, .dead, .dead, .dead, .dead, .dead, .dead, .dead, .dead, .dead, .dead, .dead, .dead, .dead, .dead, .dead, .dead, .dead, .dead, .dead, .dead, .dead, .dead, .dead, .dead, .dead, .dead, .dead, .dead, .dead, .dead, .dead, .dead, .dead, .dead, .dead, .dead, .dead, .dead, .dead, .dead, .dead, .dead, .dead, .dead, .dead, .dead, .dead, .dead, .dead, .dead, .dead, .dead, .dead]
def f111o8_0 : List (Nat × OSh) := [(1, .box [.v (.sl 3 ts_i64), .v (.sl 97 ts_Node), .v (.sl 88 ts_Age), .v (.sl 94 ts_Cell), .v (.sl 90 ts_Vol), .v (.int .i64)]), (4, .box [.v .str, .v (.int .i64), .v (.int .i64), .v .bool])]
def f111e8_0 (t : Int × Int × List E_i64 × List E_Node × List E_Age × List E_Cell × List E_Vol × Int × ByteArray × Int × Int × Bool) : St := ⟨[.dead, .box 1 0, .dead, .val (.int .i64) t.1, .box 4 0, .val (.int .i64) t.2.1, .dead, .dead, .dead, .dead, .dead, .dead, .dead, .dead, .dead, .dead, .dead, .dead, .dead, .dead, .dead, .dead, .dead, .dead, .dead, .dead, .dead, .dead, .dead, .dead, .dead, .dead, .dead, .dead, .dead, .dead, .dead, .dead, .dead, .dead, .dead, .dead, .dead, .dead, .dead, .dead, .dead, .dead, .dead, .dead, .dead, .dead, .dead, .dead, .dead, .dead, .dead, .dead, .dead, .dead, .dead, .dead, .dead, .dead, .dead, .dead, .dead, .dead, .dead, .dead, .dead, .dead, .dead, .dead, .dead, .dead, .dead, .dead, .dead], [(1, .box [.val (.sl 3 ts_i64) t.2.2.1, .val (.sl 97 ts_Node) t.2.2.2.1, .val (.sl 88 ts_Age) t.2.2.2.2.1, .val (.sl 94 ts_Cell) t.2.2.2.2.2.1, .val (.sl 90 ts_Vol) t.2.2.2.2.2.2.1, .val (.int .i64) t.2.2.2.2.2.2.2.1]), (4, .box [.val .str t.2.2.2.2.2.2.2.2.1, .val (.int .i64) t.2.2.2.2.2.2.2.2.2.1, .val (.int .i64) t.2.2.2.2.2.2.2.2.2.2.1, .val .bool t.2.2.2.2.2.2.2.2.2.2.2])]⟩
def f111x8_0 (t : Bool × Int × List E_i64 × List E_Node × List E_Age × List E_Cell × List E_Vol × Int) : St := ⟨[.dead, .box 1 0, .val .bool t.1, .val (.int .i64) t.2.1, .dead, .dead, .dead, .dead, .dead, .dead, .dead, .dead, .dead, .dead, .dead, .dead, .dead, .dead, .dead, .dead, .dead, .dead, .dead, .dead, .dead, .dead, .dead, .dead, .dead, .dead, .dead, .dead, .dead, .dead, .dead, .dead, .dead, .dead, .dead, .dead, .dead, .dead, .dead, .dead, .dead, .dead, .dead, .dead, .dead, .dead, .dead, .dead, .dead, .dead, .dead, .dead, .dead, .dead, .dead, .dead, .dead, .dead, .dead, .dead, .dead, .dead, .dead, .dead, .dead, .dead, .dead, .dead, .dead, .dead, .dead, .dead, .dead, .dead, .dead], [(1, .box [.val (.sl 3 ts_i64) t.2.2.1, .val (.sl 97 ts_Node) t.2.2.2.1, .val (.sl 88 ts_Age) t.2.2.2.2.1, .val (.sl 94 ts_Cell) t.2.2.2.2.2.1, .val (.sl 90 ts_Vol) t.2.2.2.2.2.2.1, .val (.int .i64) t.2.2.2.2.2.2.2])]⟩
def f111x8_1 (t : Int × List E_i64 × List E_Node × List E_Age × List E_Cell × List E_Vol × Int) : St := ⟨[.dead, .box 1 0, .dead, .val (.int .i64) t.1, .dead, .dead, .dead, .dead, .dead, .dead, .dead, .dead, .dead, .dead, .dead, .dead, .dead, .dead, .dead, .dead, .dead, .dead, .dead, .dead, .dead, .dead, .dead, .dead, .dead, .dead, .dead, .dead, .dead, .dead, .dead, .dead, .dead, .dead, .dead, .dead, .dead, .dead, .dead, .dead, .dead, .dead, .dead, .dead, .dead, .dead, .dead, .dead, .dead, .dead, .dead, .dead, .dead, .dead, .dead, .dead, .dead, .dead, .dead, .dead, .dead, .dead, .dead, .dead, .dead, .dead, .dead, .dead, .dead, .dead, .dead, .dead, .dead, .dead, .dead], [(1, .box [.val (.sl 3 ts_i64) t.2.1, .val (.sl 97 ts_Node) t.2.2.1, .val (.sl 88 ts_Age) t.2.2.2.1, .val (.sl 94 ts_Cell) t.2.2.2.2.1, .val (.sl 90 ts_Vol) t.2.2.2.2.2.1, .val (.int .i64) t.2.2.2.2.2.2])]⟩
def f111u8_0 (s : St) : Option (Int × Int × List E_i64 × List E_Node × List E_Age × List E_Cell × List E_Vol × Int × ByteArray × Int × Int × Bool) := (unS f111h8_0 f111o8_0 s).map fun v => (v.1.2.2.2.1, v.1.2.2.2.2.2.1, v.2.1.1, v.2.1.2.1, v.2.1.2.2.1, v.2.1.2.2.2.1, v.2.1.2.2.2.2.1, v.2.1.2.2.2.2.2.1, v.2.2.1.1, v.2.2.1.2.1, v.2.2.1.2.2.1, v.2.2.1.2.2.2.1)
theorem f111un8_0 : ∀ (s : St) (t : Int × Int × List E_i64 × List E_Node × List E_Age × List E_Cell × List E_Vol × Int × ByteArray × Int × Int × Bool), f111u8_0 s = some t → f111e8_0 t = s := fun s v h => by
  obtain ⟨u, hu, rfl⟩ := Option.map_eq_some_iff.1 h
  exact (show f111e8_0 (u.1.2.2.2.1, u.1.2.2.2.2.2.1, u.2.1.1, u.2.1.2.1, u.2.1.2.2.1, u.2.1.2.2.2.1, u.2.1.2.2.2.2.1, u.2.1.2.2.2.2.2.1, u.2.2.1.1, u.2.2.1.2.1, u.2.2.1.2.2.1, u.2.2.1.2.2.2.1) = mkS f111h8_0 f111o8_0 u by kernel_rfl).trans (mkS_un f111h8_0 f111o8_0 s u hu)
def f111u8 : St → Option (Int × Int × List E_i64 × List E_Node × List E_Age × List E_Cell × List E_Vol × Int × ByteArray × Int × Int × Bool) := f111u8_0
def f111e8 : (Int × Int × List E_i64 × List E_Node × List E_Age × List E_Cell × List E_Vol × Int × ByteArray × Int × Int × Bool) → St := f111e8_0
theorem f111un8 : ∀ (s : St) (t : Int × Int × List E_i64 × List E_Node × List E_Age × List E_Cell × List E_Vol × Int × ByteArray × Int × Int × Bool), f111u8 s = some t → f111e8 t = s := f111un8_0
def f111h2_0 : List Sh := [.dead, .box 1 0, .dead, .v (.int .i64), .dead, .dead, .dead, .dead, .dead, .dead, .dead, .dead, .dead, .dead, .dead, .dead, .dead, .dead, .dead, .dead, .dead, .dead, .dead, .dead, .dead, .dead, .dead, .dead, .dead, .dead, .dead, .dead, .dead, .dead, .dead, .dead, .dead, .dead, .dead, .dead, .dead, .dead, .dead, .dead, .dead, .dead, .dead, .dead, .dead, .dead, .dead, .dead, .dead, .dead, .dead, .dead, .dead, .dead, .dead, .dead, .dead, .dead, .dead, .dead, .dead, .dead, .dead, .dead, .dead, .dead, .dead, .dead, .dead, .dead, .dead, .dead, .dead, .dead, .dead]
def f111o2_0 : List (Nat × OSh) := [(1, .box [.v (.sl 3 ts_i64), .v (.sl 97 ts_Node), .v (.sl 88 ts_Age), .v (.sl 94 ts_Cell), .v (.sl 90 ts_Vol), .v (.int .i64)])]
def f111e2_0 (t : Int × List E_i64 × List E_Node × List E_Age × List E_Cell × List E_Vol × Int) : St := ⟨[.dead, .box 1 0, .dead, .val (.int .i64) t.1, .dead, .dead, .dead, .dead, .dead, .dead, .dead, .dead, .dead, .dead, .dead, .dead, .dead, .dead, .dead, .dead, .dead, .dead, .dead, .dead, .dead, .dead, .dead, .dead, .dead, .dead, .dead, .dead, .dead, .dead, .dead, .dead, .dead, .dead, .dead, .dead, .dead, .dead, .dead, .dead, .dead, .dead, .dead, .dead, .dead, .dead, .dead, .dead, .dead, .dead, .dead, .dead, .dead, .dead, .dead, .dead, .dead, .dead, .dead, .dead, .dead, .dead, .dead, .dead, .dead, .dead, .dead, .dead, .dead, .dead, .dead, .dead, .dead, .dead, .dead], [(1, .box [.val (.sl 3 ts_i64) t.2.1, .val (.sl 97 ts_Node) t.2.2.1, .val (.sl 88 ts_Age) t.2.2.2.1, .val (.sl 94 ts_Cell) t.2.2.2.2.1, .val (.sl 90 ts_Vol) t.2.2.2.2.2.1, .val (.int .i64) t.2.2.2.2.2.2])]⟩
def f111x2_0 (t : Bool × List E_i64 × List E_Node × List E_Age × List E_Cell × List E_Vol × Int) : St := ⟨[.dead, .box 1 0, .val .bool t.1, .dead, .dead, .dead, .dead, .dead, .dead, .dead, .dead, .dead, .dead, .dead, .dead, .dead, .dead, .dead, .dead, .dead, .dead, .dead, .dead, .dead, .dead, .dead, .dead, .dead, .dead, .dead, .dead, .dead, .dead, .dead, .dead, .dead, .dead, .dead, .dead, .dead, .dead, .dead, .dead, .dead, .dead, .dead, .dead, .dead, .dead, .dead, .dead, .dead, .dead, .dead, .dead, .dead, .dead, .dead, .dead, .dead, .dead, .dead, .dead, .dead, .dead, .dead, .dead, .dead, .dead, .dead, .dead, .dead, .dead, .dead, .dead, .dead, .dead, .dead, .dead], [(1, .box [.val (.sl 3 ts_i64) t.2.1, .val (.sl 97 ts_Node) t.2.2.1, .val (.sl 88 ts_Age) t.2.2.2.1, .val (.sl 94 ts_Cell) t.2.2.2.2.1, .val (.sl 90 ts_Vol) t.2.2.2.2.2.1, .val (.int .i64) t.2.2.2.2.2.2])]⟩
def f111x2_1 (t : List E_i64 × List E_Node × List E_Age × List E_Cell × List E_Vol × Int) : St := ⟨[.dead, .box 1 0, .dead, .dead, .dead, .dead, .dead, .dead, .dead, .dead, .dead, .dead, .dead, .dead, .dead, .dead, .dead, .dead, .dead, .dead, .dead, .dead, .dead, .dead, .dead, .dead, .dead, .dead, .dead, .dead, .dead, .dead, .dead, .dead, .dead, .dead, .dead, .dead, .dead, .dead, .dead, .dead, .dead, .dead, .dead, .dead, .dead, .dead, .dead, .dead, .dead, .dead, .dead, .dead, .dead, .dead, .dead, .dead, .dead, .dead, .dead, .dead, .dead, .dead, .dead, .dead, .dead, .dead, .dead, .dead, .dead, .dead, .dead, .dead, .dead, .dead, .dead, .dead, .dead], [(1, .box [.val (.sl 3 ts_i64) t.1, .val (.sl 97 ts_Node) t.2.1, .val (.sl 88 ts_Age) t.2.2.1, .val (.sl 94 ts_Cell) t.2.2.2.1, .val (.sl 90 ts_Vol) t.2.2.2.2.1, .val (.int .i64) t.2.2.2.2.2])]⟩
def f111u2_0 (s : St) : Option (Int × List E_i64 × List E_Node × List E_Age × List E_Cell × List E_Vol × Int) := (unS f111h2_0 f111o2_0 s).map fun v => (v.1.2.2.2.1, v.2.1.1, v.2.1.2.1, v.2.1.2.2.1, v.2.1.2.2.2.1, v.2.1.2.2.2.2.1, v.2.1.2.2.2.2.2.1)
theorem f111un2_0 : ∀ (s : St) (t : Int × List E_i64 × List E_Node × List E_Age × List E_Cell × List E_Vol × Int), f111u2_0 s = some t → f111e2_0 t = s := fun s v h => by
  obtain ⟨u, hu, rfl⟩ := Option.map_eq_some_iff.1 h
  exact (show f111e2_0 (u.1.2.2.2.1, u.2.1.1, u.2.1.2.1, u.2.1.2.2.1, u.2.1.2.2.2.1, u.2.1.2.2.2.2.1, u.2.1.2.2.2.2.2.1) = mkS f111h2_0 f111o2_0 u by kernel_rfl).trans (mkS_un f111h2_0 f111o2_0 s u hu)
def f111u2 : St → Option (Int × List E_i64 × List E_Node × List E_Age × List E_Cell × List E_Vol × Int) := f111u2_0
def f111e2 : (Int × List E_i64 × List E_Node × List E_Age × List E_Cell × List E_Vol × Int) → St := f111e2_0
theorem f111un2 : ∀ (s : St) (t : Int × List E_i64 × List E_Node × List E_Age × List E_Cell × List E_Vol × Int), f111u2 s = some t → f111e2 t = s := f111un2_0
noncomputable def f111P : Lp := fun i s {_R} κ => bif Nat.beq i 2 then (f111u2 s).bind fun t => L_spec_l10Vols_2 (fun t => κ (none) (f111x2_0 t)) (fun t => κ (some 0) (f111x2_1 t)) t else bif Nat.beq i 8 then (f111u8 s).bind fun t => L_spec_l10Vols_8 (fun t => κ (none) (f111x8_0 t)) (fun t => κ (some 2) (f111x8_1 t)) t else none
noncomputable def f111c8 : Code := (loopsOf f111B).getD 1 .skip
theorem f111A8 : C.live 111 (firstRegion f111c8) = some ([1, 3, 4, 5, 23, 24, 25, 26, 29, 30, 31, 32, 33, 34, 37, 38, 39, 40, 41, 42, 43, 46, 47, 48, 49, 50, 51, 52, 53, 54, 55, 56, 57, 58, 59], [1, 2, 3, 23, 24, 25, 26, 29, 30, 31, 32, 33, 34, 37, 38, 39, 40, 41, 42, 43, 46, 47, 48, 49, 50, 51, 52, 53, 54, 55, 56, 57, 58, 59]) := by kernel_rfl
theorem f111B8 {R : Type} (κ : Option Nat → St → Option R) (s : St) : f111P (firstRegion f111c8) s κ = (f111u8 s).bind fun t => iter (S_spec_l10Vols_8 (fun t => κ (none) (f111x8_0 t)) (fun t => κ (some 2) (f111x8_1 t))) FUEL t := by kernel_rfl
theorem f111C8 {R : Type} (κ : Option Nat → St → Option R) (again : St → Option R) (t : T_spec_l10Vols_8) : stepL C f111K f111P 111 f111c8 [1, 3, 4, 5, 23, 24, 25, 26, 29, 30, 31, 32, 33, 34, 37, 38, 39, 40, 41, 42, 43, 46, 47, 48, 49, 50, 51, 52, 53, 54, 55, 56, 57, 58, 59] [1, 2, 3, 23, 24, 25, 26, 29, 30, 31, 32, 33, 34, 37, 38, 39, 40, 41, 42, 43, 46, 47, 48, 49, 50, 51, 52, 53, 54, 55, 56, 57, 58, 59] κ again (f111e8 t) = S_spec_l10Vols_8 (fun t => κ (none) (f111x8_0 t)) (fun t => κ (some 2) (f111x8_1 t)) (fun t => again (f111e8 t)) t := by kernel_rfl
theorem f111ok8 : LoopOk C f111K f111P 111 f111c8 := loop_ok f111A8 f111e8 f111u8 f111un8 (fun {_R} κ => S_spec_l10Vols_8 (fun t => κ (none) (f111x8_0 t)) (fun t => κ (some 2) (f111x8_1 t))) (fun {_R} κ s => f111B8 κ s) (fun {_R} κ again t => f111C8 κ again t)
noncomputable def f111c2 : Code := (loopsOf f111B).getD 0 .skip
theorem f111A2 : C.live 111 (firstRegion f111c2) = some ([1, 3, 23, 24, 25, 26, 29, 30, 31, 32, 33, 34, 37, 38, 39, 40, 41, 42, 43, 46, 47, 48, 49, 50, 51, 52, 53, 54, 55, 56, 57, 58, 59], [1, 2]) := by kernel_rfl
theorem f111B2 {R : Type} (κ : Option Nat → St → Option R) (s : St) : f111P (firstRegion f111c2) s κ = (f111u2 s).bind fun t => iter (S_spec_l10Vols_2 (fun t => κ (none) (f111x2_0 t)) (fun t => κ (some 0) (f111x2_1 t))) FUEL t := by kernel_rfl
theorem f111C2 {R : Type} (κ : Option Nat → St → Option R) (again : St → Option R) (t : T_spec_l10Vols_2) : stepL C f111K f111P 111 f111c2 [1, 3, 23, 24, 25, 26, 29, 30, 31, 32, 33, 34, 37, 38, 39, 40, 41, 42, 43, 46, 47, 48, 49, 50, 51, 52, 53, 54, 55, 56, 57, 58, 59] [1, 2] κ again (f111e2 t) = S_spec_l10Vols_2 (fun t => κ (none) (f111x2_0 t)) (fun t => κ (some 0) (f111x2_1 t)) (fun t => again (f111e2 t)) t := by kernel_rfl
theorem f111ok2 : LoopOk C f111K f111P 111 f111c2 := loop_ok f111A2 f111e2 f111u2 f111un2 (fun {_R} κ => S_spec_l10Vols_2 (fun t => κ (none) (f111x2_0 t)) (fun t => κ (some 0) (f111x2_1 t))) (fun {_R} κ s => f111B2 κ s) (fun {_R} κ again t => f111C2 κ again t)
theorem k111 : Contract C Tryz.prog f111K := contract_tab _ (fun p hp => by
    simp only [List.mem_cons, List.mem_nil_iff, or_false] at hp
    rcases hp with rfl | rfl | rfl | rfl
    · exact ok39
    · exact ok176
    · exact ok178
    · exact ok179)
theorem ev111 (x : List E_i64 × List E_Node × List E_Age × List E_Cell × List E_Vol × Int) : evalB C f111K f111P 111 Tryz.f111 f111B ⟨[.v true [(.sl 3 ts_i64), (.sl 97 ts_Node), (.sl 88 ts_Age), (.sl 94 ts_Cell), (.sl 90 ts_Vol), (.int .i64)] [false, false, false, false, false, false]], [⟨false, [.bool], [false]⟩], false⟩ [(.sl 3 ts_i64), (.sl 97 ts_Node), (.sl 88 ts_Age), (.sl 94 ts_Cell), (.sl 90 ts_Vol), (.int .i64)] [.bool] x = F_spec_l10Vols x := by kernel_rfl
theorem ok111 : ContractAt C Tryz.prog 111 F_spec_l10Vols := fn_sound (lp := f111P) tok mixed k111 (by kernel_rfl) (fn := Tryz.f111) (c := f111B) (sg := ⟨[.v true [(.sl 3 ts_i64), (.sl 97 ts_Node), (.sl 88 ts_Age), (.sl 94 ts_Cell), (.sl 90 ts_Vol), (.int .i64)] [false, false, false, false, false, false]], [⟨false, [.bool], [false]⟩], false⟩) Tryz.func111 (by decide) (by kernel_rfl) (by kernel_rfl) (by kernel_rfl) (fun c' hc' => by
    rw [show loopsOf f111B = [f111c2, f111c8] by kernel_rfl] at hc'
    simp only [List.mem_cons, List.mem_nil_iff, or_false] at hc'
    rcases hc' with rfl | rfl
    · exact f111ok2
    · exact f111ok8) (by decide) (by decide) (fun x y h => (ev111 x).trans h)
abbrev T_spec_UsedCells_3 : Type := List E_Cell × Int × Int
noncomputable def S_spec_UsedCells_3 {R : Type} (k0 : Int → Option R) (again : T_spec_UsedCells_3 → Option R) (t3 : T_spec_UsedCells_3) : Option R :=
  bif (decide (t3.2.2 < ((List.length t3.1 : Nat) : Int))) then if (0 : Int) ≤ t3.2.2 then if t3.2.2 < ((List.length t3.1 : Nat) : Int) then bif (rd_Cell t3.1 t3.2.2).2.1 then again (t3.1, (Go.IntKind.wrap .i64 (t3.2.1 + (1 : Int))), (Go.IntKind.wrap .i64 (t3.2.2 + (1 : Int)))) else again (t3.1, t3.2.1, (Go.IntKind.wrap .i64 (t3.2.2 + (1 : Int)))) else none else none else k0 t3.2.1
noncomputable def L_spec_UsedCells_3 {R : Type} (k0 : Int → Option R) (t : T_spec_UsedCells_3) : Option R := iter (S_spec_UsedCells_3 k0) FUEL t
noncomputable def F_spec_UsedCells (x : List E_Cell) : Option (Int) :=
  L_spec_UsedCells_3 (fun x1 => some x1) (x, (0 : Int), (0 : Int))
noncomputable def f94B : Code := match Tryz.f94.body with
  | some c => c
  | none => .skip
noncomputable def f94K : C.Sem := tab []
def f94h3_0 : List Sh := [.v (.sl 94 ts_Cell), .dead, .dead, .v (.int .i64), .v (.int .i64), .dead, .dead, .dead, .dead, .dead, .dead, .dead, .dead, .dead, .dead, .dead, .dead, .dead, .dead]
def f94o3_0 : List (Nat × OSh) := []
def f94e3_0 (t : List E_Cell × Int × Int) : St := ⟨[.val (.sl 94 ts_Cell) t.1, .dead, .dead, .val (.int .i64) t.2.1, .val (.int .i64) t.2.2, .dead, .dead, .dead, .dead, .dead, .dead, .dead, .dead, .dead, .dead, .dead, .dead, .dead, .dead], []⟩
def f94x3_0 (t : Int) : St := ⟨[.dead, .dead, .dead, .val (.int .i64) t, .dead, .dead, .dead, .dead, .dead, .dead, .dead, .dead, .dead, .dead, .dead, .dead, .dead, .dead, .dead], []⟩
def f94u3_0 (s : St) : Option (List E_Cell × Int × Int) := (unS f94h3_0 f94o3_0 s).map fun v => (v.1.1, v.1.2.2.2.1, v.1.2.2.2.2.1)
theorem f94un3_0 : ∀ (s : St) (t : List E_Cell × Int × Int), f94u3_0 s = some t → f94e3_0 t = s := fun s v h => by
  obtain ⟨u, hu, rfl⟩ := Option.map_eq_some_iff.1 h
  exact (show f94e3_0 (u.1.1, u.1.2.2.2.1, u.1.2.2.2.2.1) = mkS f94h3_0 f94o3_0 u by kernel_rfl).trans (mkS_un f94h3_0 f94o3_0 s u hu)
def f94u3 : St → Option (List E_Cell × Int × Int) := f94u3_0
def f94e3 : (List E_Cell × Int × Int) → St := f94e3_0
theorem f94un3 : ∀ (s : St) (t : List E_Cell × Int × Int), f94u3 s = some t → f94e3 t = s := f94un3_0
noncomputable def f94P : Lp := fun i s {_R} κ => bif Nat.beq i 3 then (f94u3 s).bind fun t => L_spec_UsedCells_3 (fun t => κ (some 0) (f94x3_0 t)) t else none
noncomputable def f94c3 : Code := (loopsOf f94B).getD 0 .skip
theorem f94A3 : C.live 94 (firstRegion f94c3) = some ([0, 3, 4], [3]) := by kernel_rfl
theorem f94B3 {R : Type} (κ : Option Nat → St → Option R) (s : St) : f94P (firstRegion f94c3) s κ = (f94u3 s).bind fun t => iter (S_spec_UsedCells_3 (fun t => κ (some 0) (f94x3_0 t))) FUEL t := by kernel_rfl
theorem f94C3 {R : Type} (κ : Option Nat → St → Option R) (again : St → Option R) (t : T_spec_UsedCells_3) : stepL C f94K f94P 94 f94c3 [0, 3, 4] [3] κ again (f94e3 t) = S_spec_UsedCells_3 (fun t => κ (some 0) (f94x3_0 t)) (fun t => again (f94e3 t)) t := by kernel_rfl
theorem f94ok3 : LoopOk C f94K f94P 94 f94c3 := loop_ok f94A3 f94e3 f94u3 f94un3 (fun {_R} κ => S_spec_UsedCells_3 (fun t => κ (some 0) (f94x3_0 t))) (fun {_R} κ s => f94B3 κ s) (fun {_R} κ again t => f94C3 κ again t)
theorem k94 : Contract C Tryz.prog f94K := contract_tab _ (fun p hp => by cases hp)
theorem ev94 (x : List E_Cell) : evalB C f94K f94P 94 Tryz.f94 f94B ⟨[.v false [(.sl 94 ts_Cell)] [false]], [⟨false, [(.int .i64)], [false]⟩], false⟩ [(.sl 94 ts_Cell)] [(.int .i64)] x = F_spec_UsedCells x := by kernel_rfl
theorem ok94 : ContractAt C Tryz.prog 94 F_spec_UsedCells := fn_sound (lp := f94P) tok mixed k94 (by kernel_rfl) (fn := Tryz.f94) (c := f94B) (sg := ⟨[.v false [(.sl 94 ts_Cell)] [false]], [⟨false, [(.int .i64)], [false]⟩], false⟩) Tryz.func94 (by decide) (by kernel_rfl) (by kernel_rfl) (by kernel_rfl) (fun c' hc' => by
    rw [show loopsOf f94B = [f94c3] by kernel_rfl] at hc'
    simp only [List.mem_cons, List.mem_nil_iff, or_false] at hc'
    rcases hc' with rfl
    · exact f94ok3) (by decide) (by decide) (fun x y h => (ev94 x).trans h)
noncomputable def F_spec_CellAt (x : List E_Cell × Int × Int) : Option (Int × Bool) :=
  Option.bind (F_spec_l1In (x.2.1, (0 : Int), (Go.IntKind.wrap .i64 (((List.length x.1 : Nat) : Int) - (1 : Int))))) fun r1 => Option.bind (bif (!r1) then some true else if (0 : Int) ≤ x.2.1 then if x.2.1 < ((List.length x.1 : Nat) : Int) then some (!((rd_Cell x.1 x.2.1).2.1)) else none else none) fun u2 => Option.bind (bif u2 then some true else if (0 : Int) ≤ x.2.1 then if x.2.1 < ((List.length x.1 : Nat) : Int) then some ((rd_Cell x.1 x.2.1).1 != x.2.2) else none else none) fun u3 => bif u3 then some ((0 : Int), false) else if (0 : Int) ≤ x.2.1 then if x.2.1 < ((List.length x.1 : Nat) : Int) then some ((rd_Cell x.1 x.2.1).2.2, true) else none else none
noncomputable def f180B : Code := match Tryz.f180.body with
  | some c => c
  | none => .skip
noncomputable def f180K : C.Sem := tab [⟨39, F_spec_l1In⟩]
noncomputable def f180P : Lp := fun i s {_R} κ => none
theorem k180 : Contract C Tryz.prog f180K := contract_tab _ (fun p hp => by
    simp only [List.mem_cons, List.mem_nil_iff, or_false] at hp
    rcases hp with rfl
    · exact ok39)
theorem ev180 (x : List E_Cell × Int × Int) : evalB C f180K f180P 180 Tryz.f180 f180B ⟨[.v false [(.sl 94 ts_Cell)] [false], .v false [(.int .i64)] [false], .v false [(.int .i64)] [false]], [⟨false, [(.int .i64)], [false]⟩, ⟨false, [.bool], [false]⟩], false⟩ [(.sl 94 ts_Cell), (.int .i64), (.int .i64)] [(.int .i64), .bool] x = F_spec_CellAt x := by kernel_rfl
theorem ok180 : ContractAt C Tryz.prog 180 F_spec_CellAt := fn_sound (lp := f180P) tok mixed k180 (by kernel_rfl) (fn := Tryz.f180) (c := f180B) (sg := ⟨[.v false [(.sl 94 ts_Cell)] [false], .v false [(.int .i64)] [false], .v false [(.int .i64)] [false]], [⟨false, [(.int .i64)], [false]⟩, ⟨false, [.bool], [false]⟩], false⟩) Tryz.func180 (by decide) (by kernel_rfl) (by kernel_rfl) (by kernel_rfl) (fun c' hc' => by
    rw [show loopsOf f180B = [] by kernel_rfl] at hc'
    cases hc') (by decide) (by decide) (fun x y h => (ev180 x).trans h)
abbrev T_spec_l10Keys_14 : Type := Int × Int × Int × List E_i64 × List E_Node × List E_Age × List E_Cell × List E_Vol × Int × List E_Key
noncomputable def S_spec_l10Keys_14 {R : Type} (k0 : (Bool × Int × Int × List E_i64 × List E_Node × List E_Age × List E_Cell × List E_Vol × Int × List E_Key) → Option R) (k1 : (Int × Int × List E_i64 × List E_Node × List E_Age × List E_Cell × List E_Vol × Int × List E_Key) → Option R) (again : T_spec_l10Keys_14 → Option R) (t14 : T_spec_l10Keys_14) : Option R :=
  bif (decide (t14.2.2.1 < t14.2.1)) then if (0 : Int) ≤ t14.2.2.1 then if t14.2.2.1 < ((List.length t14.2.2.2.2.2.2.2.2.2 : Nat) : Int) then Option.bind (bif ((rd_Key t14.2.2.2.2.2.2.2.2.2 t14.2.2.1).2.2.1 == (1 : Int)) then if (0 : Int) ≤ t14.2.2.1 then if t14.2.2.1 < ((List.length t14.2.2.2.2.2.2.2.2.2 : Nat) : Int) then if (0 : Int) ≤ t14.2.1 then if t14.2.1 < ((List.length t14.2.2.2.2.2.2.2.2.2 : Nat) : Int) then some ((rd_Key t14.2.2.2.2.2.2.2.2.2 t14.2.2.1).2.2.2.1 == (rd_Key t14.2.2.2.2.2.2.2.2.2 t14.2.1).2.2.2.1) else none else none else none else none else some false) fun u4 => bif u4 then k0 (false, t14.1, t14.2.1, t14.2.2.2.1, t14.2.2.2.2.1, t14.2.2.2.2.2.1, t14.2.2.2.2.2.2.1, t14.2.2.2.2.2.2.2.1, t14.2.2.2.2.2.2.2.2.1, t14.2.2.2.2.2.2.2.2.2) else again (t14.1, t14.2.1, (Go.IntKind.wrap .i64 (t14.2.2.1 + (1 : Int))), t14.2.2.2.1, t14.2.2.2.2.1, t14.2.2.2.2.2.1, t14.2.2.2.2.2.2.1, t14.2.2.2.2.2.2.2.1, t14.2.2.2.2.2.2.2.2.1, t14.2.2.2.2.2.2.2.2.2) else none else none else k1 (t14.1, t14.2.1, t14.2.2.2.1, t14.2.2.2.2.1, t14.2.2.2.2.2.1, t14.2.2.2.2.2.2.1, t14.2.2.2.2.2.2.2.1, t14.2.2.2.2.2.2.2.2.1, t14.2.2.2.2.2.2.2.2.2)
noncomputable def L_spec_l10Keys_14 {R : Type} (k0 : (Bool × Int × Int × List E_i64 × List E_Node × List E_Age × List E_Cell × List E_Vol × Int × List E_Key) → Option R) (k1 : (Int × Int × List E_i64 × List E_Node × List E_Age × List E_Cell × List E_Vol × Int × List E_Key) → Option R) (t : T_spec_l10Keys_14) : Option R := iter (S_spec_l10Keys_14 k0 k1) FUEL t
abbrev T_spec_l10Keys_4 : Type := Int × Int × List E_i64 × List E_Node × List E_Age × List E_Cell × List E_Vol × Int × List E_Key
noncomputable def S_spec_l10Keys_4 {R : Type} (k0 : (Bool × Int × List E_i64 × List E_Node × List E_Age × List E_Cell × List E_Vol × Int) → Option R) (k1 : (Int × List E_i64 × List E_Node × List E_Age × List E_Cell × List E_Vol × Int) → Option R) (again : T_spec_l10Keys_4 → Option R) (t4 : T_spec_l10Keys_4) : Option R :=
  bif (decide (t4.2.1 < ((List.length t4.2.2.2.2.2.2.2.2 : Nat) : Int))) then if (0 : Int) ≤ t4.2.1 then if t4.2.1 < ((List.length t4.2.2.2.2.2.2.2.2 : Nat) : Int) then Option.bind (F_spec_AgeAt (t4.2.2.2.2.1, (rd_Key t4.2.2.2.2.2.2.2.2 t4.2.1).2.1)) fun r2 => bif (decide (r2 < (0 : Int))) then k0 (false, t4.1, t4.2.2.1, t4.2.2.2.1, t4.2.2.2.2.1, t4.2.2.2.2.2.1, t4.2.2.2.2.2.2.1, t4.2.2.2.2.2.2.2.1) else if (0 : Int) ≤ t4.2.1 then if t4.2.1 < ((List.length t4.2.2.2.2.2.2.2.2 : Nat) : Int) then bif ((rd_Key t4.2.2.2.2.2.2.2.2 t4.2.1).2.2.1 != (1 : Int)) then again (t4.1, (Go.IntKind.wrap .i64 (t4.2.1 + (1 : Int))), t4.2.2.1, t4.2.2.2.1, t4.2.2.2.2.1, t4.2.2.2.2.2.1, t4.2.2.2.2.2.2.1, t4.2.2.2.2.2.2.2.1, t4.2.2.2.2.2.2.2.2) else if (0 : Int) ≤ t4.2.1 then if t4.2.1 < ((List.length t4.2.2.2.2.2.2.2.2 : Nat) : Int) then if (0 : Int) ≤ t4.2.1 then if t4.2.1 < ((List.length t4.2.2.2.2.2.2.2.2 : Nat) : Int) then Option.bind (F_spec_CellAt (t4.2.2.2.2.2.1, (rd_Key t4.2.2.2.2.2.2.2.2 t4.2.1).2.2.2.1, (rd_Key t4.2.2.2.2.2.2.2.2 t4.2.1).2.2.2.2)) fun r3 => bif (!r3.2) then k0 (false, (Go.IntKind.wrap .i64 (t4.1 + (1 : Int))), t4.2.2.1, t4.2.2.2.1, t4.2.2.2.2.1, t4.2.2.2.2.2.1, t4.2.2.2.2.2.2.1, t4.2.2.2.2.2.2.2.1) else L_spec_l10Keys_14 (fun x5 => k0 (x5.1, x5.2.1, x5.2.2.2.1, x5.2.2.2.2.1, x5.2.2.2.2.2.1, x5.2.2.2.2.2.2.1, x5.2.2.2.2.2.2.2.1, x5.2.2.2.2.2.2.2.2.1)) (fun x6 => again (x6.1, (Go.IntKind.wrap .i64 (x6.2.1 + (1 : Int))), x6.2.2.1, x6.2.2.2.1, x6.2.2.2.2.1, x6.2.2.2.2.2.1, x6.2.2.2.2.2.2.1, x6.2.2.2.2.2.2.2.1, x6.2.2.2.2.2.2.2.2)) ((Go.IntKind.wrap .i64 (t4.1 + (1 : Int))), t4.2.1, (0 : Int), t4.2.2.1, t4.2.2.2.1, t4.2.2.2.2.1, t4.2.2.2.2.2.1, t4.2.2.2.2.2.2.1, t4.2.2.2.2.2.2.2.1, t4.2.2.2.2.2.2.2.2) else none else none else none else none else none else none else none else none else k1 (t4.1, t4.2.2.1, t4.2.2.2.1, t4.2.2.2.2.1, t4.2.2.2.2.2.1, t4.2.2.2.2.2.2.1, t4.2.2.2.2.2.2.2.1)
noncomputable def L_spec_l10Keys_4 {R : Type} (k0 : (Bool × Int × List E_i64 × List E_Node × List E_Age × List E_Cell × List E_Vol × Int) → Option R) (k1 : (Int × List E_i64 × List E_Node × List E_Age × List E_Cell × List E_Vol × Int) → Option R) (t : T_spec_l10Keys_4) : Option R := iter (S_spec_l10Keys_4 k0 k1) FUEL t
noncomputable def F_spec_l10Keys (x : List E_i64 × List E_Node × List E_Age × List E_Cell × List E_Vol × Int) : Option (Bool) :=
  Option.bind (F_spec_TreeKeys (x.1, x.2.1)) fun r1 => L_spec_l10Keys_4 (fun x7 => some x7.1) (fun x8 => Option.bind (F_spec_UsedCells x8.2.2.2.2.1) fun r9 => some (x8.1 == r9)) ((0 : Int), (0 : Int), x.1, x.2.1, x.2.2.1, x.2.2.2.1, x.2.2.2.2.1, x.2.2.2.2.2, r1)
noncomputable def f112B : Code := match Tryz.f112.body with
  | some c => c
  | none => .skip
noncomputable def f112K : C.Sem := tab [⟨94, F_spec_UsedCells⟩, ⟨156, F_spec_TreeKeys⟩, ⟨176, F_spec_AgeAt⟩, ⟨180, F_spec_CellAt⟩]
def f112h14_0 : List Sh := [.dead, .box 1 0, .dead, .own 10000000, .v (.int .i64), .v (.int .i64), .dead, .dead, .v (.int .i64), .dead, .dead, .dead, .dead, .dead, .dead, .dead, .dead, .dead, .dead, .dead, .dead, .dead, .dead, .dead, .dead, .dead, .dead, .dead, .dead, .dead, .dead, .dead, .dead, .dead, .dead, .dead, .dead, .dead, .dead, .dead, .dead, .dead, .dead, .dead, .dead, .dead, .dead, .dead, .dead, .dead, .dead, .dead, .dead, .dead, .dead, .dead, .dead, .dead, .dead, .dead, .dead, .dead, .dead, .dead, .dead, .dead, .dead, .dead, .dead, .dead, .dead, .dead, .dead, .dead, .dead, .dead, .dead, .dead, .dead, .dead, .dead, .dead]
def f112o14_0 : List (Nat × OSh) := [(1, .box [.v (.sl 3 ts_i64), .v (.sl 97 ts_Node), .v (.sl 88 ts_Age), .v (.sl 94 ts_Cell), .v (.sl 90 ts_Vol), .v (.int .i64)]), (10000000, .root true 105 ts_Key)]
def f112e14_0 (t : Int × Int × Int × List E_i64 × List E_Node × List E_Age × List E_Cell × List E_Vol × Int × List E_Key) : St := ⟨[.dead, .box 1 0, .dead, .own 10000000, .val (.int .i64) t.1, .val (.int .i64) t.2.1, .dead, .dead, .val (.int .i64) t.2.2.1, .dead, .dead, .dead, .dead, .dead, .dead, .dead, .dead, .dead, .dead, .dead, .dead, .dead, .dead, .dead, .dead, .dead, .dead, .dead, .dead, .dead, .dead, .dead, .dead, .dead, .dead, .dead, .dead, .dead, .dead, .dead, .dead, .dead, .dead, .dead, .dead, .dead, .dead, .dead, .dead, .dead, .dead, .dead, .dead, .dead, .dead, .dead, .dead, .dead, .dead, .dead, .dead, .dead, .dead, .dead, .dead, .dead, .dead, .dead, .dead, .dead, .dead, .dead, .dead, .dead, .dead, .dead, .dead, .dead, .dead, .dead, .dead, .dead], [(1, .box [.val (.sl 3 ts_i64) t.2.2.2.1, .val (.sl 97 ts_Node) t.2.2.2.2.1, .val (.sl 88 ts_Age) t.2.2.2.2.2.1, .val (.sl 94 ts_Cell) t.2.2.2.2.2.2.1, .val (.sl 90 ts_Vol) t.2.2.2.2.2.2.2.1, .val (.int .i64) t.2.2.2.2.2.2.2.2.1]), (10000000, .root true 105 ts_Key t.2.2.2.2.2.2.2.2.2)]⟩
def f112x14_0 (t : Bool × Int × Int × List E_i64 × List E_Node × List E_Age × List E_Cell × List E_Vol × Int × List E_Key) : St := ⟨[.dead, .box 1 0, .val .bool t.1, .own 10000000, .val (.int .i64) t.2.1, .val (.int .i64) t.2.2.1, .dead, .dead, .dead, .dead, .dead, .dead, .dead, .dead, .dead, .dead, .dead, .dead, .dead, .dead, .dead, .dead, .dead, .dead, .dead, .dead, .dead, .dead, .dead, .dead, .dead, .dead, .dead, .dead, .dead, .dead, .dead, .dead, .dead, .dead, .dead, .dead, .dead, .dead, .dead, .dead, .dead, .dead, .dead, .dead, .dead, .dead, .dead, .dead, .dead, .dead, .dead, .dead, .dead, .dead, .dead, .dead, .dead, .dead, .dead, .dead, .dead, .dead, .dead, .dead, .dead, .dead, .dead, .dead, .dead, .dead, .dead, .dead, .dead, .dead, .dead, .dead], [(1, .box [.val (.sl 3 ts_i64) t.2.2.2.1, .val (.sl 97 ts_Node) t.2.2.2.2.1, .val (.sl 88 ts_Age) t.2.2.2.2.2.1, .val (.sl 94 ts_Cell) t.2.2.2.2.2.2.1, .val (.sl 90 ts_Vol) t.2.2.2.2.2.2.2.1, .val (.int .i64) t.2.2.2.2.2.2.2.2.1]), (10000000, .root true 105 ts_Key t.2.2.2.2.2.2.2.2.2)]⟩
def f112x14_1 (t : Int × Int × List E_i64 × List E_Node × List E_Age × List E_Cell × List E_Vol × Int × List E_Key) : St := ⟨[.dead, .box 1 0, .dead, .own 10000000, .val (.int .i64) t.1, .val (.int .i64) t.2.1, .dead, .dead, .dead, .dead, .dead, .dead, .dead, .dead, .dead, .dead, .dead, .dead, .dead, .dead, .dead, .dead, .dead, .dead, .dead, .dead, .dead, .dead, .dead, .dead, .dead, .dead, .dead, .dead, .dead, .dead, .dead, .dead, .dead, .dead, .dead, .dead, .dead, .dead, .dead, .dead, .dead, .dead, .dead, .dead, .dead, .dead, .dead, .dead, .dead, .dead, .dead, .dead, .dead, .dead, .dead, .dead, .dead, .dead, .dead, .dead, .dead, .dead, .dead, .dead, .dead, .dead, .dead, .dead, .dead, .dead, .dead, .dead, .dead, .dead, .dead, .dead], [(1, .box [.val (.sl 3 ts_i64) t.2.2.1, .val (.sl 97 ts_Node) t.2.2.2.1, .val (.sl 88 ts_Age) t.2.2.2.2.1, .val (.sl 94 ts_Cell) t.2.2.2.2.2.1, .val (.sl 90 ts_Vol) t.2.2.2.2.2.2.1, .val (.int .i64) t.2.2.2.2.2.2.2.1]), (10000000, .root true 105 ts_Key t.2.2.2.2.2.2.2.2)]⟩
def f112u14_0 (s : St) : Option (Int × Int × Int × List E_i64 × List E_Node × List E_Age × List E_Cell × List E_Vol × Int × List E_Key) := (unS f112h14_0 f112o14_0 s).map fun v => (v.1.2.2.2.2.1, v.1.2.2.2.2.2.1, v.1.2.2.2.2.2.2.2.2.1, v.2.1.1, v.2.1.2.1, v.2.1.2.2.1, v.2.1.2.2.2.1, v.2.1.2.2.2.2.1, v.2.1.2.2.2.2.2.1, v.2.2.1)
theorem f112un14_0 : ∀ (s : St) (t : Int × Int × Int × List E_i64 × List E_Node × List E_Age × List E_Cell × List E_Vol × Int × List E_Key), f112u14_0 s = some t → f112e14_0 t = s := fun s v h => by
  obtain ⟨u, hu, rfl⟩ := Option.map_eq_some_iff.1 h
  exact (show f112e14_0 (u.1.2.2.2.2.1, u.1.2.2.2.2.2.1, u.1.2.2.2.2.2.2.2.2.1, u.2.1.1, u.2.1.2.1, u.2.1.2.2.1, u.2.1.2.2.2.1, u.2.1.2.2.2.2.1, u.2.1.2.2.2.2.2.1, u.2.2.1) = mkS f112h14_0 f112o14_0 u by kernel_rfl).trans (mkS_un f112h14_0 f112o14_0 s u hu)
def f112u14 : St → Option (Int × Int × Int × List E_i64 × List E_Node × List E_Age × List E_Cell × List E_Vol × Int × List E_Key) := f112u14_0
def f112e14 : (Int × Int × Int × List E_i64 × List E_Node × List E_Age × List E_Cell × List E_Vol × Int × List E_Key) → St := f112e14_0
theorem f112un14 : ∀ (s : St) (t : Int × Int × Int × List E_i64 × List E_Node × List E_Age × List E_Cell × List E_Vol × Int × List E_Key), f112u14 s = some t → f112e14 t = s := f112un14_0
def f112h4_0 : List Sh := [.dead, .box 1 0, .dead, .own 10000000, .v (.int .i64), .v (.int .i64), .dead, .dead, .dead, .dead, .dead, .dead, .dead, .dead, .dead, .dead, .dead, .dead, .dead, .dead, .dead, .dead, .dead, .dead, .dead, .dead, .dead, .dead, .dead, .dead, .dead, .dead, .dead, .dead, .dead, .dead, .dead, .dead, .dead, .dead, .dead, .dead, .dead, .dead, .dead, .dead, .dead, .dead, .dead, .dead, .dead, .dead, .dead, .dead, .dead, .dead, .dead, .dead, .dead, .dead, .dead, .dead, .dead, .dead, .dead, .dead, .dead, .dead, .dead, .dead, .dead, .dead, .dead, .dead, .dead, .dead, .dead, .dead, .dead, .dead, .dead, .dead]
def f112o4_0 : List (Nat × OSh) := [(1, .box [.v (.sl 3 ts_i64), .v (.sl 97 ts_Node), .v (.sl 88 ts_Age), .v (.sl 94 ts_Cell), .v (.sl 90 ts_Vol), .v (.int .i64)]), (10000000, .root true 105 ts_Key)]
def f112e4_0 (t : Int × Int × List E_i64 × List E_Node × List E_Age × List E_Cell × List E_Vol × Int × List E_Key) : St := ⟨[.dead, .box 1 0, .dead, .own 10000000, .val (.int .i64) t.1, .val (.int .i64) t.2.1, .dead, .dead, .dead, .dead, .dead, .dead, .dead, .dead, .dead, .dead, .dead, .dead, .dead, .dead, .dead, .dead, .dead, .dead, .dead, .dead, .dead, .dead, .dead, .dead, .dead, .dead, .dead, .dead, .dead, .dead, .dead, .dead, .dead, .dead, .dead, .dead, .dead, .dead, .dead, .dead, .dead, .dead, .dead, .dead, .dead, .dead, .dead, .dead, .dead, .dead, .dead, .dead, .dead, .dead, .dead, .dead, .dead, .dead, .dead, .dead, .dead, .dead, .dead, .dead, .dead, .dead, .dead, .dead, .dead, .dead, .dead, .dead, .dead, .dead, .dead, .dead], [(1, .box [.val (.sl 3 ts_i64) t.2.2.1, .val (.sl 97 ts_Node) t.2.2.2.1, .val (.sl 88 ts_Age) t.2.2.2.2.1, .val (.sl 94 ts_Cell) t.2.2.2.2.2.1, .val (.sl 90 ts_Vol) t.2.2.2.2.2.2.1, .val (.int .i64) t.2.2.2.2.2.2.2.1]), (10000000, .root true 105 ts_Key t.2.2.2.2.2.2.2.2)]⟩
def f112x4_0 (t : Bool × Int × List E_i64 × List E_Node × List E_Age × List E_Cell × List E_Vol × Int) : St := ⟨[.dead, .box 1 0, .val .bool t.1, .dead, .val (.int .i64) t.2.1, .dead, .dead, .dead, .dead, .dead, .dead, .dead, .dead, .dead, .dead, .dead, .dead, .dead, .dead, .dead, .dead, .dead, .dead, .dead, .dead, .dead, .dead, .dead, .dead, .dead, .dead, .dead, .dead, .dead, .dead, .dead, .dead, .dead, .dead, .dead, .dead, .dead, .dead, .dead, .dead, .dead, .dead, .dead, .dead, .dead, .dead, .dead, .dead, .dead, .dead, .dead, .dead, .dead, .dead, .dead, .dead, .dead, .dead, .dead, .dead, .dead, .dead, .dead, .dead, .dead, .dead, .dead, .dead, .dead, .dead, .dead, .dead, .dead, .dead, .dead, .dead, .dead], [(1, .box [.val (.sl 3 ts_i64) t.2.2.1, .val (.sl 97 ts_Node) t.2.2.2.1, .val (.sl 88 ts_Age) t.2.2.2.2.1, .val (.sl 94 ts_Cell) t.2.2.2.2.2.1, .val (.sl 90 ts_Vol) t.2.2.2.2.2.2.1, .val (.int .i64) t.2.2.2.2.2.2.2])]⟩
def f112x4_1 (t : Int × List E_i64 × List E_Node × List E_Age × List E_Cell × List E_Vol × Int) : St := ⟨[.dead, .box 1 0, .dead, .dead, .val (.int .i64) t.1, .dead, .dead, .dead, .dead, .dead, .dead, .dead, .dead, .dead, .dead, .dead, .dead, .dead, .dead, .dead, .dead, .dead, .dead, .dead, .dead, .dead, .dead, .dead, .dead, .dead, .dead, .dead, .dead, .dead, .dead, .dead, .dead, .dead, .dead, .dead, .dead, .dead, .dead, .dead, .dead, .dead, .dead, .dead, .dead, .dead, .dead, .dead, .dead, .dead, .dead, .dead, .dead, .dead, .dead, .dead, .dead, .dead, .dead, .dead, .dead, .dead, .dead, .dead, .dead, .dead, .dead, .dead, .dead, .dead, .dead, .dead, .dead, .dead, .dead, .dead, .dead, .dead], [(1, .box [.val (.sl 3 ts_i64) t.2.1, .val (.sl 97 ts_Node) t.2.2.1, .val (.sl 88 ts_Age) t.2.2.2.1, .val (.sl 94 ts_Cell) t.2.2.2.2.1, .val (.sl 90 ts_Vol) t.2.2.2.2.2.1, .val (.int .i64) t.2.2.2.2.2.2])]⟩
def f112u4_0 (s : St) : Option (Int × Int × List E_i64 × List E_Node × List E_Age × List E_Cell × List E_Vol × Int × List E_Key) := (unS f112h4_0 f112o4_0 s).map fun v => (v.1.2.2.2.2.1, v.1.2.2.2.2.2.1, v.2.1.1, v.2.1.2.1, v.2.1.2.2.1, v.2.1.2.2.2.1, v.2.1.2.2.2.2.1, v.2.1.2.2.2.2.2.1, v.2.2.1)
theorem f112un4_0 : ∀ (s : St) (t : Int × Int × List E_i64 × List E_Node × List E_Age × List E_Cell × List E_Vol × Int × List E_Key), f112u4_0 s = some t → f112e4_0 t = s := fun s v h => by
  obtain ⟨u, hu, rfl⟩ := Option.map_eq_some_iff.1 h
  exact (show f112e4_0 (u.1.2.2.2.2.1, u.1.2.2.2.2.2.1, u.2.1.1, u.2.1.2.1, u.2.1.2.2.1, u.2.1.2.2.2.1, u.2.1.2.2.2.2.1, u.2.1.2.2.2.2.2.1, u.2.2.1) = mkS f112h4_0 f112o4_0 u by kernel_rfl).trans (mkS_un f112h4_0 f112o4_0 s u hu)
def f112u4 : St → Option (Int × Int × List E_i64 × List E_Node × List E_Age × List E_Cell × List E_Vol × Int × List E_Key) := f112u4_0
def f112e4 : (Int × Int × List E_i64 × List E_Node × List E_Age × List E_Cell × List E_Vol × Int × List E_Key) → St := f112e4_0
theorem f112un4 : ∀ (s : St) (t : Int × Int × List E_i64 × List E_Node × List E_Age × List E_Cell × List E_Vol × Int × List E_Key), f112u4 s = some t → f112e4 t = s := f112un4_0
noncomputable def f112P : Lp := fun i s {_R} κ => bif Nat.beq i 4 then (f112u4 s).bind fun t => L_spec_l10Keys_4 (fun t => κ (none) (f112x4_0 t)) (fun t => κ (some 0) (f112x4_1 t)) t else bif Nat.beq i 14 then (f112u14 s).bind fun t => L_spec_l10Keys_14 (fun t => κ (none) (f112x14_0 t)) (fun t => κ (some 2) (f112x14_1 t)) t else none
noncomputable def f112c14 : Code := (loopsOf f112B).getD 1 .skip
theorem f112A14 : C.live 112 (firstRegion f112c14) = some ([1, 3, 4, 5, 8, 65, 66, 67, 68, 69, 70, 71, 72, 73, 74, 75], [1, 2, 3, 4, 5, 65, 66, 67, 68, 69, 70, 71, 72, 73, 74, 75]) := by kernel_rfl
theorem f112B14 {R : Type} (κ : Option Nat → St → Option R) (s : St) : f112P (firstRegion f112c14) s κ = (f112u14 s).bind fun t => iter (S_spec_l10Keys_14 (fun t => κ (none) (f112x14_0 t)) (fun t => κ (some 2) (f112x14_1 t))) FUEL t := by kernel_rfl
theorem f112C14 {R : Type} (κ : Option Nat → St → Option R) (again : St → Option R) (t : T_spec_l10Keys_14) : stepL C f112K f112P 112 f112c14 [1, 3, 4, 5, 8, 65, 66, 67, 68, 69, 70, 71, 72, 73, 74, 75] [1, 2, 3, 4, 5, 65, 66, 67, 68, 69, 70, 71, 72, 73, 74, 75] κ again (f112e14 t) = S_spec_l10Keys_14 (fun t => κ (none) (f112x14_0 t)) (fun t => κ (some 2) (f112x14_1 t)) (fun t => again (f112e14 t)) t := by kernel_rfl
theorem f112ok14 : LoopOk C f112K f112P 112 f112c14 := loop_ok f112A14 f112e14 f112u14 f112un14 (fun {_R} κ => S_spec_l10Keys_14 (fun t => κ (none) (f112x14_0 t)) (fun t => κ (some 2) (f112x14_1 t))) (fun {_R} κ s => f112B14 κ s) (fun {_R} κ again t => f112C14 κ again t)
noncomputable def f112c4 : Code := (loopsOf f112B).getD 0 .skip
theorem f112A4 : C.live 112 (firstRegion f112c4) = some ([1, 3, 4, 5, 65, 66, 67, 68, 69, 70, 71, 72, 73, 74, 75], [1, 2, 4]) := by kernel_rfl
theorem f112B4 {R : Type} (κ : Option Nat → St → Option R) (s : St) : f112P (firstRegion f112c4) s κ = (f112u4 s).bind fun t => iter (S_spec_l10Keys_4 (fun t => κ (none) (f112x4_0 t)) (fun t => κ (some 0) (f112x4_1 t))) FUEL t := by kernel_rfl
theorem f112C4 {R : Type} (κ : Option Nat → St → Option R) (again : St → Option R) (t : T_spec_l10Keys_4) : stepL C f112K f112P 112 f112c4 [1, 3, 4, 5, 65, 66, 67, 68, 69, 70, 71, 72, 73, 74, 75] [1, 2, 4] κ again (f112e4 t) = S_spec_l10Keys_4 (fun t => κ (none) (f112x4_0 t)) (fun t => κ (some 0) (f112x4_1 t)) (fun t => again (f112e4 t)) t := by kernel_rfl
theorem f112ok4 : LoopOk C f112K f112P 112 f112c4 := loop_ok f112A4 f112e4 f112u4 f112un4 (fun {_R} κ => S_spec_l10Keys_4 (fun t => κ (none) (f112x4_0 t)) (fun t => κ (some 0) (f112x4_1 t))) (fun {_R} κ s => f112B4 κ s) (fun {_R} κ again t => f112C4 κ again t)
theorem k112 : Contract C Tryz.prog f112K := contract_tab _ (fun p hp => by
    simp only [List.mem_cons, List.mem_nil_iff, or_false] at hp
    rcases hp with rfl | rfl | rfl | rfl
    · exact ok94
    · exact ok156
    · exact ok176
    · exact ok180)
theorem ev112 (x : List E_i64 × List E_Node × List E_Age × List E_Cell × List E_Vol × Int) : evalB C f112K f112P 112 Tryz.f112 f112B ⟨[.v true [(.sl 3 ts_i64), (.sl 97 ts_Node), (.sl 88 ts_Age), (.sl 94 ts_Cell), (.sl 90 ts_Vol), (.int .i64)] [false, false, false, false, false, false]], [⟨false, [.bool], [false]⟩], false⟩ [(.sl 3 ts_i64), (.sl 97 ts_Node), (.sl 88 ts_Age), (.sl 94 ts_Cell), (.sl 90 ts_Vol), (.int .i64)] [.bool] x = F_spec_l10Keys x := by kernel_rfl
theorem ok112 : ContractAt C Tryz.prog 112 F_spec_l10Keys := fn_sound (lp := f112P) tok mixed k112 (by kernel_rfl) (fn := Tryz.f112) (c := f112B) (sg := ⟨[.v true [(.sl 3 ts_i64), (.sl 97 ts_Node), (.sl 88 ts_Age), (.sl 94 ts_Cell), (.sl 90 ts_Vol), (.int .i64)] [false, false, false, false, false, false]], [⟨false, [.bool], [false]⟩], false⟩) Tryz.func112 (by decide) (by kernel_rfl) (by kernel_rfl) (by kernel_rfl) (fun c' hc' => by
    rw [show loopsOf f112B = [f112c4, f112c14] by kernel_rfl] at hc'
    simp only [List.mem_cons, List.mem_nil_iff, or_false] at hc'
    rcases hc' with rfl | rfl
    · exact f112ok4
    · exact f112ok14) (by decide) (by decide) (fun x y h => (ev112 x).trans h)
abbrev T_spec_PoolOk_2 : Type := Int × List E_i64 × List E_Node × List E_Age × List E_Cell × List E_Vol × Int
noncomputable def S_spec_PoolOk_2 {R : Type} (k0 : (Bool × List E_i64 × List E_Node × List E_Age × List E_Cell × List E_Vol × Int) → Option R) (k1 : (List E_i64 × List E_Node × List E_Age × List E_Cell × List E_Vol × Int) → Option R) (again : T_spec_PoolOk_2 → Option R) (t2 : T_spec_PoolOk_2) : Option R :=
  bif (decide (t2.1 < ((List.length t2.2.2.2.1 : Nat) : Int))) then if (0 : Int) ≤ t2.1 then if t2.1 < ((List.length t2.2.2.2.1 : Nat) : Int) then bif (decide ((rd_Age t2.2.2.2.1 t2.1).1 ≥ t2.2.2.2.2.2.2)) then k0 (false, t2.2.1, t2.2.2.1, t2.2.2.2.1, t2.2.2.2.2.1, t2.2.2.2.2.2.1, t2.2.2.2.2.2.2) else again ((Go.IntKind.wrap .i64 (t2.1 + (1 : Int))), t2.2.1, t2.2.2.1, t2.2.2.2.1, t2.2.2.2.2.1, t2.2.2.2.2.2.1, t2.2.2.2.2.2.2) else none else none else k1 (t2.2.1, t2.2.2.1, t2.2.2.2.1, t2.2.2.2.2.1, t2.2.2.2.2.2.1, t2.2.2.2.2.2.2)
noncomputable def L_spec_PoolOk_2 {R : Type} (k0 : (Bool × List E_i64 × List E_Node × List E_Age × List E_Cell × List E_Vol × Int) → Option R) (k1 : (List E_i64 × List E_Node × List E_Age × List E_Cell × List E_Vol × Int) → Option R) (t : T_spec_PoolOk_2) : Option R := iter (S_spec_PoolOk_2 k0 k1) FUEL t
noncomputable def F_spec_PoolOk (x : List E_i64 × List E_Node × List E_Age × List E_Cell × List E_Vol × Int) : Option (Bool) :=
  L_spec_PoolOk_2 (fun x1 => some x1.1) (fun x2 => Option.bind (F_spec_TreeOk (x2.1, x2.2.1)) fun r3 => Option.bind (bif r3 then Option.bind (F_spec_AgesOk x2.2.2.1) fun r5 => some r5 else some false) fun u4 => Option.bind (bif u4 then Option.bind (F_spec_CellsOk x2.2.2.2.1) fun r7 => some r7 else some false) fun u6 => Option.bind (bif u6 then Option.bind (F_spec_l1In (x2.2.2.2.2.2, (1 : Int), (61 : Int))) fun r9 => some r9 else some false) fun u8 => Option.bind (bif u8 then Option.bind (F_spec_l10Vols (x2.1, x2.2.1, x2.2.2.1, x2.2.2.2.1, x2.2.2.2.2.1, x2.2.2.2.2.2)) fun r11 => some r11 else some false) fun u10 => Option.bind (bif u10 then Option.bind (F_spec_l10Keys (x2.1, x2.2.1, x2.2.2.1, x2.2.2.2.1, x2.2.2.2.2.1, x2.2.2.2.2.2)) fun r13 => some r13 else some false) fun u12 => some u12) ((0 : Int), x.1, x.2.1, x.2.2.1, x.2.2.2.1, x.2.2.2.2.1, x.2.2.2.2.2)
noncomputable def f45B : Code := match Tryz.f45.body with
  | some c => c
  | none => .skip
noncomputable def f45K : C.Sem := tab [⟨39, F_spec_l1In⟩, ⟨108, F_spec_TreeOk⟩, ⟨109, F_spec_AgesOk⟩, ⟨110, F_spec_CellsOk⟩, ⟨111, F_spec_l10Vols⟩, ⟨112, F_spec_l10Keys⟩]
def f45h2_0 : List Sh := [.dead, .box 1 0, .dead, .v (.int .i64), .dead, .dead, .dead, .dead, .dead, .dead, .dead, .dead, .dead, .dead, .dead, .dead, .dead, .dead, .dead, .dead, .dead, .dead, .dead, .dead, .dead, .dead, .dead, .dead, .dead, .dead, .dead, .dead, .dead, .dead, .dead, .dead, .dead, .dead, .dead, .dead, .dead, .dead, .dead, .dead, .dead, .dead]
def f45o2_0 : List (Nat × OSh) := [(1, .box [.v (.sl 3 ts_i64), .v (.sl 97 ts_Node), .v (.sl 88 ts_Age), .v (.sl 94 ts_Cell), .v (.sl 90 ts_Vol), .v (.int .i64)])]
def f45e2_0 (t : Int × List E_i64 × List E_Node × List E_Age × List E_Cell × List E_Vol × Int) : St := ⟨[.dead, .box 1 0, .dead, .val (.int .i64) t.1, .dead, .dead, .dead, .dead, .dead, .dead, .dead, .dead, .dead, .dead, .dead, .dead, .dead, .dead, .dead, .dead, .dead, .dead, .dead, .dead, .dead, .dead, .dead, .dead, .dead, .dead, .dead, .dead, .dead, .dead, .dead, .dead, .dead, .dead, .dead, .dead, .dead, .dead, .dead, .dead, .dead, .dead], [(1, .box [.val (.sl 3 ts_i64) t.2.1, .val (.sl 97 ts_Node) t.2.2.1, .val (.sl 88 ts_Age) t.2.2.2.1, .val (.sl 94 ts_Cell) t.2.2.2.2.1, .val (.sl 90 ts_Vol) t.2.2.2.2.2.1, .val (.int .i64) t.2.2.2.2.2.2])]⟩
def f45x2_0 (t : Bool × List E_i64 × List E_Node × List E_Age × List E_Cell × List E_Vol × Int) : St := ⟨[.dead, .box 1 0, .val .bool t.1, .dead, .dead, .dead, .dead, .dead, .dead, .dead, .dead, .dead, .dead, .dead, .dead, .dead, .dead, .dead, .dead, .dead, .dead, .dead, .dead, .dead, .dead, .dead, .dead, .dead, .dead, .dead, .dead, .dead, .dead, .dead, .dead, .dead, .dead, .dead, .dead, .dead, .dead, .dead, .dead, .dead, .dead, .dead], [(1, .box [.val (.sl 3 ts_i64) t.2.1, .val (.sl 97 ts_Node) t.2.2.1, .val (.sl 88 ts_Age) t.2.2.2.1, .val (.sl 94 ts_Cell) t.2.2.2.2.1, .val (.sl 90 ts_Vol) t.2.2.2.2.2.1, .val (.int .i64) t.2.2.2.2.2.2])]⟩
def f45x2_1 (t : List E_i64 × List E_Node × List E_Age × List E_Cell × List E_Vol × Int) : St := ⟨[.dead, .box 1 0, .dead, .dead, .dead, .dead, .dead, .dead, .dead, .dead, .dead, .dead, .dead, .dead, .dead, .dead, .dead, .dead, .dead, .dead, .dead, .dead, .dead, .dead, .dead, .dead, .dead, .dead, .dead, .dead, .dead, .dead, .dead, .dead, .dead, .dead, .dead, .dead, .dead, .dead, .dead, .dead, .dead, .dead, .dead, .dead], [(1, .box [.val (.sl 3 ts_i64) t.1, .val (.sl 97 ts_Node) t.2.1, .val (.sl 88 ts_Age) t.2.2.1, .val (.sl 94 ts_Cell) t.2.2.2.1, .val (.sl 90 ts_Vol) t.2.2.2.2.1, .val (.int .i64) t.2.2.2.2.2])]⟩
def f45u2_0 (s : St) : Option (Int × List E_i64 × List E_Node × List E_Age × List E_Cell × List E_Vol × Int) := (unS f45h2_0 f45o2_0 s).map fun v => (v.1.2.2.2.1, v.2.1.1, v.2.1.2.1, v.2.1.2.2.1, v.2.1.2.2.2.1, v.2.1.2.2.2.2.1, v.2.1.2.2.2.2.2.1)
theorem f45un2_0 : ∀ (s : St) (t : Int × List E_i64 × List E_Node × List E_Age × List E_Cell × List E_Vol × Int), f45u2_0 s = some t → f45e2_0 t = s := fun s v h => by
  obtain ⟨u, hu, rfl⟩ := Option.map_eq_some_iff.1 h
  exact (show f45e2_0 (u.1.2.2.2.1, u.2.1.1, u.2.1.2.1, u.2.1.2.2.1, u.2.1.2.2.2.1, u.2.1.2.2.2.2.1, u.2.1.2.2.2.2.2.1) = mkS f45h2_0 f45o2_0 u by kernel_rfl).trans (mkS_un f45h2_0 f45o2_0 s u hu)
def f45u2 : St → Option (Int × List E_i64 × List E_Node × List E_Age × List E_Cell × List E_Vol × Int) := f45u2_0
def f45e2 : (Int × List E_i64 × List E_Node × List E_Age × List E_Cell × List E_Vol × Int) → St := f45e2_0
theorem f45un2 : ∀ (s : St) (t : Int × List E_i64 × List E_Node × List E_Age × List E_Cell × List E_Vol × Int), f45u2 s = some t → f45e2 t = s := f45un2_0
noncomputable def f45P : Lp := fun i s {_R} κ => bif Nat.beq i 2 then (f45u2 s).bind fun t => L_spec_PoolOk_2 (fun t => κ (none) (f45x2_0 t)) (fun t => κ (some 0) (f45x2_1 t)) t else none
noncomputable def f45c2 : Code := (loopsOf f45B).getD 0 .skip
theorem f45A2 : C.live 45 (firstRegion f45c2) = some ([1, 3, 24, 25, 26, 29, 30, 31, 34, 35, 36, 39, 40, 43, 44], [1, 2, 24, 25, 26, 29, 30, 31, 34, 35, 36, 39, 40, 43, 44]) := by kernel_rfl
theorem f45B2 {R : Type} (κ : Option Nat → St → Option R) (s : St) : f45P (firstRegion f45c2) s κ = (f45u2 s).bind fun t => iter (S_spec_PoolOk_2 (fun t => κ (none) (f45x2_0 t)) (fun t => κ (some 0) (f45x2_1 t))) FUEL t := by kernel_rfl
theorem f45C2 {R : Type} (κ : Option Nat → St → Option R) (again : St → Option R) (t : T_spec_PoolOk_2) : stepL C f45K f45P 45 f45c2 [1, 3, 24, 25, 26, 29, 30, 31, 34, 35, 36, 39, 40, 43, 44] [1, 2, 24, 25, 26, 29, 30, 31, 34, 35, 36, 39, 40, 43, 44] κ again (f45e2 t) = S_spec_PoolOk_2 (fun t => κ (none) (f45x2_0 t)) (fun t => κ (some 0) (f45x2_1 t)) (fun t => again (f45e2 t)) t := by kernel_rfl
theorem f45ok2 : LoopOk C f45K f45P 45 f45c2 := loop_ok f45A2 f45e2 f45u2 f45un2 (fun {_R} κ => S_spec_PoolOk_2 (fun t => κ (none) (f45x2_0 t)) (fun t => κ (some 0) (f45x2_1 t))) (fun {_R} κ s => f45B2 κ s) (fun {_R} κ again t => f45C2 κ again t)
theorem k45 : Contract C Tryz.prog f45K := contract_tab _ (fun p hp => by
    simp only [List.mem_cons, List.mem_nil_iff, or_false] at hp
    rcases hp with rfl | rfl | rfl | rfl | rfl | rfl
    · exact ok39
    · exact ok108
    · exact ok109
    · exact ok110
    · exact ok111
    · exact ok112)
theorem ev45 (x : List E_i64 × List E_Node × List E_Age × List E_Cell × List E_Vol × Int) : evalB C f45K f45P 45 Tryz.f45 f45B ⟨[.v true [(.sl 3 ts_i64), (.sl 97 ts_Node), (.sl 88 ts_Age), (.sl 94 ts_Cell), (.sl 90 ts_Vol), (.int .i64)] [false, false, false, false, false, false]], [⟨false, [.bool], [false]⟩], false⟩ [(.sl 3 ts_i64), (.sl 97 ts_Node), (.sl 88 ts_Age), (.sl 94 ts_Cell), (.sl 90 ts_Vol), (.int .i64)] [.bool] x = F_spec_PoolOk x := by kernel_rfl
theorem ok45 : ContractAt C Tryz.prog 45 F_spec_PoolOk := fn_sound (lp := f45P) tok mixed k45 (by kernel_rfl) (fn := Tryz.f45) (c := f45B) (sg := ⟨[.v true [(.sl 3 ts_i64), (.sl 97 ts_Node), (.sl 88 ts_Age), (.sl 94 ts_Cell), (.sl 90 ts_Vol), (.int .i64)] [false, false, false, false, false, false]], [⟨false, [.bool], [false]⟩], false⟩) Tryz.func45 (by decide) (by kernel_rfl) (by kernel_rfl) (by kernel_rfl) (fun c' hc' => by
    rw [show loopsOf f45B = [f45c2] by kernel_rfl] at hc'
    simp only [List.mem_cons, List.mem_nil_iff, or_false] at hc'
    rcases hc' with rfl
    · exact f45ok2) (by decide) (by decide) (fun x y h => (ev45 x).trans h)
abbrev T_spec_DevOk_2 : Type := Int × List E_s_u8 × List E_Wr × Int × Bool
noncomputable def S_spec_DevOk_2 {R : Type} (k0 : (Bool × List E_s_u8 × List E_Wr × Int × Bool) → Option R) (k1 : (List E_s_u8 × List E_Wr × Int × Bool) → Option R) (again : T_spec_DevOk_2 → Option R) (t2 : T_spec_DevOk_2) : Option R :=
  bif (decide (t2.1 < ((List.length t2.2.1 : Nat) : Int))) then if (0 : Int) ≤ t2.1 then if t2.1 < ((List.length t2.2.1 : Nat) : Int) then bif (decide (((List.length (rd_s_u8 t2.2.1 t2.1) : Nat) : Int) > (80 : Int))) then k0 (false, t2.2.1, t2.2.2.1, t2.2.2.2.1, t2.2.2.2.2) else again ((Go.IntKind.wrap .i64 (t2.1 + (1 : Int))), t2.2.1, t2.2.2.1, t2.2.2.2.1, t2.2.2.2.2) else none else none else k1 (t2.2.1, t2.2.2.1, t2.2.2.2.1, t2.2.2.2.2)
noncomputable def L_spec_DevOk_2 {R : Type} (k0 : (Bool × List E_s_u8 × List E_Wr × Int × Bool) → Option R) (k1 : (List E_s_u8 × List E_Wr × Int × Bool) → Option R) (t : T_spec_DevOk_2) : Option R := iter (S_spec_DevOk_2 k0 k1) FUEL t
abbrev T_spec_DevOk_7 : Type := Int × List E_s_u8 × List E_Wr × Int × Bool
noncomputable def S_spec_DevOk_7 {R : Type} (k0 : (Bool × List E_s_u8 × List E_Wr × Int × Bool) → Option R) (k1 : (List E_s_u8 × List E_Wr × Int × Bool) → Option R) (again : T_spec_DevOk_7 → Option R) (t7 : T_spec_DevOk_7) : Option R :=
  bif (decide (t7.1 < ((List.length t7.2.2.1 : Nat) : Int))) then if (0 : Int) ≤ t7.1 then if t7.1 < ((List.length t7.2.2.1 : Nat) : Int) then Option.bind (F_spec_l1In ((rd_Wr t7.2.2.1 t7.1).1, (0 : Int), (Go.IntKind.wrap .i64 (((List.length t7.2.1 : Nat) : Int) - (1 : Int))))) fun r3 => Option.bind (bif (!r3) then some true else if (0 : Int) ≤ t7.1 then if t7.1 < ((List.length t7.2.2.1 : Nat) : Int) then some (decide (((List.length ((rd_Wr t7.2.2.1 t7.1).2) : Nat) : Int) > (80 : Int))) else none else none) fun u4 => bif u4 then k0 (false, t7.2.1, t7.2.2.1, t7.2.2.2.1, t7.2.2.2.2) else again ((Go.IntKind.wrap .i64 (t7.1 + (1 : Int))), t7.2.1, t7.2.2.1, t7.2.2.2.1, t7.2.2.2.2) else none else none else k1 (t7.2.1, t7.2.2.1, t7.2.2.2.1, t7.2.2.2.2)
noncomputable def L_spec_DevOk_7 {R : Type} (k0 : (Bool × List E_s_u8 × List E_Wr × Int × Bool) → Option R) (k1 : (List E_s_u8 × List E_Wr × Int × Bool) → Option R) (t : T_spec_DevOk_7) : Option R := iter (S_spec_DevOk_7 k0 k1) FUEL t
noncomputable def F_spec_DevOk (x : List E_s_u8 × List E_Wr × Int × Bool) : Option (Bool) :=
  L_spec_DevOk_2 (fun x1 => some x1.1) (fun x2 => L_spec_DevOk_7 (fun x5 => some x5.1) (fun x6 => Option.bind (F_spec_l1In (((List.length x6.1 : Nat) : Int), (1 : Int), (60 : Int))) fun r7 => Option.bind (bif r7 then some (decide (((List.length x6.2.1 : Nat) : Int) ≤ (60 : Int))) else some false) fun u8 => Option.bind (bif u8 then Option.bind (F_spec_l1In (x6.2.2.1, (-1 : Int), (1000 : Int))) fun r10 => some r10 else some false) fun u9 => some u9) ((0 : Int), x2.1, x2.2.1, x2.2.2.1, x2.2.2.2)) ((0 : Int), x.1, x.2.1, x.2.2.1, x.2.2.2)
noncomputable def f102B : Code := match Tryz.f102.body with
  | some c => c
  | none => .skip
noncomputable def f102K : C.Sem := tab [⟨39, F_spec_l1In⟩]
def f102h2_0 : List Sh := [.dead, .box 1 0, .dead, .v (.int .i64), .dead, .dead, .dead, .dead, .dead, .dead, .dead, .dead, .dead, .dead, .dead, .dead, .dead, .dead, .dead, .dead, .dead, .dead, .dead, .dead, .dead, .dead, .dead, .dead, .dead, .dead, .dead, .dead, .dead, .dead, .dead, .dead, .dead, .dead, .dead, .dead, .dead, .dead, .dead, .dead, .dead, .dead, .dead, .dead, .dead, .dead, .dead, .dead, .dead, .dead, .dead, .dead, .dead, .dead, .dead, .dead, .dead, .dead, .dead]
def f102o2_0 : List (Nat × OSh) := [(1, .box [.v (.sl 56 ts_s_u8), .v (.sl 178 ts_Wr), .v (.int .i64), .v .bool])]
def f102e2_0 (t : Int × List E_s_u8 × List E_Wr × Int × Bool) : St := ⟨[.dead, .box 1 0, .dead, .val (.int .i64) t.1, .dead, .dead, .dead, .dead, .dead, .dead, .dead, .dead, .dead, .dead, .dead, .dead, .dead, .dead, .dead, .dead, .dead, .dead, .dead, .dead, .dead, .dead, .dead, .dead, .dead, .dead, .dead, .dead, .dead, .dead, .dead, .dead, .dead, .dead, .dead, .dead, .dead, .dead, .dead, .dead, .dead, .dead, .dead, .dead, .dead, .dead, .dead, .dead, .dead, .dead, .dead, .dead, .dead, .dead, .dead, .dead, .dead, .dead, .dead], [(1, .box [.val (.sl 56 ts_s_u8) t.2.1, .val (.sl 178 ts_Wr) t.2.2.1, .val (.int .i64) t.2.2.2.1, .val .bool t.2.2.2.2])]⟩
def f102x2_0 (t : Bool × List E_s_u8 × List E_Wr × Int × Bool) : St := ⟨[.dead, .box 1 0, .val .bool t.1, .dead, .dead, .dead, .dead, .dead, .dead, .dead, .dead, .dead, .dead, .dead, .dead, .dead, .dead, .dead, .dead, .dead, .dead, .dead, .dead, .dead, .dead, .dead, .dead, .dead, .dead, .dead, .dead, .dead, .dead, .dead, .dead, .dead, .dead, .dead, .dead, .dead, .dead, .dead, .dead, .dead, .dead, .dead, .dead, .dead, .dead, .dead, .dead, .dead, .dead, .dead, .dead, .dead, .dead, .dead, .dead, .dead, .dead, .dead, .dead], [(1, .box [.val (.sl 56 ts_s_u8) t.2.1, .val (.sl 178 ts_Wr) t.2.2.1, .val (.int .i64) t.2.2.2.1, .val .bool t.2.2.2.2])]⟩
def f102x2_1 (t : List E_s_u8 × List E_Wr × Int × Bool) : St := ⟨[.dead, .box 1 0, .dead, .dead, .dead, .dead, .dead, .dead, .dead, .dead, .dead, .dead, .dead, .dead, .dead, .dead, .dead, .dead, .dead, .dead, .dead, .dead, .dead, .dead, .dead, .dead, .dead, .dead, .dead, .dead, .dead, .dead, .dead, .dead, .dead, .dead, .dead, .dead, .dead, .dead, .dead, .dead, .dead, .dead, .dead, .dead, .dead, .dead, .dead, .dead, .dead, .dead, .dead, .dead, .dead, .dead, .dead, .dead, .dead, .dead, .dead, .dead, .dead], [(1, .box [.val (.sl 56 ts_s_u8) t.1, .val (.sl 178 ts_Wr) t.2.1, .val (.int .i64) t.2.2.1, .val .bool t.2.2.2])]⟩
def f102u2_0 (s : St) : Option (Int × List E_s_u8 × List E_Wr × Int × Bool) := (unS f102h2_0 f102o2_0 s).map fun v => (v.1.2.2.2.1, v.2.1.1, v.2.1.2.1, v.2.1.2.2.1, v.2.1.2.2.2.1)
theorem f102un2_0 : ∀ (s : St) (t : Int × List E_s_u8 × List E_Wr × Int × Bool), f102u2_0 s = some t → f102e2_0 t = s := fun s v h => by
  obtain ⟨u, hu, rfl⟩ := Option.map_eq_some_iff.1 h
  exact (show f102e2_0 (u.1.2.2.2.1, u.2.1.1, u.2.1.2.1, u.2.1.2.2.1, u.2.1.2.2.2.1) = mkS f102h2_0 f102o2_0 u by kernel_rfl).trans (mkS_un f102h2_0 f102o2_0 s u hu)
def f102u2 : St → Option (Int × List E_s_u8 × List E_Wr × Int × Bool) := f102u2_0
def f102e2 : (Int × List E_s_u8 × List E_Wr × Int × Bool) → St := f102e2_0
theorem f102un2 : ∀ (s : St) (t : Int × List E_s_u8 × List E_Wr × Int × Bool), f102u2 s = some t → f102e2 t = s := f102un2_0
def f102h7_0 : List Sh := [.dead, .box 1 0, .dead, .dead, .v (.int .i64), .dead, .dead, .dead, .dead, .dead, .dead, .dead, .dead, .dead, .dead, .dead, .dead, .dead, .dead, .dead, .dead, .dead, .dead, .dead, .dead, .dead, .dead, .dead, .dead, .dead, .dead, .dead, .dead, .dead, .dead, .dead, .dead, .dead, .dead, .dead, .dead, .dead, .dead, .dead, .dead, .dead, .dead, .dead, .dead, .dead, .dead, .dead, .dead, .dead, .dead, .dead, .dead, .dead, .dead, .dead, .dead, .dead, .dead]
def f102o7_0 : List (Nat × OSh) := [(1, .box [.v (.sl 56 ts_s_u8), .v (.sl 178 ts_Wr), .v (.int .i64), .v .bool])]
def f102e7_0 (t : Int × List E_s_u8 × List E_Wr × Int × Bool) : St := ⟨[.dead, .box 1 0, .dead, .dead, .val (.int .i64) t.1, .dead, .dead, .dead, .dead, .dead, .dead, .dead, .dead, .dead, .dead, .dead, .dead, .dead, .dead, .dead, .dead, .dead, .dead, .dead, .dead, .dead, .dead, .dead, .dead, .dead, .dead, .dead, .dead, .dead, .dead, .dead, .dead, .dead, .dead, .dead, .dead, .dead, .dead, .dead, .dead, .dead, .dead, .dead, .dead, .dead, .dead, .dead, .dead, .dead, .dead, .dead, .dead, .dead, .dead, .dead, .dead, .dead, .dead], [(1, .box [.val (.sl 56 ts_s_u8) t.2.1, .val (.sl 178 ts_Wr) t.2.2.1, .val (.int .i64) t.2.2.2.1, .val .bool t.2.2.2.2])]⟩
def f102x7_0 (t : Bool × List E_s_u8 × List E_Wr × Int × Bool) : St := ⟨[.dead, .box 1 0, .val .bool t.1, .dead, .dead, .dead, .dead, .dead, .dead, .dead, .dead, .dead, .dead, .dead, .dead, .dead, .dead, .dead, .dead, .dead, .dead, .dead, .dead, .dead, .dead, .dead, .dead, .dead, .dead, .dead, .dead, .dead, .dead, .dead, .dead, .dead, .dead, .dead, .dead, .dead, .dead, .dead, .dead, .dead, .dead, .dead, .dead, .dead, .dead, .dead, .dead, .dead, .dead, .dead, .dead, .dead, .dead, .dead, .dead, .dead, .dead, .dead, .dead], [(1, .box [.val (.sl 56 ts_s_u8) t.2.1, .val (.sl 178 ts_Wr) t.2.2.1, .val (.int .i64) t.2.2.2.1, .val .bool t.2.2.2.2])]⟩
def f102x7_1 (t : List E_s_u8 × List E_Wr × Int × Bool) : St := ⟨[.dead, .box 1 0, .dead, .dead, .dead, .dead, .dead, .dead, .dead, .dead, .dead, .dead, .dead, .dead, .dead, .dead, .dead, .dead, .dead, .dead, .dead, .dead, .dead, .dead, .dead, .dead, .dead, .dead, .dead, .dead, .dead, .dead, .dead, .dead, .dead, .dead, .dead, .dead, .dead, .dead, .dead, .dead, .dead, .dead, .dead, .dead, .dead, .dead, .dead, .dead, .dead, .dead, .dead, .dead, .dead, .dead, .dead, .dead, .dead, .dead, .dead, .dead, .dead], [(1, .box [.val (.sl 56 ts_s_u8) t.1, .val (.sl 178 ts_Wr) t.2.1, .val (.int .i64) t.2.2.1, .val .bool t.2.2.2])]⟩
def f102u7_0 (s : St) : Option (Int × List E_s_u8 × List E_Wr × Int × Bool) := (unS f102h7_0 f102o7_0 s).map fun v => (v.1.2.2.2.2.1, v.2.1.1, v.2.1.2.1, v.2.1.2.2.1, v.2.1.2.2.2.1)
theorem f102un7_0 : ∀ (s : St) (t : Int × List E_s_u8 × List E_Wr × Int × Bool), f102u7_0 s = some t → f102e7_0 t = s := fun s v h => by
  obtain ⟨u, hu, rfl⟩ := Option.map_eq_some_iff.1 h
  exact (show f102e7_0 (u.1.2.2.2.2.1, u.2.1.1, u.2.1.2.1, u.2.1.2.2.1, u.2.1.2.2.2.1) = mkS f102h7_0 f102o7_0 u by kernel_rfl).trans (mkS_un f102h7_0 f102o7_0 s u hu)
def f102u7 : St → Option (Int × List E_s_u8 × List E_Wr × Int × Bool) := f102u7_0
def f102e7 : (Int × List E_s_u8 × List E_Wr × Int × Bool) → St := f102e7_0
theorem f102un7 : ∀ (s : St) (t : Int × List E_s_u8 × List E_Wr × Int × Bool), f102u7 s = some t → f102e7 t = s := f102un7_0
noncomputable def f102P : Lp := fun i s {_R} κ => bif Nat.beq i 7 then (f102u7 s).bind fun t => L_spec_DevOk_7 (fun t => κ (none) (f102x7_0 t)) (fun t => κ (some 2) (f102x7_1 t)) t else bif Nat.beq i 2 then (f102u2 s).bind fun t => L_spec_DevOk_2 (fun t => κ (none) (f102x2_0 t)) (fun t => κ (some 0) (f102x2_1 t)) t else none
noncomputable def f102c2 : Code := (loopsOf f102B).getD 0 .skip
theorem f102A2 : C.live 102 (firstRegion f102c2) = some ([1, 3, 39, 40, 41, 42, 43, 44, 45, 46, 53, 54, 55, 56, 59, 60, 61], [1, 2, 39, 40, 41, 42, 43, 44, 45, 46, 53, 54, 55, 56, 59, 60, 61]) := by kernel_rfl
theorem f102B2 {R : Type} (κ : Option Nat → St → Option R) (s : St) : f102P (firstRegion f102c2) s κ = (f102u2 s).bind fun t => iter (S_spec_DevOk_2 (fun t => κ (none) (f102x2_0 t)) (fun t => κ (some 0) (f102x2_1 t))) FUEL t := by kernel_rfl
theorem f102C2 {R : Type} (κ : Option Nat → St → Option R) (again : St → Option R) (t : T_spec_DevOk_2) : stepL C f102K f102P 102 f102c2 [1, 3, 39, 40, 41, 42, 43, 44, 45, 46, 53, 54, 55, 56, 59, 60, 61] [1, 2, 39, 40, 41, 42, 43, 44, 45, 46, 53, 54, 55, 56, 59, 60, 61] κ again (f102e2 t) = S_spec_DevOk_2 (fun t => κ (none) (f102x2_0 t)) (fun t => κ (some 0) (f102x2_1 t)) (fun t => again (f102e2 t)) t := by kernel_rfl
theorem f102ok2 : LoopOk C f102K f102P 102 f102c2 := loop_ok f102A2 f102e2 f102u2 f102un2 (fun {_R} κ => S_spec_DevOk_2 (fun t => κ (none) (f102x2_0 t)) (fun t => κ (some 0) (f102x2_1 t))) (fun {_R} κ s => f102B2 κ s) (fun {_R} κ again t => f102C2 κ again t)
noncomputable def f102c7 : Code := (loopsOf f102B).getD 1 .skip
theorem f102A7 : C.live 102 (firstRegion f102c7) = some ([1, 4, 39, 40, 41, 42, 43, 44, 45, 46, 53, 54, 55, 56, 59, 60, 61], [1, 2, 53, 54, 55, 56, 59, 60, 61]) := by kernel_rfl
theorem f102B7 {R : Type} (κ : Option Nat → St → Option R) (s : St) : f102P (firstRegion f102c7) s κ = (f102u7 s).bind fun t => iter (S_spec_DevOk_7 (fun t => κ (none) (f102x7_0 t)) (fun t => κ (some 2) (f102x7_1 t))) FUEL t := by kernel_rfl
theorem f102C7 {R : Type} (κ : Option Nat → St → Option R) (again : St → Option R) (t : T_spec_DevOk_7) : stepL C f102K f102P 102 f102c7 [1, 4, 39, 40, 41, 42, 43, 44, 45, 46, 53, 54, 55, 56, 59, 60, 61] [1, 2, 53, 54, 55, 56, 59, 60, 61] κ again (f102e7 t) = S_spec_DevOk_7 (fun t => κ (none) (f102x7_0 t)) (fun t => κ (some 2) (f102x7_1 t)) (fun t => again (f102e7 t)) t := by kernel_rfl
theorem f102ok7 : LoopOk C f102K f102P 102 f102c7 := loop_ok f102A7 f102e7 f102u7 f102un7 (fun {_R} κ => S_spec_DevOk_7 (fun t => κ (none) (f102x7_0 t)) (fun t => κ (some 2) (f102x7_1 t))) (fun {_R} κ s => f102B7 κ s) (fun {_R} κ again t => f102C7 κ again t)
theorem k102 : Contract C Tryz.prog f102K := contract_tab _ (fun p hp => by
    simp only [List.mem_cons, List.mem_nil_iff, or_false] at hp
    rcases hp with rfl
    · exact ok39)
theorem ev102 (x : List E_s_u8 × List E_Wr × Int × Bool) : evalB C f102K f102P 102 Tryz.f102 f102B ⟨[.v true [(.sl 56 ts_s_u8), (.sl 178 ts_Wr), (.int .i64), .bool] [false, false, false, false]], [⟨false, [.bool], [false]⟩], false⟩ [(.sl 56 ts_s_u8), (.sl 178 ts_Wr), (.int .i64), .bool] [.bool] x = F_spec_DevOk x := by kernel_rfl
theorem ok102 : ContractAt C Tryz.prog 102 F_spec_DevOk := fn_sound (lp := f102P) tok mixed k102 (by kernel_rfl) (fn := Tryz.f102) (c := f102B) (sg := ⟨[.v true [(.sl 56 ts_s_u8), (.sl 178 ts_Wr), (.int .i64), .bool] [false, false, false, false]], [⟨false, [.bool], [false]⟩], false⟩) Tryz.func102 (by decide) (by kernel_rfl) (by kernel_rfl) (by kernel_rfl) (fun c' hc' => by
    rw [show loopsOf f102B = [f102c2, f102c7] by kernel_rfl] at hc'
    simp only [List.mem_cons, List.mem_nil_iff, or_false] at hc'
    rcases hc' with rfl | rfl
    · exact f102ok2
    · exact f102ok7) (by decide) (by decide) (fun x y h => (ev102 x).trans h)
noncomputable def F_spec_l19Limits (x : List E_s_u8 × List E_Wr × Int × Bool × List E_i64 × List E_Node × List E_Age × List E_Cell × List E_Vol × Int × Int × Int × Int) : Option (Bool) :=
  Option.bind (F_spec_DevOk (x.1, x.2.1, x.2.2.1, x.2.2.2.1)) fun r1 => Option.bind (bif r1 then some (((List.length x.1 : Nat) : Int) == (60 : Int)) else some false) fun u2 => Option.bind (bif u2 then Option.bind (F_spec_PoolOk (x.2.2.2.2.1, x.2.2.2.2.2.1, x.2.2.2.2.2.2.1, x.2.2.2.2.2.2.2.1, x.2.2.2.2.2.2.2.2.1, x.2.2.2.2.2.2.2.2.2.1)) fun r4 => some r4 else some false) fun u3 => Option.bind (bif u3 then Option.bind (F_spec_l1In (x.2.2.2.2.2.2.2.2.2.2.2.1, (1 : Int), (50000 : Int))) fun r6 => some r6 else some false) fun u5 => Option.bind (bif u5 then Option.bind (F_spec_l1In (x.2.2.2.2.2.2.2.2.2.2.2.2, x.2.2.2.2.2.2.2.2.2.2.2.1, (Go.IntKind.wrap .i64 (x.2.2.2.2.2.2.2.2.2.2.2.1 + (6 : Int))))) fun r8 => some r8 else some false) fun u7 => Option.bind (bif u7 then Option.bind (F_spec_l1In (x.2.2.2.2.2.2.2.2.2.2.2.2, (1 : Int), (50000 : Int))) fun r10 => some r10 else some false) fun u9 => some u9
noncomputable def f38B : Code := match Tryz.f38.body with
  | some c => c
  | none => .skip
noncomputable def f38K : C.Sem := tab [⟨39, F_spec_l1In⟩, ⟨45, F_spec_PoolOk⟩, ⟨102, F_spec_DevOk⟩]
noncomputable def f38P : Lp := fun i s {_R} κ => none
theorem k38 : Contract C Tryz.prog f38K := contract_tab _ (fun p hp => by
    simp only [List.mem_cons, List.mem_nil_iff, or_false] at hp
    rcases hp with rfl | rfl | rfl
    · exact ok39
    · exact ok45
    · exact ok102)
theorem ev38 (x : List E_s_u8 × List E_Wr × Int × Bool × List E_i64 × List E_Node × List E_Age × List E_Cell × List E_Vol × Int × Int × Int × Int) : evalB C f38K f38P 38 Tryz.f38 f38B ⟨[.v true [(.sl 56 ts_s_u8), (.sl 178 ts_Wr), (.int .i64), .bool, (.sl 3 ts_i64), (.sl 97 ts_Node), (.sl 88 ts_Age), (.sl 94 ts_Cell), (.sl 90 ts_Vol), (.int .i64), (.int .i64), (.int .i64), (.int .i64)] [false, false, false, false, false, false, false, false, false, false, false, false, false]], [⟨false, [.bool], [false]⟩], false⟩ [(.sl 56 ts_s_u8), (.sl 178 ts_Wr), (.int .i64), .bool, (.sl 3 ts_i64), (.sl 97 ts_Node), (.sl 88 ts_Age), (.sl 94 ts_Cell), (.sl 90 ts_Vol), (.int .i64), (.int .i64), (.int .i64), (.int .i64)] [.bool] x = F_spec_l19Limits x := by kernel_rfl
theorem ok38 : ContractAt C Tryz.prog 38 F_spec_l19Limits := fn_sound (lp := f38P) tok mixed k38 (by kernel_rfl) (fn := Tryz.f38) (c := f38B) (sg := ⟨[.v true [(.sl 56 ts_s_u8), (.sl 178 ts_Wr), (.int .i64), .bool, (.sl 3 ts_i64), (.sl 97 ts_Node), (.sl 88 ts_Age), (.sl 94 ts_Cell), (.sl 90 ts_Vol), (.int .i64), (.int .i64), (.int .i64), (.int .i64)] [false, false, false, false, false, false, false, false, false, false, false, false, false]], [⟨false, [.bool], [false]⟩], false⟩) Tryz.func38 (by decide) (by kernel_rfl) (by kernel_rfl) (by kernel_rfl) (fun c' hc' => by
    rw [show loopsOf f38B = [] by kernel_rfl] at hc'
    cases hc') (by decide) (by decide) (fun x y h => (ev38 x).trans h)
noncomputable def F_spec_StoreOk (x : List E_s_u8 × List E_Wr × Int × Bool × List E_i64 × List E_Node × List E_Age × List E_Cell × List E_Vol × Int × Int × Int × Int) : Option (Bool) :=
  Option.bind (F_spec_l19Limits (x.1, x.2.1, x.2.2.1, x.2.2.2.1, x.2.2.2.2.1, x.2.2.2.2.2.1, x.2.2.2.2.2.2.1, x.2.2.2.2.2.2.2.1, x.2.2.2.2.2.2.2.2.1, x.2.2.2.2.2.2.2.2.2.1, x.2.2.2.2.2.2.2.2.2.2.1, x.2.2.2.2.2.2.2.2.2.2.2.1, x.2.2.2.2.2.2.2.2.2.2.2.2)) fun r1 => Option.bind (bif r1 then Option.bind (F_spec_l1In (x.2.2.2.2.2.2.2.2.2.2.1, (1 : Int), (50000 : Int))) fun r3 => some r3 else some false) fun u2 => some u2
noncomputable def f10B : Code := match Tryz.f10.body with
  | some c => c
  | none => .skip
noncomputable def f10K : C.Sem := tab [⟨38, F_spec_l19Limits⟩, ⟨39, F_spec_l1In⟩]
noncomputable def f10P : Lp := fun i s {_R} κ => none
theorem k10 : Contract C Tryz.prog f10K := contract_tab _ (fun p hp => by
    simp only [List.mem_cons, List.mem_nil_iff, or_false] at hp
    rcases hp with rfl | rfl
    · exact ok38
    · exact ok39)
theorem ev10 (x : List E_s_u8 × List E_Wr × Int × Bool × List E_i64 × List E_Node × List E_Age × List E_Cell × List E_Vol × Int × Int × Int × Int) : evalB C f10K f10P 10 Tryz.f10 f10B ⟨[.v true [(.sl 56 ts_s_u8), (.sl 178 ts_Wr), (.int .i64), .bool, (.sl 3 ts_i64), (.sl 97 ts_Node), (.sl 88 ts_Age), (.sl 94 ts_Cell), (.sl 90 ts_Vol), (.int .i64), (.int .i64), (.int .i64), (.int .i64)] [false, false, false, false, false, false, false, false, false, false, false, false, false]], [⟨false, [.bool], [false]⟩], false⟩ [(.sl 56 ts_s_u8), (.sl 178 ts_Wr), (.int .i64), .bool, (.sl 3 ts_i64), (.sl 97 ts_Node), (.sl 88 ts_Age), (.sl 94 ts_Cell), (.sl 90 ts_Vol), (.int .i64), (.int .i64), (.int .i64), (.int .i64)] [.bool] x = F_spec_StoreOk x := by kernel_rfl
theorem ok10 : ContractAt C Tryz.prog 10 F_spec_StoreOk := fn_sound (lp := f10P) tok mixed k10 (by kernel_rfl) (fn := Tryz.f10) (c := f10B) (sg := ⟨[.v true [(.sl 56 ts_s_u8), (.sl 178 ts_Wr), (.int .i64), .bool, (.sl 3 ts_i64), (.sl 97 ts_Node), (.sl 88 ts_Age), (.sl 94 ts_Cell), (.sl 90 ts_Vol), (.int .i64), (.int .i64), (.int .i64), (.int .i64)] [false, false, false, false, false, false, false, false, false, false, false, false, false]], [⟨false, [.bool], [false]⟩], false⟩) Tryz.func10 (by decide) (by kernel_rfl) (by kernel_rfl) (by kernel_rfl) (fun c' hc' => by
    rw [show loopsOf f10B = [] by kernel_rfl] at hc'
    cases hc') (by decide) (by decide) (fun x y h => (ev10 x).trans h)
abbrev T_laws_toIntS_3 : Type := List E_i64 × Int × List E_i64
noncomputable def S_laws_toIntS_3 {R : Type} (k0 : List E_i64 → Option R) (again : T_laws_toIntS_3 → Option R) (t3 : T_laws_toIntS_3) : Option R :=
  bif (decide (t3.2.1 < ((List.length t3.1 : Nat) : Int))) then if (0 : Int) ≤ t3.2.1 then if t3.2.1 < ((List.length t3.1 : Nat) : Int) then if (0 : Int) ≤ t3.2.1 then if t3.2.1 < ((List.length t3.2.2 : Nat) : Int) then again (t3.1, (Go.IntKind.wrap .i64 (t3.2.1 + (1 : Int))), (List.set t3.2.2 (Int.toNat t3.2.1) (rd_i64 t3.1 t3.2.1))) else none else none else none else none else k0 t3.2.2
noncomputable def L_laws_toIntS_3 {R : Type} (k0 : List E_i64 → Option R) (t : T_laws_toIntS_3) : Option R := iter (S_laws_toIntS_3 k0) FUEL t
noncomputable def F_laws_toIntS (x : List E_i64) : Option (List E_i64) :=
  if (0 : Int) ≤ ((List.length x : Nat) : Int) then if ((List.length x : Nat) : Int) ≤ ((List.length x : Nat) : Int) then if ((List.length x : Nat) : Int) * ((8 : Nat) : Int) ≤ 140737488351232 then L_laws_toIntS_3 (fun x1 => some x1) (x, (0 : Int), (List.replicate (Int.toNat ((List.length x : Nat) : Int)) z_i64)) else none else none else none
noncomputable def f114B : Code := match Tryz.f114.body with
  | some c => c
  | none => .skip
noncomputable def f114K : C.Sem := tab []
def f114h3_0 : List Sh := [.v (.sl 3 ts_i64), .dead, .dead, .own 10000000, .v (.int .i64), .dead, .dead, .dead, .dead, .dead, .dead, .dead, .dead, .dead, .dead, .dead, .dead, .dead, .dead, .dead, .dead, .dead]
def f114o3_0 : List (Nat × OSh) := [(10000000, .root true 3 ts_i64)]
def f114e3_0 (t : List E_i64 × Int × List E_i64) : St := ⟨[.val (.sl 3 ts_i64) t.1, .dead, .dead, .own 10000000, .val (.int .i64) t.2.1, .dead, .dead, .dead, .dead, .dead, .dead, .dead, .dead, .dead, .dead, .dead, .dead, .dead, .dead, .dead, .dead, .dead], [(10000000, .root true 3 ts_i64 t.2.2)]⟩
def f114x3_0 (t : List E_i64) : St := ⟨[.dead, .dead, .dead, .own 10000000, .dead, .dead, .dead, .dead, .dead, .dead, .dead, .dead, .dead, .dead, .dead, .dead, .dead, .dead, .dead, .dead, .dead, .dead], [(10000000, .root true 3 ts_i64 t)]⟩
def f114u3_0 (s : St) : Option (List E_i64 × Int × List E_i64) := (unS f114h3_0 f114o3_0 s).map fun v => (v.1.1, v.1.2.2.2.2.1, v.2.1)
theorem f114un3_0 : ∀ (s : St) (t : List E_i64 × Int × List E_i64), f114u3_0 s = some t → f114e3_0 t = s := fun s v h => by
  obtain ⟨u, hu, rfl⟩ := Option.map_eq_some_iff.1 h
  exact (show f114e3_0 (u.1.1, u.1.2.2.2.2.1, u.2.1) = mkS f114h3_0 f114o3_0 u by kernel_rfl).trans (mkS_un f114h3_0 f114o3_0 s u hu)
def f114u3 : St → Option (List E_i64 × Int × List E_i64) := f114u3_0
def f114e3 : (List E_i64 × Int × List E_i64) → St := f114e3_0
theorem f114un3 : ∀ (s : St) (t : List E_i64 × Int × List E_i64), f114u3 s = some t → f114e3 t = s := f114un3_0
noncomputable def f114P : Lp := fun i s {_R} κ => bif Nat.beq i 3 then (f114u3 s).bind fun t => L_laws_toIntS_3 (fun t => κ (some 0) (f114x3_0 t)) t else none
noncomputable def f114c3 : Code := (loopsOf f114B).getD 0 .skip
theorem f114A3 : C.live 114 (firstRegion f114c3) = some ([0, 3, 4], [3]) := by kernel_rfl
theorem f114B3 {R : Type} (κ : Option Nat → St → Option R) (s : St) : f114P (firstRegion f114c3) s κ = (f114u3 s).bind fun t => iter (S_laws_toIntS_3 (fun t => κ (some 0) (f114x3_0 t))) FUEL t := by kernel_rfl
theorem f114C3 {R : Type} (κ : Option Nat → St → Option R) (again : St → Option R) (t : T_laws_toIntS_3) : stepL C f114K f114P 114 f114c3 [0, 3, 4] [3] κ again (f114e3 t) = S_laws_toIntS_3 (fun t => κ (some 0) (f114x3_0 t)) (fun t => again (f114e3 t)) t := by kernel_rfl
theorem f114ok3 : LoopOk C f114K f114P 114 f114c3 := loop_ok f114A3 f114e3 f114u3 f114un3 (fun {_R} κ => S_laws_toIntS_3 (fun t => κ (some 0) (f114x3_0 t))) (fun {_R} κ s => f114B3 κ s) (fun {_R} κ again t => f114C3 κ again t)
theorem k114 : Contract C Tryz.prog f114K := contract_tab _ (fun p hp => by cases hp)
theorem ev114 (x : List E_i64) : evalB C f114K f114P 114 Tryz.f114 f114B ⟨[.v false [(.sl 3 ts_i64)] [false]], [⟨false, [(.sl 3 ts_i64)], [true]⟩], false⟩ [(.sl 3 ts_i64)] [(.sl 3 ts_i64)] x = F_laws_toIntS x := by kernel_rfl
theorem ok114 : ContractAt C Tryz.prog 114 F_laws_toIntS := fn_sound (lp := f114P) tok mixed k114 (by kernel_rfl) (fn := Tryz.f114) (c := f114B) (sg := ⟨[.v false [(.sl 3 ts_i64)] [false]], [⟨false, [(.sl 3 ts_i64)], [true]⟩], false⟩) Tryz.func114 (by decide) (by kernel_rfl) (by kernel_rfl) (by kernel_rfl) (fun c' hc' => by
    rw [show loopsOf f114B = [f114c3] by kernel_rfl] at hc'
    simp only [List.mem_cons, List.mem_nil_iff, or_false] at hc'
    rcases hc' with rfl
    · exact f114ok3) (by decide) (by decide) (fun x y h => (ev114 x).trans h)
noncomputable def F_laws_toKey (x : Int × Int × Int × Int × Int) : Option (Int × Int × Int × Int × Int) :=
  some (x.1, x.2.1, x.2.2.1, x.2.2.2.1, x.2.2.2.2)
noncomputable def f279B : Code := match Tryz.f279.body with
  | some c => c
  | none => .skip
noncomputable def f279K : C.Sem := tab []
noncomputable def f279P : Lp := fun i s {_R} κ => none
theorem k279 : Contract C Tryz.prog f279K := contract_tab _ (fun p hp => by cases hp)
theorem ev279 (x : Int × Int × Int × Int × Int) : evalB C f279K f279P 279 Tryz.f279 f279B ⟨[.v true [(.int .i64), (.int .i64), (.int .i64), (.int .i64), (.int .i64)] [false, false, false, false, false]], [⟨true, [(.int .i64), (.int .i64), (.int .i64), (.int .i64), (.int .i64)], [false, false, false, false, false]⟩], false⟩ [(.int .i64), (.int .i64), (.int .i64), (.int .i64), (.int .i64)] [(.int .i64), (.int .i64), (.int .i64), (.int .i64), (.int .i64)] x = F_laws_toKey x := by kernel_rfl
theorem ok279 : ContractAt C Tryz.prog 279 F_laws_toKey := fn_sound (lp := f279P) tok mixed k279 (by kernel_rfl) (fn := Tryz.f279) (c := f279B) (sg := ⟨[.v true [(.int .i64), (.int .i64), (.int .i64), (.int .i64), (.int .i64)] [false, false, false, false, false]], [⟨true, [(.int .i64), (.int .i64), (.int .i64), (.int .i64), (.int .i64)], [false, false, false, false, false]⟩], false⟩) Tryz.func279 (by decide) (by kernel_rfl) (by kernel_rfl) (by kernel_rfl) (fun c' hc' => by
    rw [show loopsOf f279B = [] by kernel_rfl] at hc'
    cases hc') (by decide) (by decide) (fun x y h => (ev279 x).trans h)
abbrev T_laws_toKeyS_3 : Type := List E_LKey × Int × List E_Key
noncomputable def S_laws_toKeyS_3 {R : Type} (k0 : List E_Key → Option R) (again : T_laws_toKeyS_3 → Option R) (t3 : T_laws_toKeyS_3) : Option R :=
  bif (decide (t3.2.1 < ((List.length t3.1 : Nat) : Int))) then if (0 : Int) ≤ t3.2.1 then if t3.2.1 < ((List.length t3.1 : Nat) : Int) then Option.bind (F_laws_toKey ((rd_LKey t3.1 t3.2.1).1, (rd_LKey t3.1 t3.2.1).2.1, (rd_LKey t3.1 t3.2.1).2.2.1, (rd_LKey t3.1 t3.2.1).2.2.2.1, (rd_LKey t3.1 t3.2.1).2.2.2.2)) fun r1 => if (0 : Int) ≤ t3.2.1 then if t3.2.1 < ((List.length t3.2.2 : Nat) : Int) then again (t3.1, (Go.IntKind.wrap .i64 (t3.2.1 + (1 : Int))), (List.set t3.2.2 (Int.toNat t3.2.1) (r1.1, r1.2.1, r1.2.2.1, r1.2.2.2.1, r1.2.2.2.2))) else none else none else none else none else k0 t3.2.2
noncomputable def L_laws_toKeyS_3 {R : Type} (k0 : List E_Key → Option R) (t : T_laws_toKeyS_3) : Option R := iter (S_laws_toKeyS_3 k0) FUEL t
noncomputable def F_laws_toKeyS (x : List E_LKey) : Option (List E_Key) :=
  if (0 : Int) ≤ ((List.length x : Nat) : Int) then if ((List.length x : Nat) : Int) ≤ ((List.length x : Nat) : Int) then if ((List.length x : Nat) : Int) * ((40 : Nat) : Int) ≤ 140737488351232 then L_laws_toKeyS_3 (fun x2 => some x2) (x, (0 : Int), (List.replicate (Int.toNat ((List.length x : Nat) : Int)) z_Key)) else none else none else none
noncomputable def f259B : Code := match Tryz.f259.body with
  | some c => c
  | none => .skip
noncomputable def f259K : C.Sem := tab [⟨279, F_laws_toKey⟩]
def f259h3_0 : List Sh := [.v (.sl 264 ts_LKey), .dead, .dead, .own 10000000, .v (.int .i64), .dead, .dead, .dead, .dead, .dead, .dead, .dead, .dead, .dead, .dead, .dead, .dead, .dead, .dead, .dead, .dead, .dead, .dead]
def f259o3_0 : List (Nat × OSh) := [(10000000, .root true 105 ts_Key)]
def f259e3_0 (t : List E_LKey × Int × List E_Key) : St := ⟨[.val (.sl 264 ts_LKey) t.1, .dead, .dead, .own 10000000, .val (.int .i64) t.2.1, .dead, .dead, .dead, .dead, .dead, .dead, .dead, .dead, .dead, .dead, .dead, .dead, .dead, .dead, .dead, .dead, .dead, .dead], [(10000000, .root true 105 ts_Key t.2.2)]⟩
def f259x3_0 (t : List E_Key) : St := ⟨[.dead, .dead, .dead, .own 10000000, .dead, .dead, .dead, .dead, .dead, .dead, .dead, .dead, .dead, .dead, .dead, .dead, .dead, .dead, .dead, .dead, .dead, .dead, .dead], [(10000000, .root true 105 ts_Key t)]⟩
def f259u3_0 (s : St) : Option (List E_LKey × Int × List E_Key) := (unS f259h3_0 f259o3_0 s).map fun v => (v.1.1, v.1.2.2.2.2.1, v.2.1)
theorem f259un3_0 : ∀ (s : St) (t : List E_LKey × Int × List E_Key), f259u3_0 s = some t → f259e3_0 t = s := fun s v h => by
  obtain ⟨u, hu, rfl⟩ := Option.map_eq_some_iff.1 h
  exact (show f259e3_0 (u.1.1, u.1.2.2.2.2.1, u.2.1) = mkS f259h3_0 f259o3_0 u by kernel_rfl).trans (mkS_un f259h3_0 f259o3_0 s u hu)
def f259u3 : St → Option (List E_LKey × Int × List E_Key) := f259u3_0
def f259e3 : (List E_LKey × Int × List E_Key) → St := f259e3_0
theorem f259un3 : ∀ (s : St) (t : List E_LKey × Int × List E_Key), f259u3 s = some t → f259e3 t = s := f259un3_0
noncomputable def f259P : Lp := fun i s {_R} κ => bif Nat.beq i 3 then (f259u3 s).bind fun t => L_laws_toKeyS_3 (fun t => κ (some 0) (f259x3_0 t)) t else none
noncomputable def f259c3 : Code := (loopsOf f259B).getD 0 .skip
theorem f259A3 : C.live 259 (firstRegion f259c3) = some ([0, 3, 4], [3]) := by kernel_rfl
theorem f259B3 {R : Type} (κ : Option Nat → St → Option R) (s : St) : f259P (firstRegion f259c3) s κ = (f259u3 s).bind fun t => iter (S_laws_toKeyS_3 (fun t => κ (some 0) (f259x3_0 t))) FUEL t := by kernel_rfl
theorem f259C3 {R : Type} (κ : Option Nat → St → Option R) (again : St → Option R) (t : T_laws_toKeyS_3) : stepL C f259K f259P 259 f259c3 [0, 3, 4] [3] κ again (f259e3 t) = S_laws_toKeyS_3 (fun t => κ (some 0) (f259x3_0 t)) (fun t => again (f259e3 t)) t := by kernel_rfl
theorem f259ok3 : LoopOk C f259K f259P 259 f259c3 := loop_ok f259A3 f259e3 f259u3 f259un3 (fun {_R} κ => S_laws_toKeyS_3 (fun t => κ (some 0) (f259x3_0 t))) (fun {_R} κ s => f259B3 κ s) (fun {_R} κ again t => f259C3 κ again t)
theorem k259 : Contract C Tryz.prog f259K := contract_tab _ (fun p hp => by
    simp only [List.mem_cons, List.mem_nil_iff, or_false] at hp
    rcases hp with rfl
    · exact ok279)
theorem ev259 (x : List E_LKey) : evalB C f259K f259P 259 Tryz.f259 f259B ⟨[.v false [(.sl 264 ts_LKey)] [false]], [⟨false, [(.sl 105 ts_Key)], [true]⟩], false⟩ [(.sl 264 ts_LKey)] [(.sl 105 ts_Key)] x = F_laws_toKeyS x := by kernel_rfl
theorem ok259 : ContractAt C Tryz.prog 259 F_laws_toKeyS := fn_sound (lp := f259P) tok mixed k259 (by kernel_rfl) (fn := Tryz.f259) (c := f259B) (sg := ⟨[.v false [(.sl 264 ts_LKey)] [false]], [⟨false, [(.sl 105 ts_Key)], [true]⟩], false⟩) Tryz.func259 (by decide) (by kernel_rfl) (by kernel_rfl) (by kernel_rfl) (fun c' hc' => by
    rw [show loopsOf f259B = [f259c3] by kernel_rfl] at hc'
    simp only [List.mem_cons, List.mem_nil_iff, or_false] at hc'
    rcases hc' with rfl
    · exact f259ok3) (by decide) (by decide) (fun x y h => (ev259 x).trans h)
abbrev T_laws_toKeySS_3 : Type := List E_s_LKey × Int × List E_s_Key
noncomputable def S_laws_toKeySS_3 {R : Type} (k0 : List E_s_Key → Option R) (again : T_laws_toKeySS_3 → Option R) (t3 : T_laws_toKeySS_3) : Option R :=
  bif (decide (t3.2.1 < ((List.length t3.1 : Nat) : Int))) then if (0 : Int) ≤ t3.2.1 then if t3.2.1 < ((List.length t3.1 : Nat) : Int) then Option.bind (F_laws_toKeyS (rd_s_LKey t3.1 t3.2.1)) fun r1 => if (0 : Int) ≤ t3.2.1 then if t3.2.1 < ((List.length t3.2.2 : Nat) : Int) then again (t3.1, (Go.IntKind.wrap .i64 (t3.2.1 + (1 : Int))), (List.set t3.2.2 (Int.toNat t3.2.1) r1)) else none else none else none else none else k0 t3.2.2
noncomputable def L_laws_toKeySS_3 {R : Type} (k0 : List E_s_Key → Option R) (t : T_laws_toKeySS_3) : Option R := iter (S_laws_toKeySS_3 k0) FUEL t
noncomputable def F_laws_toKeySS (x : List E_s_LKey) : Option (List E_s_Key) :=
  if (0 : Int) ≤ ((List.length x : Nat) : Int) then if ((List.length x : Nat) : Int) ≤ ((List.length x : Nat) : Int) then if ((List.length x : Nat) : Int) * ((24 : Nat) : Int) ≤ 140737488351232 then L_laws_toKeySS_3 (fun x2 => some x2) (x, (0 : Int), (List.replicate (Int.toNat ((List.length x : Nat) : Int)) z_s_Key)) else none else none else none
noncomputable def f224B : Code := match Tryz.f224.body with
  | some c => c
  | none => .skip
noncomputable def f224K : C.Sem := tab [⟨259, F_laws_toKeyS⟩]
def f224h3_0 : List Sh := [.v (.sl 253 ts_s_LKey), .dead, .dead, .own 10000000, .v (.int .i64), .dead, .dead, .dead, .dead, .dead, .dead, .dead, .dead, .dead, .dead, .dead, .dead, .dead, .dead, .dead, .dead, .dead, .dead]
def f224o3_0 : List (Nat × OSh) := [(10000000, .root true 99 ts_s_Key)]
def f224e3_0 (t : List E_s_LKey × Int × List E_s_Key) : St := ⟨[.val (.sl 253 ts_s_LKey) t.1, .dead, .dead, .own 10000000, .val (.int .i64) t.2.1, .dead, .dead, .dead, .dead, .dead, .dead, .dead, .dead, .dead, .dead, .dead, .dead, .dead, .dead, .dead, .dead, .dead, .dead], [(10000000, .root true 99 ts_s_Key t.2.2)]⟩
def f224x3_0 (t : List E_s_Key) : St := ⟨[.dead, .dead, .dead, .own 10000000, .dead, .dead, .dead, .dead, .dead, .dead, .dead, .dead, .dead, .dead, .dead, .dead, .dead, .dead, .dead, .dead, .dead, .dead, .dead], [(10000000, .root true 99 ts_s_Key t)]⟩
def f224u3_0 (s : St) : Option (List E_s_LKey × Int × List E_s_Key) := (unS f224h3_0 f224o3_0 s).map fun v => (v.1.1, v.1.2.2.2.2.1, v.2.1)
theorem f224un3_0 : ∀ (s : St) (t : List E_s_LKey × Int × List E_s_Key), f224u3_0 s = some t → f224e3_0 t = s := fun s v h => by
  obtain ⟨u, hu, rfl⟩ := Option.map_eq_some_iff.1 h
  exact (show f224e3_0 (u.1.1, u.1.2.2.2.2.1, u.2.1) = mkS f224h3_0 f224o3_0 u by kernel_rfl).trans (mkS_un f224h3_0 f224o3_0 s u hu)
def f224u3 : St → Option (List E_s_LKey × Int × List E_s_Key) := f224u3_0
def f224e3 : (List E_s_LKey × Int × List E_s_Key) → St := f224e3_0
theorem f224un3 : ∀ (s : St) (t : List E_s_LKey × Int × List E_s_Key), f224u3 s = some t → f224e3 t = s := f224un3_0
noncomputable def f224P : Lp := fun i s {_R} κ => bif Nat.beq i 3 then (f224u3 s).bind fun t => L_laws_toKeySS_3 (fun t => κ (some 0) (f224x3_0 t)) t else none
noncomputable def f224c3 : Code := (loopsOf f224B).getD 0 .skip
theorem f224A3 : C.live 224 (firstRegion f224c3) = some ([0, 3, 4], [3]) := by kernel_rfl
theorem f224B3 {R : Type} (κ : Option Nat → St → Option R) (s : St) : f224P (firstRegion f224c3) s κ = (f224u3 s).bind fun t => iter (S_laws_toKeySS_3 (fun t => κ (some 0) (f224x3_0 t))) FUEL t := by kernel_rfl
theorem f224C3 {R : Type} (κ : Option Nat → St → Option R) (again : St → Option R) (t : T_laws_toKeySS_3) : stepL C f224K f224P 224 f224c3 [0, 3, 4] [3] κ again (f224e3 t) = S_laws_toKeySS_3 (fun t => κ (some 0) (f224x3_0 t)) (fun t => again (f224e3 t)) t := by kernel_rfl
theorem f224ok3 : LoopOk C f224K f224P 224 f224c3 := loop_ok f224A3 f224e3 f224u3 f224un3 (fun {_R} κ => S_laws_toKeySS_3 (fun t => κ (some 0) (f224x3_0 t))) (fun {_R} κ s => f224B3 κ s) (fun {_R} κ again t => f224C3 κ again t)
theorem k224 : Contract C Tryz.prog f224K := contract_tab _ (fun p hp => by
    simp only [List.mem_cons, List.mem_nil_iff, or_false] at hp
    rcases hp with rfl
    · exact ok259)
theorem ev224 (x : List E_s_LKey) : evalB C f224K f224P 224 Tryz.f224 f224B ⟨[.v false [(.sl 253 ts_s_LKey)] [false]], [⟨false, [(.sl 99 ts_s_Key)], [true]⟩], false⟩ [(.sl 253 ts_s_LKey)] [(.sl 99 ts_s_Key)] x = F_laws_toKeySS x := by kernel_rfl
theorem ok224 : ContractAt C Tryz.prog 224 F_laws_toKeySS := fn_sound (lp := f224P) tok mixed k224 (by kernel_rfl) (fn := Tryz.f224) (c := f224B) (sg := ⟨[.v false [(.sl 253 ts_s_LKey)] [false]], [⟨false, [(.sl 99 ts_s_Key)], [true]⟩], false⟩) Tryz.func224 (by decide) (by kernel_rfl) (by kernel_rfl) (by kernel_rfl) (fun c' hc' => by
    rw [show loopsOf f224B = [f224c3] by kernel_rfl] at hc'
    simp only [List.mem_cons, List.mem_nil_iff, or_false] at hc'
    rcases hc' with rfl
    · exact f224ok3) (by decide) (by decide) (fun x y h => (ev224 x).trans h)
noncomputable def F_laws_toNode (x : List E_s_LKey) : Option (List E_s_Key) :=
  Option.bind (F_laws_toKeySS x) fun r1 => some r1
noncomputable def f182B : Code := match Tryz.f182.body with
  | some c => c
  | none => .skip
noncomputable def f182K : C.Sem := tab [⟨224, F_laws_toKeySS⟩]
noncomputable def f182P : Lp := fun i s {_R} κ => none
theorem k182 : Contract C Tryz.prog f182K := contract_tab _ (fun p hp => by
    simp only [List.mem_cons, List.mem_nil_iff, or_false] at hp
    rcases hp with rfl
    · exact ok224)
theorem ev182 (x : List E_s_LKey) : evalB C f182K f182P 182 Tryz.f182 f182B ⟨[.v true [(.sl 253 ts_s_LKey)] [false]], [⟨true, [(.sl 99 ts_s_Key)], [true]⟩], false⟩ [(.sl 253 ts_s_LKey)] [(.sl 99 ts_s_Key)] x = F_laws_toNode x := by kernel_rfl
theorem ok182 : ContractAt C Tryz.prog 182 F_laws_toNode := fn_sound (lp := f182P) tok mixed k182 (by kernel_rfl) (fn := Tryz.f182) (c := f182B) (sg := ⟨[.v true [(.sl 253 ts_s_LKey)] [false]], [⟨true, [(.sl 99 ts_s_Key)], [true]⟩], false⟩) Tryz.func182 (by decide) (by kernel_rfl) (by kernel_rfl) (by kernel_rfl) (fun c' hc' => by
    rw [show loopsOf f182B = [] by kernel_rfl] at hc'
    cases hc') (by decide) (by decide) (fun x y h => (ev182 x).trans h)
abbrev T_laws_toNodeS_3 : Type := List E_LNode × Int × List E_Node
noncomputable def S_laws_toNodeS_3 {R : Type} (k0 : List E_Node → Option R) (again : T_laws_toNodeS_3 → Option R) (t3 : T_laws_toNodeS_3) : Option R :=
  bif (decide (t3.2.1 < ((List.length t3.1 : Nat) : Int))) then if (0 : Int) ≤ t3.2.1 then if t3.2.1 < ((List.length t3.1 : Nat) : Int) then Option.bind (F_laws_toNode (rd_LNode t3.1 t3.2.1)) fun r1 => if (0 : Int) ≤ t3.2.1 then if t3.2.1 < ((List.length t3.2.2 : Nat) : Int) then again (t3.1, (Go.IntKind.wrap .i64 (t3.2.1 + (1 : Int))), (List.set t3.2.2 (Int.toNat t3.2.1) r1)) else none else none else none else none else k0 t3.2.2
noncomputable def L_laws_toNodeS_3 {R : Type} (k0 : List E_Node → Option R) (t : T_laws_toNodeS_3) : Option R := iter (S_laws_toNodeS_3 k0) FUEL t
noncomputable def F_laws_toNodeS (x : List E_LNode) : Option (List E_Node) :=
  if (0 : Int) ≤ ((List.length x : Nat) : Int) then if ((List.length x : Nat) : Int) ≤ ((List.length x : Nat) : Int) then if ((List.length x : Nat) : Int) * ((24 : Nat) : Int) ≤ 140737488351232 then L_laws_toNodeS_3 (fun x2 => some x2) (x, (0 : Int), (List.replicate (Int.toNat ((List.length x : Nat) : Int)) z_Node)) else none else none else none
noncomputable def f115B : Code := match Tryz.f115.body with
  | some c => c
  | none => .skip
noncomputable def f115K : C.Sem := tab [⟨182, F_laws_toNode⟩]
def f115h3_0 : List Sh := [.v (.sl 205 ts_LNode), .dead, .dead, .own 10000000, .v (.int .i64), .dead, .dead, .dead, .dead, .dead, .dead, .dead, .dead, .dead, .dead, .dead, .dead, .dead, .dead, .dead, .dead, .dead, .dead]
def f115o3_0 : List (Nat × OSh) := [(10000000, .root true 97 ts_Node)]
def f115e3_0 (t : List E_LNode × Int × List E_Node) : St := ⟨[.val (.sl 205 ts_LNode) t.1, .dead, .dead, .own 10000000, .val (.int .i64) t.2.1, .dead, .dead, .dead, .dead, .dead, .dead, .dead, .dead, .dead, .dead, .dead, .dead, .dead, .dead, .dead, .dead, .dead, .dead], [(10000000, .root true 97 ts_Node t.2.2)]⟩
def f115x3_0 (t : List E_Node) : St := ⟨[.dead, .dead, .dead, .own 10000000, .dead, .dead, .dead, .dead, .dead, .dead, .dead, .dead, .dead, .dead, .dead, .dead, .dead, .dead, .dead, .dead, .dead, .dead, .dead], [(10000000, .root true 97 ts_Node t)]⟩
def f115u3_0 (s : St) : Option (List E_LNode × Int × List E_Node) := (unS f115h3_0 f115o3_0 s).map fun v => (v.1.1, v.1.2.2.2.2.1, v.2.1)
theorem f115un3_0 : ∀ (s : St) (t : List E_LNode × Int × List E_Node), f115u3_0 s = some t → f115e3_0 t = s := fun s v h => by
  obtain ⟨u, hu, rfl⟩ := Option.map_eq_some_iff.1 h
  exact (show f115e3_0 (u.1.1, u.1.2.2.2.2.1, u.2.1) = mkS f115h3_0 f115o3_0 u by kernel_rfl).trans (mkS_un f115h3_0 f115o3_0 s u hu)
def f115u3 : St → Option (List E_LNode × Int × List E_Node) := f115u3_0
def f115e3 : (List E_LNode × Int × List E_Node) → St := f115e3_0
theorem f115un3 : ∀ (s : St) (t : List E_LNode × Int × List E_Node), f115u3 s = some t → f115e3 t = s := f115un3_0
noncomputable def f115P : Lp := fun i s {_R} κ => bif Nat.beq i 3 then (f115u3 s).bind fun t => L_laws_toNodeS_3 (fun t => κ (some 0) (f115x3_0 t)) t else none
noncomputable def f115c3 : Code := (loopsOf f115B).getD 0 .skip
theorem f115A3 : C.live 115 (firstRegion f115c3) = some ([0, 3, 4], [3]) := by kernel_rfl
theorem f115B3 {R : Type} (κ : Option Nat → St → Option R) (s : St) : f115P (firstRegion f115c3) s κ = (f115u3 s).bind fun t => iter (S_laws_toNodeS_3 (fun t => κ (some 0) (f115x3_0 t))) FUEL t := by kernel_rfl
theorem f115C3 {R : Type} (κ : Option Nat → St → Option R) (again : St → Option R) (t : T_laws_toNodeS_3) : stepL C f115K f115P 115 f115c3 [0, 3, 4] [3] κ again (f115e3 t) = S_laws_toNodeS_3 (fun t => κ (some 0) (f115x3_0 t)) (fun t => again (f115e3 t)) t := by kernel_rfl
theorem f115ok3 : LoopOk C f115K f115P 115 f115c3 := loop_ok f115A3 f115e3 f115u3 f115un3 (fun {_R} κ => S_laws_toNodeS_3 (fun t => κ (some 0) (f115x3_0 t))) (fun {_R} κ s => f115B3 κ s) (fun {_R} κ again t => f115C3 κ again t)
theorem k115 : Contract C Tryz.prog f115K := contract_tab _ (fun p hp => by
    simp only [List.mem_cons, List.mem_nil_iff, or_false] at hp
    rcases hp with rfl
    · exact ok182)
theorem ev115 (x : List E_LNode) : evalB C f115K f115P 115 Tryz.f115 f115B ⟨[.v false [(.sl 205 ts_LNode)] [false]], [⟨false, [(.sl 97 ts_Node)], [true]⟩], false⟩ [(.sl 205 ts_LNode)] [(.sl 97 ts_Node)] x = F_laws_toNodeS x := by kernel_rfl
theorem ok115 : ContractAt C Tryz.prog 115 F_laws_toNodeS := fn_sound (lp := f115P) tok mixed k115 (by kernel_rfl) (fn := Tryz.f115) (c := f115B) (sg := ⟨[.v false [(.sl 205 ts_LNode)] [false]], [⟨false, [(.sl 97 ts_Node)], [true]⟩], false⟩) Tryz.func115 (by decide) (by kernel_rfl) (by kernel_rfl) (by kernel_rfl) (fun c' hc' => by
    rw [show loopsOf f115B = [f115c3] by kernel_rfl] at hc'
    simp only [List.mem_cons, List.mem_nil_iff, or_false] at hc'
    rcases hc' with rfl
    · exact f115ok3) (by decide) (by decide) (fun x y h => (ev115 x).trans h)
noncomputable def F_laws_toTree (x : List E_i64 × List E_LNode) : Option (List E_i64 × List E_Node) :=
  Option.bind (F_laws_toIntS x.1) fun r1 => Option.bind (F_laws_toNodeS x.2) fun r2 => some (r1, r2)
noncomputable def f50B : Code := match Tryz.f50.body with
  | some c => c
  | none => .skip
noncomputable def f50K : C.Sem := tab [⟨114, F_laws_toIntS⟩, ⟨115, F_laws_toNodeS⟩]
noncomputable def f50P : Lp := fun i s {_R} κ => none
theorem k50 : Contract C Tryz.prog f50K := contract_tab _ (fun p hp => by
    simp only [List.mem_cons, List.mem_nil_iff, or_false] at hp
    rcases hp with rfl | rfl
    · exact ok114
    · exact ok115)
theorem ev50 (x : List E_i64 × List E_LNode) : evalB C f50K f50P 50 Tryz.f50 f50B ⟨[.v true [(.sl 3 ts_i64), (.sl 205 ts_LNode)] [false, false]], [⟨true, [(.sl 3 ts_i64), (.sl 97 ts_Node)], [true, true]⟩], false⟩ [(.sl 3 ts_i64), (.sl 205 ts_LNode)] [(.sl 3 ts_i64), (.sl 97 ts_Node)] x = F_laws_toTree x := by kernel_rfl
theorem ok50 : ContractAt C Tryz.prog 50 F_laws_toTree := fn_sound (lp := f50P) tok mixed k50 (by kernel_rfl) (fn := Tryz.f50) (c := f50B) (sg := ⟨[.v true [(.sl 3 ts_i64), (.sl 205 ts_LNode)] [false, false]], [⟨true, [(.sl 3 ts_i64), (.sl 97 ts_Node)], [true, true]⟩], false⟩) Tryz.func50 (by decide) (by kernel_rfl) (by kernel_rfl) (by kernel_rfl) (fun c' hc' => by
    rw [show loopsOf f50B = [] by kernel_rfl] at hc'
    cases hc') (by decide) (by decide) (fun x y h => (ev50 x).trans h)
noncomputable def F_laws_toAge (x : Int × Int) : Option (Int × Int) :=
  some (x.1, x.2)
noncomputable def f116B : Code := match Tryz.f116.body with
  | some c => c
  | none => .skip
noncomputable def f116K : C.Sem := tab []
noncomputable def f116P : Lp := fun i s {_R} κ => none
theorem k116 : Contract C Tryz.prog f116K := contract_tab _ (fun p hp => by cases hp)
theorem ev116 (x : Int × Int) : evalB C f116K f116P 116 Tryz.f116 f116B ⟨[.v true [(.int .i64), (.int .i64)] [false, false]], [⟨true, [(.int .i64), (.int .i64)], [false, false]⟩], false⟩ [(.int .i64), (.int .i64)] [(.int .i64), (.int .i64)] x = F_laws_toAge x := by kernel_rfl
theorem ok116 : ContractAt C Tryz.prog 116 F_laws_toAge := fn_sound (lp := f116P) tok mixed k116 (by kernel_rfl) (fn := Tryz.f116) (c := f116B) (sg := ⟨[.v true [(.int .i64), (.int .i64)] [false, false]], [⟨true, [(.int .i64), (.int .i64)], [false, false]⟩], false⟩) Tryz.func116 (by decide) (by kernel_rfl) (by kernel_rfl) (by kernel_rfl) (fun c' hc' => by
    rw [show loopsOf f116B = [] by kernel_rfl] at hc'
    cases hc') (by decide) (by decide) (fun x y h => (ev116 x).trans h)
abbrev T_laws_toAgeS_3 : Type := List E_LAge × Int × List E_Age
noncomputable def S_laws_toAgeS_3 {R : Type} (k0 : List E_Age → Option R) (again : T_laws_toAgeS_3 → Option R) (t3 : T_laws_toAgeS_3) : Option R :=
  bif (decide (t3.2.1 < ((List.length t3.1 : Nat) : Int))) then if (0 : Int) ≤ t3.2.1 then if t3.2.1 < ((List.length t3.1 : Nat) : Int) then Option.bind (F_laws_toAge ((rd_LAge t3.1 t3.2.1).1, (rd_LAge t3.1 t3.2.1).2)) fun r1 => if (0 : Int) ≤ t3.2.1 then if t3.2.1 < ((List.length t3.2.2 : Nat) : Int) then again (t3.1, (Go.IntKind.wrap .i64 (t3.2.1 + (1 : Int))), (List.set t3.2.2 (Int.toNat t3.2.1) (r1.1, r1.2))) else none else none else none else none else k0 t3.2.2
noncomputable def L_laws_toAgeS_3 {R : Type} (k0 : List E_Age → Option R) (t : T_laws_toAgeS_3) : Option R := iter (S_laws_toAgeS_3 k0) FUEL t
noncomputable def F_laws_toAgeS (x : List E_LAge) : Option (List E_Age) :=
  if (0 : Int) ≤ ((List.length x : Nat) : Int) then if ((List.length x : Nat) : Int) ≤ ((List.length x : Nat) : Int) then if ((List.length x : Nat) : Int) * ((16 : Nat) : Int) ≤ 140737488351232 then L_laws_toAgeS_3 (fun x2 => some x2) (x, (0 : Int), (List.replicate (Int.toNat ((List.length x : Nat) : Int)) z_Age)) else none else none else none
noncomputable def f51B : Code := match Tryz.f51.body with
  | some c => c
  | none => .skip
noncomputable def f51K : C.Sem := tab [⟨116, F_laws_toAge⟩]
def f51h3_0 : List Sh := [.v (.sl 158 ts_LAge), .dead, .dead, .own 10000000, .v (.int .i64), .dead, .dead, .dead, .dead, .dead, .dead, .dead, .dead, .dead, .dead, .dead, .dead, .dead, .dead, .dead, .dead, .dead, .dead]
def f51o3_0 : List (Nat × OSh) := [(10000000, .root true 88 ts_Age)]
def f51e3_0 (t : List E_LAge × Int × List E_Age) : St := ⟨[.val (.sl 158 ts_LAge) t.1, .dead, .dead, .own 10000000, .val (.int .i64) t.2.1, .dead, .dead, .dead, .dead, .dead, .dead, .dead, .dead, .dead, .dead, .dead, .dead, .dead, .dead, .dead, .dead, .dead, .dead], [(10000000, .root true 88 ts_Age t.2.2)]⟩
def f51x3_0 (t : List E_Age) : St := ⟨[.dead, .dead, .dead, .own 10000000, .dead, .dead, .dead, .dead, .dead, .dead, .dead, .dead, .dead, .dead, .dead, .dead, .dead, .dead, .dead, .dead, .dead, .dead, .dead], [(10000000, .root true 88 ts_Age t)]⟩
def f51u3_0 (s : St) : Option (List E_LAge × Int × List E_Age) := (unS f51h3_0 f51o3_0 s).map fun v => (v.1.1, v.1.2.2.2.2.1, v.2.1)
theorem f51un3_0 : ∀ (s : St) (t : List E_LAge × Int × List E_Age), f51u3_0 s = some t → f51e3_0 t = s := fun s v h => by
  obtain ⟨u, hu, rfl⟩ := Option.map_eq_some_iff.1 h
  exact (show f51e3_0 (u.1.1, u.1.2.2.2.2.1, u.2.1) = mkS f51h3_0 f51o3_0 u by kernel_rfl).trans (mkS_un f51h3_0 f51o3_0 s u hu)
def f51u3 : St → Option (List E_LAge × Int × List E_Age) := f51u3_0
def f51e3 : (List E_LAge × Int × List E_Age) → St := f51e3_0
theorem f51un3 : ∀ (s : St) (t : List E_LAge × Int × List E_Age), f51u3 s = some t → f51e3 t = s := f51un3_0
noncomputable def f51P : Lp := fun i s {_R} κ => bif Nat.beq i 3 then (f51u3 s).bind fun t => L_laws_toAgeS_3 (fun t => κ (some 0) (f51x3_0 t)) t else none
noncomputable def f51c3 : Code := (loopsOf f51B).getD 0 .skip
theorem f51A3 : C.live 51 (firstRegion f51c3) = some ([0, 3, 4], [3]) := by kernel_rfl
theorem f51B3 {R : Type} (κ : Option Nat → St → Option R) (s : St) : f51P (firstRegion f51c3) s κ = (f51u3 s).bind fun t => iter (S_laws_toAgeS_3 (fun t => κ (some 0) (f51x3_0 t))) FUEL t := by kernel_rfl
theorem f51C3 {R : Type} (κ : Option Nat → St → Option R) (again : St → Option R) (t : T_laws_toAgeS_3) : stepL C f51K f51P 51 f51c3 [0, 3, 4] [3] κ again (f51e3 t) = S_laws_toAgeS_3 (fun t => κ (some 0) (f51x3_0 t)) (fun t => again (f51e3 t)) t := by kernel_rfl
theorem f51ok3 : LoopOk C f51K f51P 51 f51c3 := loop_ok f51A3 f51e3 f51u3 f51un3 (fun {_R} κ => S_laws_toAgeS_3 (fun t => κ (some 0) (f51x3_0 t))) (fun {_R} κ s => f51B3 κ s) (fun {_R} κ again t => f51C3 κ again t)
theorem k51 : Contract C Tryz.prog f51K := contract_tab _ (fun p hp => by
    simp only [List.mem_cons, List.mem_nil_iff, or_false] at hp
    rcases hp with rfl
    · exact ok116)
theorem ev51 (x : List E_LAge) : evalB C f51K f51P 51 Tryz.f51 f51B ⟨[.v false [(.sl 158 ts_LAge)] [false]], [⟨false, [(.sl 88 ts_Age)], [true]⟩], false⟩ [(.sl 158 ts_LAge)] [(.sl 88 ts_Age)] x = F_laws_toAgeS x := by kernel_rfl
theorem ok51 : ContractAt C Tryz.prog 51 F_laws_toAgeS := fn_sound (lp := f51P) tok mixed k51 (by kernel_rfl) (fn := Tryz.f51) (c := f51B) (sg := ⟨[.v false [(.sl 158 ts_LAge)] [false]], [⟨false, [(.sl 88 ts_Age)], [true]⟩], false⟩) Tryz.func51 (by decide) (by kernel_rfl) (by kernel_rfl) (by kernel_rfl) (fun c' hc' => by
    rw [show loopsOf f51B = [f51c3] by kernel_rfl] at hc'
    simp only [List.mem_cons, List.mem_nil_iff, or_false] at hc'
    rcases hc' with rfl
    · exact f51ok3) (by decide) (by decide) (fun x y h => (ev51 x).trans h)
noncomputable def F_laws_toCell (x : Int × Bool × Int) : Option (Int × Bool × Int) :=
  some (x.1, x.2.1, x.2.2)
noncomputable def f117B : Code := match Tryz.f117.body with
  | some c => c
  | none => .skip
noncomputable def f117K : C.Sem := tab []
noncomputable def f117P : Lp := fun i s {_R} κ => none
theorem k117 : Contract C Tryz.prog f117K := contract_tab _ (fun p hp => by cases hp)
theorem ev117 (x : Int × Bool × Int) : evalB C f117K f117P 117 Tryz.f117 f117B ⟨[.v true [(.int .i64), .bool, (.int .i64)] [false, false, false]], [⟨true, [(.int .i64), .bool, (.int .i64)], [false, false, false]⟩], false⟩ [(.int .i64), .bool, (.int .i64)] [(.int .i64), .bool, (.int .i64)] x = F_laws_toCell x := by kernel_rfl
theorem ok117 : ContractAt C Tryz.prog 117 F_laws_toCell := fn_sound (lp := f117P) tok mixed k117 (by kernel_rfl) (fn := Tryz.f117) (c := f117B) (sg := ⟨[.v true [(.int .i64), .bool, (.int .i64)] [false, false, false]], [⟨true, [(.int .i64), .bool, (.int .i64)], [false, false, false]⟩], false⟩) Tryz.func117 (by decide) (by kernel_rfl) (by kernel_rfl) (by kernel_rfl) (fun c' hc' => by
    rw [show loopsOf f117B = [] by kernel_rfl] at hc'
    cases hc') (by decide) (by decide) (fun x y h => (ev117 x).trans h)
abbrev T_laws_toCellS_3 : Type := List E_LCell × Int × List E_Cell
noncomputable def S_laws_toCellS_3 {R : Type} (k0 : List E_Cell → Option R) (again : T_laws_toCellS_3 → Option R) (t3 : T_laws_toCellS_3) : Option R :=
  bif (decide (t3.2.1 < ((List.length t3.1 : Nat) : Int))) then if (0 : Int) ≤ t3.2.1 then if t3.2.1 < ((List.length t3.1 : Nat) : Int) then Option.bind (F_laws_toCell ((rd_LCell t3.1 t3.2.1).1, (rd_LCell t3.1 t3.2.1).2.1, (rd_LCell t3.1 t3.2.1).2.2)) fun r1 => if (0 : Int) ≤ t3.2.1 then if t3.2.1 < ((List.length t3.2.2 : Nat) : Int) then again (t3.1, (Go.IntKind.wrap .i64 (t3.2.1 + (1 : Int))), (List.set t3.2.2 (Int.toNat t3.2.1) (r1.1, r1.2.1, r1.2.2))) else none else none else none else none else k0 t3.2.2
noncomputable def L_laws_toCellS_3 {R : Type} (k0 : List E_Cell → Option R) (t : T_laws_toCellS_3) : Option R := iter (S_laws_toCellS_3 k0) FUEL t
noncomputable def F_laws_toCellS (x : List E_LCell) : Option (List E_Cell) :=
  if (0 : Int) ≤ ((List.length x : Nat) : Int) then if ((List.length x : Nat) : Int) ≤ ((List.length x : Nat) : Int) then if ((List.length x : Nat) : Int) * ((24 : Nat) : Int) ≤ 140737488351232 then L_laws_toCellS_3 (fun x2 => some x2) (x, (0 : Int), (List.replicate (Int.toNat ((List.length x : Nat) : Int)) z_Cell)) else none else none else none
noncomputable def f52B : Code := match Tryz.f52.body with
  | some c => c
  | none => .skip
noncomputable def f52K : C.Sem := tab [⟨117, F_laws_toCell⟩]
def f52h3_0 : List Sh := [.v (.sl 160 ts_LCell), .dead, .dead, .own 10000000, .v (.int .i64), .dead, .dead, .dead, .dead, .dead, .dead, .dead, .dead, .dead, .dead, .dead, .dead, .dead, .dead, .dead, .dead, .dead, .dead]
def f52o3_0 : List (Nat × OSh) := [(10000000, .root true 94 ts_Cell)]
def f52e3_0 (t : List E_LCell × Int × List E_Cell) : St := ⟨[.val (.sl 160 ts_LCell) t.1, .dead, .dead, .own 10000000, .val (.int .i64) t.2.1, .dead, .dead, .dead, .dead, .dead, .dead, .dead, .dead, .dead, .dead, .dead, .dead, .dead, .dead, .dead, .dead, .dead, .dead], [(10000000, .root true 94 ts_Cell t.2.2)]⟩
def f52x3_0 (t : List E_Cell) : St := ⟨[.dead, .dead, .dead, .own 10000000, .dead, .dead, .dead, .dead, .dead, .dead, .dead, .dead, .dead, .dead, .dead, .dead, .dead, .dead, .dead, .dead, .dead, .dead, .dead], [(10000000, .root true 94 ts_Cell t)]⟩
def f52u3_0 (s : St) : Option (List E_LCell × Int × List E_Cell) := (unS f52h3_0 f52o3_0 s).map fun v => (v.1.1, v.1.2.2.2.2.1, v.2.1)
theorem f52un3_0 : ∀ (s : St) (t : List E_LCell × Int × List E_Cell), f52u3_0 s = some t → f52e3_0 t = s := fun s v h => by
  obtain ⟨u, hu, rfl⟩ := Option.map_eq_some_iff.1 h
  exact (show f52e3_0 (u.1.1, u.1.2.2.2.2.1, u.2.1) = mkS f52h3_0 f52o3_0 u by kernel_rfl).trans (mkS_un f52h3_0 f52o3_0 s u hu)
def f52u3 : St → Option (List E_LCell × Int × List E_Cell) := f52u3_0
def f52e3 : (List E_LCell × Int × List E_Cell) → St := f52e3_0
theorem f52un3 : ∀ (s : St) (t : List E_LCell × Int × List E_Cell), f52u3 s = some t → f52e3 t = s := f52un3_0
noncomputable def f52P : Lp := fun i s {_R} κ => bif Nat.beq i 3 then (f52u3 s).bind fun t => L_laws_toCellS_3 (fun t => κ (some 0) (f52x3_0 t)) t else none
noncomputable def f52c3 : Code := (loopsOf f52B).getD 0 .skip
theorem f52A3 : C.live 52 (firstRegion f52c3) = some ([0, 3, 4], [3]) := by kernel_rfl
theorem f52B3 {R : Type} (κ : Option Nat → St → Option R) (s : St) : f52P (firstRegion f52c3) s κ = (f52u3 s).bind fun t => iter (S_laws_toCellS_3 (fun t => κ (some 0) (f52x3_0 t))) FUEL t := by kernel_rfl
theorem f52C3 {R : Type} (κ : Option Nat → St → Option R) (again : St → Option R) (t : T_laws_toCellS_3) : stepL C f52K f52P 52 f52c3 [0, 3, 4] [3] κ again (f52e3 t) = S_laws_toCellS_3 (fun t => κ (some 0) (f52x3_0 t)) (fun t => again (f52e3 t)) t := by kernel_rfl
theorem f52ok3 : LoopOk C f52K f52P 52 f52c3 := loop_ok f52A3 f52e3 f52u3 f52un3 (fun {_R} κ => S_laws_toCellS_3 (fun t => κ (some 0) (f52x3_0 t))) (fun {_R} κ s => f52B3 κ s) (fun {_R} κ again t => f52C3 κ again t)
theorem k52 : Contract C Tryz.prog f52K := contract_tab _ (fun p hp => by
    simp only [List.mem_cons, List.mem_nil_iff, or_false] at hp
    rcases hp with rfl
    · exact ok117)
theorem ev52 (x : List E_LCell) : evalB C f52K f52P 52 Tryz.f52 f52B ⟨[.v false [(.sl 160 ts_LCell)] [false]], [⟨false, [(.sl 94 ts_Cell)], [true]⟩], false⟩ [(.sl 160 ts_LCell)] [(.sl 94 ts_Cell)] x = F_laws_toCellS x := by kernel_rfl
theorem ok52 : ContractAt C Tryz.prog 52 F_laws_toCellS := fn_sound (lp := f52P) tok mixed k52 (by kernel_rfl) (fn := Tryz.f52) (c := f52B) (sg := ⟨[.v false [(.sl 160 ts_LCell)] [false]], [⟨false, [(.sl 94 ts_Cell)], [true]⟩], false⟩) Tryz.func52 (by decide) (by kernel_rfl) (by kernel_rfl) (by kernel_rfl) (fun c' hc' => by
    rw [show loopsOf f52B = [f52c3] by kernel_rfl] at hc'
    simp only [List.mem_cons, List.mem_nil_iff, or_false] at hc'
    rcases hc' with rfl
    · exact f52ok3) (by decide) (by decide) (fun x y h => (ev52 x).trans h)
noncomputable def F_laws_toVol (x : ByteArray × Int × Int × Bool) : Option (ByteArray × Int × Int × Bool) :=
  some (x.1, x.2.1, x.2.2.1, x.2.2.2)
noncomputable def f118B : Code := match Tryz.f118.body with
  | some c => c
  | none => .skip
noncomputable def f118K : C.Sem := tab []
noncomputable def f118P : Lp := fun i s {_R} κ => none
theorem k118 : Contract C Tryz.prog f118K := contract_tab _ (fun p hp => by cases hp)
theorem ev118 (x : ByteArray × Int × Int × Bool) : evalB C f118K f118P 118 Tryz.f118 f118B ⟨[.v true [.str, (.int .i64), (.int .i64), .bool] [false, false, false, false]], [⟨true, [.str, (.int .i64), (.int .i64), .bool], [false, false, false, false]⟩], false⟩ [.str, (.int .i64), (.int .i64), .bool] [.str, (.int .i64), (.int .i64), .bool] x = F_laws_toVol x := by kernel_rfl
theorem ok118 : ContractAt C Tryz.prog 118 F_laws_toVol := fn_sound (lp := f118P) tok mixed k118 (by kernel_rfl) (fn := Tryz.f118) (c := f118B) (sg := ⟨[.v true [.str, (.int .i64), (.int .i64), .bool] [false, false, false, false]], [⟨true, [.str, (.int .i64), (.int .i64), .bool], [false, false, false, false]⟩], false⟩) Tryz.func118 (by decide) (by kernel_rfl) (by kernel_rfl) (by kernel_rfl) (fun c' hc' => by
    rw [show loopsOf f118B = [] by kernel_rfl] at hc'
    cases hc') (by decide) (by decide) (fun x y h => (ev118 x).trans h)
abbrev T_laws_toVolS_3 : Type := List E_LVol × Int × List E_Vol
noncomputable def S_laws_toVolS_3 {R : Type} (k0 : List E_Vol → Option R) (again : T_laws_toVolS_3 → Option R) (t3 : T_laws_toVolS_3) : Option R :=
  bif (decide (t3.2.1 < ((List.length t3.1 : Nat) : Int))) then if (0 : Int) ≤ t3.2.1 then if t3.2.1 < ((List.length t3.1 : Nat) : Int) then Option.bind (F_laws_toVol ((rd_LVol t3.1 t3.2.1).1, (rd_LVol t3.1 t3.2.1).2.1, (rd_LVol t3.1 t3.2.1).2.2.1, (rd_LVol t3.1 t3.2.1).2.2.2)) fun r1 => if (0 : Int) ≤ t3.2.1 then if t3.2.1 < ((List.length t3.2.2 : Nat) : Int) then again (t3.1, (Go.IntKind.wrap .i64 (t3.2.1 + (1 : Int))), (List.set t3.2.2 (Int.toNat t3.2.1) (r1.1, r1.2.1, r1.2.2.1, r1.2.2.2))) else none else none else none else none else k0 t3.2.2
noncomputable def L_laws_toVolS_3 {R : Type} (k0 : List E_Vol → Option R) (t : T_laws_toVolS_3) : Option R := iter (S_laws_toVolS_3 k0) FUEL t
noncomputable def F_laws_toVolS (x : List E_LVol) : Option (List E_Vol) :=
  if (0 : Int) ≤ ((List.length x : Nat) : Int) then if ((List.length x : Nat) : Int) ≤ ((List.length x : Nat) : Int) then if ((List.length x : Nat) : Int) * ((40 : Nat) : Int) ≤ 140737488351232 then L_laws_toVolS_3 (fun x2 => some x2) (x, (0 : Int), (List.replicate (Int.toNat ((List.length x : Nat) : Int)) z_Vol)) else none else none else none
noncomputable def f53B : Code := match Tryz.f53.body with
  | some c => c
  | none => .skip
noncomputable def f53K : C.Sem := tab [⟨118, F_laws_toVol⟩]
def f53h3_0 : List Sh := [.v (.sl 150 ts_LVol), .dead, .dead, .own 10000000, .v (.int .i64), .dead, .dead, .dead, .dead, .dead, .dead, .dead, .dead, .dead, .dead, .dead, .dead, .dead, .dead, .dead, .dead, .dead, .dead]
def f53o3_0 : List (Nat × OSh) := [(10000000, .root true 90 ts_Vol)]
def f53e3_0 (t : List E_LVol × Int × List E_Vol) : St := ⟨[.val (.sl 150 ts_LVol) t.1, .dead, .dead, .own 10000000, .val (.int .i64) t.2.1, .dead, .dead, .dead, .dead, .dead, .dead, .dead, .dead, .dead, .dead, .dead, .dead, .dead, .dead, .dead, .dead, .dead, .dead], [(10000000, .root true 90 ts_Vol t.2.2)]⟩
def f53x3_0 (t : List E_Vol) : St := ⟨[.dead, .dead, .dead, .own 10000000, .dead, .dead, .dead, .dead, .dead, .dead, .dead, .dead, .dead, .dead, .dead, .dead, .dead, .dead, .dead, .dead, .dead, .dead, .dead], [(10000000, .root true 90 ts_Vol t)]⟩
def f53u3_0 (s : St) : Option (List E_LVol × Int × List E_Vol) := (unS f53h3_0 f53o3_0 s).map fun v => (v.1.1, v.1.2.2.2.2.1, v.2.1)
theorem f53un3_0 : ∀ (s : St) (t : List E_LVol × Int × List E_Vol), f53u3_0 s = some t → f53e3_0 t = s := fun s v h => by
  obtain ⟨u, hu, rfl⟩ := Option.map_eq_some_iff.1 h
  exact (show f53e3_0 (u.1.1, u.1.2.2.2.2.1, u.2.1) = mkS f53h3_0 f53o3_0 u by kernel_rfl).trans (mkS_un f53h3_0 f53o3_0 s u hu)
def f53u3 : St → Option (List E_LVol × Int × List E_Vol) := f53u3_0
def f53e3 : (List E_LVol × Int × List E_Vol) → St := f53e3_0
theorem f53un3 : ∀ (s : St) (t : List E_LVol × Int × List E_Vol), f53u3 s = some t → f53e3 t = s := f53un3_0
noncomputable def f53P : Lp := fun i s {_R} κ => bif Nat.beq i 3 then (f53u3 s).bind fun t => L_laws_toVolS_3 (fun t => κ (some 0) (f53x3_0 t)) t else none
noncomputable def f53c3 : Code := (loopsOf f53B).getD 0 .skip
theorem f53A3 : C.live 53 (firstRegion f53c3) = some ([0, 3, 4], [3]) := by kernel_rfl
theorem f53B3 {R : Type} (κ : Option Nat → St → Option R) (s : St) : f53P (firstRegion f53c3) s κ = (f53u3 s).bind fun t => iter (S_laws_toVolS_3 (fun t => κ (some 0) (f53x3_0 t))) FUEL t := by kernel_rfl
theorem f53C3 {R : Type} (κ : Option Nat → St → Option R) (again : St → Option R) (t : T_laws_toVolS_3) : stepL C f53K f53P 53 f53c3 [0, 3, 4] [3] κ again (f53e3 t) = S_laws_toVolS_3 (fun t => κ (some 0) (f53x3_0 t)) (fun t => again (f53e3 t)) t := by kernel_rfl
theorem f53ok3 : LoopOk C f53K f53P 53 f53c3 := loop_ok f53A3 f53e3 f53u3 f53un3 (fun {_R} κ => S_laws_toVolS_3 (fun t => κ (some 0) (f53x3_0 t))) (fun {_R} κ s => f53B3 κ s) (fun {_R} κ again t => f53C3 κ again t)
theorem k53 : Contract C Tryz.prog f53K := contract_tab _ (fun p hp => by
    simp only [List.mem_cons, List.mem_nil_iff, or_false] at hp
    rcases hp with rfl
    · exact ok118)
theorem ev53 (x : List E_LVol) : evalB C f53K f53P 53 Tryz.f53 f53B ⟨[.v false [(.sl 150 ts_LVol)] [false]], [⟨false, [(.sl 90 ts_Vol)], [true]⟩], false⟩ [(.sl 150 ts_LVol)] [(.sl 90 ts_Vol)] x = F_laws_toVolS x := by kernel_rfl
theorem ok53 : ContractAt C Tryz.prog 53 F_laws_toVolS := fn_sound (lp := f53P) tok mixed k53 (by kernel_rfl) (fn := Tryz.f53) (c := f53B) (sg := ⟨[.v false [(.sl 150 ts_LVol)] [false]], [⟨false, [(.sl 90 ts_Vol)], [true]⟩], false⟩) Tryz.func53 (by decide) (by kernel_rfl) (by kernel_rfl) (by kernel_rfl) (fun c' hc' => by
    rw [show loopsOf f53B = [f53c3] by kernel_rfl] at hc'
    simp only [List.mem_cons, List.mem_nil_iff, or_false] at hc'
    rcases hc' with rfl
    · exact f53ok3) (by decide) (by decide) (fun x y h => (ev53 x).trans h)
noncomputable def F_laws_toPool (x : List E_i64 × List E_LNode × List E_LAge × List E_LCell × List E_LVol × Int) : Option (List E_i64 × List E_Node × List E_Age × List E_Cell × List E_Vol × Int) :=
  Option.bind (F_laws_toTree (x.1, x.2.1)) fun r1 => Option.bind (F_laws_toAgeS x.2.2.1) fun r2 => Option.bind (F_laws_toCellS x.2.2.2.1) fun r3 => Option.bind (F_laws_toVolS x.2.2.2.2.1) fun r4 => some (r1.1, r1.2, r2, r3, r4, x.2.2.2.2.2)
noncomputable def f16B : Code := match Tryz.f16.body with
  | some c => c
  | none => .skip
noncomputable def f16K : C.Sem := tab [⟨50, F_laws_toTree⟩, ⟨51, F_laws_toAgeS⟩, ⟨52, F_laws_toCellS⟩, ⟨53, F_laws_toVolS⟩]
noncomputable def f16P : Lp := fun i s {_R} κ => none
theorem k16 : Contract C Tryz.prog f16K := contract_tab _ (fun p hp => by
    simp only [List.mem_cons, List.mem_nil_iff, or_false] at hp
    rcases hp with rfl | rfl | rfl | rfl
    · exact ok50
    · exact ok51
    · exact ok52
    · exact ok53)
theorem ev16 (x : List E_i64 × List E_LNode × List E_LAge × List E_LCell × List E_LVol × Int) : evalB C f16K f16P 16 Tryz.f16 f16B ⟨[.v true [(.sl 3 ts_i64), (.sl 205 ts_LNode), (.sl 158 ts_LAge), (.sl 160 ts_LCell), (.sl 150 ts_LVol), (.int .i64)] [false, false, false, false, false, false]], [⟨true, [(.sl 3 ts_i64), (.sl 97 ts_Node), (.sl 88 ts_Age), (.sl 94 ts_Cell), (.sl 90 ts_Vol), (.int .i64)], [true, true, true, true, true, false]⟩], false⟩ [(.sl 3 ts_i64), (.sl 205 ts_LNode), (.sl 158 ts_LAge), (.sl 160 ts_LCell), (.sl 150 ts_LVol), (.int .i64)] [(.sl 3 ts_i64), (.sl 97 ts_Node), (.sl 88 ts_Age), (.sl 94 ts_Cell), (.sl 90 ts_Vol), (.int .i64)] x = F_laws_toPool x := by kernel_rfl
theorem ok16 : ContractAt C Tryz.prog 16 F_laws_toPool := fn_sound (lp := f16P) tok mixed k16 (by kernel_rfl) (fn := Tryz.f16) (c := f16B) (sg := ⟨[.v true [(.sl 3 ts_i64), (.sl 205 ts_LNode), (.sl 158 ts_LAge), (.sl 160 ts_LCell), (.sl 150 ts_LVol), (.int .i64)] [false, false, false, false, false, false]], [⟨true, [(.sl 3 ts_i64), (.sl 97 ts_Node), (.sl 88 ts_Age), (.sl 94 ts_Cell), (.sl 90 ts_Vol), (.int .i64)], [true, true, true, true, true, false]⟩], false⟩) Tryz.func16 (by decide) (by kernel_rfl) (by kernel_rfl) (by kernel_rfl) (fun c' hc' => by
    rw [show loopsOf f16B = [] by kernel_rfl] at hc'
    cases hc') (by decide) (by decide) (fun x y h => (ev16 x).trans h)
abbrev T_laws_toByteS_3 : Type := List E_u8 × Int × List E_u8
noncomputable def S_laws_toByteS_3 {R : Type} (k0 : List E_u8 → Option R) (again : T_laws_toByteS_3 → Option R) (t3 : T_laws_toByteS_3) : Option R :=
  bif (decide (t3.2.1 < ((List.length t3.1 : Nat) : Int))) then if (0 : Int) ≤ t3.2.1 then if t3.2.1 < ((List.length t3.1 : Nat) : Int) then if (0 : Int) ≤ t3.2.1 then if t3.2.1 < ((List.length t3.2.2 : Nat) : Int) then again (t3.1, (Go.IntKind.wrap .i64 (t3.2.1 + (1 : Int))), (List.set t3.2.2 (Int.toNat t3.2.1) (rd_u8 t3.1 t3.2.1))) else none else none else none else none else k0 t3.2.2
noncomputable def L_laws_toByteS_3 {R : Type} (k0 : List E_u8 → Option R) (t : T_laws_toByteS_3) : Option R := iter (S_laws_toByteS_3 k0) FUEL t
noncomputable def F_laws_toByteS (x : List E_u8) : Option (List E_u8) :=
  if (0 : Int) ≤ ((List.length x : Nat) : Int) then if ((List.length x : Nat) : Int) ≤ ((List.length x : Nat) : Int) then if ((List.length x : Nat) : Int) * ((1 : Nat) : Int) ≤ 140737488351232 then L_laws_toByteS_3 (fun x1 => some x1) (x, (0 : Int), (List.replicate (Int.toNat ((List.length x : Nat) : Int)) z_u8)) else none else none else none
noncomputable def f31B : Code := match Tryz.f31.body with
  | some c => c
  | none => .skip
noncomputable def f31K : C.Sem := tab []
def f31h3_0 : List Sh := [.v (.sl 5 ts_u8), .dead, .dead, .own 10000000, .v (.int .i64), .dead, .dead, .dead, .dead, .dead, .dead, .dead, .dead, .dead, .dead, .dead, .dead, .dead, .dead, .dead, .dead, .dead]
def f31o3_0 : List (Nat × OSh) := [(10000000, .root true 5 ts_u8)]
def f31e3_0 (t : List E_u8 × Int × List E_u8) : St := ⟨[.val (.sl 5 ts_u8) t.1, .dead, .dead, .own 10000000, .val (.int .i64) t.2.1, .dead, .dead, .dead, .dead, .dead, .dead, .dead, .dead, .dead, .dead, .dead, .dead, .dead, .dead, .dead, .dead, .dead], [(10000000, .root true 5 ts_u8 t.2.2)]⟩
def f31x3_0 (t : List E_u8) : St := ⟨[.dead, .dead, .dead, .own 10000000, .dead, .dead, .dead, .dead, .dead, .dead, .dead, .dead, .dead, .dead, .dead, .dead, .dead, .dead, .dead, .dead, .dead, .dead], [(10000000, .root true 5 ts_u8 t)]⟩
def f31u3_0 (s : St) : Option (List E_u8 × Int × List E_u8) := (unS f31h3_0 f31o3_0 s).map fun v => (v.1.1, v.1.2.2.2.2.1, v.2.1)
theorem f31un3_0 : ∀ (s : St) (t : List E_u8 × Int × List E_u8), f31u3_0 s = some t → f31e3_0 t = s := fun s v h => by
  obtain ⟨u, hu, rfl⟩ := Option.map_eq_some_iff.1 h
  exact (show f31e3_0 (u.1.1, u.1.2.2.2.2.1, u.2.1) = mkS f31h3_0 f31o3_0 u by kernel_rfl).trans (mkS_un f31h3_0 f31o3_0 s u hu)
def f31u3 : St → Option (List E_u8 × Int × List E_u8) := f31u3_0
def f31e3 : (List E_u8 × Int × List E_u8) → St := f31e3_0
theorem f31un3 : ∀ (s : St) (t : List E_u8 × Int × List E_u8), f31u3 s = some t → f31e3 t = s := f31un3_0
noncomputable def f31P : Lp := fun i s {_R} κ => bif Nat.beq i 3 then (f31u3 s).bind fun t => L_laws_toByteS_3 (fun t => κ (some 0) (f31x3_0 t)) t else none
noncomputable def f31c3 : Code := (loopsOf f31B).getD 0 .skip
theorem f31A3 : C.live 31 (firstRegion f31c3) = some ([0, 3, 4], [3]) := by kernel_rfl
theorem f31B3 {R : Type} (κ : Option Nat → St → Option R) (s : St) : f31P (firstRegion f31c3) s κ = (f31u3 s).bind fun t => iter (S_laws_toByteS_3 (fun t => κ (some 0) (f31x3_0 t))) FUEL t := by kernel_rfl
theorem f31C3 {R : Type} (κ : Option Nat → St → Option R) (again : St → Option R) (t : T_laws_toByteS_3) : stepL C f31K f31P 31 f31c3 [0, 3, 4] [3] κ again (f31e3 t) = S_laws_toByteS_3 (fun t => κ (some 0) (f31x3_0 t)) (fun t => again (f31e3 t)) t := by kernel_rfl
theorem f31ok3 : LoopOk C f31K f31P 31 f31c3 := loop_ok f31A3 f31e3 f31u3 f31un3 (fun {_R} κ => S_laws_toByteS_3 (fun t => κ (some 0) (f31x3_0 t))) (fun {_R} κ s => f31B3 κ s) (fun {_R} κ again t => f31C3 κ again t)
theorem k31 : Contract C Tryz.prog f31K := contract_tab _ (fun p hp => by cases hp)
theorem ev31 (x : List E_u8) : evalB C f31K f31P 31 Tryz.f31 f31B ⟨[.v false [(.sl 5 ts_u8)] [false]], [⟨false, [(.sl 5 ts_u8)], [true]⟩], false⟩ [(.sl 5 ts_u8)] [(.sl 5 ts_u8)] x = F_laws_toByteS x := by kernel_rfl
theorem ok31 : ContractAt C Tryz.prog 31 F_laws_toByteS := fn_sound (lp := f31P) tok mixed k31 (by kernel_rfl) (fn := Tryz.f31) (c := f31B) (sg := ⟨[.v false [(.sl 5 ts_u8)] [false]], [⟨false, [(.sl 5 ts_u8)], [true]⟩], false⟩) Tryz.func31 (by decide) (by kernel_rfl) (by kernel_rfl) (by kernel_rfl) (fun c' hc' => by
    rw [show loopsOf f31B = [f31c3] by kernel_rfl] at hc'
    simp only [List.mem_cons, List.mem_nil_iff, or_false] at hc'
    rcases hc' with rfl
    · exact f31ok3) (by decide) (by decide) (fun x y h => (ev31 x).trans h)
abbrev T_laws_toByteSS_3 : Type := List E_s_u8 × Int × List E_s_u8
noncomputable def S_laws_toByteSS_3 {R : Type} (k0 : List E_s_u8 → Option R) (again : T_laws_toByteSS_3 → Option R) (t3 : T_laws_toByteSS_3) : Option R :=
  bif (decide (t3.2.1 < ((List.length t3.1 : Nat) : Int))) then if (0 : Int) ≤ t3.2.1 then if t3.2.1 < ((List.length t3.1 : Nat) : Int) then Option.bind (F_laws_toByteS (rd_s_u8 t3.1 t3.2.1)) fun r1 => if (0 : Int) ≤ t3.2.1 then if t3.2.1 < ((List.length t3.2.2 : Nat) : Int) then again (t3.1, (Go.IntKind.wrap .i64 (t3.2.1 + (1 : Int))), (List.set t3.2.2 (Int.toNat t3.2.1) r1)) else none else none else none else none else k0 t3.2.2
noncomputable def L_laws_toByteSS_3 {R : Type} (k0 : List E_s_u8 → Option R) (t : T_laws_toByteSS_3) : Option R := iter (S_laws_toByteSS_3 k0) FUEL t
noncomputable def F_laws_toByteSS (x : List E_s_u8) : Option (List E_s_u8) :=
  if (0 : Int) ≤ ((List.length x : Nat) : Int) then if ((List.length x : Nat) : Int) ≤ ((List.length x : Nat) : Int) then if ((List.length x : Nat) : Int) * ((24 : Nat) : Int) ≤ 140737488351232 then L_laws_toByteSS_3 (fun x2 => some x2) (x, (0 : Int), (List.replicate (Int.toNat ((List.length x : Nat) : Int)) z_s_u8)) else none else none else none
noncomputable def f72B : Code := match Tryz.f72.body with
  | some c => c
  | none => .skip
noncomputable def f72K : C.Sem := tab [⟨31, F_laws_toByteS⟩]
def f72h3_0 : List Sh := [.v (.sl 56 ts_s_u8), .dead, .dead, .own 10000000, .v (.int .i64), .dead, .dead, .dead, .dead, .dead, .dead, .dead, .dead, .dead, .dead, .dead, .dead, .dead, .dead, .dead, .dead, .dead, .dead]
def f72o3_0 : List (Nat × OSh) := [(10000000, .root true 56 ts_s_u8)]
def f72e3_0 (t : List E_s_u8 × Int × List E_s_u8) : St := ⟨[.val (.sl 56 ts_s_u8) t.1, .dead, .dead, .own 10000000, .val (.int .i64) t.2.1, .dead, .dead, .dead, .dead, .dead, .dead, .dead, .dead, .dead, .dead, .dead, .dead, .dead, .dead, .dead, .dead, .dead, .dead], [(10000000, .root true 56 ts_s_u8 t.2.2)]⟩
def f72x3_0 (t : List E_s_u8) : St := ⟨[.dead, .dead, .dead, .own 10000000, .dead, .dead, .dead, .dead, .dead, .dead, .dead, .dead, .dead, .dead, .dead, .dead, .dead, .dead, .dead, .dead, .dead, .dead, .dead], [(10000000, .root true 56 ts_s_u8 t)]⟩
def f72u3_0 (s : St) : Option (List E_s_u8 × Int × List E_s_u8) := (unS f72h3_0 f72o3_0 s).map fun v => (v.1.1, v.1.2.2.2.2.1, v.2.1)
theorem f72un3_0 : ∀ (s : St) (t : List E_s_u8 × Int × List E_s_u8), f72u3_0 s = some t → f72e3_0 t = s := fun s v h => by
  obtain ⟨u, hu, rfl⟩ := Option.map_eq_some_iff.1 h
  exact (show f72e3_0 (u.1.1, u.1.2.2.2.2.1, u.2.1) = mkS f72h3_0 f72o3_0 u by kernel_rfl).trans (mkS_un f72h3_0 f72o3_0 s u hu)
def f72u3 : St → Option (List E_s_u8 × Int × List E_s_u8) := f72u3_0
def f72e3 : (List E_s_u8 × Int × List E_s_u8) → St := f72e3_0
theorem f72un3 : ∀ (s : St) (t : List E_s_u8 × Int × List E_s_u8), f72u3 s = some t → f72e3 t = s := f72un3_0
noncomputable def f72P : Lp := fun i s {_R} κ => bif Nat.beq i 3 then (f72u3 s).bind fun t => L_laws_toByteSS_3 (fun t => κ (some 0) (f72x3_0 t)) t else none
noncomputable def f72c3 : Code := (loopsOf f72B).getD 0 .skip
theorem f72A3 : C.live 72 (firstRegion f72c3) = some ([0, 3, 4], [3]) := by kernel_rfl
theorem f72B3 {R : Type} (κ : Option Nat → St → Option R) (s : St) : f72P (firstRegion f72c3) s κ = (f72u3 s).bind fun t => iter (S_laws_toByteSS_3 (fun t => κ (some 0) (f72x3_0 t))) FUEL t := by kernel_rfl
theorem f72C3 {R : Type} (κ : Option Nat → St → Option R) (again : St → Option R) (t : T_laws_toByteSS_3) : stepL C f72K f72P 72 f72c3 [0, 3, 4] [3] κ again (f72e3 t) = S_laws_toByteSS_3 (fun t => κ (some 0) (f72x3_0 t)) (fun t => again (f72e3 t)) t := by kernel_rfl
theorem f72ok3 : LoopOk C f72K f72P 72 f72c3 := loop_ok f72A3 f72e3 f72u3 f72un3 (fun {_R} κ => S_laws_toByteSS_3 (fun t => κ (some 0) (f72x3_0 t))) (fun {_R} κ s => f72B3 κ s) (fun {_R} κ again t => f72C3 κ again t)
theorem k72 : Contract C Tryz.prog f72K := contract_tab _ (fun p hp => by
    simp only [List.mem_cons, List.mem_nil_iff, or_false] at hp
    rcases hp with rfl
    · exact ok31)
theorem ev72 (x : List E_s_u8) : evalB C f72K f72P 72 Tryz.f72 f72B ⟨[.v false [(.sl 56 ts_s_u8)] [false]], [⟨false, [(.sl 56 ts_s_u8)], [true]⟩], false⟩ [(.sl 56 ts_s_u8)] [(.sl 56 ts_s_u8)] x = F_laws_toByteSS x := by kernel_rfl
theorem ok72 : ContractAt C Tryz.prog 72 F_laws_toByteSS := fn_sound (lp := f72P) tok mixed k72 (by kernel_rfl) (fn := Tryz.f72) (c := f72B) (sg := ⟨[.v false [(.sl 56 ts_s_u8)] [false]], [⟨false, [(.sl 56 ts_s_u8)], [true]⟩], false⟩) Tryz.func72 (by decide) (by kernel_rfl) (by kernel_rfl) (by kernel_rfl) (fun c' hc' => by
    rw [show loopsOf f72B = [f72c3] by kernel_rfl] at hc'
    simp only [List.mem_cons, List.mem_nil_iff, or_false] at hc'
    rcases hc' with rfl
    · exact f72ok3) (by decide) (by decide) (fun x y h => (ev72 x).trans h)
end Go.Proofs.YtmofdkmggfdciaaGreat.XO
