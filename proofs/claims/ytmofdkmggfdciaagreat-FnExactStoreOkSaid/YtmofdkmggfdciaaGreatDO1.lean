/- What functions compute, and that they do; part 1 of O; by a program (dec.py). No condition. -/
import Derived.Test.YtmofdkmggfdciaaGreatDO0
set_option linter.all false
namespace Go.Proofs.YtmofdkmggfdciaaGreat.XO
open Go.Proofs.YtmofdkmggfdciaaGreat.R
set_option maxRecDepth 100000
noncomputable def F_laws_toWr (x : Int × List E_u8) : Option (Int × List E_u8) :=
  Option.bind (F_laws_toByteS x.2) fun r1 => some (x.1, r1)
noncomputable def f141B : Code := match Tryz.f141.body with
  | some c => c
  | none => .skip
noncomputable def f141K : C.Sem := tab [⟨31, F_laws_toByteS⟩]
noncomputable def f141P : Lp := fun i s {_R} κ => none
theorem k141 : Contract C Tryz.prog f141K := contract_tab _ (fun p hp => by
    simp only [List.mem_cons, List.mem_nil_iff, or_false] at hp
    rcases hp with rfl
    · exact ok31)
theorem ev141 (x : Int × List E_u8) : evalB C f141K f141P 141 Tryz.f141 f141B ⟨[.v true [(.int .i64), (.sl 5 ts_u8)] [false, false]], [⟨true, [(.int .i64), (.sl 5 ts_u8)], [false, true]⟩], false⟩ [(.int .i64), (.sl 5 ts_u8)] [(.int .i64), (.sl 5 ts_u8)] x = F_laws_toWr x := by kernel_rfl
theorem ok141 : ContractAt C Tryz.prog 141 F_laws_toWr := fn_sound (lp := f141P) tok mixed k141 (by kernel_rfl) (fn := Tryz.f141) (c := f141B) (sg := ⟨[.v true [(.int .i64), (.sl 5 ts_u8)] [false, false]], [⟨true, [(.int .i64), (.sl 5 ts_u8)], [false, true]⟩], false⟩) Tryz.func141 (by decide) (by kernel_rfl) (by kernel_rfl) (by kernel_rfl) (fun c' hc' => by
    rw [show loopsOf f141B = [] by kernel_rfl] at hc'
    cases hc') (by decide) (by decide) (fun x y h => (ev141 x).trans h)
abbrev T_laws_toWrS_3 : Type := List E_LWr × Int × List E_Wr
noncomputable def S_laws_toWrS_3 {R : Type} (k0 : List E_Wr → Option R) (again : T_laws_toWrS_3 → Option R) (t3 : T_laws_toWrS_3) : Option R :=
  bif (decide (t3.2.1 < ((List.length t3.1 : Nat) : Int))) then if (0 : Int) ≤ t3.2.1 then if t3.2.1 < ((List.length t3.1 : Nat) : Int) then Option.bind (F_laws_toWr ((rd_LWr t3.1 t3.2.1).1, (rd_LWr t3.1 t3.2.1).2)) fun r1 => if (0 : Int) ≤ t3.2.1 then if t3.2.1 < ((List.length t3.2.2 : Nat) : Int) then again (t3.1, (Go.IntKind.wrap .i64 (t3.2.1 + (1 : Int))), (List.set t3.2.2 (Int.toNat t3.2.1) (r1.1, r1.2))) else none else none else none else none else k0 t3.2.2
noncomputable def L_laws_toWrS_3 {R : Type} (k0 : List E_Wr → Option R) (t : T_laws_toWrS_3) : Option R := iter (S_laws_toWrS_3 k0) FUEL t
noncomputable def F_laws_toWrS (x : List E_LWr) : Option (List E_Wr) :=
  if (0 : Int) ≤ ((List.length x : Nat) : Int) then if ((List.length x : Nat) : Int) ≤ ((List.length x : Nat) : Int) then if ((List.length x : Nat) : Int) * ((32 : Nat) : Int) ≤ 140737488351232 then L_laws_toWrS_3 (fun x2 => some x2) (x, (0 : Int), (List.replicate (Int.toNat ((List.length x : Nat) : Int)) z_Wr)) else none else none else none
noncomputable def f73B : Code := match Tryz.f73.body with
  | some c => c
  | none => .skip
noncomputable def f73K : C.Sem := tab [⟨141, F_laws_toWr⟩]
def f73h3_0 : List Sh := [.v (.sl 173 ts_LWr), .dead, .dead, .own 10000000, .v (.int .i64), .dead, .dead, .dead, .dead, .dead, .dead, .dead, .dead, .dead, .dead, .dead, .dead, .dead, .dead, .dead, .dead, .dead, .dead]
def f73o3_0 : List (Nat × OSh) := [(10000000, .root true 178 ts_Wr)]
def f73e3_0 (t : List E_LWr × Int × List E_Wr) : St := ⟨[.val (.sl 173 ts_LWr) t.1, .dead, .dead, .own 10000000, .val (.int .i64) t.2.1, .dead, .dead, .dead, .dead, .dead, .dead, .dead, .dead, .dead, .dead, .dead, .dead, .dead, .dead, .dead, .dead, .dead, .dead], [(10000000, .root true 178 ts_Wr t.2.2)]⟩
def f73x3_0 (t : List E_Wr) : St := ⟨[.dead, .dead, .dead, .own 10000000, .dead, .dead, .dead, .dead, .dead, .dead, .dead, .dead, .dead, .dead, .dead, .dead, .dead, .dead, .dead, .dead, .dead, .dead, .dead], [(10000000, .root true 178 ts_Wr t)]⟩
def f73u3_0 (s : St) : Option (List E_LWr × Int × List E_Wr) := (unS f73h3_0 f73o3_0 s).map fun v => (v.1.1, v.1.2.2.2.2.1, v.2.1)
theorem f73un3_0 : ∀ (s : St) (t : List E_LWr × Int × List E_Wr), f73u3_0 s = some t → f73e3_0 t = s := fun s v h => by
  obtain ⟨u, hu, rfl⟩ := Option.map_eq_some_iff.1 h
  exact (show f73e3_0 (u.1.1, u.1.2.2.2.2.1, u.2.1) = mkS f73h3_0 f73o3_0 u by kernel_rfl).trans (mkS_un f73h3_0 f73o3_0 s u hu)
def f73u3 : St → Option (List E_LWr × Int × List E_Wr) := f73u3_0
def f73e3 : (List E_LWr × Int × List E_Wr) → St := f73e3_0
theorem f73un3 : ∀ (s : St) (t : List E_LWr × Int × List E_Wr), f73u3 s = some t → f73e3 t = s := f73un3_0
noncomputable def f73P : Lp := fun i s {_R} κ => bif Nat.beq i 3 then (f73u3 s).bind fun t => L_laws_toWrS_3 (fun t => κ (some 0) (f73x3_0 t)) t else none
noncomputable def f73c3 : Code := (loopsOf f73B).getD 0 .skip
theorem f73A3 : C.live 73 (firstRegion f73c3) = some ([0, 3, 4], [3]) := by kernel_rfl
theorem f73B3 {R : Type} (κ : Option Nat → St → Option R) (s : St) : f73P (firstRegion f73c3) s κ = (f73u3 s).bind fun t => iter (S_laws_toWrS_3 (fun t => κ (some 0) (f73x3_0 t))) FUEL t := by kernel_rfl
theorem f73C3 {R : Type} (κ : Option Nat → St → Option R) (again : St → Option R) (t : T_laws_toWrS_3) : stepL C f73K f73P 73 f73c3 [0, 3, 4] [3] κ again (f73e3 t) = S_laws_toWrS_3 (fun t => κ (some 0) (f73x3_0 t)) (fun t => again (f73e3 t)) t := by kernel_rfl
theorem f73ok3 : LoopOk C f73K f73P 73 f73c3 := loop_ok f73A3 f73e3 f73u3 f73un3 (fun {_R} κ => S_laws_toWrS_3 (fun t => κ (some 0) (f73x3_0 t))) (fun {_R} κ s => f73B3 κ s) (fun {_R} κ again t => f73C3 κ again t)
theorem k73 : Contract C Tryz.prog f73K := contract_tab _ (fun p hp => by
    simp only [List.mem_cons, List.mem_nil_iff, or_false] at hp
    rcases hp with rfl
    · exact ok141)
theorem ev73 (x : List E_LWr) : evalB C f73K f73P 73 Tryz.f73 f73B ⟨[.v false [(.sl 173 ts_LWr)] [false]], [⟨false, [(.sl 178 ts_Wr)], [true]⟩], false⟩ [(.sl 173 ts_LWr)] [(.sl 178 ts_Wr)] x = F_laws_toWrS x := by kernel_rfl
theorem ok73 : ContractAt C Tryz.prog 73 F_laws_toWrS := fn_sound (lp := f73P) tok mixed k73 (by kernel_rfl) (fn := Tryz.f73) (c := f73B) (sg := ⟨[.v false [(.sl 173 ts_LWr)] [false]], [⟨false, [(.sl 178 ts_Wr)], [true]⟩], false⟩) Tryz.func73 (by decide) (by kernel_rfl) (by kernel_rfl) (by kernel_rfl) (fun c' hc' => by
    rw [show loopsOf f73B = [f73c3] by kernel_rfl] at hc'
    simp only [List.mem_cons, List.mem_nil_iff, or_false] at hc'
    rcases hc' with rfl
    · exact f73ok3) (by decide) (by decide) (fun x y h => (ev73 x).trans h)
noncomputable def F_laws_toDev (x : List E_s_u8 × List E_LWr × Int × Bool) : Option (List E_s_u8 × List E_Wr × Int × Bool) :=
  Option.bind (F_laws_toByteSS x.1) fun r1 => Option.bind (F_laws_toWrS x.2.1) fun r2 => some (r1, r2, x.2.2.1, x.2.2.2)
noncomputable def f25B : Code := match Tryz.f25.body with
  | some c => c
  | none => .skip
noncomputable def f25K : C.Sem := tab [⟨72, F_laws_toByteSS⟩, ⟨73, F_laws_toWrS⟩]
noncomputable def f25P : Lp := fun i s {_R} κ => none
theorem k25 : Contract C Tryz.prog f25K := contract_tab _ (fun p hp => by
    simp only [List.mem_cons, List.mem_nil_iff, or_false] at hp
    rcases hp with rfl | rfl
    · exact ok72
    · exact ok73)
theorem ev25 (x : List E_s_u8 × List E_LWr × Int × Bool) : evalB C f25K f25P 25 Tryz.f25 f25B ⟨[.v true [(.sl 56 ts_s_u8), (.sl 173 ts_LWr), (.int .i64), .bool] [false, false, false, false]], [⟨true, [(.sl 56 ts_s_u8), (.sl 178 ts_Wr), (.int .i64), .bool], [true, true, false, false]⟩], false⟩ [(.sl 56 ts_s_u8), (.sl 173 ts_LWr), (.int .i64), .bool] [(.sl 56 ts_s_u8), (.sl 178 ts_Wr), (.int .i64), .bool] x = F_laws_toDev x := by kernel_rfl
theorem ok25 : ContractAt C Tryz.prog 25 F_laws_toDev := fn_sound (lp := f25P) tok mixed k25 (by kernel_rfl) (fn := Tryz.f25) (c := f25B) (sg := ⟨[.v true [(.sl 56 ts_s_u8), (.sl 173 ts_LWr), (.int .i64), .bool] [false, false, false, false]], [⟨true, [(.sl 56 ts_s_u8), (.sl 178 ts_Wr), (.int .i64), .bool], [true, true, false, false]⟩], false⟩) Tryz.func25 (by decide) (by kernel_rfl) (by kernel_rfl) (by kernel_rfl) (fun c' hc' => by
    rw [show loopsOf f25B = [] by kernel_rfl] at hc'
    cases hc') (by decide) (by decide) (fun x y h => (ev25 x).trans h)
noncomputable def F_laws_toStore (x : List E_s_u8 × List E_LWr × Int × Bool × List E_i64 × List E_LNode × List E_LAge × List E_LCell × List E_LVol × Int × Int × Int × Int) : Option (List E_s_u8 × List E_Wr × Int × Bool × List E_i64 × List E_Node × List E_Age × List E_Cell × List E_Vol × Int × Int × Int × Int) :=
  Option.bind (F_laws_toDev (x.1, x.2.1, x.2.2.1, x.2.2.2.1)) fun r1 => Option.bind (F_laws_toPool (x.2.2.2.2.1, x.2.2.2.2.2.1, x.2.2.2.2.2.2.1, x.2.2.2.2.2.2.2.1, x.2.2.2.2.2.2.2.2.1, x.2.2.2.2.2.2.2.2.2.1)) fun r2 => some (r1.1, r1.2.1, r1.2.2.1, r1.2.2.2, r2.1, r2.2.1, r2.2.2.1, r2.2.2.2.1, r2.2.2.2.2.1, r2.2.2.2.2.2, x.2.2.2.2.2.2.2.2.2.2.1, x.2.2.2.2.2.2.2.2.2.2.2.1, x.2.2.2.2.2.2.2.2.2.2.2.2)
noncomputable def f11B : Code := match Tryz.f11.body with
  | some c => c
  | none => .skip
noncomputable def f11K : C.Sem := tab [⟨16, F_laws_toPool⟩, ⟨25, F_laws_toDev⟩]
noncomputable def f11P : Lp := fun i s {_R} κ => none
theorem k11 : Contract C Tryz.prog f11K := contract_tab _ (fun p hp => by
    simp only [List.mem_cons, List.mem_nil_iff, or_false] at hp
    rcases hp with rfl | rfl
    · exact ok16
    · exact ok25)
theorem ev11 (x : List E_s_u8 × List E_LWr × Int × Bool × List E_i64 × List E_LNode × List E_LAge × List E_LCell × List E_LVol × Int × Int × Int × Int) : evalB C f11K f11P 11 Tryz.f11 f11B ⟨[.v true [(.sl 56 ts_s_u8), (.sl 173 ts_LWr), (.int .i64), .bool, (.sl 3 ts_i64), (.sl 205 ts_LNode), (.sl 158 ts_LAge), (.sl 160 ts_LCell), (.sl 150 ts_LVol), (.int .i64), (.int .i64), (.int .i64), (.int .i64)] [false, false, false, false, false, false, false, false, false, false, false, false, false]], [⟨true, [(.sl 56 ts_s_u8), (.sl 178 ts_Wr), (.int .i64), .bool, (.sl 3 ts_i64), (.sl 97 ts_Node), (.sl 88 ts_Age), (.sl 94 ts_Cell), (.sl 90 ts_Vol), (.int .i64), (.int .i64), (.int .i64), (.int .i64)], [true, true, false, false, true, true, true, true, true, false, false, false, false]⟩], false⟩ [(.sl 56 ts_s_u8), (.sl 173 ts_LWr), (.int .i64), .bool, (.sl 3 ts_i64), (.sl 205 ts_LNode), (.sl 158 ts_LAge), (.sl 160 ts_LCell), (.sl 150 ts_LVol), (.int .i64), (.int .i64), (.int .i64), (.int .i64)] [(.sl 56 ts_s_u8), (.sl 178 ts_Wr), (.int .i64), .bool, (.sl 3 ts_i64), (.sl 97 ts_Node), (.sl 88 ts_Age), (.sl 94 ts_Cell), (.sl 90 ts_Vol), (.int .i64), (.int .i64), (.int .i64), (.int .i64)] x = F_laws_toStore x := by kernel_rfl
theorem ok11 : ContractAt C Tryz.prog 11 F_laws_toStore := fn_sound (lp := f11P) tok mixed k11 (by kernel_rfl) (fn := Tryz.f11) (c := f11B) (sg := ⟨[.v true [(.sl 56 ts_s_u8), (.sl 173 ts_LWr), (.int .i64), .bool, (.sl 3 ts_i64), (.sl 205 ts_LNode), (.sl 158 ts_LAge), (.sl 160 ts_LCell), (.sl 150 ts_LVol), (.int .i64), (.int .i64), (.int .i64), (.int .i64)] [false, false, false, false, false, false, false, false, false, false, false, false, false]], [⟨true, [(.sl 56 ts_s_u8), (.sl 178 ts_Wr), (.int .i64), .bool, (.sl 3 ts_i64), (.sl 97 ts_Node), (.sl 88 ts_Age), (.sl 94 ts_Cell), (.sl 90 ts_Vol), (.int .i64), (.int .i64), (.int .i64), (.int .i64)], [true, true, false, false, true, true, true, true, true, false, false, false, false]⟩], false⟩) Tryz.func11 (by decide) (by kernel_rfl) (by kernel_rfl) (by kernel_rfl) (fun c' hc' => by
    rw [show loopsOf f11B = [] by kernel_rfl] at hc'
    cases hc') (by decide) (by decide) (fun x y h => (ev11 x).trans h)
noncomputable def F_impl_within (x : Int × Int × Int) : Option (Bool) :=
  Option.bind (bif (decide (x.1 ≥ x.2.1)) then some (decide (x.1 ≤ x.2.2)) else some false) fun u1 => some u1
noncomputable def f103B : Code := match Tryz.f103.body with
  | some c => c
  | none => .skip
noncomputable def f103K : C.Sem := tab []
noncomputable def f103P : Lp := fun i s {_R} κ => none
theorem k103 : Contract C Tryz.prog f103K := contract_tab _ (fun p hp => by cases hp)
theorem ev103 (x : Int × Int × Int) : evalB C f103K f103P 103 Tryz.f103 f103B ⟨[.v false [(.int .i64)] [false], .v false [(.int .i64)] [false], .v false [(.int .i64)] [false]], [⟨false, [.bool], [false]⟩], false⟩ [(.int .i64), (.int .i64), (.int .i64)] [.bool] x = F_impl_within x := by kernel_rfl
theorem ok103 : ContractAt C Tryz.prog 103 F_impl_within := fn_sound (lp := f103P) tok mixed k103 (by kernel_rfl) (fn := Tryz.f103) (c := f103B) (sg := ⟨[.v false [(.int .i64)] [false], .v false [(.int .i64)] [false], .v false [(.int .i64)] [false]], [⟨false, [.bool], [false]⟩], false⟩) Tryz.func103 (by decide) (by kernel_rfl) (by kernel_rfl) (by kernel_rfl) (fun c' hc' => by
    rw [show loopsOf f103B = [] by kernel_rfl] at hc'
    cases hc') (by decide) (by decide) (fun x y h => (ev103 x).trans h)
noncomputable def F_impl_KeyOk (x : Int × Int × Int × Int × Int) : Option (Bool) :=
  Option.bind (F_impl_within (x.1, (0 : Int), (15 : Int))) fun r1 => Option.bind (bif (!r1) then some true else Option.bind (F_impl_within (x.2.1, (1 : Int), (60 : Int))) fun r3 => some (!r3)) fun u2 => Option.bind (bif u2 then some true else Option.bind (F_impl_within (x.2.2.1, (0 : Int), (2 : Int))) fun r5 => some (!r5)) fun u4 => bif u4 then some false else bif (x.2.2.1 != (1 : Int)) then Option.bind (bif (x.2.2.2.1 == (0 : Int)) then some (x.2.2.2.2 == (0 : Int)) else some false) fun u6 => some u6 else Option.bind (F_impl_within (x.2.2.2.1, (0 : Int), (23 : Int))) fun r7 => Option.bind (bif r7 then Option.bind (F_impl_within (x.2.2.2.2, (0 : Int), (999 : Int))) fun r9 => some r9 else some false) fun u8 => some u8
noncomputable def f125B : Code := match Tryz.f125.body with
  | some c => c
  | none => .skip
noncomputable def f125K : C.Sem := tab [⟨103, F_impl_within⟩]
noncomputable def f125P : Lp := fun i s {_R} κ => none
theorem k125 : Contract C Tryz.prog f125K := contract_tab _ (fun p hp => by
    simp only [List.mem_cons, List.mem_nil_iff, or_false] at hp
    rcases hp with rfl
    · exact ok103)
theorem ev125 (x : Int × Int × Int × Int × Int) : evalB C f125K f125P 125 Tryz.f125 f125B ⟨[.v true [(.int .i64), (.int .i64), (.int .i64), (.int .i64), (.int .i64)] [false, false, false, false, false]], [⟨false, [.bool], [false]⟩], false⟩ [(.int .i64), (.int .i64), (.int .i64), (.int .i64), (.int .i64)] [.bool] x = F_impl_KeyOk x := by kernel_rfl
theorem ok125 : ContractAt C Tryz.prog 125 F_impl_KeyOk := fn_sound (lp := f125P) tok mixed k125 (by kernel_rfl) (fn := Tryz.f125) (c := f125B) (sg := ⟨[.v true [(.int .i64), (.int .i64), (.int .i64), (.int .i64), (.int .i64)] [false, false, false, false, false]], [⟨false, [.bool], [false]⟩], false⟩) Tryz.func125 (by decide) (by kernel_rfl) (by kernel_rfl) (by kernel_rfl) (fun c' hc' => by
    rw [show loopsOf f125B = [] by kernel_rfl] at hc'
    cases hc') (by decide) (by decide) (fun x y h => (ev125 x).trans h)
noncomputable def F_impl_LessKey (x : Int × Int × Int × Int × Int × Int × Int × Int × Int × Int) : Option (Bool) :=
  Option.bind (bif (decide (x.1 < x.2.2.2.2.2.1)) then some true else Option.bind (bif (x.1 == x.2.2.2.2.2.1) then some (decide (x.2.1 < x.2.2.2.2.2.2.1)) else some false) fun u2 => some u2) fun u1 => some u1
noncomputable def f260B : Code := match Tryz.f260.body with
  | some c => c
  | none => .skip
noncomputable def f260K : C.Sem := tab []
noncomputable def f260P : Lp := fun i s {_R} κ => none
theorem k260 : Contract C Tryz.prog f260K := contract_tab _ (fun p hp => by cases hp)
theorem ev260 (x : Int × Int × Int × Int × Int × Int × Int × Int × Int × Int) : evalB C f260K f260P 260 Tryz.f260 f260B ⟨[.v true [(.int .i64), (.int .i64), (.int .i64), (.int .i64), (.int .i64)] [false, false, false, false, false], .v true [(.int .i64), (.int .i64), (.int .i64), (.int .i64), (.int .i64)] [false, false, false, false, false]], [⟨false, [.bool], [false]⟩], false⟩ [(.int .i64), (.int .i64), (.int .i64), (.int .i64), (.int .i64), (.int .i64), (.int .i64), (.int .i64), (.int .i64), (.int .i64)] [.bool] x = F_impl_LessKey x := by kernel_rfl
theorem ok260 : ContractAt C Tryz.prog 260 F_impl_LessKey := fn_sound (lp := f260P) tok mixed k260 (by kernel_rfl) (fn := Tryz.f260) (c := f260B) (sg := ⟨[.v true [(.int .i64), (.int .i64), (.int .i64), (.int .i64), (.int .i64)] [false, false, false, false, false], .v true [(.int .i64), (.int .i64), (.int .i64), (.int .i64), (.int .i64)] [false, false, false, false, false]], [⟨false, [.bool], [false]⟩], false⟩) Tryz.func260 (by decide) (by kernel_rfl) (by kernel_rfl) (by kernel_rfl) (fun c' hc' => by
    rw [show loopsOf f260B = [] by kernel_rfl] at hc'
    cases hc') (by decide) (by decide) (fun x y h => (ev260 x).trans h)
abbrev T_impl_SetOk_2 : Type := List E_Key × List E_Key × Int × Int
noncomputable def S_impl_SetOk_2 {R : Type} (k0 : (List E_Key × Bool) → Option R) (k1 : List E_Key → Option R) (again : T_impl_SetOk_2 → Option R) (t2 : T_impl_SetOk_2) : Option R :=
  bif (decide (t2.2.2.2 < t2.2.2.1)) then if (0 : Int) ≤ t2.2.2.2 then if t2.2.2.2 < ((List.length t2.2.1 : Nat) : Int) then Option.bind (F_impl_KeyOk ((rd_Key t2.2.1 t2.2.2.2).1, (rd_Key t2.2.1 t2.2.2.2).2.1, (rd_Key t2.2.1 t2.2.2.2).2.2.1, (rd_Key t2.2.1 t2.2.2.2).2.2.2.1, (rd_Key t2.2.1 t2.2.2.2).2.2.2.2)) fun r1 => Option.bind (bif (!r1) then some true else Option.bind (bif (decide (t2.2.2.2 > (0 : Int))) then if (0 : Int) ≤ (Go.IntKind.wrap .i64 (t2.2.2.2 - (1 : Int))) then if (Go.IntKind.wrap .i64 (t2.2.2.2 - (1 : Int))) < ((List.length t2.1 : Nat) : Int) then Option.bind (F_impl_LessKey ((rd_Key t2.1 (Go.IntKind.wrap .i64 (t2.2.2.2 - (1 : Int)))).1, (rd_Key t2.1 (Go.IntKind.wrap .i64 (t2.2.2.2 - (1 : Int)))).2.1, (rd_Key t2.1 (Go.IntKind.wrap .i64 (t2.2.2.2 - (1 : Int)))).2.2.1, (rd_Key t2.1 (Go.IntKind.wrap .i64 (t2.2.2.2 - (1 : Int)))).2.2.2.1, (rd_Key t2.1 (Go.IntKind.wrap .i64 (t2.2.2.2 - (1 : Int)))).2.2.2.2, (rd_Key t2.2.1 t2.2.2.2).1, (rd_Key t2.2.1 t2.2.2.2).2.1, (rd_Key t2.2.1 t2.2.2.2).2.2.1, (rd_Key t2.2.1 t2.2.2.2).2.2.2.1, (rd_Key t2.2.1 t2.2.2.2).2.2.2.2)) fun r4 => some (!r4) else none else none else some false) fun u3 => some u3) fun u2 => bif u2 then k0 (t2.1, false) else again (t2.1, t2.2.1, t2.2.2.1, (Go.IntKind.wrap .i64 (t2.2.2.2 + (1 : Int)))) else none else none else k1 t2.1
noncomputable def L_impl_SetOk_2 {R : Type} (k0 : (List E_Key × Bool) → Option R) (k1 : List E_Key → Option R) (t : T_impl_SetOk_2) : Option R := iter (S_impl_SetOk_2 k0 k1) FUEL t
noncomputable def F_impl_SetOk (x : List E_Key) : Option (Bool) :=
  L_impl_SetOk_2 (fun x5 => some x5.2) (fun x6 => some (decide (((List.length x6 : Nat) : Int) ≤ (60 : Int)))) (x, x, ((List.length x : Nat) : Int), (0 : Int))
noncomputable def f225B : Code := match Tryz.f225.body with
  | some c => c
  | none => .skip
noncomputable def f225K : C.Sem := tab [⟨125, F_impl_KeyOk⟩, ⟨260, F_impl_LessKey⟩]
def f225h2_0 : List Sh := [.v (.sl 105 ts_Key), .dead, .dead, .dead, .dead, .v (.sl 105 ts_Key), .v (.int .i64), .v (.int .i64), .dead, .dead, .dead, .dead, .dead, .dead, .dead, .dead, .dead, .dead, .dead, .dead, .dead, .dead, .dead, .dead, .dead, .dead, .dead, .dead, .dead, .dead, .dead, .dead, .dead]
def f225o2_0 : List (Nat × OSh) := []
def f225e2_0 (t : List E_Key × List E_Key × Int × Int) : St := ⟨[.val (.sl 105 ts_Key) t.1, .dead, .dead, .dead, .dead, .val (.sl 105 ts_Key) t.2.1, .val (.int .i64) t.2.2.1, .val (.int .i64) t.2.2.2, .dead, .dead, .dead, .dead, .dead, .dead, .dead, .dead, .dead, .dead, .dead, .dead, .dead, .dead, .dead, .dead, .dead, .dead, .dead, .dead, .dead, .dead, .dead, .dead, .dead], []⟩
def f225x2_0 (t : List E_Key × Bool) : St := ⟨[.val (.sl 105 ts_Key) t.1, .dead, .val .bool t.2, .dead, .dead, .dead, .dead, .dead, .dead, .dead, .dead, .dead, .dead, .dead, .dead, .dead, .dead, .dead, .dead, .dead, .dead, .dead, .dead, .dead, .dead, .dead, .dead, .dead, .dead, .dead, .dead, .dead, .dead], []⟩
def f225x2_1 (t : List E_Key) : St := ⟨[.val (.sl 105 ts_Key) t, .dead, .dead, .dead, .dead, .dead, .dead, .dead, .dead, .dead, .dead, .dead, .dead, .dead, .dead, .dead, .dead, .dead, .dead, .dead, .dead, .dead, .dead, .dead, .dead, .dead, .dead, .dead, .dead, .dead, .dead, .dead, .dead], []⟩
def f225u2_0 (s : St) : Option (List E_Key × List E_Key × Int × Int) := (unS f225h2_0 f225o2_0 s).map fun v => (v.1.1, v.1.2.2.2.2.2.1, v.1.2.2.2.2.2.2.1, v.1.2.2.2.2.2.2.2.1)
theorem f225un2_0 : ∀ (s : St) (t : List E_Key × List E_Key × Int × Int), f225u2_0 s = some t → f225e2_0 t = s := fun s v h => by
  obtain ⟨u, hu, rfl⟩ := Option.map_eq_some_iff.1 h
  exact (show f225e2_0 (u.1.1, u.1.2.2.2.2.2.1, u.1.2.2.2.2.2.2.1, u.1.2.2.2.2.2.2.2.1) = mkS f225h2_0 f225o2_0 u by kernel_rfl).trans (mkS_un f225h2_0 f225o2_0 s u hu)
def f225u2 : St → Option (List E_Key × List E_Key × Int × Int) := f225u2_0
def f225e2 : (List E_Key × List E_Key × Int × Int) → St := f225e2_0
theorem f225un2 : ∀ (s : St) (t : List E_Key × List E_Key × Int × Int), f225u2 s = some t → f225e2 t = s := f225un2_0
noncomputable def f225P : Lp := fun i s {_R} κ => bif Nat.beq i 2 then (f225u2 s).bind fun t => L_impl_SetOk_2 (fun t => κ (none) (f225x2_0 t)) (fun t => κ (some 0) (f225x2_1 t)) t else none
noncomputable def f225c2 : Code := (loopsOf f225B).getD 0 .skip
theorem f225A2 : C.live 225 (firstRegion f225c2) = some ([0, 5, 6, 7, 16, 17, 18, 19, 20, 21, 22, 23, 24, 25, 26, 27], [0, 2]) := by kernel_rfl
theorem f225B2 {R : Type} (κ : Option Nat → St → Option R) (s : St) : f225P (firstRegion f225c2) s κ = (f225u2 s).bind fun t => iter (S_impl_SetOk_2 (fun t => κ (none) (f225x2_0 t)) (fun t => κ (some 0) (f225x2_1 t))) FUEL t := by kernel_rfl
theorem f225C2 {R : Type} (κ : Option Nat → St → Option R) (again : St → Option R) (t : T_impl_SetOk_2) : stepL C f225K f225P 225 f225c2 [0, 5, 6, 7, 16, 17, 18, 19, 20, 21, 22, 23, 24, 25, 26, 27] [0, 2] κ again (f225e2 t) = S_impl_SetOk_2 (fun t => κ (none) (f225x2_0 t)) (fun t => κ (some 0) (f225x2_1 t)) (fun t => again (f225e2 t)) t := by kernel_rfl
theorem f225ok2 : LoopOk C f225K f225P 225 f225c2 := loop_ok f225A2 f225e2 f225u2 f225un2 (fun {_R} κ => S_impl_SetOk_2 (fun t => κ (none) (f225x2_0 t)) (fun t => κ (some 0) (f225x2_1 t))) (fun {_R} κ s => f225B2 κ s) (fun {_R} κ again t => f225C2 κ again t)
theorem k225 : Contract C Tryz.prog f225K := contract_tab _ (fun p hp => by
    simp only [List.mem_cons, List.mem_nil_iff, or_false] at hp
    rcases hp with rfl | rfl
    · exact ok125
    · exact ok260)
theorem ev225 (x : List E_Key) : evalB C f225K f225P 225 Tryz.f225 f225B ⟨[.v false [(.sl 105 ts_Key)] [false]], [⟨false, [.bool], [false]⟩], false⟩ [(.sl 105 ts_Key)] [.bool] x = F_impl_SetOk x := by kernel_rfl
theorem ok225 : ContractAt C Tryz.prog 225 F_impl_SetOk := fn_sound (lp := f225P) tok mixed k225 (by kernel_rfl) (fn := Tryz.f225) (c := f225B) (sg := ⟨[.v false [(.sl 105 ts_Key)] [false]], [⟨false, [.bool], [false]⟩], false⟩) Tryz.func225 (by decide) (by kernel_rfl) (by kernel_rfl) (by kernel_rfl) (fun c' hc' => by
    rw [show loopsOf f225B = [f225c2] by kernel_rfl] at hc'
    simp only [List.mem_cons, List.mem_nil_iff, or_false] at hc'
    rcases hc' with rfl
    · exact f225ok2) (by decide) (by decide) (fun x y h => (ev225 x).trans h)
abbrev T_impl_NodeOk_3 : Type := Int × List E_s_Key × Int × Int × List E_s_Key
noncomputable def S_impl_NodeOk_3 {R : Type} (k0 : (Bool × Int × List E_s_Key) → Option R) (k1 : (Int × List E_s_Key) → Option R) (again : T_impl_NodeOk_3 → Option R) (t3 : T_impl_NodeOk_3) : Option R :=
  bif (decide (t3.2.2.2.1 < t3.2.2.1)) then if (0 : Int) ≤ t3.2.2.2.1 then if t3.2.2.2.1 < ((List.length t3.2.1 : Nat) : Int) then Option.bind (F_impl_SetOk (rd_s_Key t3.2.1 t3.2.2.2.1)) fun r1 => Option.bind (bif (!r1) then some true else some (((List.length (rd_s_Key t3.2.1 t3.2.2.2.1) : Nat) : Int) == (0 : Int))) fun u2 => bif u2 then k0 (false, t3.1, t3.2.2.2.2) else again ((Go.IntKind.wrap .i64 (t3.1 + ((List.length (rd_s_Key t3.2.1 t3.2.2.2.1) : Nat) : Int))), t3.2.1, t3.2.2.1, (Go.IntKind.wrap .i64 (t3.2.2.2.1 + (1 : Int))), t3.2.2.2.2) else none else none else k1 (t3.1, t3.2.2.2.2)
noncomputable def L_impl_NodeOk_3 {R : Type} (k0 : (Bool × Int × List E_s_Key) → Option R) (k1 : (Int × List E_s_Key) → Option R) (t : T_impl_NodeOk_3) : Option R := iter (S_impl_NodeOk_3 k0 k1) FUEL t
noncomputable def F_impl_NodeOk (x : List E_s_Key) : Option (Bool) :=
  L_impl_NodeOk_3 (fun x3 => some x3.1) (fun x4 => Option.bind (bif (decide (((List.length x4.2 : Nat) : Int) ≤ (3 : Int))) then some (decide (x4.1 ≤ (8 : Int))) else some false) fun u5 => some u5) ((0 : Int), x, ((List.length x : Nat) : Int), (0 : Int), x)
noncomputable def f183B : Code := match Tryz.f183.body with
  | some c => c
  | none => .skip
noncomputable def f183K : C.Sem := tab [⟨225, F_impl_SetOk⟩]
def f183h3_0 : List Sh := [.dead, .box 1 0, .dead, .v (.int .i64), .dead, .dead, .dead, .v (.sl 99 ts_s_Key), .v (.int .i64), .v (.int .i64), .dead, .dead, .dead, .dead, .dead, .dead, .dead, .dead, .dead, .dead, .dead, .dead, .dead, .dead, .dead, .dead, .dead, .dead, .dead, .dead, .dead, .dead, .dead, .dead]
def f183o3_0 : List (Nat × OSh) := [(1, .box [.v (.sl 99 ts_s_Key)])]
def f183e3_0 (t : Int × List E_s_Key × Int × Int × List E_s_Key) : St := ⟨[.dead, .box 1 0, .dead, .val (.int .i64) t.1, .dead, .dead, .dead, .val (.sl 99 ts_s_Key) t.2.1, .val (.int .i64) t.2.2.1, .val (.int .i64) t.2.2.2.1, .dead, .dead, .dead, .dead, .dead, .dead, .dead, .dead, .dead, .dead, .dead, .dead, .dead, .dead, .dead, .dead, .dead, .dead, .dead, .dead, .dead, .dead, .dead, .dead], [(1, .box [.val (.sl 99 ts_s_Key) t.2.2.2.2])]⟩
def f183x3_0 (t : Bool × Int × List E_s_Key) : St := ⟨[.dead, .box 1 0, .val .bool t.1, .val (.int .i64) t.2.1, .dead, .dead, .dead, .dead, .dead, .dead, .dead, .dead, .dead, .dead, .dead, .dead, .dead, .dead, .dead, .dead, .dead, .dead, .dead, .dead, .dead, .dead, .dead, .dead, .dead, .dead, .dead, .dead, .dead, .dead], [(1, .box [.val (.sl 99 ts_s_Key) t.2.2])]⟩
def f183x3_1 (t : Int × List E_s_Key) : St := ⟨[.dead, .box 1 0, .dead, .val (.int .i64) t.1, .dead, .dead, .dead, .dead, .dead, .dead, .dead, .dead, .dead, .dead, .dead, .dead, .dead, .dead, .dead, .dead, .dead, .dead, .dead, .dead, .dead, .dead, .dead, .dead, .dead, .dead, .dead, .dead, .dead, .dead], [(1, .box [.val (.sl 99 ts_s_Key) t.2])]⟩
def f183u3_0 (s : St) : Option (Int × List E_s_Key × Int × Int × List E_s_Key) := (unS f183h3_0 f183o3_0 s).map fun v => (v.1.2.2.2.1, v.1.2.2.2.2.2.2.2.1, v.1.2.2.2.2.2.2.2.2.1, v.1.2.2.2.2.2.2.2.2.2.1, v.2.1.1)
theorem f183un3_0 : ∀ (s : St) (t : Int × List E_s_Key × Int × Int × List E_s_Key), f183u3_0 s = some t → f183e3_0 t = s := fun s v h => by
  obtain ⟨u, hu, rfl⟩ := Option.map_eq_some_iff.1 h
  exact (show f183e3_0 (u.1.2.2.2.1, u.1.2.2.2.2.2.2.2.1, u.1.2.2.2.2.2.2.2.2.1, u.1.2.2.2.2.2.2.2.2.2.1, u.2.1.1) = mkS f183h3_0 f183o3_0 u by kernel_rfl).trans (mkS_un f183h3_0 f183o3_0 s u hu)
def f183u3 : St → Option (Int × List E_s_Key × Int × Int × List E_s_Key) := f183u3_0
def f183e3 : (Int × List E_s_Key × Int × Int × List E_s_Key) → St := f183e3_0
theorem f183un3 : ∀ (s : St) (t : Int × List E_s_Key × Int × Int × List E_s_Key), f183u3 s = some t → f183e3 t = s := f183un3_0
noncomputable def f183P : Lp := fun i s {_R} κ => bif Nat.beq i 3 then (f183u3 s).bind fun t => L_impl_NodeOk_3 (fun t => κ (none) (f183x3_0 t)) (fun t => κ (some 0) (f183x3_1 t)) t else none
noncomputable def f183c3 : Code := (loopsOf f183B).getD 0 .skip
theorem f183A3 : C.live 183 (firstRegion f183c3) = some ([1, 3, 7, 8, 9, 17, 18, 19, 31, 32], [1, 2, 3, 31, 32]) := by kernel_rfl
theorem f183B3 {R : Type} (κ : Option Nat → St → Option R) (s : St) : f183P (firstRegion f183c3) s κ = (f183u3 s).bind fun t => iter (S_impl_NodeOk_3 (fun t => κ (none) (f183x3_0 t)) (fun t => κ (some 0) (f183x3_1 t))) FUEL t := by kernel_rfl
theorem f183C3 {R : Type} (κ : Option Nat → St → Option R) (again : St → Option R) (t : T_impl_NodeOk_3) : stepL C f183K f183P 183 f183c3 [1, 3, 7, 8, 9, 17, 18, 19, 31, 32] [1, 2, 3, 31, 32] κ again (f183e3 t) = S_impl_NodeOk_3 (fun t => κ (none) (f183x3_0 t)) (fun t => κ (some 0) (f183x3_1 t)) (fun t => again (f183e3 t)) t := by kernel_rfl
theorem f183ok3 : LoopOk C f183K f183P 183 f183c3 := loop_ok f183A3 f183e3 f183u3 f183un3 (fun {_R} κ => S_impl_NodeOk_3 (fun t => κ (none) (f183x3_0 t)) (fun t => κ (some 0) (f183x3_1 t))) (fun {_R} κ s => f183B3 κ s) (fun {_R} κ again t => f183C3 κ again t)
theorem k183 : Contract C Tryz.prog f183K := contract_tab _ (fun p hp => by
    simp only [List.mem_cons, List.mem_nil_iff, or_false] at hp
    rcases hp with rfl
    · exact ok225)
theorem ev183 (x : List E_s_Key) : evalB C f183K f183P 183 Tryz.f183 f183B ⟨[.v true [(.sl 99 ts_s_Key)] [false]], [⟨false, [.bool], [false]⟩], false⟩ [(.sl 99 ts_s_Key)] [.bool] x = F_impl_NodeOk x := by kernel_rfl
theorem ok183 : ContractAt C Tryz.prog 183 F_impl_NodeOk := fn_sound (lp := f183P) tok mixed k183 (by kernel_rfl) (fn := Tryz.f183) (c := f183B) (sg := ⟨[.v true [(.sl 99 ts_s_Key)] [false]], [⟨false, [.bool], [false]⟩], false⟩) Tryz.func183 (by decide) (by kernel_rfl) (by kernel_rfl) (by kernel_rfl) (fun c' hc' => by
    rw [show loopsOf f183B = [f183c3] by kernel_rfl] at hc'
    simp only [List.mem_cons, List.mem_nil_iff, or_false] at hc'
    rcases hc' with rfl
    · exact f183ok3) (by decide) (by decide) (fun x y h => (ev183 x).trans h)
noncomputable def F_impl_SpotOf (x : Int × Int) : Option (Int) :=
  some (Go.IntKind.wrap .i64 ((Go.IntKind.wrap .i64 ((64 : Int) * x.1)) + x.2))
noncomputable def f226B : Code := match Tryz.f226.body with
  | some c => c
  | none => .skip
noncomputable def f226K : C.Sem := tab []
noncomputable def f226P : Lp := fun i s {_R} κ => none
theorem k226 : Contract C Tryz.prog f226K := contract_tab _ (fun p hp => by cases hp)
theorem ev226 (x : Int × Int) : evalB C f226K f226P 226 Tryz.f226 f226B ⟨[.v false [(.int .i64)] [false], .v false [(.int .i64)] [false]], [⟨false, [(.int .i64)], [false]⟩], false⟩ [(.int .i64), (.int .i64)] [(.int .i64)] x = F_impl_SpotOf x := by kernel_rfl
theorem ok226 : ContractAt C Tryz.prog 226 F_impl_SpotOf := fn_sound (lp := f226P) tok mixed k226 (by kernel_rfl) (fn := Tryz.f226) (c := f226B) (sg := ⟨[.v false [(.int .i64)] [false], .v false [(.int .i64)] [false]], [⟨false, [(.int .i64)], [false]⟩], false⟩) Tryz.func226 (by decide) (by kernel_rfl) (by kernel_rfl) (by kernel_rfl) (fun c' hc' => by
    rw [show loopsOf f226B = [] by kernel_rfl] at hc'
    cases hc') (by decide) (by decide) (fun x y h => (ev226 x).trans h)
abbrev T_impl_inBounds_5 : Type := Int × List E_s_Key × Int × Int × List E_Key × Int × Int × List E_i64 × List E_Node
noncomputable def S_impl_inBounds_5 {R : Type} (k0 : (Int × Bool × List E_s_Key × Int × Int × List E_i64 × List E_Node) → Option R) (k1 : (Int × List E_s_Key × Int × Int × List E_i64 × List E_Node) → Option R) (again : T_impl_inBounds_5 → Option R) (t5 : T_impl_inBounds_5) : Option R :=
  bif (decide (t5.2.2.2.2.2.2.1 < t5.2.2.2.2.2.1)) then if (0 : Int) ≤ t5.2.2.2.2.2.2.1 then if t5.2.2.2.2.2.2.1 < ((List.length t5.2.2.2.2.1 : Nat) : Int) then Option.bind (F_impl_SpotOf ((rd_Key t5.2.2.2.2.1 t5.2.2.2.2.2.2.1).1, (rd_Key t5.2.2.2.2.1 t5.2.2.2.2.2.2.1).2.1)) fun r1 => if (0 : Int) ≤ t5.1 then if t5.1 < ((List.length t5.2.2.2.2.2.2.2.1 : Nat) : Int) then Option.bind (bif (decide (r1 < (rd_i64 t5.2.2.2.2.2.2.2.1 t5.1))) then some true else Option.bind (bif (decide ((Go.IntKind.wrap .i64 (t5.1 + (1 : Int))) < ((List.length t5.2.2.2.2.2.2.2.1 : Nat) : Int))) then if (0 : Int) ≤ (Go.IntKind.wrap .i64 (t5.1 + (1 : Int))) then if (Go.IntKind.wrap .i64 (t5.1 + (1 : Int))) < ((List.length t5.2.2.2.2.2.2.2.1 : Nat) : Int) then some (decide (r1 ≥ (rd_i64 t5.2.2.2.2.2.2.2.1 (Go.IntKind.wrap .i64 (t5.1 + (1 : Int)))))) else none else none else some false) fun u3 => some u3) fun u2 => bif u2 then k0 (t5.1, false, t5.2.1, t5.2.2.1, t5.2.2.2.1, t5.2.2.2.2.2.2.2.1, t5.2.2.2.2.2.2.2.2) else again (t5.1, t5.2.1, t5.2.2.1, t5.2.2.2.1, t5.2.2.2.2.1, t5.2.2.2.2.2.1, (Go.IntKind.wrap .i64 (t5.2.2.2.2.2.2.1 + (1 : Int))), t5.2.2.2.2.2.2.2.1, t5.2.2.2.2.2.2.2.2) else none else none else none else none else k1 (t5.1, t5.2.1, t5.2.2.1, t5.2.2.2.1, t5.2.2.2.2.2.2.2.1, t5.2.2.2.2.2.2.2.2)
noncomputable def L_impl_inBounds_5 {R : Type} (k0 : (Int × Bool × List E_s_Key × Int × Int × List E_i64 × List E_Node) → Option R) (k1 : (Int × List E_s_Key × Int × Int × List E_i64 × List E_Node) → Option R) (t : T_impl_inBounds_5) : Option R := iter (S_impl_inBounds_5 k0 k1) FUEL t
abbrev T_impl_inBounds_2 : Type := Int × List E_s_Key × Int × Int × List E_i64 × List E_Node
noncomputable def S_impl_inBounds_2 {R : Type} (k0 : Bool → Option R) (k1 : Unit → Option R) (again : T_impl_inBounds_2 → Option R) (t2 : T_impl_inBounds_2) : Option R :=
  bif (decide (t2.2.2.2.1 < t2.2.2.1)) then if (0 : Int) ≤ t2.2.2.2.1 then if t2.2.2.2.1 < ((List.length t2.2.1 : Nat) : Int) then L_impl_inBounds_5 (fun x4 => k0 x4.2.1) (fun x5 => again (x5.1, x5.2.1, x5.2.2.1, (Go.IntKind.wrap .i64 (x5.2.2.2.1 + (1 : Int))), x5.2.2.2.2.1, x5.2.2.2.2.2)) (t2.1, t2.2.1, t2.2.2.1, t2.2.2.2.1, (rd_s_Key t2.2.1 t2.2.2.2.1), ((List.length (rd_s_Key t2.2.1 t2.2.2.2.1) : Nat) : Int), (0 : Int), t2.2.2.2.2.1, t2.2.2.2.2.2) else none else none else k1 ()
noncomputable def L_impl_inBounds_2 {R : Type} (k0 : Bool → Option R) (k1 : Unit → Option R) (t : T_impl_inBounds_2) : Option R := iter (S_impl_inBounds_2 k0 k1) FUEL t
noncomputable def F_impl_inBounds (x : List E_i64 × List E_Node × Int) : Option (Bool) :=
  if (0 : Int) ≤ x.2.2 then if x.2.2 < ((List.length x.2.1 : Nat) : Int) then L_impl_inBounds_2 (fun x6 => some x6) (fun x7 => some true) (x.2.2, (rd_Node x.2.1 x.2.2), ((List.length (rd_Node x.2.1 x.2.2) : Nat) : Int), (0 : Int), x.1, x.2.1) else none else none
noncomputable def f184B : Code := match Tryz.f184.body with
  | some c => c
  | none => .skip
noncomputable def f184K : C.Sem := tab [⟨226, F_impl_SpotOf⟩]
def f184h5_0 : List Sh := [.dead, .v (.int .i64), .box 2 0, .dead, .dead, .dead, .dead, .dead, .dead, .dead, .dead, .dead, .dead, .dead, .dead, .v (.sl 99 ts_s_Key), .v (.int .i64), .v (.int .i64), .dead, .dead, .dead, .v (.sl 105 ts_Key), .v (.int .i64), .v (.int .i64), .dead, .dead, .dead, .dead, .dead, .dead, .dead, .dead, .dead, .dead, .dead, .dead, .dead, .dead, .dead, .dead, .dead, .dead, .dead, .dead, .dead, .dead, .dead, .dead, .dead, .dead, .dead, .dead, .dead, .dead, .dead, .dead, .dead, .dead, .dead]
def f184o5_0 : List (Nat × OSh) := [(2, .box [.v (.sl 3 ts_i64), .v (.sl 97 ts_Node)])]
def f184e5_0 (t : Int × List E_s_Key × Int × Int × List E_Key × Int × Int × List E_i64 × List E_Node) : St := ⟨[.dead, .val (.int .i64) t.1, .box 2 0, .dead, .dead, .dead, .dead, .dead, .dead, .dead, .dead, .dead, .dead, .dead, .dead, .val (.sl 99 ts_s_Key) t.2.1, .val (.int .i64) t.2.2.1, .val (.int .i64) t.2.2.2.1, .dead, .dead, .dead, .val (.sl 105 ts_Key) t.2.2.2.2.1, .val (.int .i64) t.2.2.2.2.2.1, .val (.int .i64) t.2.2.2.2.2.2.1, .dead, .dead, .dead, .dead, .dead, .dead, .dead, .dead, .dead, .dead, .dead, .dead, .dead, .dead, .dead, .dead, .dead, .dead, .dead, .dead, .dead, .dead, .dead, .dead, .dead, .dead, .dead, .dead, .dead, .dead, .dead, .dead, .dead, .dead, .dead], [(2, .box [.val (.sl 3 ts_i64) t.2.2.2.2.2.2.2.1, .val (.sl 97 ts_Node) t.2.2.2.2.2.2.2.2])]⟩
def f184x5_0 (t : Int × Bool × List E_s_Key × Int × Int × List E_i64 × List E_Node) : St := ⟨[.dead, .val (.int .i64) t.1, .box 2 0, .dead, .val .bool t.2.1, .dead, .dead, .dead, .dead, .dead, .dead, .dead, .dead, .dead, .dead, .val (.sl 99 ts_s_Key) t.2.2.1, .val (.int .i64) t.2.2.2.1, .val (.int .i64) t.2.2.2.2.1, .dead, .dead, .dead, .dead, .dead, .dead, .dead, .dead, .dead, .dead, .dead, .dead, .dead, .dead, .dead, .dead, .dead, .dead, .dead, .dead, .dead, .dead, .dead, .dead, .dead, .dead, .dead, .dead, .dead, .dead, .dead, .dead, .dead, .dead, .dead, .dead, .dead, .dead, .dead, .dead, .dead], [(2, .box [.val (.sl 3 ts_i64) t.2.2.2.2.2.1, .val (.sl 97 ts_Node) t.2.2.2.2.2.2])]⟩
def f184x5_1 (t : Int × List E_s_Key × Int × Int × List E_i64 × List E_Node) : St := ⟨[.dead, .val (.int .i64) t.1, .box 2 0, .dead, .dead, .dead, .dead, .dead, .dead, .dead, .dead, .dead, .dead, .dead, .dead, .val (.sl 99 ts_s_Key) t.2.1, .val (.int .i64) t.2.2.1, .val (.int .i64) t.2.2.2.1, .dead, .dead, .dead, .dead, .dead, .dead, .dead, .dead, .dead, .dead, .dead, .dead, .dead, .dead, .dead, .dead, .dead, .dead, .dead, .dead, .dead, .dead, .dead, .dead, .dead, .dead, .dead, .dead, .dead, .dead, .dead, .dead, .dead, .dead, .dead, .dead, .dead, .dead, .dead, .dead, .dead], [(2, .box [.val (.sl 3 ts_i64) t.2.2.2.2.1, .val (.sl 97 ts_Node) t.2.2.2.2.2])]⟩
def f184u5_0 (s : St) : Option (Int × List E_s_Key × Int × Int × List E_Key × Int × Int × List E_i64 × List E_Node) := (unS f184h5_0 f184o5_0 s).map fun v => (v.1.2.1, v.1.2.2.2.2.2.2.2.2.2.2.2.2.2.2.2.1, v.1.2.2.2.2.2.2.2.2.2.2.2.2.2.2.2.2.1, v.1.2.2.2.2.2.2.2.2.2.2.2.2.2.2.2.2.2.1, v.1.2.2.2.2.2.2.2.2.2.2.2.2.2.2.2.2.2.2.2.2.2.1, v.1.2.2.2.2.2.2.2.2.2.2.2.2.2.2.2.2.2.2.2.2.2.2.1, v.1.2.2.2.2.2.2.2.2.2.2.2.2.2.2.2.2.2.2.2.2.2.2.2.1, v.2.1.1, v.2.1.2.1)
theorem f184un5_0 : ∀ (s : St) (t : Int × List E_s_Key × Int × Int × List E_Key × Int × Int × List E_i64 × List E_Node), f184u5_0 s = some t → f184e5_0 t = s := fun s v h => by
  obtain ⟨u, hu, rfl⟩ := Option.map_eq_some_iff.1 h
  exact (show f184e5_0 (u.1.2.1, u.1.2.2.2.2.2.2.2.2.2.2.2.2.2.2.2.1, u.1.2.2.2.2.2.2.2.2.2.2.2.2.2.2.2.2.1, u.1.2.2.2.2.2.2.2.2.2.2.2.2.2.2.2.2.2.1, u.1.2.2.2.2.2.2.2.2.2.2.2.2.2.2.2.2.2.2.2.2.2.1, u.1.2.2.2.2.2.2.2.2.2.2.2.2.2.2.2.2.2.2.2.2.2.2.1, u.1.2.2.2.2.2.2.2.2.2.2.2.2.2.2.2.2.2.2.2.2.2.2.2.1, u.2.1.1, u.2.1.2.1) = mkS f184h5_0 f184o5_0 u by kernel_rfl).trans (mkS_un f184h5_0 f184o5_0 s u hu)
def f184u5 : St → Option (Int × List E_s_Key × Int × Int × List E_Key × Int × Int × List E_i64 × List E_Node) := f184u5_0
def f184e5 : (Int × List E_s_Key × Int × Int × List E_Key × Int × Int × List E_i64 × List E_Node) → St := f184e5_0
theorem f184un5 : ∀ (s : St) (t : Int × List E_s_Key × Int × Int × List E_Key × Int × Int × List E_i64 × List E_Node), f184u5 s = some t → f184e5 t = s := f184un5_0
def f184h2_0 : List Sh := [.dead, .v (.int .i64), .box 2 0, .dead, .dead, .dead, .dead, .dead, .dead, .dead, .dead, .dead, .dead, .dead, .dead, .v (.sl 99 ts_s_Key), .v (.int .i64), .v (.int .i64), .dead, .dead, .dead, .dead, .dead, .dead, .dead, .dead, .dead, .dead, .dead, .dead, .dead, .dead, .dead, .dead, .dead, .dead, .dead, .dead, .dead, .dead, .dead, .dead, .dead, .dead, .dead, .dead, .dead, .dead, .dead, .dead, .dead, .dead, .dead, .dead, .dead, .dead, .dead, .dead, .dead]
def f184o2_0 : List (Nat × OSh) := [(2, .box [.v (.sl 3 ts_i64), .v (.sl 97 ts_Node)])]
def f184e2_0 (t : Int × List E_s_Key × Int × Int × List E_i64 × List E_Node) : St := ⟨[.dead, .val (.int .i64) t.1, .box 2 0, .dead, .dead, .dead, .dead, .dead, .dead, .dead, .dead, .dead, .dead, .dead, .dead, .val (.sl 99 ts_s_Key) t.2.1, .val (.int .i64) t.2.2.1, .val (.int .i64) t.2.2.2.1, .dead, .dead, .dead, .dead, .dead, .dead, .dead, .dead, .dead, .dead, .dead, .dead, .dead, .dead, .dead, .dead, .dead, .dead, .dead, .dead, .dead, .dead, .dead, .dead, .dead, .dead, .dead, .dead, .dead, .dead, .dead, .dead, .dead, .dead, .dead, .dead, .dead, .dead, .dead, .dead, .dead], [(2, .box [.val (.sl 3 ts_i64) t.2.2.2.2.1, .val (.sl 97 ts_Node) t.2.2.2.2.2])]⟩
def f184x2_0 (t : Bool) : St := ⟨[.dead, .dead, .dead, .dead, .val .bool t, .dead, .dead, .dead, .dead, .dead, .dead, .dead, .dead, .dead, .dead, .dead, .dead, .dead, .dead, .dead, .dead, .dead, .dead, .dead, .dead, .dead, .dead, .dead, .dead, .dead, .dead, .dead, .dead, .dead, .dead, .dead, .dead, .dead, .dead, .dead, .dead, .dead, .dead, .dead, .dead, .dead, .dead, .dead, .dead, .dead, .dead, .dead, .dead, .dead, .dead, .dead, .dead, .dead, .dead], []⟩
def f184x2_1 (t : Unit) : St := ⟨[.dead, .dead, .dead, .dead, .dead, .dead, .dead, .dead, .dead, .dead, .dead, .dead, .dead, .dead, .dead, .dead, .dead, .dead, .dead, .dead, .dead, .dead, .dead, .dead, .dead, .dead, .dead, .dead, .dead, .dead, .dead, .dead, .dead, .dead, .dead, .dead, .dead, .dead, .dead, .dead, .dead, .dead, .dead, .dead, .dead, .dead, .dead, .dead, .dead, .dead, .dead, .dead, .dead, .dead, .dead, .dead, .dead, .dead, .dead], []⟩
def f184u2_0 (s : St) : Option (Int × List E_s_Key × Int × Int × List E_i64 × List E_Node) := (unS f184h2_0 f184o2_0 s).map fun v => (v.1.2.1, v.1.2.2.2.2.2.2.2.2.2.2.2.2.2.2.2.1, v.1.2.2.2.2.2.2.2.2.2.2.2.2.2.2.2.2.1, v.1.2.2.2.2.2.2.2.2.2.2.2.2.2.2.2.2.2.1, v.2.1.1, v.2.1.2.1)
theorem f184un2_0 : ∀ (s : St) (t : Int × List E_s_Key × Int × Int × List E_i64 × List E_Node), f184u2_0 s = some t → f184e2_0 t = s := fun s v h => by
  obtain ⟨u, hu, rfl⟩ := Option.map_eq_some_iff.1 h
  exact (show f184e2_0 (u.1.2.1, u.1.2.2.2.2.2.2.2.2.2.2.2.2.2.2.2.1, u.1.2.2.2.2.2.2.2.2.2.2.2.2.2.2.2.2.1, u.1.2.2.2.2.2.2.2.2.2.2.2.2.2.2.2.2.2.1, u.2.1.1, u.2.1.2.1) = mkS f184h2_0 f184o2_0 u by kernel_rfl).trans (mkS_un f184h2_0 f184o2_0 s u hu)
def f184u2 : St → Option (Int × List E_s_Key × Int × Int × List E_i64 × List E_Node) := f184u2_0
def f184e2 : (Int × List E_s_Key × Int × Int × List E_i64 × List E_Node) → St := f184e2_0
theorem f184un2 : ∀ (s : St) (t : Int × List E_s_Key × Int × Int × List E_i64 × List E_Node), f184u2 s = some t → f184e2 t = s := f184un2_0
noncomputable def f184P : Lp := fun i s {_R} κ => bif Nat.beq i 2 then (f184u2 s).bind fun t => L_impl_inBounds_2 (fun t => κ (none) (f184x2_0 t)) (fun t => κ (some 0) (f184x2_1 t)) t else bif Nat.beq i 5 then (f184u5 s).bind fun t => L_impl_inBounds_5 (fun t => κ (none) (f184x5_0 t)) (fun t => κ (some 2) (f184x5_1 t)) t else none
noncomputable def f184c5 : Code := (loopsOf f184B).getD 1 .skip
theorem f184A5 : C.live 184 (firstRegion f184c5) = some ([1, 2, 15, 16, 17, 21, 22, 23, 40, 41, 42, 43, 44, 45, 46, 47, 48, 49, 50, 51, 52, 53, 54, 55], [1, 2, 4, 15, 16, 17, 40, 41, 42, 43, 44, 45, 46, 47, 48, 49, 50, 51, 52, 53, 54, 55]) := by kernel_rfl
theorem f184B5 {R : Type} (κ : Option Nat → St → Option R) (s : St) : f184P (firstRegion f184c5) s κ = (f184u5 s).bind fun t => iter (S_impl_inBounds_5 (fun t => κ (none) (f184x5_0 t)) (fun t => κ (some 2) (f184x5_1 t))) FUEL t := by kernel_rfl
theorem f184C5 {R : Type} (κ : Option Nat → St → Option R) (again : St → Option R) (t : T_impl_inBounds_5) : stepL C f184K f184P 184 f184c5 [1, 2, 15, 16, 17, 21, 22, 23, 40, 41, 42, 43, 44, 45, 46, 47, 48, 49, 50, 51, 52, 53, 54, 55] [1, 2, 4, 15, 16, 17, 40, 41, 42, 43, 44, 45, 46, 47, 48, 49, 50, 51, 52, 53, 54, 55] κ again (f184e5 t) = S_impl_inBounds_5 (fun t => κ (none) (f184x5_0 t)) (fun t => κ (some 2) (f184x5_1 t)) (fun t => again (f184e5 t)) t := by kernel_rfl
theorem f184ok5 : LoopOk C f184K f184P 184 f184c5 := loop_ok f184A5 f184e5 f184u5 f184un5 (fun {_R} κ => S_impl_inBounds_5 (fun t => κ (none) (f184x5_0 t)) (fun t => κ (some 2) (f184x5_1 t))) (fun {_R} κ s => f184B5 κ s) (fun {_R} κ again t => f184C5 κ again t)
noncomputable def f184c2 : Code := (loopsOf f184B).getD 0 .skip
theorem f184A2 : C.live 184 (firstRegion f184c2) = some ([1, 2, 15, 16, 17, 40, 41, 42, 43, 44, 45, 46, 47, 48, 49, 50, 51, 52, 53, 54, 55], [4]) := by kernel_rfl
theorem f184B2 {R : Type} (κ : Option Nat → St → Option R) (s : St) : f184P (firstRegion f184c2) s κ = (f184u2 s).bind fun t => iter (S_impl_inBounds_2 (fun t => κ (none) (f184x2_0 t)) (fun t => κ (some 0) (f184x2_1 t))) FUEL t := by kernel_rfl
theorem f184C2 {R : Type} (κ : Option Nat → St → Option R) (again : St → Option R) (t : T_impl_inBounds_2) : stepL C f184K f184P 184 f184c2 [1, 2, 15, 16, 17, 40, 41, 42, 43, 44, 45, 46, 47, 48, 49, 50, 51, 52, 53, 54, 55] [4] κ again (f184e2 t) = S_impl_inBounds_2 (fun t => κ (none) (f184x2_0 t)) (fun t => κ (some 0) (f184x2_1 t)) (fun t => again (f184e2 t)) t := by kernel_rfl
theorem f184ok2 : LoopOk C f184K f184P 184 f184c2 := loop_ok f184A2 f184e2 f184u2 f184un2 (fun {_R} κ => S_impl_inBounds_2 (fun t => κ (none) (f184x2_0 t)) (fun t => κ (some 0) (f184x2_1 t))) (fun {_R} κ s => f184B2 κ s) (fun {_R} κ again t => f184C2 κ again t)
theorem k184 : Contract C Tryz.prog f184K := contract_tab _ (fun p hp => by
    simp only [List.mem_cons, List.mem_nil_iff, or_false] at hp
    rcases hp with rfl
    · exact ok226)
theorem ev184 (x : List E_i64 × List E_Node × Int) : evalB C f184K f184P 184 Tryz.f184 f184B ⟨[.v true [(.sl 3 ts_i64), (.sl 97 ts_Node)] [false, false], .v false [(.int .i64)] [false]], [⟨false, [.bool], [false]⟩], false⟩ [(.sl 3 ts_i64), (.sl 97 ts_Node), (.int .i64)] [.bool] x = F_impl_inBounds x := by kernel_rfl
theorem ok184 : ContractAt C Tryz.prog 184 F_impl_inBounds := fn_sound (lp := f184P) tok mixed k184 (by kernel_rfl) (fn := Tryz.f184) (c := f184B) (sg := ⟨[.v true [(.sl 3 ts_i64), (.sl 97 ts_Node)] [false, false], .v false [(.int .i64)] [false]], [⟨false, [.bool], [false]⟩], false⟩) Tryz.func184 (by decide) (by kernel_rfl) (by kernel_rfl) (by kernel_rfl) (fun c' hc' => by
    rw [show loopsOf f184B = [f184c2, f184c5] by kernel_rfl] at hc'
    simp only [List.mem_cons, List.mem_nil_iff, or_false] at hc'
    rcases hc' with rfl | rfl
    · exact f184ok2
    · exact f184ok5) (by decide) (by decide) (fun x y h => (ev184 x).trans h)
noncomputable def F_impl_copyKeys (x : List E_Key) : Option (List E_Key) :=
  if (List.length ([] : List E_Key) + List.length x) * 40 < 140737488355328 then some (([] : List E_Key) ++ x) else none
noncomputable def f261B : Code := match Tryz.f261.body with
  | some c => c
  | none => .skip
noncomputable def f261K : C.Sem := tab []
noncomputable def f261P : Lp := fun i s {_R} κ => none
theorem k261 : Contract C Tryz.prog f261K := contract_tab _ (fun p hp => by cases hp)
theorem ev261 (x : List E_Key) : evalB C f261K f261P 261 Tryz.f261 f261B ⟨[.v false [(.sl 105 ts_Key)] [false]], [⟨false, [(.sl 105 ts_Key)], [true]⟩], false⟩ [(.sl 105 ts_Key)] [(.sl 105 ts_Key)] x = F_impl_copyKeys x := by kernel_rfl
theorem ok261 : ContractAt C Tryz.prog 261 F_impl_copyKeys := fn_sound (lp := f261P) tok mixed k261 (by kernel_rfl) (fn := Tryz.f261) (c := f261B) (sg := ⟨[.v false [(.sl 105 ts_Key)] [false]], [⟨false, [(.sl 105 ts_Key)], [true]⟩], false⟩) Tryz.func261 (by decide) (by kernel_rfl) (by kernel_rfl) (by kernel_rfl) (fun c' hc' => by
    rw [show loopsOf f261B = [] by kernel_rfl] at hc'
    cases hc') (by decide) (by decide) (fun x y h => (ev261 x).trans h)
noncomputable def F_impl_SameSpot (x : Int × Int × Int × Int × Int × Int × Int × Int × Int × Int) : Option (Bool) :=
  Option.bind (bif (x.1 == x.2.2.2.2.2.1) then some (x.2.1 == x.2.2.2.2.2.2.1) else some false) fun u1 => some u1
noncomputable def f280B : Code := match Tryz.f280.body with
  | some c => c
  | none => .skip
noncomputable def f280K : C.Sem := tab []
noncomputable def f280P : Lp := fun i s {_R} κ => none
theorem k280 : Contract C Tryz.prog f280K := contract_tab _ (fun p hp => by cases hp)
theorem ev280 (x : Int × Int × Int × Int × Int × Int × Int × Int × Int × Int) : evalB C f280K f280P 280 Tryz.f280 f280B ⟨[.v true [(.int .i64), (.int .i64), (.int .i64), (.int .i64), (.int .i64)] [false, false, false, false, false], .v true [(.int .i64), (.int .i64), (.int .i64), (.int .i64), (.int .i64)] [false, false, false, false, false]], [⟨false, [.bool], [false]⟩], false⟩ [(.int .i64), (.int .i64), (.int .i64), (.int .i64), (.int .i64), (.int .i64), (.int .i64), (.int .i64), (.int .i64), (.int .i64)] [.bool] x = F_impl_SameSpot x := by kernel_rfl
theorem ok280 : ContractAt C Tryz.prog 280 F_impl_SameSpot := fn_sound (lp := f280P) tok mixed k280 (by kernel_rfl) (fn := Tryz.f280) (c := f280B) (sg := ⟨[.v true [(.int .i64), (.int .i64), (.int .i64), (.int .i64), (.int .i64)] [false, false, false, false, false], .v true [(.int .i64), (.int .i64), (.int .i64), (.int .i64), (.int .i64)] [false, false, false, false, false]], [⟨false, [.bool], [false]⟩], false⟩) Tryz.func280 (by decide) (by kernel_rfl) (by kernel_rfl) (by kernel_rfl) (fun c' hc' => by
    rw [show loopsOf f280B = [] by kernel_rfl] at hc'
    cases hc') (by decide) (by decide) (fun x y h => (ev280 x).trans h)
abbrev T_impl_SetPut_4 : Type := Bool × List E_Key × Int × Int × Int × Int × Int × Int × Int × List E_Key
noncomputable def S_impl_SetPut_4 {R : Type} (k0 : (Bool × Int × Int × Int × Int × Int × List E_Key) → Option R) (again : T_impl_SetPut_4 → Option R) (t4 : T_impl_SetPut_4) : Option R :=
  bif (decide (t4.2.2.2.1 < t4.2.2.1)) then if (0 : Int) ≤ t4.2.2.2.1 then if t4.2.2.2.1 < ((List.length t4.2.1 : Nat) : Int) then Option.bind (bif (!t4.1) then Option.bind (F_impl_LessKey ((rd_Key t4.2.1 t4.2.2.2.1).1, (rd_Key t4.2.1 t4.2.2.2.1).2.1, (rd_Key t4.2.1 t4.2.2.2.1).2.2.1, (rd_Key t4.2.1 t4.2.2.2.1).2.2.2.1, (rd_Key t4.2.1 t4.2.2.2.1).2.2.2.2, t4.2.2.2.2.1, t4.2.2.2.2.2.1, t4.2.2.2.2.2.2.1, t4.2.2.2.2.2.2.2.1, t4.2.2.2.2.2.2.2.2.1)) fun r2 => some (!r2) else some false) fun u1 => bif u1 then if (List.length t4.2.2.2.2.2.2.2.2.2 + List.length ([(t4.2.2.2.2.1, t4.2.2.2.2.2.1, t4.2.2.2.2.2.2.1, t4.2.2.2.2.2.2.2.1, t4.2.2.2.2.2.2.2.2.1)] : List E_Key)) * 40 < 140737488355328 then Option.bind (F_impl_SameSpot ((rd_Key t4.2.1 t4.2.2.2.1).1, (rd_Key t4.2.1 t4.2.2.2.1).2.1, (rd_Key t4.2.1 t4.2.2.2.1).2.2.1, (rd_Key t4.2.1 t4.2.2.2.1).2.2.2.1, (rd_Key t4.2.1 t4.2.2.2.1).2.2.2.2, t4.2.2.2.2.1, t4.2.2.2.2.2.1, t4.2.2.2.2.2.2.1, t4.2.2.2.2.2.2.2.1, t4.2.2.2.2.2.2.2.2.1)) fun r3 => bif (!r3) then if (List.length (t4.2.2.2.2.2.2.2.2.2 ++ ([(t4.2.2.2.2.1, t4.2.2.2.2.2.1, t4.2.2.2.2.2.2.1, t4.2.2.2.2.2.2.2.1, t4.2.2.2.2.2.2.2.2.1)] : List E_Key)) + List.length ([((rd_Key t4.2.1 t4.2.2.2.1).1, (rd_Key t4.2.1 t4.2.2.2.1).2.1, (rd_Key t4.2.1 t4.2.2.2.1).2.2.1, (rd_Key t4.2.1 t4.2.2.2.1).2.2.2.1, (rd_Key t4.2.1 t4.2.2.2.1).2.2.2.2)] : List E_Key)) * 40 < 140737488355328 then again (true, t4.2.1, t4.2.2.1, (Go.IntKind.wrap .i64 (t4.2.2.2.1 + (1 : Int))), t4.2.2.2.2.1, t4.2.2.2.2.2.1, t4.2.2.2.2.2.2.1, t4.2.2.2.2.2.2.2.1, t4.2.2.2.2.2.2.2.2.1, ((t4.2.2.2.2.2.2.2.2.2 ++ ([(t4.2.2.2.2.1, t4.2.2.2.2.2.1, t4.2.2.2.2.2.2.1, t4.2.2.2.2.2.2.2.1, t4.2.2.2.2.2.2.2.2.1)] : List E_Key)) ++ ([((rd_Key t4.2.1 t4.2.2.2.1).1, (rd_Key t4.2.1 t4.2.2.2.1).2.1, (rd_Key t4.2.1 t4.2.2.2.1).2.2.1, (rd_Key t4.2.1 t4.2.2.2.1).2.2.2.1, (rd_Key t4.2.1 t4.2.2.2.1).2.2.2.2)] : List E_Key))) else none else again (true, t4.2.1, t4.2.2.1, (Go.IntKind.wrap .i64 (t4.2.2.2.1 + (1 : Int))), t4.2.2.2.2.1, t4.2.2.2.2.2.1, t4.2.2.2.2.2.2.1, t4.2.2.2.2.2.2.2.1, t4.2.2.2.2.2.2.2.2.1, (t4.2.2.2.2.2.2.2.2.2 ++ ([(t4.2.2.2.2.1, t4.2.2.2.2.2.1, t4.2.2.2.2.2.2.1, t4.2.2.2.2.2.2.2.1, t4.2.2.2.2.2.2.2.2.1)] : List E_Key))) else none else Option.bind (F_impl_SameSpot ((rd_Key t4.2.1 t4.2.2.2.1).1, (rd_Key t4.2.1 t4.2.2.2.1).2.1, (rd_Key t4.2.1 t4.2.2.2.1).2.2.1, (rd_Key t4.2.1 t4.2.2.2.1).2.2.2.1, (rd_Key t4.2.1 t4.2.2.2.1).2.2.2.2, t4.2.2.2.2.1, t4.2.2.2.2.2.1, t4.2.2.2.2.2.2.1, t4.2.2.2.2.2.2.2.1, t4.2.2.2.2.2.2.2.2.1)) fun r4 => bif (!r4) then if (List.length t4.2.2.2.2.2.2.2.2.2 + List.length ([((rd_Key t4.2.1 t4.2.2.2.1).1, (rd_Key t4.2.1 t4.2.2.2.1).2.1, (rd_Key t4.2.1 t4.2.2.2.1).2.2.1, (rd_Key t4.2.1 t4.2.2.2.1).2.2.2.1, (rd_Key t4.2.1 t4.2.2.2.1).2.2.2.2)] : List E_Key)) * 40 < 140737488355328 then again (t4.1, t4.2.1, t4.2.2.1, (Go.IntKind.wrap .i64 (t4.2.2.2.1 + (1 : Int))), t4.2.2.2.2.1, t4.2.2.2.2.2.1, t4.2.2.2.2.2.2.1, t4.2.2.2.2.2.2.2.1, t4.2.2.2.2.2.2.2.2.1, (t4.2.2.2.2.2.2.2.2.2 ++ ([((rd_Key t4.2.1 t4.2.2.2.1).1, (rd_Key t4.2.1 t4.2.2.2.1).2.1, (rd_Key t4.2.1 t4.2.2.2.1).2.2.1, (rd_Key t4.2.1 t4.2.2.2.1).2.2.2.1, (rd_Key t4.2.1 t4.2.2.2.1).2.2.2.2)] : List E_Key))) else none else again (t4.1, t4.2.1, t4.2.2.1, (Go.IntKind.wrap .i64 (t4.2.2.2.1 + (1 : Int))), t4.2.2.2.2.1, t4.2.2.2.2.2.1, t4.2.2.2.2.2.2.1, t4.2.2.2.2.2.2.2.1, t4.2.2.2.2.2.2.2.2.1, t4.2.2.2.2.2.2.2.2.2) else none else none else k0 (t4.1, t4.2.2.2.2.1, t4.2.2.2.2.2.1, t4.2.2.2.2.2.2.1, t4.2.2.2.2.2.2.2.1, t4.2.2.2.2.2.2.2.2.1, t4.2.2.2.2.2.2.2.2.2)
noncomputable def L_impl_SetPut_4 {R : Type} (k0 : (Bool × Int × Int × Int × Int × Int × List E_Key) → Option R) (t : T_impl_SetPut_4) : Option R := iter (S_impl_SetPut_4 k0) FUEL t
noncomputable def F_impl_SetPut (x : List E_Key × Int × Int × Int × Int × Int) : Option (List E_Key) :=
  L_impl_SetPut_4 (fun x5 => bif (!x5.1) then if (List.length x5.2.2.2.2.2.2 + List.length ([(x5.2.1, x5.2.2.1, x5.2.2.2.1, x5.2.2.2.2.1, x5.2.2.2.2.2.1)] : List E_Key)) * 40 < 140737488355328 then some (x5.2.2.2.2.2.2 ++ ([(x5.2.1, x5.2.2.1, x5.2.2.2.1, x5.2.2.2.2.1, x5.2.2.2.2.2.1)] : List E_Key)) else none else some x5.2.2.2.2.2.2) (false, x.1, ((List.length x.1 : Nat) : Int), (0 : Int), x.2.1, x.2.2.1, x.2.2.2.1, x.2.2.2.2.1, x.2.2.2.2.2, ([] : List E_Key))
noncomputable def f262B : Code := match Tryz.f262.body with
  | some c => c
  | none => .skip
noncomputable def f262K : C.Sem := tab [⟨260, F_impl_LessKey⟩, ⟨280, F_impl_SameSpot⟩]
def f262h4_0 : List Sh := [.dead, .dead, .dead, .box 3 0, .dead, .own 10000000, .v .bool, .dead, .dead, .dead, .v (.sl 105 ts_Key), .v (.int .i64), .v (.int .i64), .dead, .dead, .dead, .dead, .dead, .dead, .dead, .dead, .dead, .dead, .dead, .dead, .dead, .dead, .dead, .dead, .dead, .dead, .dead, .dead, .dead, .dead, .dead, .dead, .dead, .dead, .dead, .dead, .dead, .dead, .dead]
def f262o4_0 : List (Nat × OSh) := [(3, .box [.v (.int .i64), .v (.int .i64), .v (.int .i64), .v (.int .i64), .v (.int .i64)]), (10000000, .root true 105 ts_Key)]
def f262e4_0 (t : Bool × List E_Key × Int × Int × Int × Int × Int × Int × Int × List E_Key) : St := ⟨[.dead, .dead, .dead, .box 3 0, .dead, .own 10000000, .val .bool t.1, .dead, .dead, .dead, .val (.sl 105 ts_Key) t.2.1, .val (.int .i64) t.2.2.1, .val (.int .i64) t.2.2.2.1, .dead, .dead, .dead, .dead, .dead, .dead, .dead, .dead, .dead, .dead, .dead, .dead, .dead, .dead, .dead, .dead, .dead, .dead, .dead, .dead, .dead, .dead, .dead, .dead, .dead, .dead, .dead, .dead, .dead, .dead, .dead], [(3, .box [.val (.int .i64) t.2.2.2.2.1, .val (.int .i64) t.2.2.2.2.2.1, .val (.int .i64) t.2.2.2.2.2.2.1, .val (.int .i64) t.2.2.2.2.2.2.2.1, .val (.int .i64) t.2.2.2.2.2.2.2.2.1]), (10000000, .root true 105 ts_Key t.2.2.2.2.2.2.2.2.2)]⟩
def f262x4_0 (t : Bool × Int × Int × Int × Int × Int × List E_Key) : St := ⟨[.dead, .dead, .dead, .box 3 0, .dead, .own 10000000, .val .bool t.1, .dead, .dead, .dead, .dead, .dead, .dead, .dead, .dead, .dead, .dead, .dead, .dead, .dead, .dead, .dead, .dead, .dead, .dead, .dead, .dead, .dead, .dead, .dead, .dead, .dead, .dead, .dead, .dead, .dead, .dead, .dead, .dead, .dead, .dead, .dead, .dead, .dead], [(3, .box [.val (.int .i64) t.2.1, .val (.int .i64) t.2.2.1, .val (.int .i64) t.2.2.2.1, .val (.int .i64) t.2.2.2.2.1, .val (.int .i64) t.2.2.2.2.2.1]), (10000000, .root true 105 ts_Key t.2.2.2.2.2.2)]⟩
def f262u4_0 (s : St) : Option (Bool × List E_Key × Int × Int × Int × Int × Int × Int × Int × List E_Key) := (unS f262h4_0 f262o4_0 s).map fun v => (v.1.2.2.2.2.2.2.1, v.1.2.2.2.2.2.2.2.2.2.2.1, v.1.2.2.2.2.2.2.2.2.2.2.2.1, v.1.2.2.2.2.2.2.2.2.2.2.2.2.1, v.2.1.1, v.2.1.2.1, v.2.1.2.2.1, v.2.1.2.2.2.1, v.2.1.2.2.2.2.1, v.2.2.1)
theorem f262un4_0 : ∀ (s : St) (t : Bool × List E_Key × Int × Int × Int × Int × Int × Int × Int × List E_Key), f262u4_0 s = some t → f262e4_0 t = s := fun s v h => by
  obtain ⟨u, hu, rfl⟩ := Option.map_eq_some_iff.1 h
  exact (show f262e4_0 (u.1.2.2.2.2.2.2.1, u.1.2.2.2.2.2.2.2.2.2.2.1, u.1.2.2.2.2.2.2.2.2.2.2.2.1, u.1.2.2.2.2.2.2.2.2.2.2.2.2.1, u.2.1.1, u.2.1.2.1, u.2.1.2.2.1, u.2.1.2.2.2.1, u.2.1.2.2.2.2.1, u.2.2.1) = mkS f262h4_0 f262o4_0 u by kernel_rfl).trans (mkS_un f262h4_0 f262o4_0 s u hu)
def f262u4 : St → Option (Bool × List E_Key × Int × Int × Int × Int × Int × Int × Int × List E_Key) := f262u4_0
def f262e4 : (Bool × List E_Key × Int × Int × Int × Int × Int × Int × Int × List E_Key) → St := f262e4_0
theorem f262un4 : ∀ (s : St) (t : Bool × List E_Key × Int × Int × Int × Int × Int × Int × Int × List E_Key), f262u4 s = some t → f262e4 t = s := f262un4_0
noncomputable def f262P : Lp := fun i s {_R} κ => bif Nat.beq i 4 then (f262u4 s).bind fun t => L_impl_SetPut_4 (fun t => κ (some 0) (f262x4_0 t)) t else none
noncomputable def f262c4 : Code := (loopsOf f262B).getD 0 .skip
theorem f262A4 : C.live 262 (firstRegion f262c4) = some ([3, 5, 6, 10, 11, 12, 19, 20, 21, 22], [3, 5, 6]) := by kernel_rfl
theorem f262B4 {R : Type} (κ : Option Nat → St → Option R) (s : St) : f262P (firstRegion f262c4) s κ = (f262u4 s).bind fun t => iter (S_impl_SetPut_4 (fun t => κ (some 0) (f262x4_0 t))) FUEL t := by kernel_rfl
theorem f262C4 {R : Type} (κ : Option Nat → St → Option R) (again : St → Option R) (t : T_impl_SetPut_4) : stepL C f262K f262P 262 f262c4 [3, 5, 6, 10, 11, 12, 19, 20, 21, 22] [3, 5, 6] κ again (f262e4 t) = S_impl_SetPut_4 (fun t => κ (some 0) (f262x4_0 t)) (fun t => again (f262e4 t)) t := by kernel_rfl
theorem f262ok4 : LoopOk C f262K f262P 262 f262c4 := loop_ok f262A4 f262e4 f262u4 f262un4 (fun {_R} κ => S_impl_SetPut_4 (fun t => κ (some 0) (f262x4_0 t))) (fun {_R} κ s => f262B4 κ s) (fun {_R} κ again t => f262C4 κ again t)
theorem k262 : Contract C Tryz.prog f262K := contract_tab _ (fun p hp => by
    simp only [List.mem_cons, List.mem_nil_iff, or_false] at hp
    rcases hp with rfl | rfl
    · exact ok260
    · exact ok280)
theorem ev262 (x : List E_Key × Int × Int × Int × Int × Int) : evalB C f262K f262P 262 Tryz.f262 f262B ⟨[.v false [(.sl 105 ts_Key)] [false], .v true [(.int .i64), (.int .i64), (.int .i64), (.int .i64), (.int .i64)] [false, false, false, false, false]], [⟨false, [(.sl 105 ts_Key)], [true]⟩], false⟩ [(.sl 105 ts_Key), (.int .i64), (.int .i64), (.int .i64), (.int .i64), (.int .i64)] [(.sl 105 ts_Key)] x = F_impl_SetPut x := by kernel_rfl
theorem ok262 : ContractAt C Tryz.prog 262 F_impl_SetPut := fn_sound (lp := f262P) tok mixed k262 (by kernel_rfl) (fn := Tryz.f262) (c := f262B) (sg := ⟨[.v false [(.sl 105 ts_Key)] [false], .v true [(.int .i64), (.int .i64), (.int .i64), (.int .i64), (.int .i64)] [false, false, false, false, false]], [⟨false, [(.sl 105 ts_Key)], [true]⟩], false⟩) Tryz.func262 (by decide) (by kernel_rfl) (by kernel_rfl) (by kernel_rfl) (fun c' hc' => by
    rw [show loopsOf f262B = [f262c4] by kernel_rfl] at hc'
    simp only [List.mem_cons, List.mem_nil_iff, or_false] at hc'
    rcases hc' with rfl
    · exact f262ok4) (by decide) (by decide) (fun x y h => (ev262 x).trans h)
abbrev T_impl_MergeSets_3 : Type := List E_Key × Int × Int × List E_Key
noncomputable def S_impl_MergeSets_3 {R : Type} (k0 : List E_Key → Option R) (again : T_impl_MergeSets_3 → Option R) (t3 : T_impl_MergeSets_3) : Option R :=
  bif (decide (t3.2.2.1 < t3.2.1)) then if (0 : Int) ≤ t3.2.2.1 then if t3.2.2.1 < ((List.length t3.1 : Nat) : Int) then Option.bind (F_impl_SetPut (t3.2.2.2, (rd_Key t3.1 t3.2.2.1).1, (rd_Key t3.1 t3.2.2.1).2.1, (rd_Key t3.1 t3.2.2.1).2.2.1, (rd_Key t3.1 t3.2.2.1).2.2.2.1, (rd_Key t3.1 t3.2.2.1).2.2.2.2)) fun r2 => again (t3.1, t3.2.1, (Go.IntKind.wrap .i64 (t3.2.2.1 + (1 : Int))), r2) else none else none else k0 t3.2.2.2
noncomputable def L_impl_MergeSets_3 {R : Type} (k0 : List E_Key → Option R) (t : T_impl_MergeSets_3) : Option R := iter (S_impl_MergeSets_3 k0) FUEL t
noncomputable def F_impl_MergeSets (x : List E_Key × List E_Key) : Option (List E_Key) :=
  Option.bind (F_impl_copyKeys x.1) fun r1 => L_impl_MergeSets_3 (fun x3 => some x3) (x.2, ((List.length x.2 : Nat) : Int), (0 : Int), r1)
noncomputable def f227B : Code := match Tryz.f227.body with
  | some c => c
  | none => .skip
noncomputable def f227K : C.Sem := tab [⟨261, F_impl_copyKeys⟩, ⟨262, F_impl_SetPut⟩]
def f227h3_0 : List Sh := [.dead, .dead, .dead, .dead, .dead, .own 10000000, .dead, .dead, .dead, .dead, .v (.sl 105 ts_Key), .v (.int .i64), .v (.int .i64), .dead, .dead, .dead, .dead, .dead, .dead, .dead, .dead]
def f227o3_0 : List (Nat × OSh) := [(10000000, .root true 105 ts_Key)]
def f227e3_0 (t : List E_Key × Int × Int × List E_Key) : St := ⟨[.dead, .dead, .dead, .dead, .dead, .own 10000000, .dead, .dead, .dead, .dead, .val (.sl 105 ts_Key) t.1, .val (.int .i64) t.2.1, .val (.int .i64) t.2.2.1, .dead, .dead, .dead, .dead, .dead, .dead, .dead, .dead], [(10000000, .root true 105 ts_Key t.2.2.2)]⟩
def f227x3_0 (t : List E_Key) : St := ⟨[.dead, .dead, .dead, .dead, .dead, .own 10000000, .dead, .dead, .dead, .dead, .dead, .dead, .dead, .dead, .dead, .dead, .dead, .dead, .dead, .dead, .dead], [(10000000, .root true 105 ts_Key t)]⟩
def f227u3_0 (s : St) : Option (List E_Key × Int × Int × List E_Key) := (unS f227h3_0 f227o3_0 s).map fun v => (v.1.2.2.2.2.2.2.2.2.2.2.1, v.1.2.2.2.2.2.2.2.2.2.2.2.1, v.1.2.2.2.2.2.2.2.2.2.2.2.2.1, v.2.1)
theorem f227un3_0 : ∀ (s : St) (t : List E_Key × Int × Int × List E_Key), f227u3_0 s = some t → f227e3_0 t = s := fun s v h => by
  obtain ⟨u, hu, rfl⟩ := Option.map_eq_some_iff.1 h
  exact (show f227e3_0 (u.1.2.2.2.2.2.2.2.2.2.2.1, u.1.2.2.2.2.2.2.2.2.2.2.2.1, u.1.2.2.2.2.2.2.2.2.2.2.2.2.1, u.2.1) = mkS f227h3_0 f227o3_0 u by kernel_rfl).trans (mkS_un f227h3_0 f227o3_0 s u hu)
def f227u3 : St → Option (List E_Key × Int × Int × List E_Key) := f227u3_0
def f227e3 : (List E_Key × Int × Int × List E_Key) → St := f227e3_0
theorem f227un3 : ∀ (s : St) (t : List E_Key × Int × Int × List E_Key), f227u3 s = some t → f227e3 t = s := f227un3_0
noncomputable def f227P : Lp := fun i s {_R} κ => bif Nat.beq i 3 then (f227u3 s).bind fun t => L_impl_MergeSets_3 (fun t => κ (some 0) (f227x3_0 t)) t else none
noncomputable def f227c3 : Code := (loopsOf f227B).getD 0 .skip
theorem f227A3 : C.live 227 (firstRegion f227c3) = some ([5, 10, 11, 12], [5]) := by kernel_rfl
theorem f227B3 {R : Type} (κ : Option Nat → St → Option R) (s : St) : f227P (firstRegion f227c3) s κ = (f227u3 s).bind fun t => iter (S_impl_MergeSets_3 (fun t => κ (some 0) (f227x3_0 t))) FUEL t := by kernel_rfl
theorem f227C3 {R : Type} (κ : Option Nat → St → Option R) (again : St → Option R) (t : T_impl_MergeSets_3) : stepL C f227K f227P 227 f227c3 [5, 10, 11, 12] [5] κ again (f227e3 t) = S_impl_MergeSets_3 (fun t => κ (some 0) (f227x3_0 t)) (fun t => again (f227e3 t)) t := by kernel_rfl
theorem f227ok3 : LoopOk C f227K f227P 227 f227c3 := loop_ok f227A3 f227e3 f227u3 f227un3 (fun {_R} κ => S_impl_MergeSets_3 (fun t => κ (some 0) (f227x3_0 t))) (fun {_R} κ s => f227B3 κ s) (fun {_R} κ again t => f227C3 κ again t)
theorem k227 : Contract C Tryz.prog f227K := contract_tab _ (fun p hp => by
    simp only [List.mem_cons, List.mem_nil_iff, or_false] at hp
    rcases hp with rfl | rfl
    · exact ok261
    · exact ok262)
theorem ev227 (x : List E_Key × List E_Key) : evalB C f227K f227P 227 Tryz.f227 f227B ⟨[.v false [(.sl 105 ts_Key)] [false], .v false [(.sl 105 ts_Key)] [false]], [⟨false, [(.sl 105 ts_Key)], [true]⟩], false⟩ [(.sl 105 ts_Key), (.sl 105 ts_Key)] [(.sl 105 ts_Key)] x = F_impl_MergeSets x := by kernel_rfl
theorem ok227 : ContractAt C Tryz.prog 227 F_impl_MergeSets := fn_sound (lp := f227P) tok mixed k227 (by kernel_rfl) (fn := Tryz.f227) (c := f227B) (sg := ⟨[.v false [(.sl 105 ts_Key)] [false], .v false [(.sl 105 ts_Key)] [false]], [⟨false, [(.sl 105 ts_Key)], [true]⟩], false⟩) Tryz.func227 (by decide) (by kernel_rfl) (by kernel_rfl) (by kernel_rfl) (fun c' hc' => by
    rw [show loopsOf f227B = [f227c3] by kernel_rfl] at hc'
    simp only [List.mem_cons, List.mem_nil_iff, or_false] at hc'
    rcases hc' with rfl
    · exact f227ok3) (by decide) (by decide) (fun x y h => (ev227 x).trans h)
abbrev T_impl_Drop_3 : Type := List E_Key × Int × Int × List E_Key
noncomputable def S_impl_Drop_3 {R : Type} (k0 : List E_Key → Option R) (again : T_impl_Drop_3 → Option R) (t3 : T_impl_Drop_3) : Option R :=
  bif (decide (t3.2.2.1 < t3.2.1)) then if (0 : Int) ≤ t3.2.2.1 then if t3.2.2.1 < ((List.length t3.1 : Nat) : Int) then bif ((rd_Key t3.1 t3.2.2.1).2.2.1 != (0 : Int)) then if (List.length t3.2.2.2 + List.length ([((rd_Key t3.1 t3.2.2.1).1, (rd_Key t3.1 t3.2.2.1).2.1, (rd_Key t3.1 t3.2.2.1).2.2.1, (rd_Key t3.1 t3.2.2.1).2.2.2.1, (rd_Key t3.1 t3.2.2.1).2.2.2.2)] : List E_Key)) * 40 < 140737488355328 then again (t3.1, t3.2.1, (Go.IntKind.wrap .i64 (t3.2.2.1 + (1 : Int))), (t3.2.2.2 ++ ([((rd_Key t3.1 t3.2.2.1).1, (rd_Key t3.1 t3.2.2.1).2.1, (rd_Key t3.1 t3.2.2.1).2.2.1, (rd_Key t3.1 t3.2.2.1).2.2.2.1, (rd_Key t3.1 t3.2.2.1).2.2.2.2)] : List E_Key))) else none else again (t3.1, t3.2.1, (Go.IntKind.wrap .i64 (t3.2.2.1 + (1 : Int))), t3.2.2.2) else none else none else k0 t3.2.2.2
noncomputable def L_impl_Drop_3 {R : Type} (k0 : List E_Key → Option R) (t : T_impl_Drop_3) : Option R := iter (S_impl_Drop_3 k0) FUEL t
noncomputable def F_impl_Drop (x : List E_Key) : Option (List E_Key) :=
  L_impl_Drop_3 (fun x1 => some x1) (x, ((List.length x : Nat) : Int), (0 : Int), ([] : List E_Key))
noncomputable def f228B : Code := match Tryz.f228.body with
  | some c => c
  | none => .skip
noncomputable def f228K : C.Sem := tab []
def f228h3_0 : List Sh := [.dead, .dead, .dead, .own 10000000, .dead, .dead, .dead, .v (.sl 105 ts_Key), .v (.int .i64), .v (.int .i64), .dead, .dead, .dead, .dead, .dead, .dead, .dead, .dead, .dead, .dead, .dead, .dead]
def f228o3_0 : List (Nat × OSh) := [(10000000, .root true 105 ts_Key)]
def f228e3_0 (t : List E_Key × Int × Int × List E_Key) : St := ⟨[.dead, .dead, .dead, .own 10000000, .dead, .dead, .dead, .val (.sl 105 ts_Key) t.1, .val (.int .i64) t.2.1, .val (.int .i64) t.2.2.1, .dead, .dead, .dead, .dead, .dead, .dead, .dead, .dead, .dead, .dead, .dead, .dead], [(10000000, .root true 105 ts_Key t.2.2.2)]⟩
def f228x3_0 (t : List E_Key) : St := ⟨[.dead, .dead, .dead, .own 10000000, .dead, .dead, .dead, .dead, .dead, .dead, .dead, .dead, .dead, .dead, .dead, .dead, .dead, .dead, .dead, .dead, .dead, .dead], [(10000000, .root true 105 ts_Key t)]⟩
def f228u3_0 (s : St) : Option (List E_Key × Int × Int × List E_Key) := (unS f228h3_0 f228o3_0 s).map fun v => (v.1.2.2.2.2.2.2.2.1, v.1.2.2.2.2.2.2.2.2.1, v.1.2.2.2.2.2.2.2.2.2.1, v.2.1)
theorem f228un3_0 : ∀ (s : St) (t : List E_Key × Int × Int × List E_Key), f228u3_0 s = some t → f228e3_0 t = s := fun s v h => by
  obtain ⟨u, hu, rfl⟩ := Option.map_eq_some_iff.1 h
  exact (show f228e3_0 (u.1.2.2.2.2.2.2.2.1, u.1.2.2.2.2.2.2.2.2.1, u.1.2.2.2.2.2.2.2.2.2.1, u.2.1) = mkS f228h3_0 f228o3_0 u by kernel_rfl).trans (mkS_un f228h3_0 f228o3_0 s u hu)
def f228u3 : St → Option (List E_Key × Int × Int × List E_Key) := f228u3_0
def f228e3 : (List E_Key × Int × Int × List E_Key) → St := f228e3_0
theorem f228un3 : ∀ (s : St) (t : List E_Key × Int × Int × List E_Key), f228u3 s = some t → f228e3 t = s := f228un3_0
noncomputable def f228P : Lp := fun i s {_R} κ => bif Nat.beq i 3 then (f228u3 s).bind fun t => L_impl_Drop_3 (fun t => κ (some 0) (f228x3_0 t)) t else none
noncomputable def f228c3 : Code := (loopsOf f228B).getD 0 .skip
theorem f228A3 : C.live 228 (firstRegion f228c3) = some ([3, 7, 8, 9], [3]) := by kernel_rfl
theorem f228B3 {R : Type} (κ : Option Nat → St → Option R) (s : St) : f228P (firstRegion f228c3) s κ = (f228u3 s).bind fun t => iter (S_impl_Drop_3 (fun t => κ (some 0) (f228x3_0 t))) FUEL t := by kernel_rfl
theorem f228C3 {R : Type} (κ : Option Nat → St → Option R) (again : St → Option R) (t : T_impl_Drop_3) : stepL C f228K f228P 228 f228c3 [3, 7, 8, 9] [3] κ again (f228e3 t) = S_impl_Drop_3 (fun t => κ (some 0) (f228x3_0 t)) (fun t => again (f228e3 t)) t := by kernel_rfl
theorem f228ok3 : LoopOk C f228K f228P 228 f228c3 := loop_ok f228A3 f228e3 f228u3 f228un3 (fun {_R} κ => S_impl_Drop_3 (fun t => κ (some 0) (f228x3_0 t))) (fun {_R} κ s => f228B3 κ s) (fun {_R} κ again t => f228C3 κ again t)
theorem k228 : Contract C Tryz.prog f228K := contract_tab _ (fun p hp => by cases hp)
theorem ev228 (x : List E_Key) : evalB C f228K f228P 228 Tryz.f228 f228B ⟨[.v false [(.sl 105 ts_Key)] [false]], [⟨false, [(.sl 105 ts_Key)], [true]⟩], false⟩ [(.sl 105 ts_Key)] [(.sl 105 ts_Key)] x = F_impl_Drop x := by kernel_rfl
theorem ok228 : ContractAt C Tryz.prog 228 F_impl_Drop := fn_sound (lp := f228P) tok mixed k228 (by kernel_rfl) (fn := Tryz.f228) (c := f228B) (sg := ⟨[.v false [(.sl 105 ts_Key)] [false]], [⟨false, [(.sl 105 ts_Key)], [true]⟩], false⟩) Tryz.func228 (by decide) (by kernel_rfl) (by kernel_rfl) (by kernel_rfl) (fun c' hc' => by
    rw [show loopsOf f228B = [f228c3] by kernel_rfl] at hc'
    simp only [List.mem_cons, List.mem_nil_iff, or_false] at hc'
    rcases hc' with rfl
    · exact f228ok3) (by decide) (by decide) (fun x y h => (ev228 x).trans h)
abbrev T_impl_NodeKeys_3 : Type := List E_s_Key × Int × Int × List E_Key
noncomputable def S_impl_NodeKeys_3 {R : Type} (k0 : List E_Key → Option R) (again : T_impl_NodeKeys_3 → Option R) (t3 : T_impl_NodeKeys_3) : Option R :=
  bif (decide (t3.2.2.1 < t3.2.1)) then if (0 : Int) ≤ t3.2.2.1 then if t3.2.2.1 < ((List.length t3.1 : Nat) : Int) then Option.bind (F_impl_MergeSets (t3.2.2.2, (rd_s_Key t3.1 t3.2.2.1))) fun r1 => again (t3.1, t3.2.1, (Go.IntKind.wrap .i64 (t3.2.2.1 + (1 : Int))), r1) else none else none else k0 t3.2.2.2
noncomputable def L_impl_NodeKeys_3 {R : Type} (k0 : List E_Key → Option R) (t : T_impl_NodeKeys_3) : Option R := iter (S_impl_NodeKeys_3 k0) FUEL t
noncomputable def F_impl_NodeKeys (x : List E_s_Key) : Option (List E_Key) :=
  L_impl_NodeKeys_3 (fun x2 => Option.bind (F_impl_Drop x2) fun r3 => some r3) (x, ((List.length x : Nat) : Int), (0 : Int), ([] : List E_Key))
noncomputable def f185B : Code := match Tryz.f185.body with
  | some c => c
  | none => .skip
noncomputable def f185K : C.Sem := tab [⟨227, F_impl_MergeSets⟩, ⟨228, F_impl_Drop⟩]
def f185h3_0 : List Sh := [.dead, .dead, .dead, .own 10000000, .dead, .dead, .dead, .dead, .v (.sl 99 ts_s_Key), .v (.int .i64), .v (.int .i64), .dead, .dead, .dead, .dead, .dead, .dead, .dead, .dead, .dead]
def f185o3_0 : List (Nat × OSh) := [(10000000, .root true 105 ts_Key)]
def f185e3_0 (t : List E_s_Key × Int × Int × List E_Key) : St := ⟨[.dead, .dead, .dead, .own 10000000, .dead, .dead, .dead, .dead, .val (.sl 99 ts_s_Key) t.1, .val (.int .i64) t.2.1, .val (.int .i64) t.2.2.1, .dead, .dead, .dead, .dead, .dead, .dead, .dead, .dead, .dead], [(10000000, .root true 105 ts_Key t.2.2.2)]⟩
def f185x3_0 (t : List E_Key) : St := ⟨[.dead, .dead, .dead, .own 10000000, .dead, .dead, .dead, .dead, .dead, .dead, .dead, .dead, .dead, .dead, .dead, .dead, .dead, .dead, .dead, .dead], [(10000000, .root true 105 ts_Key t)]⟩
def f185u3_0 (s : St) : Option (List E_s_Key × Int × Int × List E_Key) := (unS f185h3_0 f185o3_0 s).map fun v => (v.1.2.2.2.2.2.2.2.2.1, v.1.2.2.2.2.2.2.2.2.2.1, v.1.2.2.2.2.2.2.2.2.2.2.1, v.2.1)
theorem f185un3_0 : ∀ (s : St) (t : List E_s_Key × Int × Int × List E_Key), f185u3_0 s = some t → f185e3_0 t = s := fun s v h => by
  obtain ⟨u, hu, rfl⟩ := Option.map_eq_some_iff.1 h
  exact (show f185e3_0 (u.1.2.2.2.2.2.2.2.2.1, u.1.2.2.2.2.2.2.2.2.2.1, u.1.2.2.2.2.2.2.2.2.2.2.1, u.2.1) = mkS f185h3_0 f185o3_0 u by kernel_rfl).trans (mkS_un f185h3_0 f185o3_0 s u hu)
def f185u3 : St → Option (List E_s_Key × Int × Int × List E_Key) := f185u3_0
def f185e3 : (List E_s_Key × Int × Int × List E_Key) → St := f185e3_0
theorem f185un3 : ∀ (s : St) (t : List E_s_Key × Int × Int × List E_Key), f185u3 s = some t → f185e3 t = s := f185un3_0
noncomputable def f185P : Lp := fun i s {_R} κ => bif Nat.beq i 3 then (f185u3 s).bind fun t => L_impl_NodeKeys_3 (fun t => κ (some 0) (f185x3_0 t)) t else none
noncomputable def f185c3 : Code := (loopsOf f185B).getD 0 .skip
theorem f185A3 : C.live 185 (firstRegion f185c3) = some ([3, 8, 9, 10], [3]) := by kernel_rfl
theorem f185B3 {R : Type} (κ : Option Nat → St → Option R) (s : St) : f185P (firstRegion f185c3) s κ = (f185u3 s).bind fun t => iter (S_impl_NodeKeys_3 (fun t => κ (some 0) (f185x3_0 t))) FUEL t := by kernel_rfl
theorem f185C3 {R : Type} (κ : Option Nat → St → Option R) (again : St → Option R) (t : T_impl_NodeKeys_3) : stepL C f185K f185P 185 f185c3 [3, 8, 9, 10] [3] κ again (f185e3 t) = S_impl_NodeKeys_3 (fun t => κ (some 0) (f185x3_0 t)) (fun t => again (f185e3 t)) t := by kernel_rfl
theorem f185ok3 : LoopOk C f185K f185P 185 f185c3 := loop_ok f185A3 f185e3 f185u3 f185un3 (fun {_R} κ => S_impl_NodeKeys_3 (fun t => κ (some 0) (f185x3_0 t))) (fun {_R} κ s => f185B3 κ s) (fun {_R} κ again t => f185C3 κ again t)
theorem k185 : Contract C Tryz.prog f185K := contract_tab _ (fun p hp => by
    simp only [List.mem_cons, List.mem_nil_iff, or_false] at hp
    rcases hp with rfl | rfl
    · exact ok227
    · exact ok228)
theorem ev185 (x : List E_s_Key) : evalB C f185K f185P 185 Tryz.f185 f185B ⟨[.v true [(.sl 99 ts_s_Key)] [false]], [⟨false, [(.sl 105 ts_Key)], [true]⟩], false⟩ [(.sl 99 ts_s_Key)] [(.sl 105 ts_Key)] x = F_impl_NodeKeys x := by kernel_rfl
theorem ok185 : ContractAt C Tryz.prog 185 F_impl_NodeKeys := fn_sound (lp := f185P) tok mixed k185 (by kernel_rfl) (fn := Tryz.f185) (c := f185B) (sg := ⟨[.v true [(.sl 99 ts_s_Key)] [false]], [⟨false, [(.sl 105 ts_Key)], [true]⟩], false⟩) Tryz.func185 (by decide) (by kernel_rfl) (by kernel_rfl) (by kernel_rfl) (fun c' hc' => by
    rw [show loopsOf f185B = [f185c3] by kernel_rfl] at hc'
    simp only [List.mem_cons, List.mem_nil_iff, or_false] at hc'
    rcases hc' with rfl
    · exact f185ok3) (by decide) (by decide) (fun x y h => (ev185 x).trans h)
abbrev T_impl_TreeOk_5 : Type := Int × List E_Node × Int × Int × List E_i64 × List E_Node
noncomputable def S_impl_TreeOk_5 {R : Type} (k0 : (Bool × Int) → Option R) (k1 : Int → Option R) (again : T_impl_TreeOk_5 → Option R) (t5 : T_impl_TreeOk_5) : Option R :=
  bif (decide (t5.2.2.2.1 < t5.2.2.1)) then if (0 : Int) ≤ t5.2.2.2.1 then if t5.2.2.2.1 < ((List.length t5.2.1 : Nat) : Int) then Option.bind (bif (decide (t5.2.2.2.1 > (0 : Int))) then if (0 : Int) ≤ (Go.IntKind.wrap .i64 (t5.2.2.2.1 - (1 : Int))) then if (Go.IntKind.wrap .i64 (t5.2.2.2.1 - (1 : Int))) < ((List.length t5.2.2.2.2.1 : Nat) : Int) then if (0 : Int) ≤ t5.2.2.2.1 then if t5.2.2.2.1 < ((List.length t5.2.2.2.2.1 : Nat) : Int) then some (decide ((rd_i64 t5.2.2.2.2.1 (Go.IntKind.wrap .i64 (t5.2.2.2.1 - (1 : Int)))) ≥ (rd_i64 t5.2.2.2.2.1 t5.2.2.2.1))) else none else none else none else none else some false) fun u4 => Option.bind (bif u4 then some true else Option.bind (F_impl_NodeOk (rd_Node t5.2.1 t5.2.2.2.1)) fun r6 => some (!r6)) fun u5 => Option.bind (bif u5 then some true else Option.bind (F_impl_inBounds (t5.2.2.2.2.1, t5.2.2.2.2.2, t5.2.2.2.1)) fun r8 => some (!r8)) fun u7 => bif u7 then k0 (false, t5.1) else Option.bind (F_impl_NodeKeys (rd_Node t5.2.1 t5.2.2.2.1)) fun r9 => Option.bind (bif (decide (t5.2.2.2.1 > (0 : Int))) then some (((List.length r9 : Nat) : Int) == (0 : Int)) else some false) fun u10 => bif u10 then k0 (false, t5.1) else again ((Go.IntKind.wrap .i64 (t5.1 + ((List.length r9 : Nat) : Int))), t5.2.1, t5.2.2.1, (Go.IntKind.wrap .i64 (t5.2.2.2.1 + (1 : Int))), t5.2.2.2.2.1, t5.2.2.2.2.2) else none else none else k1 t5.1
noncomputable def L_impl_TreeOk_5 {R : Type} (k0 : (Bool × Int) → Option R) (k1 : Int → Option R) (t : T_impl_TreeOk_5) : Option R := iter (S_impl_TreeOk_5 k0 k1) FUEL t
noncomputable def F_impl_TreeOk (x : List E_i64 × List E_Node) : Option (Bool) :=
  Option.bind (F_impl_within (((List.length x.2 : Nat) : Int), (1 : Int), (20 : Int))) fun r1 => Option.bind (bif (!r1) then some true else some (((List.length x.1 : Nat) : Int) != ((List.length x.2 : Nat) : Int))) fun u2 => Option.bind (bif u2 then some true else if (0 : Int) ≤ (0 : Int) then if (0 : Int) < ((List.length x.1 : Nat) : Int) then some ((rd_i64 x.1 (0 : Int)) != (0 : Int)) else none else none) fun u3 => bif u3 then some false else L_impl_TreeOk_5 (fun x11 => some x11.1) (fun x12 => some (decide (x12 ≤ (60 : Int)))) ((0 : Int), x.2, ((List.length x.2 : Nat) : Int), (0 : Int), x.1, x.2)
noncomputable def f119B : Code := match Tryz.f119.body with
  | some c => c
  | none => .skip
noncomputable def f119K : C.Sem := tab [⟨103, F_impl_within⟩, ⟨183, F_impl_NodeOk⟩, ⟨184, F_impl_inBounds⟩, ⟨185, F_impl_NodeKeys⟩]
def f119h5_0 : List Sh := [.dead, .box 1 0, .dead, .v (.int .i64), .dead, .dead, .dead, .dead, .dead, .dead, .dead, .dead, .dead, .dead, .dead, .dead, .dead, .dead, .dead, .dead, .dead, .dead, .dead, .dead, .dead, .dead, .dead, .dead, .dead, .v (.sl 97 ts_Node), .v (.int .i64), .v (.int .i64), .dead, .dead, .dead, .dead, .dead, .dead, .dead, .dead, .dead, .dead, .dead, .dead, .dead, .dead, .dead, .dead, .dead, .dead, .dead, .dead, .dead, .dead, .dead, .dead, .dead, .dead, .dead, .dead, .dead, .dead, .dead, .dead, .dead, .dead, .dead, .dead, .dead, .dead, .dead, .dead, .dead, .dead, .dead, .dead, .dead, .dead]
def f119o5_0 : List (Nat × OSh) := [(1, .box [.v (.sl 3 ts_i64), .v (.sl 97 ts_Node)])]
def f119e5_0 (t : Int × List E_Node × Int × Int × List E_i64 × List E_Node) : St := ⟨[.dead, .box 1 0, .dead, .val (.int .i64) t.1, .dead, .dead, .dead, .dead, .dead, .dead, .dead, .dead, .dead, .dead, .dead, .dead, .dead, .dead, .dead, .dead, .dead, .dead, .dead, .dead, .dead, .dead, .dead, .dead, .dead, .val (.sl 97 ts_Node) t.2.1, .val (.int .i64) t.2.2.1, .val (.int .i64) t.2.2.2.1, .dead, .dead, .dead, .dead, .dead, .dead, .dead, .dead, .dead, .dead, .dead, .dead, .dead, .dead, .dead, .dead, .dead, .dead, .dead, .dead, .dead, .dead, .dead, .dead, .dead, .dead, .dead, .dead, .dead, .dead, .dead, .dead, .dead, .dead, .dead, .dead, .dead, .dead, .dead, .dead, .dead, .dead, .dead, .dead, .dead, .dead], [(1, .box [.val (.sl 3 ts_i64) t.2.2.2.2.1, .val (.sl 97 ts_Node) t.2.2.2.2.2])]⟩
def f119x5_0 (t : Bool × Int) : St := ⟨[.dead, .dead, .val .bool t.1, .val (.int .i64) t.2, .dead, .dead, .dead, .dead, .dead, .dead, .dead, .dead, .dead, .dead, .dead, .dead, .dead, .dead, .dead, .dead, .dead, .dead, .dead, .dead, .dead, .dead, .dead, .dead, .dead, .dead, .dead, .dead, .dead, .dead, .dead, .dead, .dead, .dead, .dead, .dead, .dead, .dead, .dead, .dead, .dead, .dead, .dead, .dead, .dead, .dead, .dead, .dead, .dead, .dead, .dead, .dead, .dead, .dead, .dead, .dead, .dead, .dead, .dead, .dead, .dead, .dead, .dead, .dead, .dead, .dead, .dead, .dead, .dead, .dead, .dead, .dead, .dead, .dead], []⟩
def f119x5_1 (t : Int) : St := ⟨[.dead, .dead, .dead, .val (.int .i64) t, .dead, .dead, .dead, .dead, .dead, .dead, .dead, .dead, .dead, .dead, .dead, .dead, .dead, .dead, .dead, .dead, .dead, .dead, .dead, .dead, .dead, .dead, .dead, .dead, .dead, .dead, .dead, .dead, .dead, .dead, .dead, .dead, .dead, .dead, .dead, .dead, .dead, .dead, .dead, .dead, .dead, .dead, .dead, .dead, .dead, .dead, .dead, .dead, .dead, .dead, .dead, .dead, .dead, .dead, .dead, .dead, .dead, .dead, .dead, .dead, .dead, .dead, .dead, .dead, .dead, .dead, .dead, .dead, .dead, .dead, .dead, .dead, .dead, .dead], []⟩
def f119u5_0 (s : St) : Option (Int × List E_Node × Int × Int × List E_i64 × List E_Node) := (unS f119h5_0 f119o5_0 s).map fun v => (v.1.2.2.2.1, v.1.2.2.2.2.2.2.2.2.2.2.2.2.2.2.2.2.2.2.2.2.2.2.2.2.2.2.2.2.2.1, v.1.2.2.2.2.2.2.2.2.2.2.2.2.2.2.2.2.2.2.2.2.2.2.2.2.2.2.2.2.2.2.1, v.1.2.2.2.2.2.2.2.2.2.2.2.2.2.2.2.2.2.2.2.2.2.2.2.2.2.2.2.2.2.2.2.1, v.2.1.1, v.2.1.2.1)
theorem f119un5_0 : ∀ (s : St) (t : Int × List E_Node × Int × Int × List E_i64 × List E_Node), f119u5_0 s = some t → f119e5_0 t = s := fun s v h => by
  obtain ⟨u, hu, rfl⟩ := Option.map_eq_some_iff.1 h
  exact (show f119e5_0 (u.1.2.2.2.1, u.1.2.2.2.2.2.2.2.2.2.2.2.2.2.2.2.2.2.2.2.2.2.2.2.2.2.2.2.2.2.1, u.1.2.2.2.2.2.2.2.2.2.2.2.2.2.2.2.2.2.2.2.2.2.2.2.2.2.2.2.2.2.2.1, u.1.2.2.2.2.2.2.2.2.2.2.2.2.2.2.2.2.2.2.2.2.2.2.2.2.2.2.2.2.2.2.2.1, u.2.1.1, u.2.1.2.1) = mkS f119h5_0 f119o5_0 u by kernel_rfl).trans (mkS_un f119h5_0 f119o5_0 s u hu)
def f119u5 : St → Option (Int × List E_Node × Int × Int × List E_i64 × List E_Node) := f119u5_0
def f119e5 : (Int × List E_Node × Int × Int × List E_i64 × List E_Node) → St := f119e5_0
theorem f119un5 : ∀ (s : St) (t : Int × List E_Node × Int × Int × List E_i64 × List E_Node), f119u5 s = some t → f119e5 t = s := f119un5_0
noncomputable def f119P : Lp := fun i s {_R} κ => bif Nat.beq i 5 then (f119u5 s).bind fun t => L_impl_TreeOk_5 (fun t => κ (none) (f119x5_0 t)) (fun t => κ (some 0) (f119x5_1 t)) t else none
noncomputable def f119c5 : Code := (loopsOf f119B).getD 0 .skip
theorem f119A5 : C.live 119 (firstRegion f119c5) = some ([1, 3, 29, 30, 31, 39, 40, 41, 42, 43, 44, 45, 46, 47, 48, 49, 50, 53, 54, 55, 58, 59, 60, 61, 69, 70], [2, 3]) := by kernel_rfl
theorem f119B5 {R : Type} (κ : Option Nat → St → Option R) (s : St) : f119P (firstRegion f119c5) s κ = (f119u5 s).bind fun t => iter (S_impl_TreeOk_5 (fun t => κ (none) (f119x5_0 t)) (fun t => κ (some 0) (f119x5_1 t))) FUEL t := by kernel_rfl
theorem f119C5 {R : Type} (κ : Option Nat → St → Option R) (again : St → Option R) (t : T_impl_TreeOk_5) : stepL C f119K f119P 119 f119c5 [1, 3, 29, 30, 31, 39, 40, 41, 42, 43, 44, 45, 46, 47, 48, 49, 50, 53, 54, 55, 58, 59, 60, 61, 69, 70] [2, 3] κ again (f119e5 t) = S_impl_TreeOk_5 (fun t => κ (none) (f119x5_0 t)) (fun t => κ (some 0) (f119x5_1 t)) (fun t => again (f119e5 t)) t := by kernel_rfl
theorem f119ok5 : LoopOk C f119K f119P 119 f119c5 := loop_ok f119A5 f119e5 f119u5 f119un5 (fun {_R} κ => S_impl_TreeOk_5 (fun t => κ (none) (f119x5_0 t)) (fun t => κ (some 0) (f119x5_1 t))) (fun {_R} κ s => f119B5 κ s) (fun {_R} κ again t => f119C5 κ again t)
theorem k119 : Contract C Tryz.prog f119K := contract_tab _ (fun p hp => by
    simp only [List.mem_cons, List.mem_nil_iff, or_false] at hp
    rcases hp with rfl | rfl | rfl | rfl
    · exact ok103
    · exact ok183
    · exact ok184
    · exact ok185)
theorem ev119 (x : List E_i64 × List E_Node) : evalB C f119K f119P 119 Tryz.f119 f119B ⟨[.v true [(.sl 3 ts_i64), (.sl 97 ts_Node)] [false, false]], [⟨false, [.bool], [false]⟩], false⟩ [(.sl 3 ts_i64), (.sl 97 ts_Node)] [.bool] x = F_impl_TreeOk x := by kernel_rfl
theorem ok119 : ContractAt C Tryz.prog 119 F_impl_TreeOk := fn_sound (lp := f119P) tok mixed k119 (by kernel_rfl) (fn := Tryz.f119) (c := f119B) (sg := ⟨[.v true [(.sl 3 ts_i64), (.sl 97 ts_Node)] [false, false]], [⟨false, [.bool], [false]⟩], false⟩) Tryz.func119 (by decide) (by kernel_rfl) (by kernel_rfl) (by kernel_rfl) (fun c' hc' => by
    rw [show loopsOf f119B = [f119c5] by kernel_rfl] at hc'
    simp only [List.mem_cons, List.mem_nil_iff, or_false] at hc'
    rcases hc' with rfl
    · exact f119ok5) (by decide) (by decide) (fun x y h => (ev119 x).trans h)
noncomputable def F_impl_AgeAt_1 (x : Int × Int × Int) : Option (Bool × Int) :=
  some ((x.1 == x.2.2), x.2.2)
noncomputable def f230B : Code := match Tryz.f230.body with
  | some c => c
  | none => .skip
noncomputable def f230K : C.Sem := tab []
noncomputable def f230P : Lp := fun i s {_R} κ => none
theorem k230 : Contract C Tryz.prog f230K := contract_tab _ (fun p hp => by cases hp)
theorem ev230 (x : Int × Int × Int) : evalB C f230K f230P 230 Tryz.f230 f230B ⟨[.v true [(.int .i64), (.int .i64)] [false, false], .p none [(.int .i64)] [false]], [⟨false, [.bool], [false]⟩], false⟩ [(.int .i64), (.int .i64), (.int .i64)] [.bool, (.int .i64)] x = F_impl_AgeAt_1 x := by kernel_rfl
theorem ok230 : ContractAt C Tryz.prog 230 F_impl_AgeAt_1 := fn_sound (lp := f230P) tok mixed k230 (by kernel_rfl) (fn := Tryz.f230) (c := f230B) (sg := ⟨[.v true [(.int .i64), (.int .i64)] [false, false], .p none [(.int .i64)] [false]], [⟨false, [.bool], [false]⟩], false⟩) Tryz.func230 (by decide) (by kernel_rfl) (by kernel_rfl) (by kernel_rfl) (fun c' hc' => by
    rw [show loopsOf f230B = [] by kernel_rfl] at hc'
    cases hc') (by decide) (by decide) (fun x y h => (ev230 x).trans h)
abbrev T_slices_IndexFunc_Age_impl_AgeAt_1_2 : Type := List E_Age × Int × Int × Int
noncomputable def S_slices_IndexFunc_Age_impl_AgeAt_1_2 {R : Type} (k0 : (Int × Int) → Option R) (k1 : Int → Option R) (again : T_slices_IndexFunc_Age_impl_AgeAt_1_2 → Option R) (t2 : T_slices_IndexFunc_Age_impl_AgeAt_1_2) : Option R :=
  bif (decide (t2.2.2.1 < t2.2.1)) then if (0 : Int) ≤ t2.2.2.1 then if t2.2.2.1 < ((List.length t2.1 : Nat) : Int) then Option.bind (F_impl_AgeAt_1 ((rd_Age t2.1 t2.2.2.1).1, (rd_Age t2.1 t2.2.2.1).2, t2.2.2.2)) fun r1 => bif r1.1 then k0 (t2.2.2.1, r1.2) else again (t2.1, t2.2.1, (Go.IntKind.wrap .i64 (t2.2.2.1 + (1 : Int))), r1.2) else none else none else k1 t2.2.2.2
noncomputable def L_slices_IndexFunc_Age_impl_AgeAt_1_2 {R : Type} (k0 : (Int × Int) → Option R) (k1 : Int → Option R) (t : T_slices_IndexFunc_Age_impl_AgeAt_1_2) : Option R := iter (S_slices_IndexFunc_Age_impl_AgeAt_1_2 k0 k1) FUEL t
noncomputable def F_slices_IndexFunc_Age_impl_AgeAt_1 (x : List E_Age × Int) : Option (Int × Int) :=
  L_slices_IndexFunc_Age_impl_AgeAt_1_2 (fun x2 => some (x2.1, x2.2)) (fun x3 => some ((-1 : Int), x3)) (x.1, ((List.length x.1 : Nat) : Int), (0 : Int), x.2)
noncomputable def f100000B : Code := match Tryz.f229.body with
  | some c => c
  | none => .skip
noncomputable def f100000K : C.Sem := tab [⟨230, F_impl_AgeAt_1⟩]
def f100000h2_0 : List Sh := [.v (.sl 88 ts_Age), .clo 230 901, .dead, .dead, .dead, .dead, .dead, .v (.int .i64), .v (.int .i64), .dead, .dead, .dead, .dead, .dead, .dead, .dead, .dead, .dead, .dead]
def f100000o2_0 : List (Nat × OSh) := [(901, .box [.v (.int .i64)])]
def f100000e2_0 (t : List E_Age × Int × Int × Int) : St := ⟨[.val (.sl 88 ts_Age) t.1, .clo 230 901, .dead, .dead, .dead, .dead, .dead, .val (.int .i64) t.2.1, .val (.int .i64) t.2.2.1, .dead, .dead, .dead, .dead, .dead, .dead, .dead, .dead, .dead, .dead], [(901, .box [.val (.int .i64) t.2.2.2])]⟩
def f100000x2_0 (t : Int × Int) : St := ⟨[.dead, .clo 230 901, .dead, .dead, .val (.int .i64) t.1, .dead, .dead, .dead, .dead, .dead, .dead, .dead, .dead, .dead, .dead, .dead, .dead, .dead, .dead], [(901, .box [.val (.int .i64) t.2])]⟩
def f100000x2_1 (t : Int) : St := ⟨[.dead, .clo 230 901, .dead, .dead, .dead, .dead, .dead, .dead, .dead, .dead, .dead, .dead, .dead, .dead, .dead, .dead, .dead, .dead, .dead], [(901, .box [.val (.int .i64) t])]⟩
def f100000u2_0 (s : St) : Option (List E_Age × Int × Int × Int) := (unS f100000h2_0 f100000o2_0 s).map fun v => (v.1.1, v.1.2.2.2.2.2.2.2.1, v.1.2.2.2.2.2.2.2.2.1, v.2.1.1)
theorem f100000un2_0 : ∀ (s : St) (t : List E_Age × Int × Int × Int), f100000u2_0 s = some t → f100000e2_0 t = s := fun s v h => by
  obtain ⟨u, hu, rfl⟩ := Option.map_eq_some_iff.1 h
  exact (show f100000e2_0 (u.1.1, u.1.2.2.2.2.2.2.2.1, u.1.2.2.2.2.2.2.2.2.1, u.2.1.1) = mkS f100000h2_0 f100000o2_0 u by kernel_rfl).trans (mkS_un f100000h2_0 f100000o2_0 s u hu)
def f100000u2 : St → Option (List E_Age × Int × Int × Int) := f100000u2_0
def f100000e2 : (List E_Age × Int × Int × Int) → St := f100000e2_0
theorem f100000un2 : ∀ (s : St) (t : List E_Age × Int × Int × Int), f100000u2 s = some t → f100000e2 t = s := f100000un2_0
noncomputable def f100000P : Lp := fun i s {_R} κ => bif Nat.beq i 2 then (f100000u2 s).bind fun t => L_slices_IndexFunc_Age_impl_AgeAt_1_2 (fun t => κ (none) (f100000x2_0 t)) (fun t => κ (some 0) (f100000x2_1 t)) t else none
noncomputable def f100000c2 : Code := (loopsOf f100000B).getD 0 .skip
theorem f100000A2 : C.live 100000 (firstRegion f100000c2) = some ([0, 1, 7, 8], [1, 4]) := by kernel_rfl
theorem f100000B2 {R : Type} (κ : Option Nat → St → Option R) (s : St) : f100000P (firstRegion f100000c2) s κ = (f100000u2 s).bind fun t => iter (S_slices_IndexFunc_Age_impl_AgeAt_1_2 (fun t => κ (none) (f100000x2_0 t)) (fun t => κ (some 0) (f100000x2_1 t))) FUEL t := by kernel_rfl
theorem f100000C2 {R : Type} (κ : Option Nat → St → Option R) (again : St → Option R) (t : T_slices_IndexFunc_Age_impl_AgeAt_1_2) : stepL C f100000K f100000P 100000 f100000c2 [0, 1, 7, 8] [1, 4] κ again (f100000e2 t) = S_slices_IndexFunc_Age_impl_AgeAt_1_2 (fun t => κ (none) (f100000x2_0 t)) (fun t => κ (some 0) (f100000x2_1 t)) (fun t => again (f100000e2 t)) t := by kernel_rfl
theorem f100000ok2 : LoopOk C f100000K f100000P 100000 f100000c2 := loop_ok f100000A2 f100000e2 f100000u2 f100000un2 (fun {_R} κ => S_slices_IndexFunc_Age_impl_AgeAt_1_2 (fun t => κ (none) (f100000x2_0 t)) (fun t => κ (some 0) (f100000x2_1 t))) (fun {_R} κ s => f100000B2 κ s) (fun {_R} κ again t => f100000C2 κ again t)
theorem k100000 : Contract C Tryz.prog f100000K := contract_tab _ (fun p hp => by
    simp only [List.mem_cons, List.mem_nil_iff, or_false] at hp
    rcases hp with rfl
    · exact ok230)
theorem ev100000 (x : List E_Age × Int) : evalB C f100000K f100000P 100000 Tryz.f229 f100000B ⟨[.v false [(.sl 88 ts_Age)] [false], .p (some 230) [(.int .i64)] [false]], [⟨false, [(.int .i64)], [false]⟩], false⟩ [(.sl 88 ts_Age), (.int .i64)] [(.int .i64), (.int .i64)] x = F_slices_IndexFunc_Age_impl_AgeAt_1 x := by kernel_rfl
theorem ok100000 : ContractAt C Tryz.prog 100000 F_slices_IndexFunc_Age_impl_AgeAt_1 := fn_sound (lp := f100000P) tok mixed k100000 (by kernel_rfl) (fn := Tryz.f229) (c := f100000B) (sg := ⟨[.v false [(.sl 88 ts_Age)] [false], .p (some 230) [(.int .i64)] [false]], [⟨false, [(.int .i64)], [false]⟩], false⟩) Tryz.func229 (by decide) (by kernel_rfl) (by kernel_rfl) (by kernel_rfl) (fun c' hc' => by
    rw [show loopsOf f100000B = [f100000c2] by kernel_rfl] at hc'
    simp only [List.mem_cons, List.mem_nil_iff, or_false] at hc'
    rcases hc' with rfl
    · exact f100000ok2) (by decide) (by decide) (fun x y h => (ev100000 x).trans h)
noncomputable def F_impl_AgeAt (x : List E_Age × Int) : Option (Int) :=
  Option.bind (F_slices_IndexFunc_Age_impl_AgeAt_1 (x.1, x.2)) fun r1 => some r1.1
noncomputable def f186B : Code := match Tryz.f186.body with
  | some c => c
  | none => .skip
noncomputable def f186K : C.Sem := tab [⟨100000, F_slices_IndexFunc_Age_impl_AgeAt_1⟩]
noncomputable def f186P : Lp := fun i s {_R} κ => none
theorem k186 : Contract C Tryz.prog f186K := contract_tab _ (fun p hp => by
    simp only [List.mem_cons, List.mem_nil_iff, or_false] at hp
    rcases hp with rfl
    · exact ok100000)
theorem ev186 (x : List E_Age × Int) : evalB C f186K f186P 186 Tryz.f186 f186B ⟨[.v false [(.sl 88 ts_Age)] [false], .v false [(.int .i64)] [false]], [⟨false, [(.int .i64)], [false]⟩], false⟩ [(.sl 88 ts_Age), (.int .i64)] [(.int .i64)] x = F_impl_AgeAt x := by kernel_rfl
theorem ok186 : ContractAt C Tryz.prog 186 F_impl_AgeAt := fn_sound (lp := f186P) tok mixed k186 (by kernel_rfl) (fn := Tryz.f186) (c := f186B) (sg := ⟨[.v false [(.sl 88 ts_Age)] [false], .v false [(.int .i64)] [false]], [⟨false, [(.int .i64)], [false]⟩], false⟩) Tryz.func186 (by decide) (by kernel_rfl) (by kernel_rfl) (by kernel_rfl) (fun c' hc' => by
    rw [show loopsOf f186B = [] by kernel_rfl] at hc'
    cases hc') (by decide) (by decide) (fun x y h => (ev186 x).trans h)
abbrev T_impl_AgesOk_2 : Type := List E_Age × List E_Age × Int × Int
noncomputable def S_impl_AgesOk_2 {R : Type} (k0 : (List E_Age × Bool) → Option R) (k1 : List E_Age → Option R) (again : T_impl_AgesOk_2 → Option R) (t2 : T_impl_AgesOk_2) : Option R :=
  bif (decide (t2.2.2.2 < t2.2.2.1)) then if (0 : Int) ≤ t2.2.2.2 then if t2.2.2.2 < ((List.length t2.2.1 : Nat) : Int) then Option.bind (F_impl_within ((rd_Age t2.2.1 t2.2.2.2).1, (1 : Int), (60 : Int))) fun r1 => Option.bind (bif (!r1) then some true else Option.bind (bif (decide (t2.2.2.2 > (0 : Int))) then if (0 : Int) ≤ (Go.IntKind.wrap .i64 (t2.2.2.2 - (1 : Int))) then if (Go.IntKind.wrap .i64 (t2.2.2.2 - (1 : Int))) < ((List.length t2.1 : Nat) : Int) then some (decide ((rd_Age t2.1 (Go.IntKind.wrap .i64 (t2.2.2.2 - (1 : Int)))).1 ≥ (rd_Age t2.2.1 t2.2.2.2).1)) else none else none else some false) fun u3 => some u3) fun u2 => Option.bind (bif u2 then some true else Option.bind (bif ((rd_Age t2.2.1 t2.2.2.2).2 != (0 : Int)) then if (0 : Int) ≤ (0 : Int) then if (0 : Int) ≤ t2.2.2.2 then if t2.2.2.2 ≤ ((List.length t2.1 : Nat) : Int) then Option.bind (F_impl_AgeAt ((List.drop (Int.toNat (0 : Int)) (List.take (Int.toNat t2.2.2.2) t2.1)), (rd_Age t2.2.1 t2.2.2.2).2)) fun r6 => some (decide (r6 < (0 : Int))) else none else none else none else some false) fun u5 => some u5) fun u4 => bif u4 then k0 (t2.1, false) else again (t2.1, t2.2.1, t2.2.2.1, (Go.IntKind.wrap .i64 (t2.2.2.2 + (1 : Int)))) else none else none else k1 t2.1
noncomputable def L_impl_AgesOk_2 {R : Type} (k0 : (List E_Age × Bool) → Option R) (k1 : List E_Age → Option R) (t : T_impl_AgesOk_2) : Option R := iter (S_impl_AgesOk_2 k0 k1) FUEL t
noncomputable def F_impl_AgesOk (x : List E_Age) : Option (Bool) :=
  L_impl_AgesOk_2 (fun x7 => some x7.2) (fun x8 => some (decide (((List.length x8 : Nat) : Int) ≤ (16 : Int)))) (x, x, ((List.length x : Nat) : Int), (0 : Int))
noncomputable def f120B : Code := match Tryz.f120.body with
  | some c => c
  | none => .skip
noncomputable def f120K : C.Sem := tab [⟨103, F_impl_within⟩, ⟨186, F_impl_AgeAt⟩]
def f120h2_0 : List Sh := [.v (.sl 88 ts_Age), .dead, .dead, .dead, .dead, .v (.sl 88 ts_Age), .v (.int .i64), .v (.int .i64), .dead, .dead, .dead, .dead, .dead, .dead, .dead, .dead, .dead, .dead, .dead, .dead, .dead, .dead, .dead, .dead, .dead, .dead, .dead, .dead, .dead, .dead, .dead, .dead, .dead, .dead, .dead, .dead, .dead, .dead, .dead, .dead, .dead, .dead, .dead, .dead, .dead, .dead, .dead, .dead, .dead]
def f120o2_0 : List (Nat × OSh) := []
def f120e2_0 (t : List E_Age × List E_Age × Int × Int) : St := ⟨[.val (.sl 88 ts_Age) t.1, .dead, .dead, .dead, .dead, .val (.sl 88 ts_Age) t.2.1, .val (.int .i64) t.2.2.1, .val (.int .i64) t.2.2.2, .dead, .dead, .dead, .dead, .dead, .dead, .dead, .dead, .dead, .dead, .dead, .dead, .dead, .dead, .dead, .dead, .dead, .dead, .dead, .dead, .dead, .dead, .dead, .dead, .dead, .dead, .dead, .dead, .dead, .dead, .dead, .dead, .dead, .dead, .dead, .dead, .dead, .dead, .dead, .dead, .dead], []⟩
def f120x2_0 (t : List E_Age × Bool) : St := ⟨[.val (.sl 88 ts_Age) t.1, .dead, .val .bool t.2, .dead, .dead, .dead, .dead, .dead, .dead, .dead, .dead, .dead, .dead, .dead, .dead, .dead, .dead, .dead, .dead, .dead, .dead, .dead, .dead, .dead, .dead, .dead, .dead, .dead, .dead, .dead, .dead, .dead, .dead, .dead, .dead, .dead, .dead, .dead, .dead, .dead, .dead, .dead, .dead, .dead, .dead, .dead, .dead, .dead, .dead], []⟩
def f120x2_1 (t : List E_Age) : St := ⟨[.val (.sl 88 ts_Age) t, .dead, .dead, .dead, .dead, .dead, .dead, .dead, .dead, .dead, .dead, .dead, .dead, .dead, .dead, .dead, .dead, .dead, .dead, .dead, .dead, .dead, .dead, .dead, .dead, .dead, .dead, .dead, .dead, .dead, .dead, .dead, .dead, .dead, .dead, .dead, .dead, .dead, .dead, .dead, .dead, .dead, .dead, .dead, .dead, .dead, .dead, .dead, .dead], []⟩
def f120u2_0 (s : St) : Option (List E_Age × List E_Age × Int × Int) := (unS f120h2_0 f120o2_0 s).map fun v => (v.1.1, v.1.2.2.2.2.2.1, v.1.2.2.2.2.2.2.1, v.1.2.2.2.2.2.2.2.1)
theorem f120un2_0 : ∀ (s : St) (t : List E_Age × List E_Age × Int × Int), f120u2_0 s = some t → f120e2_0 t = s := fun s v h => by
  obtain ⟨u, hu, rfl⟩ := Option.map_eq_some_iff.1 h
  exact (show f120e2_0 (u.1.1, u.1.2.2.2.2.2.1, u.1.2.2.2.2.2.2.1, u.1.2.2.2.2.2.2.2.1) = mkS f120h2_0 f120o2_0 u by kernel_rfl).trans (mkS_un f120h2_0 f120o2_0 s u hu)
def f120u2 : St → Option (List E_Age × List E_Age × Int × Int) := f120u2_0
def f120e2 : (List E_Age × List E_Age × Int × Int) → St := f120e2_0
theorem f120un2 : ∀ (s : St) (t : List E_Age × List E_Age × Int × Int), f120u2 s = some t → f120e2 t = s := f120un2_0
noncomputable def f120P : Lp := fun i s {_R} κ => bif Nat.beq i 2 then (f120u2 s).bind fun t => L_impl_AgesOk_2 (fun t => κ (none) (f120x2_0 t)) (fun t => κ (some 0) (f120x2_1 t)) t else none
noncomputable def f120c2 : Code := (loopsOf f120B).getD 0 .skip
theorem f120A2 : C.live 120 (firstRegion f120c2) = some ([0, 5, 6, 7, 17, 18, 19, 20, 21, 22, 23, 24, 25, 26, 27, 28, 29, 32, 33, 34, 35, 36, 37, 38, 39, 40, 41, 42, 43], [0, 2]) := by kernel_rfl
theorem f120B2 {R : Type} (κ : Option Nat → St → Option R) (s : St) : f120P (firstRegion f120c2) s κ = (f120u2 s).bind fun t => iter (S_impl_AgesOk_2 (fun t => κ (none) (f120x2_0 t)) (fun t => κ (some 0) (f120x2_1 t))) FUEL t := by kernel_rfl
theorem f120C2 {R : Type} (κ : Option Nat → St → Option R) (again : St → Option R) (t : T_impl_AgesOk_2) : stepL C f120K f120P 120 f120c2 [0, 5, 6, 7, 17, 18, 19, 20, 21, 22, 23, 24, 25, 26, 27, 28, 29, 32, 33, 34, 35, 36, 37, 38, 39, 40, 41, 42, 43] [0, 2] κ again (f120e2 t) = S_impl_AgesOk_2 (fun t => κ (none) (f120x2_0 t)) (fun t => κ (some 0) (f120x2_1 t)) (fun t => again (f120e2 t)) t := by kernel_rfl
theorem f120ok2 : LoopOk C f120K f120P 120 f120c2 := loop_ok f120A2 f120e2 f120u2 f120un2 (fun {_R} κ => S_impl_AgesOk_2 (fun t => κ (none) (f120x2_0 t)) (fun t => κ (some 0) (f120x2_1 t))) (fun {_R} κ s => f120B2 κ s) (fun {_R} κ again t => f120C2 κ again t)
theorem k120 : Contract C Tryz.prog f120K := contract_tab _ (fun p hp => by
    simp only [List.mem_cons, List.mem_nil_iff, or_false] at hp
    rcases hp with rfl | rfl
    · exact ok103
    · exact ok186)
theorem ev120 (x : List E_Age) : evalB C f120K f120P 120 Tryz.f120 f120B ⟨[.v false [(.sl 88 ts_Age)] [false]], [⟨false, [.bool], [false]⟩], false⟩ [(.sl 88 ts_Age)] [.bool] x = F_impl_AgesOk x := by kernel_rfl
theorem ok120 : ContractAt C Tryz.prog 120 F_impl_AgesOk := fn_sound (lp := f120P) tok mixed k120 (by kernel_rfl) (fn := Tryz.f120) (c := f120B) (sg := ⟨[.v false [(.sl 88 ts_Age)] [false]], [⟨false, [.bool], [false]⟩], false⟩) Tryz.func120 (by decide) (by kernel_rfl) (by kernel_rfl) (by kernel_rfl) (fun c' hc' => by
    rw [show loopsOf f120B = [f120c2] by kernel_rfl] at hc'
    simp only [List.mem_cons, List.mem_nil_iff, or_false] at hc'
    rcases hc' with rfl
    · exact f120ok2) (by decide) (by decide) (fun x y h => (ev120 x).trans h)
noncomputable def F_impl_isWord (x : Int) : Option (Bool) :=
  Option.bind (F_impl_within (x, (0 : Int), (65535 : Int))) fun r1 => some r1
noncomputable def f187B : Code := match Tryz.f187.body with
  | some c => c
  | none => .skip
noncomputable def f187K : C.Sem := tab [⟨103, F_impl_within⟩]
noncomputable def f187P : Lp := fun i s {_R} κ => none
theorem k187 : Contract C Tryz.prog f187K := contract_tab _ (fun p hp => by
    simp only [List.mem_cons, List.mem_nil_iff, or_false] at hp
    rcases hp with rfl
    · exact ok103)
theorem ev187 (x : Int) : evalB C f187K f187P 187 Tryz.f187 f187B ⟨[.v false [(.int .i64)] [false]], [⟨false, [.bool], [false]⟩], false⟩ [(.int .i64)] [.bool] x = F_impl_isWord x := by kernel_rfl
theorem ok187 : ContractAt C Tryz.prog 187 F_impl_isWord := fn_sound (lp := f187P) tok mixed k187 (by kernel_rfl) (fn := Tryz.f187) (c := f187B) (sg := ⟨[.v false [(.int .i64)] [false]], [⟨false, [.bool], [false]⟩], false⟩) Tryz.func187 (by decide) (by kernel_rfl) (by kernel_rfl) (by kernel_rfl) (fun c' hc' => by
    rw [show loopsOf f187B = [] by kernel_rfl] at hc'
    cases hc') (by decide) (by decide) (fun x y h => (ev187 x).trans h)
abbrev T_impl_CellsOk_2 : Type := List E_Cell × List E_Cell × Int × Int
noncomputable def S_impl_CellsOk_2 {R : Type} (k0 : (List E_Cell × Bool) → Option R) (k1 : List E_Cell → Option R) (again : T_impl_CellsOk_2 → Option R) (t2 : T_impl_CellsOk_2) : Option R :=
  bif (decide (t2.2.2.2 < t2.2.2.1)) then if (0 : Int) ≤ t2.2.2.2 then if t2.2.2.2 < ((List.length t2.2.1 : Nat) : Int) then Option.bind (F_impl_within ((rd_Cell t2.2.1 t2.2.2.2).1, (0 : Int), (999 : Int))) fun r1 => Option.bind (bif (!r1) then some true else Option.bind (F_impl_isWord ((rd_Cell t2.2.1 t2.2.2.2).2.2)) fun r3 => some (!r3)) fun u2 => Option.bind (bif u2 then some true else Option.bind (bif ((rd_Cell t2.2.1 t2.2.2.2).2.2 != (0 : Int)) then some (!((rd_Cell t2.2.1 t2.2.2.2).2.1)) else some false) fun u5 => some u5) fun u4 => bif u4 then k0 (t2.1, false) else again (t2.1, t2.2.1, t2.2.2.1, (Go.IntKind.wrap .i64 (t2.2.2.2 + (1 : Int)))) else none else none else k1 t2.1
noncomputable def L_impl_CellsOk_2 {R : Type} (k0 : (List E_Cell × Bool) → Option R) (k1 : List E_Cell → Option R) (t : T_impl_CellsOk_2) : Option R := iter (S_impl_CellsOk_2 k0 k1) FUEL t
noncomputable def F_impl_CellsOk (x : List E_Cell) : Option (Bool) :=
  L_impl_CellsOk_2 (fun x6 => some x6.2) (fun x7 => some (((List.length x7 : Nat) : Int) == (24 : Int))) (x, x, ((List.length x : Nat) : Int), (0 : Int))
noncomputable def f121B : Code := match Tryz.f121.body with
  | some c => c
  | none => .skip
noncomputable def f121K : C.Sem := tab [⟨103, F_impl_within⟩, ⟨187, F_impl_isWord⟩]
def f121h2_0 : List Sh := [.v (.sl 94 ts_Cell), .dead, .dead, .dead, .dead, .v (.sl 94 ts_Cell), .v (.int .i64), .v (.int .i64), .dead, .dead, .dead, .dead, .dead, .dead, .dead, .dead, .dead, .dead, .dead, .dead, .dead, .dead, .dead, .dead, .dead, .dead, .dead, .dead, .dead, .dead, .dead, .dead, .dead, .dead, .dead]
def f121o2_0 : List (Nat × OSh) := []
def f121e2_0 (t : List E_Cell × List E_Cell × Int × Int) : St := ⟨[.val (.sl 94 ts_Cell) t.1, .dead, .dead, .dead, .dead, .val (.sl 94 ts_Cell) t.2.1, .val (.int .i64) t.2.2.1, .val (.int .i64) t.2.2.2, .dead, .dead, .dead, .dead, .dead, .dead, .dead, .dead, .dead, .dead, .dead, .dead, .dead, .dead, .dead, .dead, .dead, .dead, .dead, .dead, .dead, .dead, .dead, .dead, .dead, .dead, .dead], []⟩
def f121x2_0 (t : List E_Cell × Bool) : St := ⟨[.val (.sl 94 ts_Cell) t.1, .dead, .val .bool t.2, .dead, .dead, .dead, .dead, .dead, .dead, .dead, .dead, .dead, .dead, .dead, .dead, .dead, .dead, .dead, .dead, .dead, .dead, .dead, .dead, .dead, .dead, .dead, .dead, .dead, .dead, .dead, .dead, .dead, .dead, .dead, .dead], []⟩
def f121x2_1 (t : List E_Cell) : St := ⟨[.val (.sl 94 ts_Cell) t, .dead, .dead, .dead, .dead, .dead, .dead, .dead, .dead, .dead, .dead, .dead, .dead, .dead, .dead, .dead, .dead, .dead, .dead, .dead, .dead, .dead, .dead, .dead, .dead, .dead, .dead, .dead, .dead, .dead, .dead, .dead, .dead, .dead, .dead], []⟩
def f121u2_0 (s : St) : Option (List E_Cell × List E_Cell × Int × Int) := (unS f121h2_0 f121o2_0 s).map fun v => (v.1.1, v.1.2.2.2.2.2.1, v.1.2.2.2.2.2.2.1, v.1.2.2.2.2.2.2.2.1)
theorem f121un2_0 : ∀ (s : St) (t : List E_Cell × List E_Cell × Int × Int), f121u2_0 s = some t → f121e2_0 t = s := fun s v h => by
  obtain ⟨u, hu, rfl⟩ := Option.map_eq_some_iff.1 h
  exact (show f121e2_0 (u.1.1, u.1.2.2.2.2.2.1, u.1.2.2.2.2.2.2.1, u.1.2.2.2.2.2.2.2.1) = mkS f121h2_0 f121o2_0 u by kernel_rfl).trans (mkS_un f121h2_0 f121o2_0 s u hu)
def f121u2 : St → Option (List E_Cell × List E_Cell × Int × Int) := f121u2_0
def f121e2 : (List E_Cell × List E_Cell × Int × Int) → St := f121e2_0
theorem f121un2 : ∀ (s : St) (t : List E_Cell × List E_Cell × Int × Int), f121u2 s = some t → f121e2 t = s := f121un2_0
noncomputable def f121P : Lp := fun i s {_R} κ => bif Nat.beq i 2 then (f121u2 s).bind fun t => L_impl_CellsOk_2 (fun t => κ (none) (f121x2_0 t)) (fun t => κ (some 0) (f121x2_1 t)) t else none
noncomputable def f121c2 : Code := (loopsOf f121B).getD 0 .skip
theorem f121A2 : C.live 121 (firstRegion f121c2) = some ([0, 5, 6, 7, 16, 17, 18, 19, 22, 23, 24, 25, 26, 27, 28, 29], [0, 2]) := by kernel_rfl
theorem f121B2 {R : Type} (κ : Option Nat → St → Option R) (s : St) : f121P (firstRegion f121c2) s κ = (f121u2 s).bind fun t => iter (S_impl_CellsOk_2 (fun t => κ (none) (f121x2_0 t)) (fun t => κ (some 0) (f121x2_1 t))) FUEL t := by kernel_rfl
theorem f121C2 {R : Type} (κ : Option Nat → St → Option R) (again : St → Option R) (t : T_impl_CellsOk_2) : stepL C f121K f121P 121 f121c2 [0, 5, 6, 7, 16, 17, 18, 19, 22, 23, 24, 25, 26, 27, 28, 29] [0, 2] κ again (f121e2 t) = S_impl_CellsOk_2 (fun t => κ (none) (f121x2_0 t)) (fun t => κ (some 0) (f121x2_1 t)) (fun t => again (f121e2 t)) t := by kernel_rfl
theorem f121ok2 : LoopOk C f121K f121P 121 f121c2 := loop_ok f121A2 f121e2 f121u2 f121un2 (fun {_R} κ => S_impl_CellsOk_2 (fun t => κ (none) (f121x2_0 t)) (fun t => κ (some 0) (f121x2_1 t))) (fun {_R} κ s => f121B2 κ s) (fun {_R} κ again t => f121C2 κ again t)
theorem k121 : Contract C Tryz.prog f121K := contract_tab _ (fun p hp => by
    simp only [List.mem_cons, List.mem_nil_iff, or_false] at hp
    rcases hp with rfl | rfl
    · exact ok103
    · exact ok187)
theorem ev121 (x : List E_Cell) : evalB C f121K f121P 121 Tryz.f121 f121B ⟨[.v false [(.sl 94 ts_Cell)] [false]], [⟨false, [.bool], [false]⟩], false⟩ [(.sl 94 ts_Cell)] [.bool] x = F_impl_CellsOk x := by kernel_rfl
theorem ok121 : ContractAt C Tryz.prog 121 F_impl_CellsOk := fn_sound (lp := f121P) tok mixed k121 (by kernel_rfl) (fn := Tryz.f121) (c := f121B) (sg := ⟨[.v false [(.sl 94 ts_Cell)] [false]], [⟨false, [.bool], [false]⟩], false⟩) Tryz.func121 (by decide) (by kernel_rfl) (by kernel_rfl) (by kernel_rfl) (fun c' hc' => by
    rw [show loopsOf f121B = [f121c2] by kernel_rfl] at hc'
    simp only [List.mem_cons, List.mem_nil_iff, or_false] at hc'
    rcases hc' with rfl
    · exact f121ok2) (by decide) (by decide) (fun x y h => (ev121 x).trans h)
abbrev T_impl_KidsOf_5 : Type := Int × List E_Age × Int × Int × List E_i64
noncomputable def S_impl_KidsOf_5 {R : Type} (k0 : List E_i64 → Option R) (again : T_impl_KidsOf_5 → Option R) (t5 : T_impl_KidsOf_5) : Option R :=
  bif (decide (t5.2.2.2.1 < t5.2.2.1)) then if (0 : Int) ≤ t5.2.2.2.1 then if t5.2.2.2.1 < ((List.length t5.2.1 : Nat) : Int) then bif ((rd_Age t5.2.1 t5.2.2.2.1).2 == t5.1) then if (List.length t5.2.2.2.2 + List.length ([(rd_Age t5.2.1 t5.2.2.2.1).1] : List E_i64)) * 8 < 140737488355328 then again (t5.1, t5.2.1, t5.2.2.1, (Go.IntKind.wrap .i64 (t5.2.2.2.1 + (1 : Int))), (t5.2.2.2.2 ++ ([(rd_Age t5.2.1 t5.2.2.2.1).1] : List E_i64))) else none else again (t5.1, t5.2.1, t5.2.2.1, (Go.IntKind.wrap .i64 (t5.2.2.2.1 + (1 : Int))), t5.2.2.2.2) else none else none else k0 t5.2.2.2.2
noncomputable def L_impl_KidsOf_5 {R : Type} (k0 : List E_i64 → Option R) (t : T_impl_KidsOf_5) : Option R := iter (S_impl_KidsOf_5 k0) FUEL t
noncomputable def F_impl_KidsOf (x : List E_Age × Int) : Option (List E_i64) :=
  bif (x.2 == (0 : Int)) then some ([] : List E_i64) else L_impl_KidsOf_5 (fun x1 => some x1) (x.2, x.1, ((List.length x.1 : Nat) : Int), (0 : Int), ([] : List E_i64))
noncomputable def f163B : Code := match Tryz.f163.body with
  | some c => c
  | none => .skip
noncomputable def f163K : C.Sem := tab []
def f163h5_0 : List Sh := [.dead, .v (.int .i64), .dead, .dead, .dead, .own 10000000, .dead, .dead, .dead, .dead, .dead, .dead, .v (.sl 88 ts_Age), .v (.int .i64), .v (.int .i64), .dead, .dead, .dead, .dead, .dead, .dead, .dead, .dead, .dead, .dead, .dead, .dead, .dead, .dead]
def f163o5_0 : List (Nat × OSh) := [(10000000, .root true 3 ts_i64)]
def f163e5_0 (t : Int × List E_Age × Int × Int × List E_i64) : St := ⟨[.dead, .val (.int .i64) t.1, .dead, .dead, .dead, .own 10000000, .dead, .dead, .dead, .dead, .dead, .dead, .val (.sl 88 ts_Age) t.2.1, .val (.int .i64) t.2.2.1, .val (.int .i64) t.2.2.2.1, .dead, .dead, .dead, .dead, .dead, .dead, .dead, .dead, .dead, .dead, .dead, .dead, .dead, .dead], [(10000000, .root true 3 ts_i64 t.2.2.2.2)]⟩
def f163x5_0 (t : List E_i64) : St := ⟨[.dead, .dead, .dead, .dead, .dead, .own 10000000, .dead, .dead, .dead, .dead, .dead, .dead, .dead, .dead, .dead, .dead, .dead, .dead, .dead, .dead, .dead, .dead, .dead, .dead, .dead, .dead, .dead, .dead, .dead], [(10000000, .root true 3 ts_i64 t)]⟩
def f163u5_0 (s : St) : Option (Int × List E_Age × Int × Int × List E_i64) := (unS f163h5_0 f163o5_0 s).map fun v => (v.1.2.1, v.1.2.2.2.2.2.2.2.2.2.2.2.2.1, v.1.2.2.2.2.2.2.2.2.2.2.2.2.2.1, v.1.2.2.2.2.2.2.2.2.2.2.2.2.2.2.1, v.2.1)
theorem f163un5_0 : ∀ (s : St) (t : Int × List E_Age × Int × Int × List E_i64), f163u5_0 s = some t → f163e5_0 t = s := fun s v h => by
  obtain ⟨u, hu, rfl⟩ := Option.map_eq_some_iff.1 h
  exact (show f163e5_0 (u.1.2.1, u.1.2.2.2.2.2.2.2.2.2.2.2.2.1, u.1.2.2.2.2.2.2.2.2.2.2.2.2.2.1, u.1.2.2.2.2.2.2.2.2.2.2.2.2.2.2.1, u.2.1) = mkS f163h5_0 f163o5_0 u by kernel_rfl).trans (mkS_un f163h5_0 f163o5_0 s u hu)
def f163u5 : St → Option (Int × List E_Age × Int × Int × List E_i64) := f163u5_0
def f163e5 : (Int × List E_Age × Int × Int × List E_i64) → St := f163e5_0
theorem f163un5 : ∀ (s : St) (t : Int × List E_Age × Int × Int × List E_i64), f163u5 s = some t → f163e5 t = s := f163un5_0
noncomputable def f163P : Lp := fun i s {_R} κ => bif Nat.beq i 5 then (f163u5 s).bind fun t => L_impl_KidsOf_5 (fun t => κ (some 0) (f163x5_0 t)) t else none
noncomputable def f163c5 : Code := (loopsOf f163B).getD 0 .skip
theorem f163A5 : C.live 163 (firstRegion f163c5) = some ([1, 5, 12, 13, 14], [5]) := by kernel_rfl
theorem f163B5 {R : Type} (κ : Option Nat → St → Option R) (s : St) : f163P (firstRegion f163c5) s κ = (f163u5 s).bind fun t => iter (S_impl_KidsOf_5 (fun t => κ (some 0) (f163x5_0 t))) FUEL t := by kernel_rfl
theorem f163C5 {R : Type} (κ : Option Nat → St → Option R) (again : St → Option R) (t : T_impl_KidsOf_5) : stepL C f163K f163P 163 f163c5 [1, 5, 12, 13, 14] [5] κ again (f163e5 t) = S_impl_KidsOf_5 (fun t => κ (some 0) (f163x5_0 t)) (fun t => again (f163e5 t)) t := by kernel_rfl
theorem f163ok5 : LoopOk C f163K f163P 163 f163c5 := loop_ok f163A5 f163e5 f163u5 f163un5 (fun {_R} κ => S_impl_KidsOf_5 (fun t => κ (some 0) (f163x5_0 t))) (fun {_R} κ s => f163B5 κ s) (fun {_R} κ again t => f163C5 κ again t)
theorem k163 : Contract C Tryz.prog f163K := contract_tab _ (fun p hp => by cases hp)
theorem ev163 (x : List E_Age × Int) : evalB C f163K f163P 163 Tryz.f163 f163B ⟨[.v false [(.sl 88 ts_Age)] [false], .v false [(.int .i64)] [false]], [⟨false, [(.sl 3 ts_i64)], [true]⟩], false⟩ [(.sl 88 ts_Age), (.int .i64)] [(.sl 3 ts_i64)] x = F_impl_KidsOf x := by kernel_rfl
theorem ok163 : ContractAt C Tryz.prog 163 F_impl_KidsOf := fn_sound (lp := f163P) tok mixed k163 (by kernel_rfl) (fn := Tryz.f163) (c := f163B) (sg := ⟨[.v false [(.sl 88 ts_Age)] [false], .v false [(.int .i64)] [false]], [⟨false, [(.sl 3 ts_i64)], [true]⟩], false⟩) Tryz.func163 (by decide) (by kernel_rfl) (by kernel_rfl) (by kernel_rfl) (fun c' hc' => by
    rw [show loopsOf f163B = [f163c5] by kernel_rfl] at hc'
    simp only [List.mem_cons, List.mem_nil_iff, or_false] at hc'
    rcases hc' with rfl
    · exact f163ok5) (by decide) (by decide) (fun x y h => (ev163 x).trans h)
abbrev T_impl_NameOk_2 : Type := ByteArray × Int
noncomputable def S_impl_NameOk_2 {R : Type} (k0 : (ByteArray × Bool) → Option R) (k1 : ByteArray → Option R) (again : T_impl_NameOk_2 → Option R) (t2 : T_impl_NameOk_2) : Option R :=
  bif (decide (t2.2 < ((ByteArray.size t2.1 : Nat) : Int))) then if (0 : Int) ≤ t2.2 then if h1 : Int.toNat t2.2 < ByteArray.size t2.1 then Option.bind (F_impl_within ((Go.IntKind.wrap .i64 ((UInt8.toNat (ByteArray.get t2.1 (Int.toNat t2.2) h1) : Nat) : Int)), (97 : Int), (122 : Int))) fun r2 => Option.bind (bif (!r2) then if (0 : Int) ≤ t2.2 then if h4 : Int.toNat t2.2 < ByteArray.size t2.1 then Option.bind (F_impl_within ((Go.IntKind.wrap .i64 ((UInt8.toNat (ByteArray.get t2.1 (Int.toNat t2.2) h4) : Nat) : Int)), (48 : Int), (57 : Int))) fun r5 => some (!r5) else none else none else some false) fun u3 => bif u3 then k0 (t2.1, false) else again (t2.1, (Go.IntKind.wrap .i64 (t2.2 + (1 : Int)))) else none else none else k1 t2.1
noncomputable def L_impl_NameOk_2 {R : Type} (k0 : (ByteArray × Bool) → Option R) (k1 : ByteArray → Option R) (t : T_impl_NameOk_2) : Option R := iter (S_impl_NameOk_2 k0 k1) FUEL t
noncomputable def F_impl_NameOk (x : ByteArray) : Option (Bool) :=
  L_impl_NameOk_2 (fun x6 => some x6.2) (fun x7 => Option.bind (F_impl_within (((ByteArray.size x7 : Nat) : Int), (1 : Int), (6 : Int))) fun r8 => some r8) (x, (0 : Int))
noncomputable def f188B : Code := match Tryz.f188.body with
  | some c => c
  | none => .skip
noncomputable def f188K : C.Sem := tab [⟨103, F_impl_within⟩]
def f188h2_0 : List Sh := [.v .str, .dead, .dead, .v (.int .i64), .dead, .dead, .dead, .dead, .dead, .dead, .dead, .dead, .dead, .dead, .dead, .dead, .dead, .dead, .dead, .dead, .dead, .dead, .dead, .dead, .dead, .dead, .dead]
def f188o2_0 : List (Nat × OSh) := []
def f188e2_0 (t : ByteArray × Int) : St := ⟨[.val .str t.1, .dead, .dead, .val (.int .i64) t.2, .dead, .dead, .dead, .dead, .dead, .dead, .dead, .dead, .dead, .dead, .dead, .dead, .dead, .dead, .dead, .dead, .dead, .dead, .dead, .dead, .dead, .dead, .dead], []⟩
def f188x2_0 (t : ByteArray × Bool) : St := ⟨[.val .str t.1, .dead, .val .bool t.2, .dead, .dead, .dead, .dead, .dead, .dead, .dead, .dead, .dead, .dead, .dead, .dead, .dead, .dead, .dead, .dead, .dead, .dead, .dead, .dead, .dead, .dead, .dead, .dead], []⟩
def f188x2_1 (t : ByteArray) : St := ⟨[.val .str t, .dead, .dead, .dead, .dead, .dead, .dead, .dead, .dead, .dead, .dead, .dead, .dead, .dead, .dead, .dead, .dead, .dead, .dead, .dead, .dead, .dead, .dead, .dead, .dead, .dead, .dead], []⟩
def f188u2_0 (s : St) : Option (ByteArray × Int) := (unS f188h2_0 f188o2_0 s).map fun v => (v.1.1, v.1.2.2.2.1)
theorem f188un2_0 : ∀ (s : St) (t : ByteArray × Int), f188u2_0 s = some t → f188e2_0 t = s := fun s v h => by
  obtain ⟨u, hu, rfl⟩ := Option.map_eq_some_iff.1 h
  exact (show f188e2_0 (u.1.1, u.1.2.2.2.1) = mkS f188h2_0 f188o2_0 u by kernel_rfl).trans (mkS_un f188h2_0 f188o2_0 s u hu)
def f188u2 : St → Option (ByteArray × Int) := f188u2_0
def f188e2 : (ByteArray × Int) → St := f188e2_0
theorem f188un2 : ∀ (s : St) (t : ByteArray × Int), f188u2 s = some t → f188e2 t = s := f188un2_0
noncomputable def f188P : Lp := fun i s {_R} κ => bif Nat.beq i 2 then (f188u2 s).bind fun t => L_impl_NameOk_2 (fun t => κ (none) (f188x2_0 t)) (fun t => κ (some 0) (f188x2_1 t)) t else none
noncomputable def f188c2 : Code := (loopsOf f188B).getD 0 .skip
theorem f188A2 : C.live 188 (firstRegion f188c2) = some ([0, 3, 17, 18, 19, 20, 21, 22], [0, 2]) := by kernel_rfl
theorem f188B2 {R : Type} (κ : Option Nat → St → Option R) (s : St) : f188P (firstRegion f188c2) s κ = (f188u2 s).bind fun t => iter (S_impl_NameOk_2 (fun t => κ (none) (f188x2_0 t)) (fun t => κ (some 0) (f188x2_1 t))) FUEL t := by kernel_rfl
theorem f188C2 {R : Type} (κ : Option Nat → St → Option R) (again : St → Option R) (t : T_impl_NameOk_2) : stepL C f188K f188P 188 f188c2 [0, 3, 17, 18, 19, 20, 21, 22] [0, 2] κ again (f188e2 t) = S_impl_NameOk_2 (fun t => κ (none) (f188x2_0 t)) (fun t => κ (some 0) (f188x2_1 t)) (fun t => again (f188e2 t)) t := by kernel_rfl
theorem f188ok2 : LoopOk C f188K f188P 188 f188c2 := loop_ok f188A2 f188e2 f188u2 f188un2 (fun {_R} κ => S_impl_NameOk_2 (fun t => κ (none) (f188x2_0 t)) (fun t => κ (some 0) (f188x2_1 t))) (fun {_R} κ s => f188B2 κ s) (fun {_R} κ again t => f188C2 κ again t)
theorem k188 : Contract C Tryz.prog f188K := contract_tab _ (fun p hp => by
    simp only [List.mem_cons, List.mem_nil_iff, or_false] at hp
    rcases hp with rfl
    · exact ok103)
theorem ev188 (x : ByteArray) : evalB C f188K f188P 188 Tryz.f188 f188B ⟨[.v false [.str] [false]], [⟨false, [.bool], [false]⟩], false⟩ [.str] [.bool] x = F_impl_NameOk x := by kernel_rfl
theorem ok188 : ContractAt C Tryz.prog 188 F_impl_NameOk := fn_sound (lp := f188P) tok mixed k188 (by kernel_rfl) (fn := Tryz.f188) (c := f188B) (sg := ⟨[.v false [.str] [false]], [⟨false, [.bool], [false]⟩], false⟩) Tryz.func188 (by decide) (by kernel_rfl) (by kernel_rfl) (by kernel_rfl) (fun c' hc' => by
    rw [show loopsOf f188B = [f188c2] by kernel_rfl] at hc'
    simp only [List.mem_cons, List.mem_nil_iff, or_false] at hc'
    rcases hc' with rfl
    · exact f188ok2) (by decide) (by decide) (fun x y h => (ev188 x).trans h)
noncomputable def F_impl_volsOk_1 (x : ByteArray × Int × Int × Bool × ByteArray × Int × Int × Bool) : Option (Bool × ByteArray × Int × Int × Bool) :=
  some ((x.2.1 == x.2.2.2.2.2.1), x.2.2.2.2.1, x.2.2.2.2.2.1, x.2.2.2.2.2.2.1, x.2.2.2.2.2.2.2)
noncomputable def f190B : Code := match Tryz.f190.body with
  | some c => c
  | none => .skip
noncomputable def f190K : C.Sem := tab []
noncomputable def f190P : Lp := fun i s {_R} κ => none
theorem k190 : Contract C Tryz.prog f190K := contract_tab _ (fun p hp => by cases hp)
theorem ev190 (x : ByteArray × Int × Int × Bool × ByteArray × Int × Int × Bool) : evalB C f190K f190P 190 Tryz.f190 f190B ⟨[.v true [.str, (.int .i64), (.int .i64), .bool] [false, false, false, false], .p none [.str, (.int .i64), (.int .i64), .bool] [false, false, false, false]], [⟨false, [.bool], [false]⟩], false⟩ [.str, (.int .i64), (.int .i64), .bool, .str, (.int .i64), (.int .i64), .bool] [.bool, .str, (.int .i64), (.int .i64), .bool] x = F_impl_volsOk_1 x := by kernel_rfl
theorem ok190 : ContractAt C Tryz.prog 190 F_impl_volsOk_1 := fn_sound (lp := f190P) tok mixed k190 (by kernel_rfl) (fn := Tryz.f190) (c := f190B) (sg := ⟨[.v true [.str, (.int .i64), (.int .i64), .bool] [false, false, false, false], .p none [.str, (.int .i64), (.int .i64), .bool] [false, false, false, false]], [⟨false, [.bool], [false]⟩], false⟩) Tryz.func190 (by decide) (by kernel_rfl) (by kernel_rfl) (by kernel_rfl) (fun c' hc' => by
    rw [show loopsOf f190B = [] by kernel_rfl] at hc'
    cases hc') (by decide) (by decide) (fun x y h => (ev190 x).trans h)
abbrev T_slices_IndexFunc_Vol_impl_volsOk_1_2 : Type := List E_Vol × Int × Int × ByteArray × Int × Int × Bool
noncomputable def S_slices_IndexFunc_Vol_impl_volsOk_1_2 {R : Type} (k0 : (Int × ByteArray × Int × Int × Bool) → Option R) (k1 : (ByteArray × Int × Int × Bool) → Option R) (again : T_slices_IndexFunc_Vol_impl_volsOk_1_2 → Option R) (t2 : T_slices_IndexFunc_Vol_impl_volsOk_1_2) : Option R :=
  bif (decide (t2.2.2.1 < t2.2.1)) then if (0 : Int) ≤ t2.2.2.1 then if t2.2.2.1 < ((List.length t2.1 : Nat) : Int) then Option.bind (F_impl_volsOk_1 ((rd_Vol t2.1 t2.2.2.1).1, (rd_Vol t2.1 t2.2.2.1).2.1, (rd_Vol t2.1 t2.2.2.1).2.2.1, (rd_Vol t2.1 t2.2.2.1).2.2.2, t2.2.2.2.1, t2.2.2.2.2.1, t2.2.2.2.2.2.1, t2.2.2.2.2.2.2)) fun r1 => bif r1.1 then k0 (t2.2.2.1, r1.2.1, r1.2.2.1, r1.2.2.2.1, r1.2.2.2.2) else again (t2.1, t2.2.1, (Go.IntKind.wrap .i64 (t2.2.2.1 + (1 : Int))), r1.2.1, r1.2.2.1, r1.2.2.2.1, r1.2.2.2.2) else none else none else k1 (t2.2.2.2.1, t2.2.2.2.2.1, t2.2.2.2.2.2.1, t2.2.2.2.2.2.2)
noncomputable def L_slices_IndexFunc_Vol_impl_volsOk_1_2 {R : Type} (k0 : (Int × ByteArray × Int × Int × Bool) → Option R) (k1 : (ByteArray × Int × Int × Bool) → Option R) (t : T_slices_IndexFunc_Vol_impl_volsOk_1_2) : Option R := iter (S_slices_IndexFunc_Vol_impl_volsOk_1_2 k0 k1) FUEL t
noncomputable def F_slices_IndexFunc_Vol_impl_volsOk_1 (x : List E_Vol × ByteArray × Int × Int × Bool) : Option (Int × ByteArray × Int × Int × Bool) :=
  L_slices_IndexFunc_Vol_impl_volsOk_1_2 (fun x2 => some (x2.1, x2.2.1, x2.2.2.1, x2.2.2.2.1, x2.2.2.2.2)) (fun x3 => some ((-1 : Int), x3.1, x3.2.1, x3.2.2.1, x3.2.2.2)) (x.1, ((List.length x.1 : Nat) : Int), (0 : Int), x.2.1, x.2.2.1, x.2.2.2.1, x.2.2.2.2)
noncomputable def f100002B : Code := match Tryz.f231.body with
  | some c => c
  | none => .skip
noncomputable def f100002K : C.Sem := tab [⟨190, F_impl_volsOk_1⟩]
def f100002h2_0 : List Sh := [.v (.sl 90 ts_Vol), .clo 190 901, .dead, .dead, .dead, .dead, .dead, .v (.int .i64), .v (.int .i64), .dead, .dead, .dead, .dead, .dead, .dead, .dead, .dead, .dead, .dead]
def f100002o2_0 : List (Nat × OSh) := [(901, .box [.v .str, .v (.int .i64), .v (.int .i64), .v .bool])]
def f100002e2_0 (t : List E_Vol × Int × Int × ByteArray × Int × Int × Bool) : St := ⟨[.val (.sl 90 ts_Vol) t.1, .clo 190 901, .dead, .dead, .dead, .dead, .dead, .val (.int .i64) t.2.1, .val (.int .i64) t.2.2.1, .dead, .dead, .dead, .dead, .dead, .dead, .dead, .dead, .dead, .dead], [(901, .box [.val .str t.2.2.2.1, .val (.int .i64) t.2.2.2.2.1, .val (.int .i64) t.2.2.2.2.2.1, .val .bool t.2.2.2.2.2.2])]⟩
def f100002x2_0 (t : Int × ByteArray × Int × Int × Bool) : St := ⟨[.dead, .clo 190 901, .dead, .dead, .val (.int .i64) t.1, .dead, .dead, .dead, .dead, .dead, .dead, .dead, .dead, .dead, .dead, .dead, .dead, .dead, .dead], [(901, .box [.val .str t.2.1, .val (.int .i64) t.2.2.1, .val (.int .i64) t.2.2.2.1, .val .bool t.2.2.2.2])]⟩
def f100002x2_1 (t : ByteArray × Int × Int × Bool) : St := ⟨[.dead, .clo 190 901, .dead, .dead, .dead, .dead, .dead, .dead, .dead, .dead, .dead, .dead, .dead, .dead, .dead, .dead, .dead, .dead, .dead], [(901, .box [.val .str t.1, .val (.int .i64) t.2.1, .val (.int .i64) t.2.2.1, .val .bool t.2.2.2])]⟩
def f100002u2_0 (s : St) : Option (List E_Vol × Int × Int × ByteArray × Int × Int × Bool) := (unS f100002h2_0 f100002o2_0 s).map fun v => (v.1.1, v.1.2.2.2.2.2.2.2.1, v.1.2.2.2.2.2.2.2.2.1, v.2.1.1, v.2.1.2.1, v.2.1.2.2.1, v.2.1.2.2.2.1)
theorem f100002un2_0 : ∀ (s : St) (t : List E_Vol × Int × Int × ByteArray × Int × Int × Bool), f100002u2_0 s = some t → f100002e2_0 t = s := fun s v h => by
  obtain ⟨u, hu, rfl⟩ := Option.map_eq_some_iff.1 h
  exact (show f100002e2_0 (u.1.1, u.1.2.2.2.2.2.2.2.1, u.1.2.2.2.2.2.2.2.2.1, u.2.1.1, u.2.1.2.1, u.2.1.2.2.1, u.2.1.2.2.2.1) = mkS f100002h2_0 f100002o2_0 u by kernel_rfl).trans (mkS_un f100002h2_0 f100002o2_0 s u hu)
def f100002u2 : St → Option (List E_Vol × Int × Int × ByteArray × Int × Int × Bool) := f100002u2_0
def f100002e2 : (List E_Vol × Int × Int × ByteArray × Int × Int × Bool) → St := f100002e2_0
theorem f100002un2 : ∀ (s : St) (t : List E_Vol × Int × Int × ByteArray × Int × Int × Bool), f100002u2 s = some t → f100002e2 t = s := f100002un2_0
noncomputable def f100002P : Lp := fun i s {_R} κ => bif Nat.beq i 2 then (f100002u2 s).bind fun t => L_slices_IndexFunc_Vol_impl_volsOk_1_2 (fun t => κ (none) (f100002x2_0 t)) (fun t => κ (some 0) (f100002x2_1 t)) t else none
noncomputable def f100002c2 : Code := (loopsOf f100002B).getD 0 .skip
theorem f100002A2 : C.live 100002 (firstRegion f100002c2) = some ([0, 1, 7, 8], [1, 4]) := by kernel_rfl
theorem f100002B2 {R : Type} (κ : Option Nat → St → Option R) (s : St) : f100002P (firstRegion f100002c2) s κ = (f100002u2 s).bind fun t => iter (S_slices_IndexFunc_Vol_impl_volsOk_1_2 (fun t => κ (none) (f100002x2_0 t)) (fun t => κ (some 0) (f100002x2_1 t))) FUEL t := by kernel_rfl
theorem f100002C2 {R : Type} (κ : Option Nat → St → Option R) (again : St → Option R) (t : T_slices_IndexFunc_Vol_impl_volsOk_1_2) : stepL C f100002K f100002P 100002 f100002c2 [0, 1, 7, 8] [1, 4] κ again (f100002e2 t) = S_slices_IndexFunc_Vol_impl_volsOk_1_2 (fun t => κ (none) (f100002x2_0 t)) (fun t => κ (some 0) (f100002x2_1 t)) (fun t => again (f100002e2 t)) t := by kernel_rfl
theorem f100002ok2 : LoopOk C f100002K f100002P 100002 f100002c2 := loop_ok f100002A2 f100002e2 f100002u2 f100002un2 (fun {_R} κ => S_slices_IndexFunc_Vol_impl_volsOk_1_2 (fun t => κ (none) (f100002x2_0 t)) (fun t => κ (some 0) (f100002x2_1 t))) (fun {_R} κ s => f100002B2 κ s) (fun {_R} κ again t => f100002C2 κ again t)
theorem k100002 : Contract C Tryz.prog f100002K := contract_tab _ (fun p hp => by
    simp only [List.mem_cons, List.mem_nil_iff, or_false] at hp
    rcases hp with rfl
    · exact ok190)
theorem ev100002 (x : List E_Vol × ByteArray × Int × Int × Bool) : evalB C f100002K f100002P 100002 Tryz.f231 f100002B ⟨[.v false [(.sl 90 ts_Vol)] [false], .p (some 190) [.str, (.int .i64), (.int .i64), .bool] [false, false, false, false]], [⟨false, [(.int .i64)], [false]⟩], false⟩ [(.sl 90 ts_Vol), .str, (.int .i64), (.int .i64), .bool] [(.int .i64), .str, (.int .i64), (.int .i64), .bool] x = F_slices_IndexFunc_Vol_impl_volsOk_1 x := by kernel_rfl
theorem ok100002 : ContractAt C Tryz.prog 100002 F_slices_IndexFunc_Vol_impl_volsOk_1 := fn_sound (lp := f100002P) tok mixed k100002 (by kernel_rfl) (fn := Tryz.f231) (c := f100002B) (sg := ⟨[.v false [(.sl 90 ts_Vol)] [false], .p (some 190) [.str, (.int .i64), (.int .i64), .bool] [false, false, false, false]], [⟨false, [(.int .i64)], [false]⟩], false⟩) Tryz.func231 (by decide) (by kernel_rfl) (by kernel_rfl) (by kernel_rfl) (fun c' hc' => by
    rw [show loopsOf f100002B = [f100002c2] by kernel_rfl] at hc'
    simp only [List.mem_cons, List.mem_nil_iff, or_false] at hc'
    rcases hc' with rfl
    · exact f100002ok2) (by decide) (by decide) (fun x y h => (ev100002 x).trans h)
noncomputable def F_slices_ContainsFunc_Vol_impl_volsOk_1 (x : List E_Vol × ByteArray × Int × Int × Bool) : Option (Bool × ByteArray × Int × Int × Bool) :=
  Option.bind (F_slices_IndexFunc_Vol_impl_volsOk_1 (x.1, x.2.1, x.2.2.1, x.2.2.2.1, x.2.2.2.2)) fun r1 => some ((decide (r1.1 ≥ (0 : Int))), r1.2.1, r1.2.2.1, r1.2.2.2.1, r1.2.2.2.2)
noncomputable def f100001B : Code := match Tryz.f189.body with
  | some c => c
  | none => .skip
noncomputable def f100001K : C.Sem := tab [⟨100002, F_slices_IndexFunc_Vol_impl_volsOk_1⟩]
noncomputable def f100001P : Lp := fun i s {_R} κ => none
theorem k100001 : Contract C Tryz.prog f100001K := contract_tab _ (fun p hp => by
    simp only [List.mem_cons, List.mem_nil_iff, or_false] at hp
    rcases hp with rfl
    · exact ok100002)
theorem ev100001 (x : List E_Vol × ByteArray × Int × Int × Bool) : evalB C f100001K f100001P 100001 Tryz.f189 f100001B ⟨[.v false [(.sl 90 ts_Vol)] [false], .p (some 190) [.str, (.int .i64), (.int .i64), .bool] [false, false, false, false]], [⟨false, [.bool], [false]⟩], false⟩ [(.sl 90 ts_Vol), .str, (.int .i64), (.int .i64), .bool] [.bool, .str, (.int .i64), (.int .i64), .bool] x = F_slices_ContainsFunc_Vol_impl_volsOk_1 x := by kernel_rfl
theorem ok100001 : ContractAt C Tryz.prog 100001 F_slices_ContainsFunc_Vol_impl_volsOk_1 := fn_sound (lp := f100001P) tok mixed k100001 (by kernel_rfl) (fn := Tryz.f189) (c := f100001B) (sg := ⟨[.v false [(.sl 90 ts_Vol)] [false], .p (some 190) [.str, (.int .i64), (.int .i64), .bool] [false, false, false, false]], [⟨false, [.bool], [false]⟩], false⟩) Tryz.func189 (by decide) (by kernel_rfl) (by kernel_rfl) (by kernel_rfl) (fun c' hc' => by
    rw [show loopsOf f100001B = [] by kernel_rfl] at hc'
    cases hc') (by decide) (by decide) (fun x y h => (ev100001 x).trans h)
abbrev T_impl_volsOk_2 : Type := List E_Vol × Int × Int × List E_i64 × List E_Node × List E_Age × List E_Cell × List E_Vol × Int
noncomputable def S_impl_volsOk_2 {R : Type} (k0 : (Bool × List E_i64 × List E_Node × List E_Age × List E_Cell × List E_Vol × Int) → Option R) (k1 : (List E_i64 × List E_Node × List E_Age × List E_Cell × List E_Vol × Int) → Option R) (again : T_impl_volsOk_2 → Option R) (t2 : T_impl_volsOk_2) : Option R :=
  bif (decide (t2.2.2.1 < t2.2.1)) then if (0 : Int) ≤ t2.2.2.1 then if t2.2.2.1 < ((List.length t2.1 : Nat) : Int) then Option.bind (F_impl_NameOk ((rd_Vol t2.1 t2.2.2.1).1)) fun r1 => Option.bind (bif (!r1) then some true else Option.bind (bif (decide (t2.2.2.1 > (0 : Int))) then if (0 : Int) ≤ (Go.IntKind.wrap .i64 (t2.2.2.1 - (1 : Int))) then if (Go.IntKind.wrap .i64 (t2.2.2.1 - (1 : Int))) < ((List.length t2.2.2.2.2.2.2.2.1 : Nat) : Int) then some (!Go.Op.bytesLess (ByteArray.toList ((rd_Vol t2.2.2.2.2.2.2.2.1 (Go.IntKind.wrap .i64 (t2.2.2.1 - (1 : Int)))).1)) (ByteArray.toList ((rd_Vol t2.1 t2.2.2.1).1))) else none else none else some false) fun u3 => some u3) fun u2 => Option.bind (bif u2 then some true else Option.bind (F_impl_within ((rd_Vol t2.1 t2.2.2.1).2.2.1, (1 : Int), (12 : Int))) fun r5 => some (!r5)) fun u4 => bif u4 then k0 (false, t2.2.2.2.1, t2.2.2.2.2.1, t2.2.2.2.2.2.1, t2.2.2.2.2.2.2.1, t2.2.2.2.2.2.2.2.1, t2.2.2.2.2.2.2.2.2) else Option.bind (F_impl_AgeAt (t2.2.2.2.2.2.1, (rd_Vol t2.1 t2.2.2.1).2.1)) fun r6 => Option.bind (bif (decide (r6 < (0 : Int))) then some true else Option.bind (F_impl_KidsOf (t2.2.2.2.2.2.1, (rd_Vol t2.1 t2.2.2.1).2.1)) fun r8 => some (decide (((List.length r8 : Nat) : Int) > (0 : Int)))) fun u7 => bif u7 then k0 (false, t2.2.2.2.1, t2.2.2.2.2.1, t2.2.2.2.2.2.1, t2.2.2.2.2.2.2.1, t2.2.2.2.2.2.2.2.1, t2.2.2.2.2.2.2.2.2) else if (0 : Int) ≤ (0 : Int) then if (0 : Int) ≤ t2.2.2.1 then if t2.2.2.1 ≤ ((List.length t2.2.2.2.2.2.2.2.1 : Nat) : Int) then Option.bind (F_slices_ContainsFunc_Vol_impl_volsOk_1 ((List.drop (Int.toNat (0 : Int)) (List.take (Int.toNat t2.2.2.1) t2.2.2.2.2.2.2.2.1)), (rd_Vol t2.1 t2.2.2.1).1, (rd_Vol t2.1 t2.2.2.1).2.1, (rd_Vol t2.1 t2.2.2.1).2.2.1, (rd_Vol t2.1 t2.2.2.1).2.2.2)) fun r9 => bif r9.1 then k0 (false, t2.2.2.2.1, t2.2.2.2.2.1, t2.2.2.2.2.2.1, t2.2.2.2.2.2.2.1, t2.2.2.2.2.2.2.2.1, t2.2.2.2.2.2.2.2.2) else again (t2.1, t2.2.1, (Go.IntKind.wrap .i64 (t2.2.2.1 + (1 : Int))), t2.2.2.2.1, t2.2.2.2.2.1, t2.2.2.2.2.2.1, t2.2.2.2.2.2.2.1, t2.2.2.2.2.2.2.2.1, t2.2.2.2.2.2.2.2.2) else none else none else none else none else none else k1 (t2.2.2.2.1, t2.2.2.2.2.1, t2.2.2.2.2.2.1, t2.2.2.2.2.2.2.1, t2.2.2.2.2.2.2.2.1, t2.2.2.2.2.2.2.2.2)
noncomputable def L_impl_volsOk_2 {R : Type} (k0 : (Bool × List E_i64 × List E_Node × List E_Age × List E_Cell × List E_Vol × Int) → Option R) (k1 : (List E_i64 × List E_Node × List E_Age × List E_Cell × List E_Vol × Int) → Option R) (t : T_impl_volsOk_2) : Option R := iter (S_impl_volsOk_2 k0 k1) FUEL t
noncomputable def F_impl_volsOk (x : List E_i64 × List E_Node × List E_Age × List E_Cell × List E_Vol × Int) : Option (Bool) :=
  L_impl_volsOk_2 (fun x10 => some x10.1) (fun x11 => some (decide (((List.length x11.2.2.2.2.1 : Nat) : Int) ≤ (6 : Int)))) (x.2.2.2.2.1, ((List.length x.2.2.2.2.1 : Nat) : Int), (0 : Int), x.1, x.2.1, x.2.2.1, x.2.2.2.1, x.2.2.2.2.1, x.2.2.2.2.2)
noncomputable def f122B : Code := match Tryz.f122.body with
  | some c => c
  | none => .skip
noncomputable def f122K : C.Sem := tab [⟨103, F_impl_within⟩, ⟨163, F_impl_KidsOf⟩, ⟨186, F_impl_AgeAt⟩, ⟨188, F_impl_NameOk⟩, ⟨100001, F_slices_ContainsFunc_Vol_impl_volsOk_1⟩]
def f122h2_0 : List Sh := [.dead, .box 1 0, .dead, .dead, .dead, .dead, .v (.sl 90 ts_Vol), .v (.int .i64), .v (.int .i64), .dead, .dead, .dead, .dead, .dead, .dead, .dead, .dead, .dead, .dead, .dead, .dead, .dead, .dead, .dead, .dead, .dead, .dead, .dead, .dead, .dead, .dead, .dead, .dead, .dead, .dead, .dead, .dead, .dead, .dead, .dead, .dead, .dead, .dead, .dead, .dead, .dead, .dead, .dead, .dead, .dead, .dead, .dead, .dead, .dead, .dead, .dead, .dead, .dead, .dead, .dead, .dead, .dead, .dead, .dead, .dead]
def f122o2_0 : List (Nat × OSh) := [(1, .box [.v (.sl 3 ts_i64), .v (.sl 97 ts_Node), .v (.sl 88 ts_Age), .v (.sl 94 ts_Cell), .v (.sl 90 ts_Vol), .v (.int .i64)])]
def f122e2_0 (t : List E_Vol × Int × Int × List E_i64 × List E_Node × List E_Age × List E_Cell × List E_Vol × Int) : St := ⟨[.dead, .box 1 0, .dead, .dead, .dead, .dead, .val (.sl 90 ts_Vol) t.1, .val (.int .i64) t.2.1, .val (.int .i64) t.2.2.1, .dead, .dead, .dead, .dead, .dead, .dead, .dead, .dead, .dead, .dead, .dead, .dead, .dead, .dead, .dead, .dead, .dead, .dead, .dead, .dead, .dead, .dead, .dead, .dead, .dead, .dead, .dead, .dead, .dead, .dead, .dead, .dead, .dead, .dead, .dead, .dead, .dead, .dead, .dead, .dead, .dead, .dead, .dead, .dead, .dead, .dead, .dead, .dead, .dead, .dead, .dead, .dead, .dead, .dead, .dead, .dead], [(1, .box [.val (.sl 3 ts_i64) t.2.2.2.1, .val (.sl 97 ts_Node) t.2.2.2.2.1, .val (.sl 88 ts_Age) t.2.2.2.2.2.1, .val (.sl 94 ts_Cell) t.2.2.2.2.2.2.1, .val (.sl 90 ts_Vol) t.2.2.2.2.2.2.2.1, .val (.int .i64) t.2.2.2.2.2.2.2.2])]⟩
def f122x2_0 (t : Bool × List E_i64 × List E_Node × List E_Age × List E_Cell × List E_Vol × Int) : St := ⟨[.dead, .box 1 0, .val .bool t.1, .dead, .dead, .dead, .dead, .dead, .dead, .dead, .dead, .dead, .dead, .dead, .dead, .dead, .dead, .dead, .dead, .dead, .dead, .dead, .dead, .dead, .dead, .dead, .dead, .dead, .dead, .dead, .dead, .dead, .dead, .dead, .dead, .dead, .dead, .dead, .dead, .dead, .dead, .dead, .dead, .dead, .dead, .dead, .dead, .dead, .dead, .dead, .dead, .dead, .dead, .dead, .dead, .dead, .dead, .dead, .dead, .dead, .dead, .dead, .dead, .dead, .dead], [(1, .box [.val (.sl 3 ts_i64) t.2.1, .val (.sl 97 ts_Node) t.2.2.1, .val (.sl 88 ts_Age) t.2.2.2.1, .val (.sl 94 ts_Cell) t.2.2.2.2.1, .val (.sl 90 ts_Vol) t.2.2.2.2.2.1, .val (.int .i64) t.2.2.2.2.2.2])]⟩
def f122x2_1 (t : List E_i64 × List E_Node × List E_Age × List E_Cell × List E_Vol × Int) : St := ⟨[.dead, .box 1 0, .dead, .dead, .dead, .dead, .dead, .dead, .dead, .dead, .dead, .dead, .dead, .dead, .dead, .dead, .dead, .dead, .dead, .dead, .dead, .dead, .dead, .dead, .dead, .dead, .dead, .dead, .dead, .dead, .dead, .dead, .dead, .dead, .dead, .dead, .dead, .dead, .dead, .dead, .dead, .dead, .dead, .dead, .dead, .dead, .dead, .dead, .dead, .dead, .dead, .dead, .dead, .dead, .dead, .dead, .dead, .dead, .dead, .dead, .dead, .dead, .dead, .dead, .dead], [(1, .box [.val (.sl 3 ts_i64) t.1, .val (.sl 97 ts_Node) t.2.1, .val (.sl 88 ts_Age) t.2.2.1, .val (.sl 94 ts_Cell) t.2.2.2.1, .val (.sl 90 ts_Vol) t.2.2.2.2.1, .val (.int .i64) t.2.2.2.2.2])]⟩
def f122u2_0 (s : St) : Option (List E_Vol × Int × Int × List E_i64 × List E_Node × List E_Age × List E_Cell × List E_Vol × Int) := (unS f122h2_0 f122o2_0 s).map fun v => (v.1.2.2.2.2.2.2.1, v.1.2.2.2.2.2.2.2.1, v.1.2.2.2.2.2.2.2.2.1, v.2.1.1, v.2.1.2.1, v.2.1.2.2.1, v.2.1.2.2.2.1, v.2.1.2.2.2.2.1, v.2.1.2.2.2.2.2.1)
theorem f122un2_0 : ∀ (s : St) (t : List E_Vol × Int × Int × List E_i64 × List E_Node × List E_Age × List E_Cell × List E_Vol × Int), f122u2_0 s = some t → f122e2_0 t = s := fun s v h => by
  obtain ⟨u, hu, rfl⟩ := Option.map_eq_some_iff.1 h
  exact (show f122e2_0 (u.1.2.2.2.2.2.2.1, u.1.2.2.2.2.2.2.2.1, u.1.2.2.2.2.2.2.2.2.1, u.2.1.1, u.2.1.2.1, u.2.1.2.2.1, u.2.1.2.2.2.1, u.2.1.2.2.2.2.1, u.2.1.2.2.2.2.2.1) = mkS f122h2_0 f122o2_0 u by kernel_rfl).trans (mkS_un f122h2_0 f122o2_0 s u hu)
def f122u2 : St → Option (List E_Vol × Int × Int × List E_i64 × List E_Node × List E_Age × List E_Cell × List E_Vol × Int) := f122u2_0
def f122e2 : (List E_Vol × Int × Int × List E_i64 × List E_Node × List E_Age × List E_Cell × List E_Vol × Int) → St := f122e2_0
theorem f122un2 : ∀ (s : St) (t : List E_Vol × Int × Int × List E_i64 × List E_Node × List E_Age × List E_Cell × List E_Vol × Int), f122u2 s = some t → f122e2 t = s := f122un2_0
noncomputable def f122P : Lp := fun i s {_R} κ => bif Nat.beq i 2 then (f122u2 s).bind fun t => L_impl_volsOk_2 (fun t => κ (none) (f122x2_0 t)) (fun t => κ (some 0) (f122x2_1 t)) t else none
noncomputable def f122c2 : Code := (loopsOf f122B).getD 0 .skip
theorem f122A2 : C.live 122 (firstRegion f122c2) = some ([1, 6, 7, 8, 18, 19, 20, 21, 22, 23, 24, 25, 26, 27, 28, 29, 30, 31, 34, 35, 36, 37, 46, 47, 48, 49, 50, 51, 52], [1, 2]) := by kernel_rfl
theorem f122B2 {R : Type} (κ : Option Nat → St → Option R) (s : St) : f122P (firstRegion f122c2) s κ = (f122u2 s).bind fun t => iter (S_impl_volsOk_2 (fun t => κ (none) (f122x2_0 t)) (fun t => κ (some 0) (f122x2_1 t))) FUEL t := by kernel_rfl
theorem f122C2 {R : Type} (κ : Option Nat → St → Option R) (again : St → Option R) (t : T_impl_volsOk_2) : stepL C f122K f122P 122 f122c2 [1, 6, 7, 8, 18, 19, 20, 21, 22, 23, 24, 25, 26, 27, 28, 29, 30, 31, 34, 35, 36, 37, 46, 47, 48, 49, 50, 51, 52] [1, 2] κ again (f122e2 t) = S_impl_volsOk_2 (fun t => κ (none) (f122x2_0 t)) (fun t => κ (some 0) (f122x2_1 t)) (fun t => again (f122e2 t)) t := by kernel_rfl
theorem f122ok2 : LoopOk C f122K f122P 122 f122c2 := loop_ok f122A2 f122e2 f122u2 f122un2 (fun {_R} κ => S_impl_volsOk_2 (fun t => κ (none) (f122x2_0 t)) (fun t => κ (some 0) (f122x2_1 t))) (fun {_R} κ s => f122B2 κ s) (fun {_R} κ again t => f122C2 κ again t)
theorem k122 : Contract C Tryz.prog f122K := contract_tab _ (fun p hp => by
    simp only [List.mem_cons, List.mem_nil_iff, or_false] at hp
    rcases hp with rfl | rfl | rfl | rfl | rfl
    · exact ok103
    · exact ok163
    · exact ok186
    · exact ok188
    · exact ok100001)
theorem ev122 (x : List E_i64 × List E_Node × List E_Age × List E_Cell × List E_Vol × Int) : evalB C f122K f122P 122 Tryz.f122 f122B ⟨[.v true [(.sl 3 ts_i64), (.sl 97 ts_Node), (.sl 88 ts_Age), (.sl 94 ts_Cell), (.sl 90 ts_Vol), (.int .i64)] [false, false, false, false, false, false]], [⟨false, [.bool], [false]⟩], false⟩ [(.sl 3 ts_i64), (.sl 97 ts_Node), (.sl 88 ts_Age), (.sl 94 ts_Cell), (.sl 90 ts_Vol), (.int .i64)] [.bool] x = F_impl_volsOk x := by kernel_rfl
theorem ok122 : ContractAt C Tryz.prog 122 F_impl_volsOk := fn_sound (lp := f122P) tok mixed k122 (by kernel_rfl) (fn := Tryz.f122) (c := f122B) (sg := ⟨[.v true [(.sl 3 ts_i64), (.sl 97 ts_Node), (.sl 88 ts_Age), (.sl 94 ts_Cell), (.sl 90 ts_Vol), (.int .i64)] [false, false, false, false, false, false]], [⟨false, [.bool], [false]⟩], false⟩) Tryz.func122 (by decide) (by kernel_rfl) (by kernel_rfl) (by kernel_rfl) (fun c' hc' => by
    rw [show loopsOf f122B = [f122c2] by kernel_rfl] at hc'
    simp only [List.mem_cons, List.mem_nil_iff, or_false] at hc'
    rcases hc' with rfl
    · exact f122ok2) (by decide) (by decide) (fun x y h => (ev122 x).trans h)
abbrev T_impl_UsedCells_3 : Type := Int × List E_Cell × Int × Int
noncomputable def S_impl_UsedCells_3 {R : Type} (k0 : Int → Option R) (again : T_impl_UsedCells_3 → Option R) (t3 : T_impl_UsedCells_3) : Option R :=
  bif (decide (t3.2.2.2 < t3.2.2.1)) then if (0 : Int) ≤ t3.2.2.2 then if t3.2.2.2 < ((List.length t3.2.1 : Nat) : Int) then bif (rd_Cell t3.2.1 t3.2.2.2).2.1 then again ((Go.IntKind.wrap .i64 (t3.1 + (1 : Int))), t3.2.1, t3.2.2.1, (Go.IntKind.wrap .i64 (t3.2.2.2 + (1 : Int)))) else again (t3.1, t3.2.1, t3.2.2.1, (Go.IntKind.wrap .i64 (t3.2.2.2 + (1 : Int)))) else none else none else k0 t3.1
noncomputable def L_impl_UsedCells_3 {R : Type} (k0 : Int → Option R) (t : T_impl_UsedCells_3) : Option R := iter (S_impl_UsedCells_3 k0) FUEL t
noncomputable def F_impl_UsedCells (x : List E_Cell) : Option (Int) :=
  L_impl_UsedCells_3 (fun x1 => some x1) ((0 : Int), x, ((List.length x : Nat) : Int), (0 : Int))
noncomputable def f97B : Code := match Tryz.f97.body with
  | some c => c
  | none => .skip
noncomputable def f97K : C.Sem := tab []
def f97h3_0 : List Sh := [.dead, .dead, .dead, .v (.int .i64), .dead, .dead, .v (.sl 94 ts_Cell), .v (.int .i64), .v (.int .i64), .dead, .dead, .dead, .dead, .dead, .dead, .dead, .dead, .dead]
def f97o3_0 : List (Nat × OSh) := []
def f97e3_0 (t : Int × List E_Cell × Int × Int) : St := ⟨[.dead, .dead, .dead, .val (.int .i64) t.1, .dead, .dead, .val (.sl 94 ts_Cell) t.2.1, .val (.int .i64) t.2.2.1, .val (.int .i64) t.2.2.2, .dead, .dead, .dead, .dead, .dead, .dead, .dead, .dead, .dead], []⟩
def f97x3_0 (t : Int) : St := ⟨[.dead, .dead, .dead, .val (.int .i64) t, .dead, .dead, .dead, .dead, .dead, .dead, .dead, .dead, .dead, .dead, .dead, .dead, .dead, .dead], []⟩
def f97u3_0 (s : St) : Option (Int × List E_Cell × Int × Int) := (unS f97h3_0 f97o3_0 s).map fun v => (v.1.2.2.2.1, v.1.2.2.2.2.2.2.1, v.1.2.2.2.2.2.2.2.1, v.1.2.2.2.2.2.2.2.2.1)
theorem f97un3_0 : ∀ (s : St) (t : Int × List E_Cell × Int × Int), f97u3_0 s = some t → f97e3_0 t = s := fun s v h => by
  obtain ⟨u, hu, rfl⟩ := Option.map_eq_some_iff.1 h
  exact (show f97e3_0 (u.1.2.2.2.1, u.1.2.2.2.2.2.2.1, u.1.2.2.2.2.2.2.2.1, u.1.2.2.2.2.2.2.2.2.1) = mkS f97h3_0 f97o3_0 u by kernel_rfl).trans (mkS_un f97h3_0 f97o3_0 s u hu)
def f97u3 : St → Option (Int × List E_Cell × Int × Int) := f97u3_0
def f97e3 : (Int × List E_Cell × Int × Int) → St := f97e3_0
theorem f97un3 : ∀ (s : St) (t : Int × List E_Cell × Int × Int), f97u3 s = some t → f97e3 t = s := f97un3_0
noncomputable def f97P : Lp := fun i s {_R} κ => bif Nat.beq i 3 then (f97u3 s).bind fun t => L_impl_UsedCells_3 (fun t => κ (some 0) (f97x3_0 t)) t else none
noncomputable def f97c3 : Code := (loopsOf f97B).getD 0 .skip
theorem f97A3 : C.live 97 (firstRegion f97c3) = some ([3, 6, 7, 8], [3]) := by kernel_rfl
theorem f97B3 {R : Type} (κ : Option Nat → St → Option R) (s : St) : f97P (firstRegion f97c3) s κ = (f97u3 s).bind fun t => iter (S_impl_UsedCells_3 (fun t => κ (some 0) (f97x3_0 t))) FUEL t := by kernel_rfl
theorem f97C3 {R : Type} (κ : Option Nat → St → Option R) (again : St → Option R) (t : T_impl_UsedCells_3) : stepL C f97K f97P 97 f97c3 [3, 6, 7, 8] [3] κ again (f97e3 t) = S_impl_UsedCells_3 (fun t => κ (some 0) (f97x3_0 t)) (fun t => again (f97e3 t)) t := by kernel_rfl
theorem f97ok3 : LoopOk C f97K f97P 97 f97c3 := loop_ok f97A3 f97e3 f97u3 f97un3 (fun {_R} κ => S_impl_UsedCells_3 (fun t => κ (some 0) (f97x3_0 t))) (fun {_R} κ s => f97B3 κ s) (fun {_R} κ again t => f97C3 κ again t)
theorem k97 : Contract C Tryz.prog f97K := contract_tab _ (fun p hp => by cases hp)
theorem ev97 (x : List E_Cell) : evalB C f97K f97P 97 Tryz.f97 f97B ⟨[.v false [(.sl 94 ts_Cell)] [false]], [⟨false, [(.int .i64)], [false]⟩], false⟩ [(.sl 94 ts_Cell)] [(.int .i64)] x = F_impl_UsedCells x := by kernel_rfl
theorem ok97 : ContractAt C Tryz.prog 97 F_impl_UsedCells := fn_sound (lp := f97P) tok mixed k97 (by kernel_rfl) (fn := Tryz.f97) (c := f97B) (sg := ⟨[.v false [(.sl 94 ts_Cell)] [false]], [⟨false, [(.int .i64)], [false]⟩], false⟩) Tryz.func97 (by decide) (by kernel_rfl) (by kernel_rfl) (by kernel_rfl) (fun c' hc' => by
    rw [show loopsOf f97B = [f97c3] by kernel_rfl] at hc'
    simp only [List.mem_cons, List.mem_nil_iff, or_false] at hc'
    rcases hc' with rfl
    · exact f97ok3) (by decide) (by decide) (fun x y h => (ev97 x).trans h)
abbrev T_impl_TreeKeys_3 : Type := List E_Node × Int × Int × List E_Key
noncomputable def S_impl_TreeKeys_3 {R : Type} (k0 : List E_Key → Option R) (again : T_impl_TreeKeys_3 → Option R) (t3 : T_impl_TreeKeys_3) : Option R :=
  bif (decide (t3.2.2.1 < t3.2.1)) then if (0 : Int) ≤ t3.2.2.1 then if t3.2.2.1 < ((List.length t3.1 : Nat) : Int) then Option.bind (F_impl_NodeKeys (rd_Node t3.1 t3.2.2.1)) fun r1 => if (List.length t3.2.2.2 + List.length r1) * 40 < 140737488355328 then again (t3.1, t3.2.1, (Go.IntKind.wrap .i64 (t3.2.2.1 + (1 : Int))), (t3.2.2.2 ++ r1)) else none else none else none else k0 t3.2.2.2
noncomputable def L_impl_TreeKeys_3 {R : Type} (k0 : List E_Key → Option R) (t : T_impl_TreeKeys_3) : Option R := iter (S_impl_TreeKeys_3 k0) FUEL t
noncomputable def F_impl_TreeKeys (x : List E_i64 × List E_Node) : Option (List E_Key) :=
  L_impl_TreeKeys_3 (fun x2 => some x2) (x.2, ((List.length x.2 : Nat) : Int), (0 : Int), ([] : List E_Key))
noncomputable def f160B : Code := match Tryz.f160.body with
  | some c => c
  | none => .skip
noncomputable def f160K : C.Sem := tab [⟨185, F_impl_NodeKeys⟩]
def f160h3_0 : List Sh := [.dead, .dead, .dead, .own 10000000, .dead, .dead, .dead, .dead, .v (.sl 97 ts_Node), .v (.int .i64), .v (.int .i64), .dead, .dead, .dead, .dead, .dead, .dead, .dead, .dead, .dead]
def f160o3_0 : List (Nat × OSh) := [(10000000, .root true 105 ts_Key)]
def f160e3_0 (t : List E_Node × Int × Int × List E_Key) : St := ⟨[.dead, .dead, .dead, .own 10000000, .dead, .dead, .dead, .dead, .val (.sl 97 ts_Node) t.1, .val (.int .i64) t.2.1, .val (.int .i64) t.2.2.1, .dead, .dead, .dead, .dead, .dead, .dead, .dead, .dead, .dead], [(10000000, .root true 105 ts_Key t.2.2.2)]⟩
def f160x3_0 (t : List E_Key) : St := ⟨[.dead, .dead, .dead, .own 10000000, .dead, .dead, .dead, .dead, .dead, .dead, .dead, .dead, .dead, .dead, .dead, .dead, .dead, .dead, .dead, .dead], [(10000000, .root true 105 ts_Key t)]⟩
def f160u3_0 (s : St) : Option (List E_Node × Int × Int × List E_Key) := (unS f160h3_0 f160o3_0 s).map fun v => (v.1.2.2.2.2.2.2.2.2.1, v.1.2.2.2.2.2.2.2.2.2.1, v.1.2.2.2.2.2.2.2.2.2.2.1, v.2.1)
theorem f160un3_0 : ∀ (s : St) (t : List E_Node × Int × Int × List E_Key), f160u3_0 s = some t → f160e3_0 t = s := fun s v h => by
  obtain ⟨u, hu, rfl⟩ := Option.map_eq_some_iff.1 h
  exact (show f160e3_0 (u.1.2.2.2.2.2.2.2.2.1, u.1.2.2.2.2.2.2.2.2.2.1, u.1.2.2.2.2.2.2.2.2.2.2.1, u.2.1) = mkS f160h3_0 f160o3_0 u by kernel_rfl).trans (mkS_un f160h3_0 f160o3_0 s u hu)
def f160u3 : St → Option (List E_Node × Int × Int × List E_Key) := f160u3_0
def f160e3 : (List E_Node × Int × Int × List E_Key) → St := f160e3_0
theorem f160un3 : ∀ (s : St) (t : List E_Node × Int × Int × List E_Key), f160u3 s = some t → f160e3 t = s := f160un3_0
noncomputable def f160P : Lp := fun i s {_R} κ => bif Nat.beq i 3 then (f160u3 s).bind fun t => L_impl_TreeKeys_3 (fun t => κ (some 0) (f160x3_0 t)) t else none
noncomputable def f160c3 : Code := (loopsOf f160B).getD 0 .skip
theorem f160A3 : C.live 160 (firstRegion f160c3) = some ([3, 8, 9, 10], [3]) := by kernel_rfl
theorem f160B3 {R : Type} (κ : Option Nat → St → Option R) (s : St) : f160P (firstRegion f160c3) s κ = (f160u3 s).bind fun t => iter (S_impl_TreeKeys_3 (fun t => κ (some 0) (f160x3_0 t))) FUEL t := by kernel_rfl
theorem f160C3 {R : Type} (κ : Option Nat → St → Option R) (again : St → Option R) (t : T_impl_TreeKeys_3) : stepL C f160K f160P 160 f160c3 [3, 8, 9, 10] [3] κ again (f160e3 t) = S_impl_TreeKeys_3 (fun t => κ (some 0) (f160x3_0 t)) (fun t => again (f160e3 t)) t := by kernel_rfl
theorem f160ok3 : LoopOk C f160K f160P 160 f160c3 := loop_ok f160A3 f160e3 f160u3 f160un3 (fun {_R} κ => S_impl_TreeKeys_3 (fun t => κ (some 0) (f160x3_0 t))) (fun {_R} κ s => f160B3 κ s) (fun {_R} κ again t => f160C3 κ again t)
theorem k160 : Contract C Tryz.prog f160K := contract_tab _ (fun p hp => by
    simp only [List.mem_cons, List.mem_nil_iff, or_false] at hp
    rcases hp with rfl
    · exact ok185)
theorem ev160 (x : List E_i64 × List E_Node) : evalB C f160K f160P 160 Tryz.f160 f160B ⟨[.v true [(.sl 3 ts_i64), (.sl 97 ts_Node)] [false, false]], [⟨false, [(.sl 105 ts_Key)], [true]⟩], false⟩ [(.sl 3 ts_i64), (.sl 97 ts_Node)] [(.sl 105 ts_Key)] x = F_impl_TreeKeys x := by kernel_rfl
theorem ok160 : ContractAt C Tryz.prog 160 F_impl_TreeKeys := fn_sound (lp := f160P) tok mixed k160 (by kernel_rfl) (fn := Tryz.f160) (c := f160B) (sg := ⟨[.v true [(.sl 3 ts_i64), (.sl 97 ts_Node)] [false, false]], [⟨false, [(.sl 105 ts_Key)], [true]⟩], false⟩) Tryz.func160 (by decide) (by kernel_rfl) (by kernel_rfl) (by kernel_rfl) (fun c' hc' => by
    rw [show loopsOf f160B = [f160c3] by kernel_rfl] at hc'
    simp only [List.mem_cons, List.mem_nil_iff, or_false] at hc'
    rcases hc' with rfl
    · exact f160ok3) (by decide) (by decide) (fun x y h => (ev160 x).trans h)
noncomputable def F_impl_CellAt (x : List E_Cell × Int × Int) : Option (Int × Bool) :=
  Option.bind (F_impl_within (x.2.1, (0 : Int), (Go.IntKind.wrap .i64 (((List.length x.1 : Nat) : Int) - (1 : Int))))) fun r1 => Option.bind (bif (!r1) then some true else if (0 : Int) ≤ x.2.1 then if x.2.1 < ((List.length x.1 : Nat) : Int) then some (!((rd_Cell x.1 x.2.1).2.1)) else none else none) fun u2 => Option.bind (bif u2 then some true else if (0 : Int) ≤ x.2.1 then if x.2.1 < ((List.length x.1 : Nat) : Int) then some ((rd_Cell x.1 x.2.1).1 != x.2.2) else none else none) fun u3 => bif u3 then some ((0 : Int), false) else if (0 : Int) ≤ x.2.1 then if x.2.1 < ((List.length x.1 : Nat) : Int) then some ((rd_Cell x.1 x.2.1).2.2, true) else none else none
noncomputable def f191B : Code := match Tryz.f191.body with
  | some c => c
  | none => .skip
noncomputable def f191K : C.Sem := tab [⟨103, F_impl_within⟩]
noncomputable def f191P : Lp := fun i s {_R} κ => none
theorem k191 : Contract C Tryz.prog f191K := contract_tab _ (fun p hp => by
    simp only [List.mem_cons, List.mem_nil_iff, or_false] at hp
    rcases hp with rfl
    · exact ok103)
theorem ev191 (x : List E_Cell × Int × Int) : evalB C f191K f191P 191 Tryz.f191 f191B ⟨[.v false [(.sl 94 ts_Cell)] [false], .v false [(.int .i64)] [false], .v false [(.int .i64)] [false]], [⟨false, [(.int .i64)], [false]⟩, ⟨false, [.bool], [false]⟩], false⟩ [(.sl 94 ts_Cell), (.int .i64), (.int .i64)] [(.int .i64), .bool] x = F_impl_CellAt x := by kernel_rfl
theorem ok191 : ContractAt C Tryz.prog 191 F_impl_CellAt := fn_sound (lp := f191P) tok mixed k191 (by kernel_rfl) (fn := Tryz.f191) (c := f191B) (sg := ⟨[.v false [(.sl 94 ts_Cell)] [false], .v false [(.int .i64)] [false], .v false [(.int .i64)] [false]], [⟨false, [(.int .i64)], [false]⟩, ⟨false, [.bool], [false]⟩], false⟩) Tryz.func191 (by decide) (by kernel_rfl) (by kernel_rfl) (by kernel_rfl) (fun c' hc' => by
    rw [show loopsOf f191B = [] by kernel_rfl] at hc'
    cases hc') (by decide) (by decide) (fun x y h => (ev191 x).trans h)
abbrev T_impl_keysFit_4 : Type := Int × Int × Int × List E_i64 × List E_Node × List E_Age × List E_Cell × List E_Vol × Int × List E_bool × List E_Key
noncomputable def S_impl_keysFit_4 {R : Type} (k0 : (Bool × Int × List E_i64 × List E_Node × List E_Age × List E_Cell × List E_Vol × Int) → Option R) (k1 : (Int × List E_i64 × List E_Node × List E_Age × List E_Cell × List E_Vol × Int) → Option R) (again : T_impl_keysFit_4 → Option R) (t4 : T_impl_keysFit_4) : Option R :=
  bif (decide (t4.2.2.1 < t4.2.1)) then if (0 : Int) ≤ t4.2.2.1 then if t4.2.2.1 < ((List.length t4.2.2.2.2.2.2.2.2.2.2 : Nat) : Int) then Option.bind (F_impl_AgeAt (t4.2.2.2.2.2.1, (rd_Key t4.2.2.2.2.2.2.2.2.2.2 t4.2.2.1).2.1)) fun r2 => bif (decide (r2 < (0 : Int))) then k0 (false, t4.1, t4.2.2.2.1, t4.2.2.2.2.1, t4.2.2.2.2.2.1, t4.2.2.2.2.2.2.1, t4.2.2.2.2.2.2.2.1, t4.2.2.2.2.2.2.2.2.1) else bif ((rd_Key t4.2.2.2.2.2.2.2.2.2.2 t4.2.2.1).2.2.1 != (1 : Int)) then again (t4.1, t4.2.1, (Go.IntKind.wrap .i64 (t4.2.2.1 + (1 : Int))), t4.2.2.2.1, t4.2.2.2.2.1, t4.2.2.2.2.2.1, t4.2.2.2.2.2.2.1, t4.2.2.2.2.2.2.2.1, t4.2.2.2.2.2.2.2.2.1, t4.2.2.2.2.2.2.2.2.2.1, t4.2.2.2.2.2.2.2.2.2.2) else Option.bind (F_impl_CellAt (t4.2.2.2.2.2.2.1, (rd_Key t4.2.2.2.2.2.2.2.2.2.2 t4.2.2.1).2.2.2.1, (rd_Key t4.2.2.2.2.2.2.2.2.2.2 t4.2.2.1).2.2.2.2)) fun r3 => Option.bind (bif (!r3.2) then some true else if (0 : Int) ≤ (rd_Key t4.2.2.2.2.2.2.2.2.2.2 t4.2.2.1).2.2.2.1 then if (rd_Key t4.2.2.2.2.2.2.2.2.2.2 t4.2.2.1).2.2.2.1 < ((List.length t4.2.2.2.2.2.2.2.2.2.1 : Nat) : Int) then some (rd_bool t4.2.2.2.2.2.2.2.2.2.1 ((rd_Key t4.2.2.2.2.2.2.2.2.2.2 t4.2.2.1).2.2.2.1)) else none else none) fun u4 => bif u4 then k0 (false, t4.1, t4.2.2.2.1, t4.2.2.2.2.1, t4.2.2.2.2.2.1, t4.2.2.2.2.2.2.1, t4.2.2.2.2.2.2.2.1, t4.2.2.2.2.2.2.2.2.1) else if (0 : Int) ≤ (rd_Key t4.2.2.2.2.2.2.2.2.2.2 t4.2.2.1).2.2.2.1 then if (rd_Key t4.2.2.2.2.2.2.2.2.2.2 t4.2.2.1).2.2.2.1 < ((List.length t4.2.2.2.2.2.2.2.2.2.1 : Nat) : Int) then again ((Go.IntKind.wrap .i64 (t4.1 + (1 : Int))), t4.2.1, (Go.IntKind.wrap .i64 (t4.2.2.1 + (1 : Int))), t4.2.2.2.1, t4.2.2.2.2.1, t4.2.2.2.2.2.1, t4.2.2.2.2.2.2.1, t4.2.2.2.2.2.2.2.1, t4.2.2.2.2.2.2.2.2.1, (List.set t4.2.2.2.2.2.2.2.2.2.1 (Int.toNat ((rd_Key t4.2.2.2.2.2.2.2.2.2.2 t4.2.2.1).2.2.2.1)) true), t4.2.2.2.2.2.2.2.2.2.2) else none else none else none else none else k1 (t4.1, t4.2.2.2.1, t4.2.2.2.2.1, t4.2.2.2.2.2.1, t4.2.2.2.2.2.2.1, t4.2.2.2.2.2.2.2.1, t4.2.2.2.2.2.2.2.2.1)
noncomputable def L_impl_keysFit_4 {R : Type} (k0 : (Bool × Int × List E_i64 × List E_Node × List E_Age × List E_Cell × List E_Vol × Int) → Option R) (k1 : (Int × List E_i64 × List E_Node × List E_Age × List E_Cell × List E_Vol × Int) → Option R) (t : T_impl_keysFit_4) : Option R := iter (S_impl_keysFit_4 k0 k1) FUEL t
noncomputable def F_impl_keysFit (x : List E_i64 × List E_Node × List E_Age × List E_Cell × List E_Vol × Int) : Option (Bool) :=
  if (0 : Int) ≤ (24 : Int) then if (24 : Int) ≤ (24 : Int) then if (24 : Int) * ((1 : Nat) : Int) ≤ 140737488351232 then Option.bind (F_impl_TreeKeys (x.1, x.2.1)) fun r1 => L_impl_keysFit_4 (fun x5 => some x5.1) (fun x6 => Option.bind (F_impl_UsedCells x6.2.2.2.2.1) fun r7 => some (r7 == x6.1)) ((0 : Int), ((List.length r1 : Nat) : Int), (0 : Int), x.1, x.2.1, x.2.2.1, x.2.2.2.1, x.2.2.2.2.1, x.2.2.2.2.2, (List.replicate (Int.toNat (24 : Int)) z_bool), r1) else none else none else none
noncomputable def f123B : Code := match Tryz.f123.body with
  | some c => c
  | none => .skip
noncomputable def f123K : C.Sem := tab [⟨97, F_impl_UsedCells⟩, ⟨160, F_impl_TreeKeys⟩, ⟨186, F_impl_AgeAt⟩, ⟨191, F_impl_CellAt⟩]
def f123h4_0 : List Sh := [.dead, .box 1 0, .dead, .own 10000000, .v (.int .i64), .dead, .dead, .dead, .dead, .dead, .dead, .dead, .own 10000001, .v (.int .i64), .v (.int .i64), .dead, .dead, .dead, .dead, .dead, .dead, .dead, .dead, .dead, .dead, .dead, .dead, .dead, .dead, .dead, .dead, .dead, .dead, .dead, .dead, .dead, .dead, .dead, .dead, .dead, .dead, .dead, .dead, .dead, .dead, .dead, .dead, .dead, .dead, .dead, .dead, .dead, .dead, .dead, .dead, .dead, .dead, .dead]
def f123o4_0 : List (Nat × OSh) := [(1, .box [.v (.sl 3 ts_i64), .v (.sl 97 ts_Node), .v (.sl 88 ts_Age), .v (.sl 94 ts_Cell), .v (.sl 90 ts_Vol), .v (.int .i64)]), (10000000, .root true 4 ts_bool), (10000001, .root true 105 ts_Key)]
def f123e4_0 (t : Int × Int × Int × List E_i64 × List E_Node × List E_Age × List E_Cell × List E_Vol × Int × List E_bool × List E_Key) : St := ⟨[.dead, .box 1 0, .dead, .own 10000000, .val (.int .i64) t.1, .dead, .dead, .dead, .dead, .dead, .dead, .dead, .own 10000001, .val (.int .i64) t.2.1, .val (.int .i64) t.2.2.1, .dead, .dead, .dead, .dead, .dead, .dead, .dead, .dead, .dead, .dead, .dead, .dead, .dead, .dead, .dead, .dead, .dead, .dead, .dead, .dead, .dead, .dead, .dead, .dead, .dead, .dead, .dead, .dead, .dead, .dead, .dead, .dead, .dead, .dead, .dead, .dead, .dead, .dead, .dead, .dead, .dead, .dead, .dead], [(1, .box [.val (.sl 3 ts_i64) t.2.2.2.1, .val (.sl 97 ts_Node) t.2.2.2.2.1, .val (.sl 88 ts_Age) t.2.2.2.2.2.1, .val (.sl 94 ts_Cell) t.2.2.2.2.2.2.1, .val (.sl 90 ts_Vol) t.2.2.2.2.2.2.2.1, .val (.int .i64) t.2.2.2.2.2.2.2.2.1]), (10000000, .root true 4 ts_bool t.2.2.2.2.2.2.2.2.2.1), (10000001, .root true 105 ts_Key t.2.2.2.2.2.2.2.2.2.2)]⟩
def f123x4_0 (t : Bool × Int × List E_i64 × List E_Node × List E_Age × List E_Cell × List E_Vol × Int) : St := ⟨[.dead, .box 1 0, .val .bool t.1, .dead, .val (.int .i64) t.2.1, .dead, .dead, .dead, .dead, .dead, .dead, .dead, .dead, .dead, .dead, .dead, .dead, .dead, .dead, .dead, .dead, .dead, .dead, .dead, .dead, .dead, .dead, .dead, .dead, .dead, .dead, .dead, .dead, .dead, .dead, .dead, .dead, .dead, .dead, .dead, .dead, .dead, .dead, .dead, .dead, .dead, .dead, .dead, .dead, .dead, .dead, .dead, .dead, .dead, .dead, .dead, .dead, .dead], [(1, .box [.val (.sl 3 ts_i64) t.2.2.1, .val (.sl 97 ts_Node) t.2.2.2.1, .val (.sl 88 ts_Age) t.2.2.2.2.1, .val (.sl 94 ts_Cell) t.2.2.2.2.2.1, .val (.sl 90 ts_Vol) t.2.2.2.2.2.2.1, .val (.int .i64) t.2.2.2.2.2.2.2])]⟩
def f123x4_1 (t : Int × List E_i64 × List E_Node × List E_Age × List E_Cell × List E_Vol × Int) : St := ⟨[.dead, .box 1 0, .dead, .dead, .val (.int .i64) t.1, .dead, .dead, .dead, .dead, .dead, .dead, .dead, .dead, .dead, .dead, .dead, .dead, .dead, .dead, .dead, .dead, .dead, .dead, .dead, .dead, .dead, .dead, .dead, .dead, .dead, .dead, .dead, .dead, .dead, .dead, .dead, .dead, .dead, .dead, .dead, .dead, .dead, .dead, .dead, .dead, .dead, .dead, .dead, .dead, .dead, .dead, .dead, .dead, .dead, .dead, .dead, .dead, .dead], [(1, .box [.val (.sl 3 ts_i64) t.2.1, .val (.sl 97 ts_Node) t.2.2.1, .val (.sl 88 ts_Age) t.2.2.2.1, .val (.sl 94 ts_Cell) t.2.2.2.2.1, .val (.sl 90 ts_Vol) t.2.2.2.2.2.1, .val (.int .i64) t.2.2.2.2.2.2])]⟩
def f123u4_0 (s : St) : Option (Int × Int × Int × List E_i64 × List E_Node × List E_Age × List E_Cell × List E_Vol × Int × List E_bool × List E_Key) := (unS f123h4_0 f123o4_0 s).map fun v => (v.1.2.2.2.2.1, v.1.2.2.2.2.2.2.2.2.2.2.2.2.2.1, v.1.2.2.2.2.2.2.2.2.2.2.2.2.2.2.1, v.2.1.1, v.2.1.2.1, v.2.1.2.2.1, v.2.1.2.2.2.1, v.2.1.2.2.2.2.1, v.2.1.2.2.2.2.2.1, v.2.2.1, v.2.2.2.1)
theorem f123un4_0 : ∀ (s : St) (t : Int × Int × Int × List E_i64 × List E_Node × List E_Age × List E_Cell × List E_Vol × Int × List E_bool × List E_Key), f123u4_0 s = some t → f123e4_0 t = s := fun s v h => by
  obtain ⟨u, hu, rfl⟩ := Option.map_eq_some_iff.1 h
  exact (show f123e4_0 (u.1.2.2.2.2.1, u.1.2.2.2.2.2.2.2.2.2.2.2.2.2.1, u.1.2.2.2.2.2.2.2.2.2.2.2.2.2.2.1, u.2.1.1, u.2.1.2.1, u.2.1.2.2.1, u.2.1.2.2.2.1, u.2.1.2.2.2.2.1, u.2.1.2.2.2.2.2.1, u.2.2.1, u.2.2.2.1) = mkS f123h4_0 f123o4_0 u by kernel_rfl).trans (mkS_un f123h4_0 f123o4_0 s u hu)
def f123u4 : St → Option (Int × Int × Int × List E_i64 × List E_Node × List E_Age × List E_Cell × List E_Vol × Int × List E_bool × List E_Key) := f123u4_0
def f123e4 : (Int × Int × Int × List E_i64 × List E_Node × List E_Age × List E_Cell × List E_Vol × Int × List E_bool × List E_Key) → St := f123e4_0
theorem f123un4 : ∀ (s : St) (t : Int × Int × Int × List E_i64 × List E_Node × List E_Age × List E_Cell × List E_Vol × Int × List E_bool × List E_Key), f123u4 s = some t → f123e4 t = s := f123un4_0
noncomputable def f123P : Lp := fun i s {_R} κ => bif Nat.beq i 4 then (f123u4 s).bind fun t => L_impl_keysFit_4 (fun t => κ (none) (f123x4_0 t)) (fun t => κ (some 0) (f123x4_1 t)) t else none
noncomputable def f123c4 : Code := (loopsOf f123B).getD 0 .skip
theorem f123A4 : C.live 123 (firstRegion f123c4) = some ([1, 3, 4, 12, 13, 14, 40, 41, 42, 43, 44], [1, 2, 4]) := by kernel_rfl
theorem f123B4 {R : Type} (κ : Option Nat → St → Option R) (s : St) : f123P (firstRegion f123c4) s κ = (f123u4 s).bind fun t => iter (S_impl_keysFit_4 (fun t => κ (none) (f123x4_0 t)) (fun t => κ (some 0) (f123x4_1 t))) FUEL t := by kernel_rfl
theorem f123C4 {R : Type} (κ : Option Nat → St → Option R) (again : St → Option R) (t : T_impl_keysFit_4) : stepL C f123K f123P 123 f123c4 [1, 3, 4, 12, 13, 14, 40, 41, 42, 43, 44] [1, 2, 4] κ again (f123e4 t) = S_impl_keysFit_4 (fun t => κ (none) (f123x4_0 t)) (fun t => κ (some 0) (f123x4_1 t)) (fun t => again (f123e4 t)) t := by kernel_rfl
theorem f123ok4 : LoopOk C f123K f123P 123 f123c4 := loop_ok f123A4 f123e4 f123u4 f123un4 (fun {_R} κ => S_impl_keysFit_4 (fun t => κ (none) (f123x4_0 t)) (fun t => κ (some 0) (f123x4_1 t))) (fun {_R} κ s => f123B4 κ s) (fun {_R} κ again t => f123C4 κ again t)
theorem k123 : Contract C Tryz.prog f123K := contract_tab _ (fun p hp => by
    simp only [List.mem_cons, List.mem_nil_iff, or_false] at hp
    rcases hp with rfl | rfl | rfl | rfl
    · exact ok97
    · exact ok160
    · exact ok186
    · exact ok191)
theorem ev123 (x : List E_i64 × List E_Node × List E_Age × List E_Cell × List E_Vol × Int) : evalB C f123K f123P 123 Tryz.f123 f123B ⟨[.v true [(.sl 3 ts_i64), (.sl 97 ts_Node), (.sl 88 ts_Age), (.sl 94 ts_Cell), (.sl 90 ts_Vol), (.int .i64)] [false, false, false, false, false, false]], [⟨false, [.bool], [false]⟩], false⟩ [(.sl 3 ts_i64), (.sl 97 ts_Node), (.sl 88 ts_Age), (.sl 94 ts_Cell), (.sl 90 ts_Vol), (.int .i64)] [.bool] x = F_impl_keysFit x := by kernel_rfl
theorem ok123 : ContractAt C Tryz.prog 123 F_impl_keysFit := fn_sound (lp := f123P) tok mixed k123 (by kernel_rfl) (fn := Tryz.f123) (c := f123B) (sg := ⟨[.v true [(.sl 3 ts_i64), (.sl 97 ts_Node), (.sl 88 ts_Age), (.sl 94 ts_Cell), (.sl 90 ts_Vol), (.int .i64)] [false, false, false, false, false, false]], [⟨false, [.bool], [false]⟩], false⟩) Tryz.func123 (by decide) (by kernel_rfl) (by kernel_rfl) (by kernel_rfl) (fun c' hc' => by
    rw [show loopsOf f123B = [f123c4] by kernel_rfl] at hc'
    simp only [List.mem_cons, List.mem_nil_iff, or_false] at hc'
    rcases hc' with rfl
    · exact f123ok4) (by decide) (by decide) (fun x y h => (ev123 x).trans h)
abbrev T_impl_PoolOk_4 : Type := List E_Age × Int × Int × List E_i64 × List E_Node × List E_Age × List E_Cell × List E_Vol × Int
noncomputable def S_impl_PoolOk_4 {R : Type} (k0 : (Bool × List E_i64 × List E_Node × List E_Age × List E_Cell × List E_Vol × Int) → Option R) (k1 : (List E_i64 × List E_Node × List E_Age × List E_Cell × List E_Vol × Int) → Option R) (again : T_impl_PoolOk_4 → Option R) (t4 : T_impl_PoolOk_4) : Option R :=
  bif (decide (t4.2.2.1 < t4.2.1)) then if (0 : Int) ≤ t4.2.2.1 then if t4.2.2.1 < ((List.length t4.1 : Nat) : Int) then bif (decide ((rd_Age t4.1 t4.2.2.1).1 ≥ t4.2.2.2.2.2.2.2.2)) then k0 (false, t4.2.2.2.1, t4.2.2.2.2.1, t4.2.2.2.2.2.1, t4.2.2.2.2.2.2.1, t4.2.2.2.2.2.2.2.1, t4.2.2.2.2.2.2.2.2) else again (t4.1, t4.2.1, (Go.IntKind.wrap .i64 (t4.2.2.1 + (1 : Int))), t4.2.2.2.1, t4.2.2.2.2.1, t4.2.2.2.2.2.1, t4.2.2.2.2.2.2.1, t4.2.2.2.2.2.2.2.1, t4.2.2.2.2.2.2.2.2) else none else none else k1 (t4.2.2.2.1, t4.2.2.2.2.1, t4.2.2.2.2.2.1, t4.2.2.2.2.2.2.1, t4.2.2.2.2.2.2.2.1, t4.2.2.2.2.2.2.2.2)
noncomputable def L_impl_PoolOk_4 {R : Type} (k0 : (Bool × List E_i64 × List E_Node × List E_Age × List E_Cell × List E_Vol × Int) → Option R) (k1 : (List E_i64 × List E_Node × List E_Age × List E_Cell × List E_Vol × Int) → Option R) (t : T_impl_PoolOk_4) : Option R := iter (S_impl_PoolOk_4 k0 k1) FUEL t
noncomputable def F_impl_PoolOk (x : List E_i64 × List E_Node × List E_Age × List E_Cell × List E_Vol × Int) : Option (Bool) :=
  Option.bind (F_impl_TreeOk (x.1, x.2.1)) fun r1 => Option.bind (bif (!r1) then some true else Option.bind (F_impl_AgesOk x.2.2.1) fun r3 => some (!r3)) fun u2 => Option.bind (bif u2 then some true else Option.bind (F_impl_CellsOk x.2.2.2.1) fun r5 => some (!r5)) fun u4 => Option.bind (bif u4 then some true else Option.bind (F_impl_within (x.2.2.2.2.2, (1 : Int), (61 : Int))) fun r7 => some (!r7)) fun u6 => bif u6 then some false else L_impl_PoolOk_4 (fun x8 => some x8.1) (fun x9 => Option.bind (F_impl_volsOk (x9.1, x9.2.1, x9.2.2.1, x9.2.2.2.1, x9.2.2.2.2.1, x9.2.2.2.2.2)) fun r10 => Option.bind (bif r10 then Option.bind (F_impl_keysFit (x9.1, x9.2.1, x9.2.2.1, x9.2.2.2.1, x9.2.2.2.2.1, x9.2.2.2.2.2)) fun r12 => some r12 else some false) fun u11 => some u11) (x.2.2.1, ((List.length x.2.2.1 : Nat) : Int), (0 : Int), x.1, x.2.1, x.2.2.1, x.2.2.2.1, x.2.2.2.2.1, x.2.2.2.2.2)
noncomputable def f54B : Code := match Tryz.f54.body with
  | some c => c
  | none => .skip
noncomputable def f54K : C.Sem := tab [⟨103, F_impl_within⟩, ⟨119, F_impl_TreeOk⟩, ⟨120, F_impl_AgesOk⟩, ⟨121, F_impl_CellsOk⟩, ⟨122, F_impl_volsOk⟩, ⟨123, F_impl_keysFit⟩]
def f54h4_0 : List Sh := [.dead, .box 1 0, .dead, .dead, .dead, .dead, .dead, .dead, .dead, .dead, .dead, .dead, .dead, .dead, .dead, .dead, .dead, .dead, .dead, .dead, .dead, .dead, .dead, .dead, .dead, .dead, .dead, .dead, .v (.sl 88 ts_Age), .v (.int .i64), .v (.int .i64), .dead, .dead, .dead, .dead, .dead, .dead, .dead, .dead, .dead, .dead, .dead, .dead, .dead, .dead, .dead]
def f54o4_0 : List (Nat × OSh) := [(1, .box [.v (.sl 3 ts_i64), .v (.sl 97 ts_Node), .v (.sl 88 ts_Age), .v (.sl 94 ts_Cell), .v (.sl 90 ts_Vol), .v (.int .i64)])]
def f54e4_0 (t : List E_Age × Int × Int × List E_i64 × List E_Node × List E_Age × List E_Cell × List E_Vol × Int) : St := ⟨[.dead, .box 1 0, .dead, .dead, .dead, .dead, .dead, .dead, .dead, .dead, .dead, .dead, .dead, .dead, .dead, .dead, .dead, .dead, .dead, .dead, .dead, .dead, .dead, .dead, .dead, .dead, .dead, .dead, .val (.sl 88 ts_Age) t.1, .val (.int .i64) t.2.1, .val (.int .i64) t.2.2.1, .dead, .dead, .dead, .dead, .dead, .dead, .dead, .dead, .dead, .dead, .dead, .dead, .dead, .dead, .dead], [(1, .box [.val (.sl 3 ts_i64) t.2.2.2.1, .val (.sl 97 ts_Node) t.2.2.2.2.1, .val (.sl 88 ts_Age) t.2.2.2.2.2.1, .val (.sl 94 ts_Cell) t.2.2.2.2.2.2.1, .val (.sl 90 ts_Vol) t.2.2.2.2.2.2.2.1, .val (.int .i64) t.2.2.2.2.2.2.2.2])]⟩
def f54x4_0 (t : Bool × List E_i64 × List E_Node × List E_Age × List E_Cell × List E_Vol × Int) : St := ⟨[.dead, .box 1 0, .val .bool t.1, .dead, .dead, .dead, .dead, .dead, .dead, .dead, .dead, .dead, .dead, .dead, .dead, .dead, .dead, .dead, .dead, .dead, .dead, .dead, .dead, .dead, .dead, .dead, .dead, .dead, .dead, .dead, .dead, .dead, .dead, .dead, .dead, .dead, .dead, .dead, .dead, .dead, .dead, .dead, .dead, .dead, .dead, .dead], [(1, .box [.val (.sl 3 ts_i64) t.2.1, .val (.sl 97 ts_Node) t.2.2.1, .val (.sl 88 ts_Age) t.2.2.2.1, .val (.sl 94 ts_Cell) t.2.2.2.2.1, .val (.sl 90 ts_Vol) t.2.2.2.2.2.1, .val (.int .i64) t.2.2.2.2.2.2])]⟩
def f54x4_1 (t : List E_i64 × List E_Node × List E_Age × List E_Cell × List E_Vol × Int) : St := ⟨[.dead, .box 1 0, .dead, .dead, .dead, .dead, .dead, .dead, .dead, .dead, .dead, .dead, .dead, .dead, .dead, .dead, .dead, .dead, .dead, .dead, .dead, .dead, .dead, .dead, .dead, .dead, .dead, .dead, .dead, .dead, .dead, .dead, .dead, .dead, .dead, .dead, .dead, .dead, .dead, .dead, .dead, .dead, .dead, .dead, .dead, .dead], [(1, .box [.val (.sl 3 ts_i64) t.1, .val (.sl 97 ts_Node) t.2.1, .val (.sl 88 ts_Age) t.2.2.1, .val (.sl 94 ts_Cell) t.2.2.2.1, .val (.sl 90 ts_Vol) t.2.2.2.2.1, .val (.int .i64) t.2.2.2.2.2])]⟩
def f54u4_0 (s : St) : Option (List E_Age × Int × Int × List E_i64 × List E_Node × List E_Age × List E_Cell × List E_Vol × Int) := (unS f54h4_0 f54o4_0 s).map fun v => (v.1.2.2.2.2.2.2.2.2.2.2.2.2.2.2.2.2.2.2.2.2.2.2.2.2.2.2.2.2.1, v.1.2.2.2.2.2.2.2.2.2.2.2.2.2.2.2.2.2.2.2.2.2.2.2.2.2.2.2.2.2.1, v.1.2.2.2.2.2.2.2.2.2.2.2.2.2.2.2.2.2.2.2.2.2.2.2.2.2.2.2.2.2.2.1, v.2.1.1, v.2.1.2.1, v.2.1.2.2.1, v.2.1.2.2.2.1, v.2.1.2.2.2.2.1, v.2.1.2.2.2.2.2.1)
theorem f54un4_0 : ∀ (s : St) (t : List E_Age × Int × Int × List E_i64 × List E_Node × List E_Age × List E_Cell × List E_Vol × Int), f54u4_0 s = some t → f54e4_0 t = s := fun s v h => by
  obtain ⟨u, hu, rfl⟩ := Option.map_eq_some_iff.1 h
  exact (show f54e4_0 (u.1.2.2.2.2.2.2.2.2.2.2.2.2.2.2.2.2.2.2.2.2.2.2.2.2.2.2.2.2.1, u.1.2.2.2.2.2.2.2.2.2.2.2.2.2.2.2.2.2.2.2.2.2.2.2.2.2.2.2.2.2.1, u.1.2.2.2.2.2.2.2.2.2.2.2.2.2.2.2.2.2.2.2.2.2.2.2.2.2.2.2.2.2.2.1, u.2.1.1, u.2.1.2.1, u.2.1.2.2.1, u.2.1.2.2.2.1, u.2.1.2.2.2.2.1, u.2.1.2.2.2.2.2.1) = mkS f54h4_0 f54o4_0 u by kernel_rfl).trans (mkS_un f54h4_0 f54o4_0 s u hu)
def f54u4 : St → Option (List E_Age × Int × Int × List E_i64 × List E_Node × List E_Age × List E_Cell × List E_Vol × Int) := f54u4_0
def f54e4 : (List E_Age × Int × Int × List E_i64 × List E_Node × List E_Age × List E_Cell × List E_Vol × Int) → St := f54e4_0
theorem f54un4 : ∀ (s : St) (t : List E_Age × Int × Int × List E_i64 × List E_Node × List E_Age × List E_Cell × List E_Vol × Int), f54u4 s = some t → f54e4 t = s := f54un4_0
noncomputable def f54P : Lp := fun i s {_R} κ => bif Nat.beq i 4 then (f54u4 s).bind fun t => L_impl_PoolOk_4 (fun t => κ (none) (f54x4_0 t)) (fun t => κ (some 0) (f54x4_1 t)) t else none
noncomputable def f54c4 : Code := (loopsOf f54B).getD 0 .skip
theorem f54A4 : C.live 54 (firstRegion f54c4) = some ([1, 28, 29, 30, 43, 44], [1, 2, 43, 44]) := by kernel_rfl
theorem f54B4 {R : Type} (κ : Option Nat → St → Option R) (s : St) : f54P (firstRegion f54c4) s κ = (f54u4 s).bind fun t => iter (S_impl_PoolOk_4 (fun t => κ (none) (f54x4_0 t)) (fun t => κ (some 0) (f54x4_1 t))) FUEL t := by kernel_rfl
theorem f54C4 {R : Type} (κ : Option Nat → St → Option R) (again : St → Option R) (t : T_impl_PoolOk_4) : stepL C f54K f54P 54 f54c4 [1, 28, 29, 30, 43, 44] [1, 2, 43, 44] κ again (f54e4 t) = S_impl_PoolOk_4 (fun t => κ (none) (f54x4_0 t)) (fun t => κ (some 0) (f54x4_1 t)) (fun t => again (f54e4 t)) t := by kernel_rfl
theorem f54ok4 : LoopOk C f54K f54P 54 f54c4 := loop_ok f54A4 f54e4 f54u4 f54un4 (fun {_R} κ => S_impl_PoolOk_4 (fun t => κ (none) (f54x4_0 t)) (fun t => κ (some 0) (f54x4_1 t))) (fun {_R} κ s => f54B4 κ s) (fun {_R} κ again t => f54C4 κ again t)
theorem k54 : Contract C Tryz.prog f54K := contract_tab _ (fun p hp => by
    simp only [List.mem_cons, List.mem_nil_iff, or_false] at hp
    rcases hp with rfl | rfl | rfl | rfl | rfl | rfl
    · exact ok103
    · exact ok119
    · exact ok120
    · exact ok121
    · exact ok122
    · exact ok123)
theorem ev54 (x : List E_i64 × List E_Node × List E_Age × List E_Cell × List E_Vol × Int) : evalB C f54K f54P 54 Tryz.f54 f54B ⟨[.v true [(.sl 3 ts_i64), (.sl 97 ts_Node), (.sl 88 ts_Age), (.sl 94 ts_Cell), (.sl 90 ts_Vol), (.int .i64)] [false, false, false, false, false, false]], [⟨false, [.bool], [false]⟩], false⟩ [(.sl 3 ts_i64), (.sl 97 ts_Node), (.sl 88 ts_Age), (.sl 94 ts_Cell), (.sl 90 ts_Vol), (.int .i64)] [.bool] x = F_impl_PoolOk x := by kernel_rfl
theorem ok54 : ContractAt C Tryz.prog 54 F_impl_PoolOk := fn_sound (lp := f54P) tok mixed k54 (by kernel_rfl) (fn := Tryz.f54) (c := f54B) (sg := ⟨[.v true [(.sl 3 ts_i64), (.sl 97 ts_Node), (.sl 88 ts_Age), (.sl 94 ts_Cell), (.sl 90 ts_Vol), (.int .i64)] [false, false, false, false, false, false]], [⟨false, [.bool], [false]⟩], false⟩) Tryz.func54 (by decide) (by kernel_rfl) (by kernel_rfl) (by kernel_rfl) (fun c' hc' => by
    rw [show loopsOf f54B = [f54c4] by kernel_rfl] at hc'
    simp only [List.mem_cons, List.mem_nil_iff, or_false] at hc'
    rcases hc' with rfl
    · exact f54ok4) (by decide) (by decide) (fun x y h => (ev54 x).trans h)
abbrev T_impl_DevOk_4 : Type := List E_s_u8 × Int × Int × List E_s_u8 × List E_Wr × Int × Bool
noncomputable def S_impl_DevOk_4 {R : Type} (k0 : (Bool × List E_s_u8 × List E_Wr × Int × Bool) → Option R) (k1 : (List E_s_u8 × List E_Wr × Int × Bool) → Option R) (again : T_impl_DevOk_4 → Option R) (t4 : T_impl_DevOk_4) : Option R :=
  bif (decide (t4.2.2.1 < t4.2.1)) then if (0 : Int) ≤ t4.2.2.1 then if t4.2.2.1 < ((List.length t4.1 : Nat) : Int) then bif (decide (((List.length (rd_s_u8 t4.1 t4.2.2.1) : Nat) : Int) > (80 : Int))) then k0 (false, t4.2.2.2.1, t4.2.2.2.2.1, t4.2.2.2.2.2.1, t4.2.2.2.2.2.2) else again (t4.1, t4.2.1, (Go.IntKind.wrap .i64 (t4.2.2.1 + (1 : Int))), t4.2.2.2.1, t4.2.2.2.2.1, t4.2.2.2.2.2.1, t4.2.2.2.2.2.2) else none else none else k1 (t4.2.2.2.1, t4.2.2.2.2.1, t4.2.2.2.2.2.1, t4.2.2.2.2.2.2)
noncomputable def L_impl_DevOk_4 {R : Type} (k0 : (Bool × List E_s_u8 × List E_Wr × Int × Bool) → Option R) (k1 : (List E_s_u8 × List E_Wr × Int × Bool) → Option R) (t : T_impl_DevOk_4) : Option R := iter (S_impl_DevOk_4 k0 k1) FUEL t
abbrev T_impl_DevOk_10 : Type := List E_Wr × Int × Int × List E_s_u8 × List E_Wr × Int × Bool
noncomputable def S_impl_DevOk_10 {R : Type} (k0 : Bool → Option R) (k1 : Unit → Option R) (again : T_impl_DevOk_10 → Option R) (t10 : T_impl_DevOk_10) : Option R :=
  bif (decide (t10.2.2.1 < t10.2.1)) then if (0 : Int) ≤ t10.2.2.1 then if t10.2.2.1 < ((List.length t10.1 : Nat) : Int) then Option.bind (F_impl_within ((rd_Wr t10.1 t10.2.2.1).1, (0 : Int), (Go.IntKind.wrap .i64 (((List.length t10.2.2.2.1 : Nat) : Int) - (1 : Int))))) fun r7 => Option.bind (bif (!r7) then some true else some (decide (((List.length ((rd_Wr t10.1 t10.2.2.1).2) : Nat) : Int) > (80 : Int)))) fun u8 => bif u8 then k0 false else again (t10.1, t10.2.1, (Go.IntKind.wrap .i64 (t10.2.2.1 + (1 : Int))), t10.2.2.2.1, t10.2.2.2.2.1, t10.2.2.2.2.2.1, t10.2.2.2.2.2.2) else none else none else k1 ()
noncomputable def L_impl_DevOk_10 {R : Type} (k0 : Bool → Option R) (k1 : Unit → Option R) (t : T_impl_DevOk_10) : Option R := iter (S_impl_DevOk_10 k0 k1) FUEL t
noncomputable def F_impl_DevOk (x : List E_s_u8 × List E_Wr × Int × Bool) : Option (Bool) :=
  Option.bind (F_impl_within (((List.length x.1 : Nat) : Int), (1 : Int), (60 : Int))) fun r1 => Option.bind (bif (!r1) then some true else some (decide (((List.length x.2.1 : Nat) : Int) > (60 : Int)))) fun u2 => Option.bind (bif u2 then some true else Option.bind (F_impl_within (x.2.2.1, (-1 : Int), (1000 : Int))) fun r4 => some (!r4)) fun u3 => bif u3 then some false else L_impl_DevOk_4 (fun x5 => some x5.1) (fun x6 => L_impl_DevOk_10 (fun x9 => some x9) (fun x10 => some true) (x6.2.1, ((List.length x6.2.1 : Nat) : Int), (0 : Int), x6.1, x6.2.1, x6.2.2.1, x6.2.2.2)) (x.1, ((List.length x.1 : Nat) : Int), (0 : Int), x.1, x.2.1, x.2.2.1, x.2.2.2)
noncomputable def f104B : Code := match Tryz.f104.body with
  | some c => c
  | none => .skip
noncomputable def f104K : C.Sem := tab [⟨103, F_impl_within⟩]
def f104h4_0 : List Sh := [.dead, .box 1 0, .dead, .dead, .dead, .dead, .dead, .dead, .dead, .dead, .dead, .dead, .dead, .dead, .dead, .dead, .dead, .dead, .dead, .dead, .dead, .dead, .dead, .dead, .dead, .v (.sl 56 ts_s_u8), .v (.int .i64), .v (.int .i64), .dead, .dead, .dead, .dead, .dead, .dead, .dead, .dead, .dead, .dead, .dead, .dead, .dead, .dead, .dead, .dead, .dead, .dead, .dead, .dead, .dead, .dead, .dead, .dead, .dead, .dead, .dead, .dead, .dead]
def f104o4_0 : List (Nat × OSh) := [(1, .box [.v (.sl 56 ts_s_u8), .v (.sl 178 ts_Wr), .v (.int .i64), .v .bool])]
def f104e4_0 (t : List E_s_u8 × Int × Int × List E_s_u8 × List E_Wr × Int × Bool) : St := ⟨[.dead, .box 1 0, .dead, .dead, .dead, .dead, .dead, .dead, .dead, .dead, .dead, .dead, .dead, .dead, .dead, .dead, .dead, .dead, .dead, .dead, .dead, .dead, .dead, .dead, .dead, .val (.sl 56 ts_s_u8) t.1, .val (.int .i64) t.2.1, .val (.int .i64) t.2.2.1, .dead, .dead, .dead, .dead, .dead, .dead, .dead, .dead, .dead, .dead, .dead, .dead, .dead, .dead, .dead, .dead, .dead, .dead, .dead, .dead, .dead, .dead, .dead, .dead, .dead, .dead, .dead, .dead, .dead], [(1, .box [.val (.sl 56 ts_s_u8) t.2.2.2.1, .val (.sl 178 ts_Wr) t.2.2.2.2.1, .val (.int .i64) t.2.2.2.2.2.1, .val .bool t.2.2.2.2.2.2])]⟩
def f104x4_0 (t : Bool × List E_s_u8 × List E_Wr × Int × Bool) : St := ⟨[.dead, .box 1 0, .val .bool t.1, .dead, .dead, .dead, .dead, .dead, .dead, .dead, .dead, .dead, .dead, .dead, .dead, .dead, .dead, .dead, .dead, .dead, .dead, .dead, .dead, .dead, .dead, .dead, .dead, .dead, .dead, .dead, .dead, .dead, .dead, .dead, .dead, .dead, .dead, .dead, .dead, .dead, .dead, .dead, .dead, .dead, .dead, .dead, .dead, .dead, .dead, .dead, .dead, .dead, .dead, .dead, .dead, .dead, .dead], [(1, .box [.val (.sl 56 ts_s_u8) t.2.1, .val (.sl 178 ts_Wr) t.2.2.1, .val (.int .i64) t.2.2.2.1, .val .bool t.2.2.2.2])]⟩
def f104x4_1 (t : List E_s_u8 × List E_Wr × Int × Bool) : St := ⟨[.dead, .box 1 0, .dead, .dead, .dead, .dead, .dead, .dead, .dead, .dead, .dead, .dead, .dead, .dead, .dead, .dead, .dead, .dead, .dead, .dead, .dead, .dead, .dead, .dead, .dead, .dead, .dead, .dead, .dead, .dead, .dead, .dead, .dead, .dead, .dead, .dead, .dead, .dead, .dead, .dead, .dead, .dead, .dead, .dead, .dead, .dead, .dead, .dead, .dead, .dead, .dead, .dead, .dead, .dead, .dead, .dead, .dead], [(1, .box [.val (.sl 56 ts_s_u8) t.1, .val (.sl 178 ts_Wr) t.2.1, .val (.int .i64) t.2.2.1, .val .bool t.2.2.2])]⟩
def f104u4_0 (s : St) : Option (List E_s_u8 × Int × Int × List E_s_u8 × List E_Wr × Int × Bool) := (unS f104h4_0 f104o4_0 s).map fun v => (v.1.2.2.2.2.2.2.2.2.2.2.2.2.2.2.2.2.2.2.2.2.2.2.2.2.2.1, v.1.2.2.2.2.2.2.2.2.2.2.2.2.2.2.2.2.2.2.2.2.2.2.2.2.2.2.1, v.1.2.2.2.2.2.2.2.2.2.2.2.2.2.2.2.2.2.2.2.2.2.2.2.2.2.2.2.1, v.2.1.1, v.2.1.2.1, v.2.1.2.2.1, v.2.1.2.2.2.1)
theorem f104un4_0 : ∀ (s : St) (t : List E_s_u8 × Int × Int × List E_s_u8 × List E_Wr × Int × Bool), f104u4_0 s = some t → f104e4_0 t = s := fun s v h => by
  obtain ⟨u, hu, rfl⟩ := Option.map_eq_some_iff.1 h
  exact (show f104e4_0 (u.1.2.2.2.2.2.2.2.2.2.2.2.2.2.2.2.2.2.2.2.2.2.2.2.2.2.1, u.1.2.2.2.2.2.2.2.2.2.2.2.2.2.2.2.2.2.2.2.2.2.2.2.2.2.2.1, u.1.2.2.2.2.2.2.2.2.2.2.2.2.2.2.2.2.2.2.2.2.2.2.2.2.2.2.2.1, u.2.1.1, u.2.1.2.1, u.2.1.2.2.1, u.2.1.2.2.2.1) = mkS f104h4_0 f104o4_0 u by kernel_rfl).trans (mkS_un f104h4_0 f104o4_0 s u hu)
def f104u4 : St → Option (List E_s_u8 × Int × Int × List E_s_u8 × List E_Wr × Int × Bool) := f104u4_0
def f104e4 : (List E_s_u8 × Int × Int × List E_s_u8 × List E_Wr × Int × Bool) → St := f104e4_0
theorem f104un4 : ∀ (s : St) (t : List E_s_u8 × Int × Int × List E_s_u8 × List E_Wr × Int × Bool), f104u4 s = some t → f104e4 t = s := f104un4_0
def f104h10_0 : List Sh := [.dead, .box 1 0, .dead, .dead, .dead, .dead, .dead, .dead, .dead, .dead, .dead, .dead, .dead, .dead, .dead, .dead, .dead, .dead, .dead, .dead, .dead, .dead, .dead, .dead, .dead, .dead, .dead, .dead, .dead, .dead, .dead, .dead, .dead, .dead, .dead, .dead, .v (.sl 178 ts_Wr), .v (.int .i64), .v (.int .i64), .dead, .dead, .dead, .dead, .dead, .dead, .dead, .dead, .dead, .dead, .dead, .dead, .dead, .dead, .dead, .dead, .dead, .dead]
def f104o10_0 : List (Nat × OSh) := [(1, .box [.v (.sl 56 ts_s_u8), .v (.sl 178 ts_Wr), .v (.int .i64), .v .bool])]
def f104e10_0 (t : List E_Wr × Int × Int × List E_s_u8 × List E_Wr × Int × Bool) : St := ⟨[.dead, .box 1 0, .dead, .dead, .dead, .dead, .dead, .dead, .dead, .dead, .dead, .dead, .dead, .dead, .dead, .dead, .dead, .dead, .dead, .dead, .dead, .dead, .dead, .dead, .dead, .dead, .dead, .dead, .dead, .dead, .dead, .dead, .dead, .dead, .dead, .dead, .val (.sl 178 ts_Wr) t.1, .val (.int .i64) t.2.1, .val (.int .i64) t.2.2.1, .dead, .dead, .dead, .dead, .dead, .dead, .dead, .dead, .dead, .dead, .dead, .dead, .dead, .dead, .dead, .dead, .dead, .dead], [(1, .box [.val (.sl 56 ts_s_u8) t.2.2.2.1, .val (.sl 178 ts_Wr) t.2.2.2.2.1, .val (.int .i64) t.2.2.2.2.2.1, .val .bool t.2.2.2.2.2.2])]⟩
def f104x10_0 (t : Bool) : St := ⟨[.dead, .dead, .val .bool t, .dead, .dead, .dead, .dead, .dead, .dead, .dead, .dead, .dead, .dead, .dead, .dead, .dead, .dead, .dead, .dead, .dead, .dead, .dead, .dead, .dead, .dead, .dead, .dead, .dead, .dead, .dead, .dead, .dead, .dead, .dead, .dead, .dead, .dead, .dead, .dead, .dead, .dead, .dead, .dead, .dead, .dead, .dead, .dead, .dead, .dead, .dead, .dead, .dead, .dead, .dead, .dead, .dead, .dead], []⟩
def f104x10_1 (t : Unit) : St := ⟨[.dead, .dead, .dead, .dead, .dead, .dead, .dead, .dead, .dead, .dead, .dead, .dead, .dead, .dead, .dead, .dead, .dead, .dead, .dead, .dead, .dead, .dead, .dead, .dead, .dead, .dead, .dead, .dead, .dead, .dead, .dead, .dead, .dead, .dead, .dead, .dead, .dead, .dead, .dead, .dead, .dead, .dead, .dead, .dead, .dead, .dead, .dead, .dead, .dead, .dead, .dead, .dead, .dead, .dead, .dead, .dead, .dead], []⟩
def f104u10_0 (s : St) : Option (List E_Wr × Int × Int × List E_s_u8 × List E_Wr × Int × Bool) := (unS f104h10_0 f104o10_0 s).map fun v => (v.1.2.2.2.2.2.2.2.2.2.2.2.2.2.2.2.2.2.2.2.2.2.2.2.2.2.2.2.2.2.2.2.2.2.2.2.2.1, v.1.2.2.2.2.2.2.2.2.2.2.2.2.2.2.2.2.2.2.2.2.2.2.2.2.2.2.2.2.2.2.2.2.2.2.2.2.2.1, v.1.2.2.2.2.2.2.2.2.2.2.2.2.2.2.2.2.2.2.2.2.2.2.2.2.2.2.2.2.2.2.2.2.2.2.2.2.2.2.1, v.2.1.1, v.2.1.2.1, v.2.1.2.2.1, v.2.1.2.2.2.1)
theorem f104un10_0 : ∀ (s : St) (t : List E_Wr × Int × Int × List E_s_u8 × List E_Wr × Int × Bool), f104u10_0 s = some t → f104e10_0 t = s := fun s v h => by
  obtain ⟨u, hu, rfl⟩ := Option.map_eq_some_iff.1 h
  exact (show f104e10_0 (u.1.2.2.2.2.2.2.2.2.2.2.2.2.2.2.2.2.2.2.2.2.2.2.2.2.2.2.2.2.2.2.2.2.2.2.2.2.1, u.1.2.2.2.2.2.2.2.2.2.2.2.2.2.2.2.2.2.2.2.2.2.2.2.2.2.2.2.2.2.2.2.2.2.2.2.2.2.1, u.1.2.2.2.2.2.2.2.2.2.2.2.2.2.2.2.2.2.2.2.2.2.2.2.2.2.2.2.2.2.2.2.2.2.2.2.2.2.2.1, u.2.1.1, u.2.1.2.1, u.2.1.2.2.1, u.2.1.2.2.2.1) = mkS f104h10_0 f104o10_0 u by kernel_rfl).trans (mkS_un f104h10_0 f104o10_0 s u hu)
def f104u10 : St → Option (List E_Wr × Int × Int × List E_s_u8 × List E_Wr × Int × Bool) := f104u10_0
def f104e10 : (List E_Wr × Int × Int × List E_s_u8 × List E_Wr × Int × Bool) → St := f104e10_0
theorem f104un10 : ∀ (s : St) (t : List E_Wr × Int × Int × List E_s_u8 × List E_Wr × Int × Bool), f104u10 s = some t → f104e10 t = s := f104un10_0
noncomputable def f104P : Lp := fun i s {_R} κ => bif Nat.beq i 10 then (f104u10 s).bind fun t => L_impl_DevOk_10 (fun t => κ (none) (f104x10_0 t)) (fun t => κ (some 2) (f104x10_1 t)) t else bif Nat.beq i 4 then (f104u4 s).bind fun t => L_impl_DevOk_4 (fun t => κ (none) (f104x4_0 t)) (fun t => κ (some 0) (f104x4_1 t)) t else none
noncomputable def f104c4 : Code := (loopsOf f104B).getD 0 .skip
theorem f104A4 : C.live 104 (firstRegion f104c4) = some ([1, 25, 26, 27, 51, 52, 53, 54], [1, 2, 51, 52, 53, 54]) := by kernel_rfl
theorem f104B4 {R : Type} (κ : Option Nat → St → Option R) (s : St) : f104P (firstRegion f104c4) s κ = (f104u4 s).bind fun t => iter (S_impl_DevOk_4 (fun t => κ (none) (f104x4_0 t)) (fun t => κ (some 0) (f104x4_1 t))) FUEL t := by kernel_rfl
theorem f104C4 {R : Type} (κ : Option Nat → St → Option R) (again : St → Option R) (t : T_impl_DevOk_4) : stepL C f104K f104P 104 f104c4 [1, 25, 26, 27, 51, 52, 53, 54] [1, 2, 51, 52, 53, 54] κ again (f104e4 t) = S_impl_DevOk_4 (fun t => κ (none) (f104x4_0 t)) (fun t => κ (some 0) (f104x4_1 t)) (fun t => again (f104e4 t)) t := by kernel_rfl
theorem f104ok4 : LoopOk C f104K f104P 104 f104c4 := loop_ok f104A4 f104e4 f104u4 f104un4 (fun {_R} κ => S_impl_DevOk_4 (fun t => κ (none) (f104x4_0 t)) (fun t => κ (some 0) (f104x4_1 t))) (fun {_R} κ s => f104B4 κ s) (fun {_R} κ again t => f104C4 κ again t)
noncomputable def f104c10 : Code := (loopsOf f104B).getD 1 .skip
theorem f104A10 : C.live 104 (firstRegion f104c10) = some ([1, 36, 37, 38, 51, 52, 53, 54], [2]) := by kernel_rfl
theorem f104B10 {R : Type} (κ : Option Nat → St → Option R) (s : St) : f104P (firstRegion f104c10) s κ = (f104u10 s).bind fun t => iter (S_impl_DevOk_10 (fun t => κ (none) (f104x10_0 t)) (fun t => κ (some 2) (f104x10_1 t))) FUEL t := by kernel_rfl
theorem f104C10 {R : Type} (κ : Option Nat → St → Option R) (again : St → Option R) (t : T_impl_DevOk_10) : stepL C f104K f104P 104 f104c10 [1, 36, 37, 38, 51, 52, 53, 54] [2] κ again (f104e10 t) = S_impl_DevOk_10 (fun t => κ (none) (f104x10_0 t)) (fun t => κ (some 2) (f104x10_1 t)) (fun t => again (f104e10 t)) t := by kernel_rfl
theorem f104ok10 : LoopOk C f104K f104P 104 f104c10 := loop_ok f104A10 f104e10 f104u10 f104un10 (fun {_R} κ => S_impl_DevOk_10 (fun t => κ (none) (f104x10_0 t)) (fun t => κ (some 2) (f104x10_1 t))) (fun {_R} κ s => f104B10 κ s) (fun {_R} κ again t => f104C10 κ again t)
theorem k104 : Contract C Tryz.prog f104K := contract_tab _ (fun p hp => by
    simp only [List.mem_cons, List.mem_nil_iff, or_false] at hp
    rcases hp with rfl
    · exact ok103)
theorem ev104 (x : List E_s_u8 × List E_Wr × Int × Bool) : evalB C f104K f104P 104 Tryz.f104 f104B ⟨[.v true [(.sl 56 ts_s_u8), (.sl 178 ts_Wr), (.int .i64), .bool] [false, false, false, false]], [⟨false, [.bool], [false]⟩], false⟩ [(.sl 56 ts_s_u8), (.sl 178 ts_Wr), (.int .i64), .bool] [.bool] x = F_impl_DevOk x := by kernel_rfl
theorem ok104 : ContractAt C Tryz.prog 104 F_impl_DevOk := fn_sound (lp := f104P) tok mixed k104 (by kernel_rfl) (fn := Tryz.f104) (c := f104B) (sg := ⟨[.v true [(.sl 56 ts_s_u8), (.sl 178 ts_Wr), (.int .i64), .bool] [false, false, false, false]], [⟨false, [.bool], [false]⟩], false⟩) Tryz.func104 (by decide) (by kernel_rfl) (by kernel_rfl) (by kernel_rfl) (fun c' hc' => by
    rw [show loopsOf f104B = [f104c4, f104c10] by kernel_rfl] at hc'
    simp only [List.mem_cons, List.mem_nil_iff, or_false] at hc'
    rcases hc' with rfl | rfl
    · exact f104ok4
    · exact f104ok10) (by decide) (by decide) (fun x y h => (ev104 x).trans h)
noncomputable def F_impl_storeOk (x : List E_s_u8 × List E_Wr × Int × Bool × List E_i64 × List E_Node × List E_Age × List E_Cell × List E_Vol × Int × Int × Int × Int × Int) : Option (Bool) :=
  Option.bind (F_impl_within (x.2.2.2.2.2.2.2.2.2.2.1, x.2.2.2.2.2.2.2.2.2.2.2.2.2, (50000 : Int))) fun r1 => Option.bind (bif r1 then Option.bind (F_impl_within (x.2.2.2.2.2.2.2.2.2.2.2.1, (1 : Int), (50000 : Int))) fun r3 => some r3 else some false) fun u2 => Option.bind (bif u2 then Option.bind (F_impl_within (x.2.2.2.2.2.2.2.2.2.2.2.2.1, (1 : Int), (50000 : Int))) fun r5 => some r5 else some false) fun u4 => Option.bind (bif u4 then Option.bind (F_impl_within (x.2.2.2.2.2.2.2.2.2.2.2.2.1, x.2.2.2.2.2.2.2.2.2.2.2.1, (Go.IntKind.wrap .i64 (x.2.2.2.2.2.2.2.2.2.2.2.1 + (6 : Int))))) fun r7 => some r7 else some false) fun u6 => Option.bind (bif u6 then Option.bind (F_impl_DevOk (x.1, x.2.1, x.2.2.1, x.2.2.2.1)) fun r9 => some r9 else some false) fun u8 => Option.bind (bif u8 then some (((List.length x.1 : Nat) : Int) == (60 : Int)) else some false) fun u10 => Option.bind (bif u10 then Option.bind (F_impl_PoolOk (x.2.2.2.2.1, x.2.2.2.2.2.1, x.2.2.2.2.2.2.1, x.2.2.2.2.2.2.2.1, x.2.2.2.2.2.2.2.2.1, x.2.2.2.2.2.2.2.2.2.1)) fun r12 => some r12 else some false) fun u11 => some u11
noncomputable def f40B : Code := match Tryz.f40.body with
  | some c => c
  | none => .skip
noncomputable def f40K : C.Sem := tab [⟨54, F_impl_PoolOk⟩, ⟨103, F_impl_within⟩, ⟨104, F_impl_DevOk⟩]
noncomputable def f40P : Lp := fun i s {_R} κ => none
theorem k40 : Contract C Tryz.prog f40K := contract_tab _ (fun p hp => by
    simp only [List.mem_cons, List.mem_nil_iff, or_false] at hp
    rcases hp with rfl | rfl | rfl
    · exact ok54
    · exact ok103
    · exact ok104)
theorem ev40 (x : List E_s_u8 × List E_Wr × Int × Bool × List E_i64 × List E_Node × List E_Age × List E_Cell × List E_Vol × Int × Int × Int × Int × Int) : evalB C f40K f40P 40 Tryz.f40 f40B ⟨[.v true [(.sl 56 ts_s_u8), (.sl 178 ts_Wr), (.int .i64), .bool, (.sl 3 ts_i64), (.sl 97 ts_Node), (.sl 88 ts_Age), (.sl 94 ts_Cell), (.sl 90 ts_Vol), (.int .i64), (.int .i64), (.int .i64), (.int .i64)] [false, false, false, false, false, false, false, false, false, false, false, false, false], .v false [(.int .i64)] [false]], [⟨false, [.bool], [false]⟩], false⟩ [(.sl 56 ts_s_u8), (.sl 178 ts_Wr), (.int .i64), .bool, (.sl 3 ts_i64), (.sl 97 ts_Node), (.sl 88 ts_Age), (.sl 94 ts_Cell), (.sl 90 ts_Vol), (.int .i64), (.int .i64), (.int .i64), (.int .i64), (.int .i64)] [.bool] x = F_impl_storeOk x := by kernel_rfl
theorem ok40 : ContractAt C Tryz.prog 40 F_impl_storeOk := fn_sound (lp := f40P) tok mixed k40 (by kernel_rfl) (fn := Tryz.f40) (c := f40B) (sg := ⟨[.v true [(.sl 56 ts_s_u8), (.sl 178 ts_Wr), (.int .i64), .bool, (.sl 3 ts_i64), (.sl 97 ts_Node), (.sl 88 ts_Age), (.sl 94 ts_Cell), (.sl 90 ts_Vol), (.int .i64), (.int .i64), (.int .i64), (.int .i64)] [false, false, false, false, false, false, false, false, false, false, false, false, false], .v false [(.int .i64)] [false]], [⟨false, [.bool], [false]⟩], false⟩) Tryz.func40 (by decide) (by kernel_rfl) (by kernel_rfl) (by kernel_rfl) (fun c' hc' => by
    rw [show loopsOf f40B = [] by kernel_rfl] at hc'
    cases hc') (by decide) (by decide) (fun x y h => (ev40 x).trans h)
noncomputable def F_impl_StoreOk (x : List E_s_u8 × List E_Wr × Int × Bool × List E_i64 × List E_Node × List E_Age × List E_Cell × List E_Vol × Int × Int × Int × Int) : Option (Bool) :=
  Option.bind (F_impl_storeOk (x.1, x.2.1, x.2.2.1, x.2.2.2.1, x.2.2.2.2.1, x.2.2.2.2.2.1, x.2.2.2.2.2.2.1, x.2.2.2.2.2.2.2.1, x.2.2.2.2.2.2.2.2.1, x.2.2.2.2.2.2.2.2.2.1, x.2.2.2.2.2.2.2.2.2.2.1, x.2.2.2.2.2.2.2.2.2.2.2.1, x.2.2.2.2.2.2.2.2.2.2.2.2, (1 : Int))) fun r1 => some r1
noncomputable def f12B : Code := match Tryz.f12.body with
  | some c => c
  | none => .skip
noncomputable def f12K : C.Sem := tab [⟨40, F_impl_storeOk⟩]
noncomputable def f12P : Lp := fun i s {_R} κ => none
theorem k12 : Contract C Tryz.prog f12K := contract_tab _ (fun p hp => by
    simp only [List.mem_cons, List.mem_nil_iff, or_false] at hp
    rcases hp with rfl
    · exact ok40)
theorem ev12 (x : List E_s_u8 × List E_Wr × Int × Bool × List E_i64 × List E_Node × List E_Age × List E_Cell × List E_Vol × Int × Int × Int × Int) : evalB C f12K f12P 12 Tryz.f12 f12B ⟨[.v true [(.sl 56 ts_s_u8), (.sl 178 ts_Wr), (.int .i64), .bool, (.sl 3 ts_i64), (.sl 97 ts_Node), (.sl 88 ts_Age), (.sl 94 ts_Cell), (.sl 90 ts_Vol), (.int .i64), (.int .i64), (.int .i64), (.int .i64)] [false, false, false, false, false, false, false, false, false, false, false, false, false]], [⟨false, [.bool], [false]⟩], false⟩ [(.sl 56 ts_s_u8), (.sl 178 ts_Wr), (.int .i64), .bool, (.sl 3 ts_i64), (.sl 97 ts_Node), (.sl 88 ts_Age), (.sl 94 ts_Cell), (.sl 90 ts_Vol), (.int .i64), (.int .i64), (.int .i64), (.int .i64)] [.bool] x = F_impl_StoreOk x := by kernel_rfl
theorem ok12 : ContractAt C Tryz.prog 12 F_impl_StoreOk := fn_sound (lp := f12P) tok mixed k12 (by kernel_rfl) (fn := Tryz.f12) (c := f12B) (sg := ⟨[.v true [(.sl 56 ts_s_u8), (.sl 178 ts_Wr), (.int .i64), .bool, (.sl 3 ts_i64), (.sl 97 ts_Node), (.sl 88 ts_Age), (.sl 94 ts_Cell), (.sl 90 ts_Vol), (.int .i64), (.int .i64), (.int .i64), (.int .i64)] [false, false, false, false, false, false, false, false, false, false, false, false, false]], [⟨false, [.bool], [false]⟩], false⟩) Tryz.func12 (by decide) (by kernel_rfl) (by kernel_rfl) (by kernel_rfl) (fun c' hc' => by
    rw [show loopsOf f12B = [] by kernel_rfl] at hc'
    cases hc') (by decide) (by decide) (fun x y h => (ev12 x).trans h)
abbrev T_laws_eqIntS_4 : Type := List E_i64 × List E_i64 × Int
noncomputable def S_laws_eqIntS_4 {R : Type} (k0 : Bool → Option R) (k1 : Unit → Option R) (again : T_laws_eqIntS_4 → Option R) (t4 : T_laws_eqIntS_4) : Option R :=
  bif (decide (t4.2.2 < ((List.length t4.1 : Nat) : Int))) then if (0 : Int) ≤ t4.2.2 then if t4.2.2 < ((List.length t4.1 : Nat) : Int) then if (0 : Int) ≤ t4.2.2 then if t4.2.2 < ((List.length t4.2.1 : Nat) : Int) then bif ((rd_i64 t4.1 t4.2.2) != (rd_i64 t4.2.1 t4.2.2)) then k0 false else again (t4.1, t4.2.1, (Go.IntKind.wrap .i64 (t4.2.2 + (1 : Int)))) else none else none else none else none else k1 ()
noncomputable def L_laws_eqIntS_4 {R : Type} (k0 : Bool → Option R) (k1 : Unit → Option R) (t : T_laws_eqIntS_4) : Option R := iter (S_laws_eqIntS_4 k0 k1) FUEL t
noncomputable def F_laws_eqIntS (x : List E_i64 × List E_i64) : Option (Bool) :=
  bif (((List.length x.1 : Nat) : Int) != ((List.length x.2 : Nat) : Int)) then some false else L_laws_eqIntS_4 (fun x1 => some x1) (fun x2 => some true) (x.1, x.2, (0 : Int))
noncomputable def f126B : Code := match Tryz.f126.body with
  | some c => c
  | none => .skip
noncomputable def f126K : C.Sem := tab []
def f126h4_0 : List Sh := [.v (.sl 3 ts_i64), .v (.sl 3 ts_i64), .dead, .dead, .dead, .v (.int .i64), .dead, .dead, .dead, .dead, .dead, .dead, .dead, .dead, .dead, .dead, .dead, .dead, .dead, .dead, .dead, .dead, .dead, .dead, .dead, .dead]
def f126o4_0 : List (Nat × OSh) := []
def f126e4_0 (t : List E_i64 × List E_i64 × Int) : St := ⟨[.val (.sl 3 ts_i64) t.1, .val (.sl 3 ts_i64) t.2.1, .dead, .dead, .dead, .val (.int .i64) t.2.2, .dead, .dead, .dead, .dead, .dead, .dead, .dead, .dead, .dead, .dead, .dead, .dead, .dead, .dead, .dead, .dead, .dead, .dead, .dead, .dead], []⟩
def f126x4_0 (t : Bool) : St := ⟨[.dead, .dead, .dead, .dead, .val .bool t, .dead, .dead, .dead, .dead, .dead, .dead, .dead, .dead, .dead, .dead, .dead, .dead, .dead, .dead, .dead, .dead, .dead, .dead, .dead, .dead, .dead], []⟩
def f126x4_1 (t : Unit) : St := ⟨[.dead, .dead, .dead, .dead, .dead, .dead, .dead, .dead, .dead, .dead, .dead, .dead, .dead, .dead, .dead, .dead, .dead, .dead, .dead, .dead, .dead, .dead, .dead, .dead, .dead, .dead], []⟩
def f126u4_0 (s : St) : Option (List E_i64 × List E_i64 × Int) := (unS f126h4_0 f126o4_0 s).map fun v => (v.1.1, v.1.2.1, v.1.2.2.2.2.2.1)
theorem f126un4_0 : ∀ (s : St) (t : List E_i64 × List E_i64 × Int), f126u4_0 s = some t → f126e4_0 t = s := fun s v h => by
  obtain ⟨u, hu, rfl⟩ := Option.map_eq_some_iff.1 h
  exact (show f126e4_0 (u.1.1, u.1.2.1, u.1.2.2.2.2.2.1) = mkS f126h4_0 f126o4_0 u by kernel_rfl).trans (mkS_un f126h4_0 f126o4_0 s u hu)
def f126u4 : St → Option (List E_i64 × List E_i64 × Int) := f126u4_0
def f126e4 : (List E_i64 × List E_i64 × Int) → St := f126e4_0
theorem f126un4 : ∀ (s : St) (t : List E_i64 × List E_i64 × Int), f126u4 s = some t → f126e4 t = s := f126un4_0
noncomputable def f126P : Lp := fun i s {_R} κ => bif Nat.beq i 4 then (f126u4 s).bind fun t => L_laws_eqIntS_4 (fun t => κ (none) (f126x4_0 t)) (fun t => κ (some 0) (f126x4_1 t)) t else none
noncomputable def f126c4 : Code := (loopsOf f126B).getD 0 .skip
theorem f126A4 : C.live 126 (firstRegion f126c4) = some ([0, 1, 5], [4]) := by kernel_rfl
theorem f126B4 {R : Type} (κ : Option Nat → St → Option R) (s : St) : f126P (firstRegion f126c4) s κ = (f126u4 s).bind fun t => iter (S_laws_eqIntS_4 (fun t => κ (none) (f126x4_0 t)) (fun t => κ (some 0) (f126x4_1 t))) FUEL t := by kernel_rfl
theorem f126C4 {R : Type} (κ : Option Nat → St → Option R) (again : St → Option R) (t : T_laws_eqIntS_4) : stepL C f126K f126P 126 f126c4 [0, 1, 5] [4] κ again (f126e4 t) = S_laws_eqIntS_4 (fun t => κ (none) (f126x4_0 t)) (fun t => κ (some 0) (f126x4_1 t)) (fun t => again (f126e4 t)) t := by kernel_rfl
theorem f126ok4 : LoopOk C f126K f126P 126 f126c4 := loop_ok f126A4 f126e4 f126u4 f126un4 (fun {_R} κ => S_laws_eqIntS_4 (fun t => κ (none) (f126x4_0 t)) (fun t => κ (some 0) (f126x4_1 t))) (fun {_R} κ s => f126B4 κ s) (fun {_R} κ again t => f126C4 κ again t)
theorem k126 : Contract C Tryz.prog f126K := contract_tab _ (fun p hp => by cases hp)
theorem ev126 (x : List E_i64 × List E_i64) : evalB C f126K f126P 126 Tryz.f126 f126B ⟨[.v false [(.sl 3 ts_i64)] [false], .v false [(.sl 3 ts_i64)] [false]], [⟨false, [.bool], [false]⟩], false⟩ [(.sl 3 ts_i64), (.sl 3 ts_i64)] [.bool] x = F_laws_eqIntS x := by kernel_rfl
theorem ok126 : ContractAt C Tryz.prog 126 F_laws_eqIntS := fn_sound (lp := f126P) tok mixed k126 (by kernel_rfl) (fn := Tryz.f126) (c := f126B) (sg := ⟨[.v false [(.sl 3 ts_i64)] [false], .v false [(.sl 3 ts_i64)] [false]], [⟨false, [.bool], [false]⟩], false⟩) Tryz.func126 (by decide) (by kernel_rfl) (by kernel_rfl) (by kernel_rfl) (fun c' hc' => by
    rw [show loopsOf f126B = [f126c4] by kernel_rfl] at hc'
    simp only [List.mem_cons, List.mem_nil_iff, or_false] at hc'
    rcases hc' with rfl
    · exact f126ok4) (by decide) (by decide) (fun x y h => (ev126 x).trans h)
noncomputable def F_laws_eqKey (x : Int × Int × Int × Int × Int × Int × Int × Int × Int × Int) : Option (Bool) :=
  bif (x.1 != x.2.2.2.2.2.1) then some false else bif (x.2.1 != x.2.2.2.2.2.2.1) then some false else bif (x.2.2.1 != x.2.2.2.2.2.2.2.1) then some false else bif (x.2.2.2.1 != x.2.2.2.2.2.2.2.2.1) then some false else bif (x.2.2.2.2.1 != x.2.2.2.2.2.2.2.2.2) then some false else some true
noncomputable def f281B : Code := match Tryz.f281.body with
  | some c => c
  | none => .skip
noncomputable def f281K : C.Sem := tab []
noncomputable def f281P : Lp := fun i s {_R} κ => none
theorem k281 : Contract C Tryz.prog f281K := contract_tab _ (fun p hp => by cases hp)
theorem ev281 (x : Int × Int × Int × Int × Int × Int × Int × Int × Int × Int) : evalB C f281K f281P 281 Tryz.f281 f281B ⟨[.v true [(.int .i64), (.int .i64), (.int .i64), (.int .i64), (.int .i64)] [false, false, false, false, false], .v true [(.int .i64), (.int .i64), (.int .i64), (.int .i64), (.int .i64)] [false, false, false, false, false]], [⟨false, [.bool], [false]⟩], false⟩ [(.int .i64), (.int .i64), (.int .i64), (.int .i64), (.int .i64), (.int .i64), (.int .i64), (.int .i64), (.int .i64), (.int .i64)] [.bool] x = F_laws_eqKey x := by kernel_rfl
theorem ok281 : ContractAt C Tryz.prog 281 F_laws_eqKey := fn_sound (lp := f281P) tok mixed k281 (by kernel_rfl) (fn := Tryz.f281) (c := f281B) (sg := ⟨[.v true [(.int .i64), (.int .i64), (.int .i64), (.int .i64), (.int .i64)] [false, false, false, false, false], .v true [(.int .i64), (.int .i64), (.int .i64), (.int .i64), (.int .i64)] [false, false, false, false, false]], [⟨false, [.bool], [false]⟩], false⟩) Tryz.func281 (by decide) (by kernel_rfl) (by kernel_rfl) (by kernel_rfl) (fun c' hc' => by
    rw [show loopsOf f281B = [] by kernel_rfl] at hc'
    cases hc') (by decide) (by decide) (fun x y h => (ev281 x).trans h)
abbrev T_laws_eqKeyS_4 : Type := List E_Key × List E_Key × Int
noncomputable def S_laws_eqKeyS_4 {R : Type} (k0 : Bool → Option R) (k1 : Unit → Option R) (again : T_laws_eqKeyS_4 → Option R) (t4 : T_laws_eqKeyS_4) : Option R :=
  bif (decide (t4.2.2 < ((List.length t4.1 : Nat) : Int))) then if (0 : Int) ≤ t4.2.2 then if t4.2.2 < ((List.length t4.1 : Nat) : Int) then if (0 : Int) ≤ t4.2.2 then if t4.2.2 < ((List.length t4.2.1 : Nat) : Int) then Option.bind (F_laws_eqKey ((rd_Key t4.1 t4.2.2).1, (rd_Key t4.1 t4.2.2).2.1, (rd_Key t4.1 t4.2.2).2.2.1, (rd_Key t4.1 t4.2.2).2.2.2.1, (rd_Key t4.1 t4.2.2).2.2.2.2, (rd_Key t4.2.1 t4.2.2).1, (rd_Key t4.2.1 t4.2.2).2.1, (rd_Key t4.2.1 t4.2.2).2.2.1, (rd_Key t4.2.1 t4.2.2).2.2.2.1, (rd_Key t4.2.1 t4.2.2).2.2.2.2)) fun r1 => bif (!r1) then k0 false else again (t4.1, t4.2.1, (Go.IntKind.wrap .i64 (t4.2.2 + (1 : Int)))) else none else none else none else none else k1 ()
noncomputable def L_laws_eqKeyS_4 {R : Type} (k0 : Bool → Option R) (k1 : Unit → Option R) (t : T_laws_eqKeyS_4) : Option R := iter (S_laws_eqKeyS_4 k0 k1) FUEL t
noncomputable def F_laws_eqKeyS (x : List E_Key × List E_Key) : Option (Bool) :=
  bif (((List.length x.1 : Nat) : Int) != ((List.length x.2 : Nat) : Int)) then some false else L_laws_eqKeyS_4 (fun x2 => some x2) (fun x3 => some true) (x.1, x.2, (0 : Int))
noncomputable def f263B : Code := match Tryz.f263.body with
  | some c => c
  | none => .skip
noncomputable def f263K : C.Sem := tab [⟨281, F_laws_eqKey⟩]
def f263h4_0 : List Sh := [.v (.sl 105 ts_Key), .v (.sl 105 ts_Key), .dead, .dead, .dead, .v (.int .i64), .dead, .dead, .dead, .dead, .dead, .dead, .dead, .dead, .dead, .dead, .dead, .dead, .dead, .dead, .dead, .dead, .dead, .dead, .dead, .dead, .dead]
def f263o4_0 : List (Nat × OSh) := []
def f263e4_0 (t : List E_Key × List E_Key × Int) : St := ⟨[.val (.sl 105 ts_Key) t.1, .val (.sl 105 ts_Key) t.2.1, .dead, .dead, .dead, .val (.int .i64) t.2.2, .dead, .dead, .dead, .dead, .dead, .dead, .dead, .dead, .dead, .dead, .dead, .dead, .dead, .dead, .dead, .dead, .dead, .dead, .dead, .dead, .dead], []⟩
def f263x4_0 (t : Bool) : St := ⟨[.dead, .dead, .dead, .dead, .val .bool t, .dead, .dead, .dead, .dead, .dead, .dead, .dead, .dead, .dead, .dead, .dead, .dead, .dead, .dead, .dead, .dead, .dead, .dead, .dead, .dead, .dead, .dead], []⟩
def f263x4_1 (t : Unit) : St := ⟨[.dead, .dead, .dead, .dead, .dead, .dead, .dead, .dead, .dead, .dead, .dead, .dead, .dead, .dead, .dead, .dead, .dead, .dead, .dead, .dead, .dead, .dead, .dead, .dead, .dead, .dead, .dead], []⟩
def f263u4_0 (s : St) : Option (List E_Key × List E_Key × Int) := (unS f263h4_0 f263o4_0 s).map fun v => (v.1.1, v.1.2.1, v.1.2.2.2.2.2.1)
theorem f263un4_0 : ∀ (s : St) (t : List E_Key × List E_Key × Int), f263u4_0 s = some t → f263e4_0 t = s := fun s v h => by
  obtain ⟨u, hu, rfl⟩ := Option.map_eq_some_iff.1 h
  exact (show f263e4_0 (u.1.1, u.1.2.1, u.1.2.2.2.2.2.1) = mkS f263h4_0 f263o4_0 u by kernel_rfl).trans (mkS_un f263h4_0 f263o4_0 s u hu)
def f263u4 : St → Option (List E_Key × List E_Key × Int) := f263u4_0
def f263e4 : (List E_Key × List E_Key × Int) → St := f263e4_0
theorem f263un4 : ∀ (s : St) (t : List E_Key × List E_Key × Int), f263u4 s = some t → f263e4 t = s := f263un4_0
noncomputable def f263P : Lp := fun i s {_R} κ => bif Nat.beq i 4 then (f263u4 s).bind fun t => L_laws_eqKeyS_4 (fun t => κ (none) (f263x4_0 t)) (fun t => κ (some 0) (f263x4_1 t)) t else none
noncomputable def f263c4 : Code := (loopsOf f263B).getD 0 .skip
theorem f263A4 : C.live 263 (firstRegion f263c4) = some ([0, 1, 5], [4]) := by kernel_rfl
theorem f263B4 {R : Type} (κ : Option Nat → St → Option R) (s : St) : f263P (firstRegion f263c4) s κ = (f263u4 s).bind fun t => iter (S_laws_eqKeyS_4 (fun t => κ (none) (f263x4_0 t)) (fun t => κ (some 0) (f263x4_1 t))) FUEL t := by kernel_rfl
theorem f263C4 {R : Type} (κ : Option Nat → St → Option R) (again : St → Option R) (t : T_laws_eqKeyS_4) : stepL C f263K f263P 263 f263c4 [0, 1, 5] [4] κ again (f263e4 t) = S_laws_eqKeyS_4 (fun t => κ (none) (f263x4_0 t)) (fun t => κ (some 0) (f263x4_1 t)) (fun t => again (f263e4 t)) t := by kernel_rfl
theorem f263ok4 : LoopOk C f263K f263P 263 f263c4 := loop_ok f263A4 f263e4 f263u4 f263un4 (fun {_R} κ => S_laws_eqKeyS_4 (fun t => κ (none) (f263x4_0 t)) (fun t => κ (some 0) (f263x4_1 t))) (fun {_R} κ s => f263B4 κ s) (fun {_R} κ again t => f263C4 κ again t)
theorem k263 : Contract C Tryz.prog f263K := contract_tab _ (fun p hp => by
    simp only [List.mem_cons, List.mem_nil_iff, or_false] at hp
    rcases hp with rfl
    · exact ok281)
theorem ev263 (x : List E_Key × List E_Key) : evalB C f263K f263P 263 Tryz.f263 f263B ⟨[.v false [(.sl 105 ts_Key)] [false], .v false [(.sl 105 ts_Key)] [false]], [⟨false, [.bool], [false]⟩], false⟩ [(.sl 105 ts_Key), (.sl 105 ts_Key)] [.bool] x = F_laws_eqKeyS x := by kernel_rfl
theorem ok263 : ContractAt C Tryz.prog 263 F_laws_eqKeyS := fn_sound (lp := f263P) tok mixed k263 (by kernel_rfl) (fn := Tryz.f263) (c := f263B) (sg := ⟨[.v false [(.sl 105 ts_Key)] [false], .v false [(.sl 105 ts_Key)] [false]], [⟨false, [.bool], [false]⟩], false⟩) Tryz.func263 (by decide) (by kernel_rfl) (by kernel_rfl) (by kernel_rfl) (fun c' hc' => by
    rw [show loopsOf f263B = [f263c4] by kernel_rfl] at hc'
    simp only [List.mem_cons, List.mem_nil_iff, or_false] at hc'
    rcases hc' with rfl
    · exact f263ok4) (by decide) (by decide) (fun x y h => (ev263 x).trans h)
abbrev T_laws_eqKeySS_4 : Type := List E_s_Key × List E_s_Key × Int
noncomputable def S_laws_eqKeySS_4 {R : Type} (k0 : Bool → Option R) (k1 : Unit → Option R) (again : T_laws_eqKeySS_4 → Option R) (t4 : T_laws_eqKeySS_4) : Option R :=
  bif (decide (t4.2.2 < ((List.length t4.1 : Nat) : Int))) then if (0 : Int) ≤ t4.2.2 then if t4.2.2 < ((List.length t4.1 : Nat) : Int) then if (0 : Int) ≤ t4.2.2 then if t4.2.2 < ((List.length t4.2.1 : Nat) : Int) then Option.bind (F_laws_eqKeyS ((rd_s_Key t4.1 t4.2.2), (rd_s_Key t4.2.1 t4.2.2))) fun r1 => bif (!r1) then k0 false else again (t4.1, t4.2.1, (Go.IntKind.wrap .i64 (t4.2.2 + (1 : Int)))) else none else none else none else none else k1 ()
noncomputable def L_laws_eqKeySS_4 {R : Type} (k0 : Bool → Option R) (k1 : Unit → Option R) (t : T_laws_eqKeySS_4) : Option R := iter (S_laws_eqKeySS_4 k0 k1) FUEL t
noncomputable def F_laws_eqKeySS (x : List E_s_Key × List E_s_Key) : Option (Bool) :=
  bif (((List.length x.1 : Nat) : Int) != ((List.length x.2 : Nat) : Int)) then some false else L_laws_eqKeySS_4 (fun x2 => some x2) (fun x3 => some true) (x.1, x.2, (0 : Int))
noncomputable def f232B : Code := match Tryz.f232.body with
  | some c => c
  | none => .skip
noncomputable def f232K : C.Sem := tab [⟨263, F_laws_eqKeyS⟩]
def f232h4_0 : List Sh := [.v (.sl 99 ts_s_Key), .v (.sl 99 ts_s_Key), .dead, .dead, .dead, .v (.int .i64), .dead, .dead, .dead, .dead, .dead, .dead, .dead, .dead, .dead, .dead, .dead, .dead, .dead, .dead, .dead, .dead, .dead, .dead, .dead, .dead, .dead]
def f232o4_0 : List (Nat × OSh) := []
def f232e4_0 (t : List E_s_Key × List E_s_Key × Int) : St := ⟨[.val (.sl 99 ts_s_Key) t.1, .val (.sl 99 ts_s_Key) t.2.1, .dead, .dead, .dead, .val (.int .i64) t.2.2, .dead, .dead, .dead, .dead, .dead, .dead, .dead, .dead, .dead, .dead, .dead, .dead, .dead, .dead, .dead, .dead, .dead, .dead, .dead, .dead, .dead], []⟩
def f232x4_0 (t : Bool) : St := ⟨[.dead, .dead, .dead, .dead, .val .bool t, .dead, .dead, .dead, .dead, .dead, .dead, .dead, .dead, .dead, .dead, .dead, .dead, .dead, .dead, .dead, .dead, .dead, .dead, .dead, .dead, .dead, .dead], []⟩
def f232x4_1 (t : Unit) : St := ⟨[.dead, .dead, .dead, .dead, .dead, .dead, .dead, .dead, .dead, .dead, .dead, .dead, .dead, .dead, .dead, .dead, .dead, .dead, .dead, .dead, .dead, .dead, .dead, .dead, .dead, .dead, .dead], []⟩
def f232u4_0 (s : St) : Option (List E_s_Key × List E_s_Key × Int) := (unS f232h4_0 f232o4_0 s).map fun v => (v.1.1, v.1.2.1, v.1.2.2.2.2.2.1)
theorem f232un4_0 : ∀ (s : St) (t : List E_s_Key × List E_s_Key × Int), f232u4_0 s = some t → f232e4_0 t = s := fun s v h => by
  obtain ⟨u, hu, rfl⟩ := Option.map_eq_some_iff.1 h
  exact (show f232e4_0 (u.1.1, u.1.2.1, u.1.2.2.2.2.2.1) = mkS f232h4_0 f232o4_0 u by kernel_rfl).trans (mkS_un f232h4_0 f232o4_0 s u hu)
def f232u4 : St → Option (List E_s_Key × List E_s_Key × Int) := f232u4_0
def f232e4 : (List E_s_Key × List E_s_Key × Int) → St := f232e4_0
theorem f232un4 : ∀ (s : St) (t : List E_s_Key × List E_s_Key × Int), f232u4 s = some t → f232e4 t = s := f232un4_0
noncomputable def f232P : Lp := fun i s {_R} κ => bif Nat.beq i 4 then (f232u4 s).bind fun t => L_laws_eqKeySS_4 (fun t => κ (none) (f232x4_0 t)) (fun t => κ (some 0) (f232x4_1 t)) t else none
noncomputable def f232c4 : Code := (loopsOf f232B).getD 0 .skip
theorem f232A4 : C.live 232 (firstRegion f232c4) = some ([0, 1, 5], [4]) := by kernel_rfl
theorem f232B4 {R : Type} (κ : Option Nat → St → Option R) (s : St) : f232P (firstRegion f232c4) s κ = (f232u4 s).bind fun t => iter (S_laws_eqKeySS_4 (fun t => κ (none) (f232x4_0 t)) (fun t => κ (some 0) (f232x4_1 t))) FUEL t := by kernel_rfl
theorem f232C4 {R : Type} (κ : Option Nat → St → Option R) (again : St → Option R) (t : T_laws_eqKeySS_4) : stepL C f232K f232P 232 f232c4 [0, 1, 5] [4] κ again (f232e4 t) = S_laws_eqKeySS_4 (fun t => κ (none) (f232x4_0 t)) (fun t => κ (some 0) (f232x4_1 t)) (fun t => again (f232e4 t)) t := by kernel_rfl
theorem f232ok4 : LoopOk C f232K f232P 232 f232c4 := loop_ok f232A4 f232e4 f232u4 f232un4 (fun {_R} κ => S_laws_eqKeySS_4 (fun t => κ (none) (f232x4_0 t)) (fun t => κ (some 0) (f232x4_1 t))) (fun {_R} κ s => f232B4 κ s) (fun {_R} κ again t => f232C4 κ again t)
theorem k232 : Contract C Tryz.prog f232K := contract_tab _ (fun p hp => by
    simp only [List.mem_cons, List.mem_nil_iff, or_false] at hp
    rcases hp with rfl
    · exact ok263)
theorem ev232 (x : List E_s_Key × List E_s_Key) : evalB C f232K f232P 232 Tryz.f232 f232B ⟨[.v false [(.sl 99 ts_s_Key)] [false], .v false [(.sl 99 ts_s_Key)] [false]], [⟨false, [.bool], [false]⟩], false⟩ [(.sl 99 ts_s_Key), (.sl 99 ts_s_Key)] [.bool] x = F_laws_eqKeySS x := by kernel_rfl
theorem ok232 : ContractAt C Tryz.prog 232 F_laws_eqKeySS := fn_sound (lp := f232P) tok mixed k232 (by kernel_rfl) (fn := Tryz.f232) (c := f232B) (sg := ⟨[.v false [(.sl 99 ts_s_Key)] [false], .v false [(.sl 99 ts_s_Key)] [false]], [⟨false, [.bool], [false]⟩], false⟩) Tryz.func232 (by decide) (by kernel_rfl) (by kernel_rfl) (by kernel_rfl) (fun c' hc' => by
    rw [show loopsOf f232B = [f232c4] by kernel_rfl] at hc'
    simp only [List.mem_cons, List.mem_nil_iff, or_false] at hc'
    rcases hc' with rfl
    · exact f232ok4) (by decide) (by decide) (fun x y h => (ev232 x).trans h)
noncomputable def F_laws_eqNode (x : List E_s_Key × List E_s_Key) : Option (Bool) :=
  Option.bind (F_laws_eqKeySS (x.1, x.2)) fun r1 => bif (!r1) then some false else some true
noncomputable def f192B : Code := match Tryz.f192.body with
  | some c => c
  | none => .skip
noncomputable def f192K : C.Sem := tab [⟨232, F_laws_eqKeySS⟩]
noncomputable def f192P : Lp := fun i s {_R} κ => none
theorem k192 : Contract C Tryz.prog f192K := contract_tab _ (fun p hp => by
    simp only [List.mem_cons, List.mem_nil_iff, or_false] at hp
    rcases hp with rfl
    · exact ok232)
theorem ev192 (x : List E_s_Key × List E_s_Key) : evalB C f192K f192P 192 Tryz.f192 f192B ⟨[.v true [(.sl 99 ts_s_Key)] [false], .v true [(.sl 99 ts_s_Key)] [false]], [⟨false, [.bool], [false]⟩], false⟩ [(.sl 99 ts_s_Key), (.sl 99 ts_s_Key)] [.bool] x = F_laws_eqNode x := by kernel_rfl
theorem ok192 : ContractAt C Tryz.prog 192 F_laws_eqNode := fn_sound (lp := f192P) tok mixed k192 (by kernel_rfl) (fn := Tryz.f192) (c := f192B) (sg := ⟨[.v true [(.sl 99 ts_s_Key)] [false], .v true [(.sl 99 ts_s_Key)] [false]], [⟨false, [.bool], [false]⟩], false⟩) Tryz.func192 (by decide) (by kernel_rfl) (by kernel_rfl) (by kernel_rfl) (fun c' hc' => by
    rw [show loopsOf f192B = [] by kernel_rfl] at hc'
    cases hc') (by decide) (by decide) (fun x y h => (ev192 x).trans h)
abbrev T_laws_eqNodeS_4 : Type := List E_Node × List E_Node × Int
noncomputable def S_laws_eqNodeS_4 {R : Type} (k0 : Bool → Option R) (k1 : Unit → Option R) (again : T_laws_eqNodeS_4 → Option R) (t4 : T_laws_eqNodeS_4) : Option R :=
  bif (decide (t4.2.2 < ((List.length t4.1 : Nat) : Int))) then if (0 : Int) ≤ t4.2.2 then if t4.2.2 < ((List.length t4.1 : Nat) : Int) then if (0 : Int) ≤ t4.2.2 then if t4.2.2 < ((List.length t4.2.1 : Nat) : Int) then Option.bind (F_laws_eqNode ((rd_Node t4.1 t4.2.2), (rd_Node t4.2.1 t4.2.2))) fun r1 => bif (!r1) then k0 false else again (t4.1, t4.2.1, (Go.IntKind.wrap .i64 (t4.2.2 + (1 : Int)))) else none else none else none else none else k1 ()
noncomputable def L_laws_eqNodeS_4 {R : Type} (k0 : Bool → Option R) (k1 : Unit → Option R) (t : T_laws_eqNodeS_4) : Option R := iter (S_laws_eqNodeS_4 k0 k1) FUEL t
noncomputable def F_laws_eqNodeS (x : List E_Node × List E_Node) : Option (Bool) :=
  bif (((List.length x.1 : Nat) : Int) != ((List.length x.2 : Nat) : Int)) then some false else L_laws_eqNodeS_4 (fun x2 => some x2) (fun x3 => some true) (x.1, x.2, (0 : Int))
noncomputable def f127B : Code := match Tryz.f127.body with
  | some c => c
  | none => .skip
noncomputable def f127K : C.Sem := tab [⟨192, F_laws_eqNode⟩]
def f127h4_0 : List Sh := [.v (.sl 97 ts_Node), .v (.sl 97 ts_Node), .dead, .dead, .dead, .v (.int .i64), .dead, .dead, .dead, .dead, .dead, .dead, .dead, .dead, .dead, .dead, .dead, .dead, .dead, .dead, .dead, .dead, .dead, .dead, .dead, .dead, .dead]
def f127o4_0 : List (Nat × OSh) := []
def f127e4_0 (t : List E_Node × List E_Node × Int) : St := ⟨[.val (.sl 97 ts_Node) t.1, .val (.sl 97 ts_Node) t.2.1, .dead, .dead, .dead, .val (.int .i64) t.2.2, .dead, .dead, .dead, .dead, .dead, .dead, .dead, .dead, .dead, .dead, .dead, .dead, .dead, .dead, .dead, .dead, .dead, .dead, .dead, .dead, .dead], []⟩
def f127x4_0 (t : Bool) : St := ⟨[.dead, .dead, .dead, .dead, .val .bool t, .dead, .dead, .dead, .dead, .dead, .dead, .dead, .dead, .dead, .dead, .dead, .dead, .dead, .dead, .dead, .dead, .dead, .dead, .dead, .dead, .dead, .dead], []⟩
def f127x4_1 (t : Unit) : St := ⟨[.dead, .dead, .dead, .dead, .dead, .dead, .dead, .dead, .dead, .dead, .dead, .dead, .dead, .dead, .dead, .dead, .dead, .dead, .dead, .dead, .dead, .dead, .dead, .dead, .dead, .dead, .dead], []⟩
def f127u4_0 (s : St) : Option (List E_Node × List E_Node × Int) := (unS f127h4_0 f127o4_0 s).map fun v => (v.1.1, v.1.2.1, v.1.2.2.2.2.2.1)
theorem f127un4_0 : ∀ (s : St) (t : List E_Node × List E_Node × Int), f127u4_0 s = some t → f127e4_0 t = s := fun s v h => by
  obtain ⟨u, hu, rfl⟩ := Option.map_eq_some_iff.1 h
  exact (show f127e4_0 (u.1.1, u.1.2.1, u.1.2.2.2.2.2.1) = mkS f127h4_0 f127o4_0 u by kernel_rfl).trans (mkS_un f127h4_0 f127o4_0 s u hu)
def f127u4 : St → Option (List E_Node × List E_Node × Int) := f127u4_0
def f127e4 : (List E_Node × List E_Node × Int) → St := f127e4_0
theorem f127un4 : ∀ (s : St) (t : List E_Node × List E_Node × Int), f127u4 s = some t → f127e4 t = s := f127un4_0
noncomputable def f127P : Lp := fun i s {_R} κ => bif Nat.beq i 4 then (f127u4 s).bind fun t => L_laws_eqNodeS_4 (fun t => κ (none) (f127x4_0 t)) (fun t => κ (some 0) (f127x4_1 t)) t else none
noncomputable def f127c4 : Code := (loopsOf f127B).getD 0 .skip
theorem f127A4 : C.live 127 (firstRegion f127c4) = some ([0, 1, 5], [4]) := by kernel_rfl
theorem f127B4 {R : Type} (κ : Option Nat → St → Option R) (s : St) : f127P (firstRegion f127c4) s κ = (f127u4 s).bind fun t => iter (S_laws_eqNodeS_4 (fun t => κ (none) (f127x4_0 t)) (fun t => κ (some 0) (f127x4_1 t))) FUEL t := by kernel_rfl
theorem f127C4 {R : Type} (κ : Option Nat → St → Option R) (again : St → Option R) (t : T_laws_eqNodeS_4) : stepL C f127K f127P 127 f127c4 [0, 1, 5] [4] κ again (f127e4 t) = S_laws_eqNodeS_4 (fun t => κ (none) (f127x4_0 t)) (fun t => κ (some 0) (f127x4_1 t)) (fun t => again (f127e4 t)) t := by kernel_rfl
theorem f127ok4 : LoopOk C f127K f127P 127 f127c4 := loop_ok f127A4 f127e4 f127u4 f127un4 (fun {_R} κ => S_laws_eqNodeS_4 (fun t => κ (none) (f127x4_0 t)) (fun t => κ (some 0) (f127x4_1 t))) (fun {_R} κ s => f127B4 κ s) (fun {_R} κ again t => f127C4 κ again t)
theorem k127 : Contract C Tryz.prog f127K := contract_tab _ (fun p hp => by
    simp only [List.mem_cons, List.mem_nil_iff, or_false] at hp
    rcases hp with rfl
    · exact ok192)
theorem ev127 (x : List E_Node × List E_Node) : evalB C f127K f127P 127 Tryz.f127 f127B ⟨[.v false [(.sl 97 ts_Node)] [false], .v false [(.sl 97 ts_Node)] [false]], [⟨false, [.bool], [false]⟩], false⟩ [(.sl 97 ts_Node), (.sl 97 ts_Node)] [.bool] x = F_laws_eqNodeS x := by kernel_rfl
theorem ok127 : ContractAt C Tryz.prog 127 F_laws_eqNodeS := fn_sound (lp := f127P) tok mixed k127 (by kernel_rfl) (fn := Tryz.f127) (c := f127B) (sg := ⟨[.v false [(.sl 97 ts_Node)] [false], .v false [(.sl 97 ts_Node)] [false]], [⟨false, [.bool], [false]⟩], false⟩) Tryz.func127 (by decide) (by kernel_rfl) (by kernel_rfl) (by kernel_rfl) (fun c' hc' => by
    rw [show loopsOf f127B = [f127c4] by kernel_rfl] at hc'
    simp only [List.mem_cons, List.mem_nil_iff, or_false] at hc'
    rcases hc' with rfl
    · exact f127ok4) (by decide) (by decide) (fun x y h => (ev127 x).trans h)
noncomputable def F_laws_eqTree (x : List E_i64 × List E_Node × List E_i64 × List E_Node) : Option (Bool) :=
  Option.bind (F_laws_eqIntS (x.1, x.2.2.1)) fun r1 => bif (!r1) then some false else Option.bind (F_laws_eqNodeS (x.2.1, x.2.2.2)) fun r2 => bif (!r2) then some false else some true
noncomputable def f59B : Code := match Tryz.f59.body with
  | some c => c
  | none => .skip
noncomputable def f59K : C.Sem := tab [⟨126, F_laws_eqIntS⟩, ⟨127, F_laws_eqNodeS⟩]
noncomputable def f59P : Lp := fun i s {_R} κ => none
theorem k59 : Contract C Tryz.prog f59K := contract_tab _ (fun p hp => by
    simp only [List.mem_cons, List.mem_nil_iff, or_false] at hp
    rcases hp with rfl | rfl
    · exact ok126
    · exact ok127)
theorem ev59 (x : List E_i64 × List E_Node × List E_i64 × List E_Node) : evalB C f59K f59P 59 Tryz.f59 f59B ⟨[.v true [(.sl 3 ts_i64), (.sl 97 ts_Node)] [false, false], .v true [(.sl 3 ts_i64), (.sl 97 ts_Node)] [false, false]], [⟨false, [.bool], [false]⟩], false⟩ [(.sl 3 ts_i64), (.sl 97 ts_Node), (.sl 3 ts_i64), (.sl 97 ts_Node)] [.bool] x = F_laws_eqTree x := by kernel_rfl
theorem ok59 : ContractAt C Tryz.prog 59 F_laws_eqTree := fn_sound (lp := f59P) tok mixed k59 (by kernel_rfl) (fn := Tryz.f59) (c := f59B) (sg := ⟨[.v true [(.sl 3 ts_i64), (.sl 97 ts_Node)] [false, false], .v true [(.sl 3 ts_i64), (.sl 97 ts_Node)] [false, false]], [⟨false, [.bool], [false]⟩], false⟩) Tryz.func59 (by decide) (by kernel_rfl) (by kernel_rfl) (by kernel_rfl) (fun c' hc' => by
    rw [show loopsOf f59B = [] by kernel_rfl] at hc'
    cases hc') (by decide) (by decide) (fun x y h => (ev59 x).trans h)
noncomputable def F_laws_eqAge (x : Int × Int × Int × Int) : Option (Bool) :=
  bif (x.1 != x.2.2.1) then some false else bif (x.2.1 != x.2.2.2) then some false else some true
noncomputable def f128B : Code := match Tryz.f128.body with
  | some c => c
  | none => .skip
noncomputable def f128K : C.Sem := tab []
noncomputable def f128P : Lp := fun i s {_R} κ => none
theorem k128 : Contract C Tryz.prog f128K := contract_tab _ (fun p hp => by cases hp)
theorem ev128 (x : Int × Int × Int × Int) : evalB C f128K f128P 128 Tryz.f128 f128B ⟨[.v true [(.int .i64), (.int .i64)] [false, false], .v true [(.int .i64), (.int .i64)] [false, false]], [⟨false, [.bool], [false]⟩], false⟩ [(.int .i64), (.int .i64), (.int .i64), (.int .i64)] [.bool] x = F_laws_eqAge x := by kernel_rfl
theorem ok128 : ContractAt C Tryz.prog 128 F_laws_eqAge := fn_sound (lp := f128P) tok mixed k128 (by kernel_rfl) (fn := Tryz.f128) (c := f128B) (sg := ⟨[.v true [(.int .i64), (.int .i64)] [false, false], .v true [(.int .i64), (.int .i64)] [false, false]], [⟨false, [.bool], [false]⟩], false⟩) Tryz.func128 (by decide) (by kernel_rfl) (by kernel_rfl) (by kernel_rfl) (fun c' hc' => by
    rw [show loopsOf f128B = [] by kernel_rfl] at hc'
    cases hc') (by decide) (by decide) (fun x y h => (ev128 x).trans h)
abbrev T_laws_eqAgeS_4 : Type := List E_Age × List E_Age × Int
noncomputable def S_laws_eqAgeS_4 {R : Type} (k0 : Bool → Option R) (k1 : Unit → Option R) (again : T_laws_eqAgeS_4 → Option R) (t4 : T_laws_eqAgeS_4) : Option R :=
  bif (decide (t4.2.2 < ((List.length t4.1 : Nat) : Int))) then if (0 : Int) ≤ t4.2.2 then if t4.2.2 < ((List.length t4.1 : Nat) : Int) then if (0 : Int) ≤ t4.2.2 then if t4.2.2 < ((List.length t4.2.1 : Nat) : Int) then Option.bind (F_laws_eqAge ((rd_Age t4.1 t4.2.2).1, (rd_Age t4.1 t4.2.2).2, (rd_Age t4.2.1 t4.2.2).1, (rd_Age t4.2.1 t4.2.2).2)) fun r1 => bif (!r1) then k0 false else again (t4.1, t4.2.1, (Go.IntKind.wrap .i64 (t4.2.2 + (1 : Int)))) else none else none else none else none else k1 ()
noncomputable def L_laws_eqAgeS_4 {R : Type} (k0 : Bool → Option R) (k1 : Unit → Option R) (t : T_laws_eqAgeS_4) : Option R := iter (S_laws_eqAgeS_4 k0 k1) FUEL t
noncomputable def F_laws_eqAgeS (x : List E_Age × List E_Age) : Option (Bool) :=
  bif (((List.length x.1 : Nat) : Int) != ((List.length x.2 : Nat) : Int)) then some false else L_laws_eqAgeS_4 (fun x2 => some x2) (fun x3 => some true) (x.1, x.2, (0 : Int))
noncomputable def f60B : Code := match Tryz.f60.body with
  | some c => c
  | none => .skip
noncomputable def f60K : C.Sem := tab [⟨128, F_laws_eqAge⟩]
def f60h4_0 : List Sh := [.v (.sl 88 ts_Age), .v (.sl 88 ts_Age), .dead, .dead, .dead, .v (.int .i64), .dead, .dead, .dead, .dead, .dead, .dead, .dead, .dead, .dead, .dead, .dead, .dead, .dead, .dead, .dead, .dead, .dead, .dead, .dead, .dead, .dead]
def f60o4_0 : List (Nat × OSh) := []
def f60e4_0 (t : List E_Age × List E_Age × Int) : St := ⟨[.val (.sl 88 ts_Age) t.1, .val (.sl 88 ts_Age) t.2.1, .dead, .dead, .dead, .val (.int .i64) t.2.2, .dead, .dead, .dead, .dead, .dead, .dead, .dead, .dead, .dead, .dead, .dead, .dead, .dead, .dead, .dead, .dead, .dead, .dead, .dead, .dead, .dead], []⟩
def f60x4_0 (t : Bool) : St := ⟨[.dead, .dead, .dead, .dead, .val .bool t, .dead, .dead, .dead, .dead, .dead, .dead, .dead, .dead, .dead, .dead, .dead, .dead, .dead, .dead, .dead, .dead, .dead, .dead, .dead, .dead, .dead, .dead], []⟩
def f60x4_1 (t : Unit) : St := ⟨[.dead, .dead, .dead, .dead, .dead, .dead, .dead, .dead, .dead, .dead, .dead, .dead, .dead, .dead, .dead, .dead, .dead, .dead, .dead, .dead, .dead, .dead, .dead, .dead, .dead, .dead, .dead], []⟩
def f60u4_0 (s : St) : Option (List E_Age × List E_Age × Int) := (unS f60h4_0 f60o4_0 s).map fun v => (v.1.1, v.1.2.1, v.1.2.2.2.2.2.1)
theorem f60un4_0 : ∀ (s : St) (t : List E_Age × List E_Age × Int), f60u4_0 s = some t → f60e4_0 t = s := fun s v h => by
  obtain ⟨u, hu, rfl⟩ := Option.map_eq_some_iff.1 h
  exact (show f60e4_0 (u.1.1, u.1.2.1, u.1.2.2.2.2.2.1) = mkS f60h4_0 f60o4_0 u by kernel_rfl).trans (mkS_un f60h4_0 f60o4_0 s u hu)
def f60u4 : St → Option (List E_Age × List E_Age × Int) := f60u4_0
def f60e4 : (List E_Age × List E_Age × Int) → St := f60e4_0
theorem f60un4 : ∀ (s : St) (t : List E_Age × List E_Age × Int), f60u4 s = some t → f60e4 t = s := f60un4_0
noncomputable def f60P : Lp := fun i s {_R} κ => bif Nat.beq i 4 then (f60u4 s).bind fun t => L_laws_eqAgeS_4 (fun t => κ (none) (f60x4_0 t)) (fun t => κ (some 0) (f60x4_1 t)) t else none
noncomputable def f60c4 : Code := (loopsOf f60B).getD 0 .skip
theorem f60A4 : C.live 60 (firstRegion f60c4) = some ([0, 1, 5], [4]) := by kernel_rfl
theorem f60B4 {R : Type} (κ : Option Nat → St → Option R) (s : St) : f60P (firstRegion f60c4) s κ = (f60u4 s).bind fun t => iter (S_laws_eqAgeS_4 (fun t => κ (none) (f60x4_0 t)) (fun t => κ (some 0) (f60x4_1 t))) FUEL t := by kernel_rfl
theorem f60C4 {R : Type} (κ : Option Nat → St → Option R) (again : St → Option R) (t : T_laws_eqAgeS_4) : stepL C f60K f60P 60 f60c4 [0, 1, 5] [4] κ again (f60e4 t) = S_laws_eqAgeS_4 (fun t => κ (none) (f60x4_0 t)) (fun t => κ (some 0) (f60x4_1 t)) (fun t => again (f60e4 t)) t := by kernel_rfl
theorem f60ok4 : LoopOk C f60K f60P 60 f60c4 := loop_ok f60A4 f60e4 f60u4 f60un4 (fun {_R} κ => S_laws_eqAgeS_4 (fun t => κ (none) (f60x4_0 t)) (fun t => κ (some 0) (f60x4_1 t))) (fun {_R} κ s => f60B4 κ s) (fun {_R} κ again t => f60C4 κ again t)
theorem k60 : Contract C Tryz.prog f60K := contract_tab _ (fun p hp => by
    simp only [List.mem_cons, List.mem_nil_iff, or_false] at hp
    rcases hp with rfl
    · exact ok128)
theorem ev60 (x : List E_Age × List E_Age) : evalB C f60K f60P 60 Tryz.f60 f60B ⟨[.v false [(.sl 88 ts_Age)] [false], .v false [(.sl 88 ts_Age)] [false]], [⟨false, [.bool], [false]⟩], false⟩ [(.sl 88 ts_Age), (.sl 88 ts_Age)] [.bool] x = F_laws_eqAgeS x := by kernel_rfl
theorem ok60 : ContractAt C Tryz.prog 60 F_laws_eqAgeS := fn_sound (lp := f60P) tok mixed k60 (by kernel_rfl) (fn := Tryz.f60) (c := f60B) (sg := ⟨[.v false [(.sl 88 ts_Age)] [false], .v false [(.sl 88 ts_Age)] [false]], [⟨false, [.bool], [false]⟩], false⟩) Tryz.func60 (by decide) (by kernel_rfl) (by kernel_rfl) (by kernel_rfl) (fun c' hc' => by
    rw [show loopsOf f60B = [f60c4] by kernel_rfl] at hc'
    simp only [List.mem_cons, List.mem_nil_iff, or_false] at hc'
    rcases hc' with rfl
    · exact f60ok4) (by decide) (by decide) (fun x y h => (ev60 x).trans h)
noncomputable def F_laws_eqCell (x : Int × Bool × Int × Int × Bool × Int) : Option (Bool) :=
  bif (x.1 != x.2.2.2.1) then some false else bif (!(x.2.1 == x.2.2.2.2.1)) then some false else bif (x.2.2.1 != x.2.2.2.2.2) then some false else some true
noncomputable def f129B : Code := match Tryz.f129.body with
  | some c => c
  | none => .skip
noncomputable def f129K : C.Sem := tab []
noncomputable def f129P : Lp := fun i s {_R} κ => none
theorem k129 : Contract C Tryz.prog f129K := contract_tab _ (fun p hp => by cases hp)
theorem ev129 (x : Int × Bool × Int × Int × Bool × Int) : evalB C f129K f129P 129 Tryz.f129 f129B ⟨[.v true [(.int .i64), .bool, (.int .i64)] [false, false, false], .v true [(.int .i64), .bool, (.int .i64)] [false, false, false]], [⟨false, [.bool], [false]⟩], false⟩ [(.int .i64), .bool, (.int .i64), (.int .i64), .bool, (.int .i64)] [.bool] x = F_laws_eqCell x := by kernel_rfl
theorem ok129 : ContractAt C Tryz.prog 129 F_laws_eqCell := fn_sound (lp := f129P) tok mixed k129 (by kernel_rfl) (fn := Tryz.f129) (c := f129B) (sg := ⟨[.v true [(.int .i64), .bool, (.int .i64)] [false, false, false], .v true [(.int .i64), .bool, (.int .i64)] [false, false, false]], [⟨false, [.bool], [false]⟩], false⟩) Tryz.func129 (by decide) (by kernel_rfl) (by kernel_rfl) (by kernel_rfl) (fun c' hc' => by
    rw [show loopsOf f129B = [] by kernel_rfl] at hc'
    cases hc') (by decide) (by decide) (fun x y h => (ev129 x).trans h)
abbrev T_laws_eqCellS_4 : Type := List E_Cell × List E_Cell × Int
noncomputable def S_laws_eqCellS_4 {R : Type} (k0 : Bool → Option R) (k1 : Unit → Option R) (again : T_laws_eqCellS_4 → Option R) (t4 : T_laws_eqCellS_4) : Option R :=
  bif (decide (t4.2.2 < ((List.length t4.1 : Nat) : Int))) then if (0 : Int) ≤ t4.2.2 then if t4.2.2 < ((List.length t4.1 : Nat) : Int) then if (0 : Int) ≤ t4.2.2 then if t4.2.2 < ((List.length t4.2.1 : Nat) : Int) then Option.bind (F_laws_eqCell ((rd_Cell t4.1 t4.2.2).1, (rd_Cell t4.1 t4.2.2).2.1, (rd_Cell t4.1 t4.2.2).2.2, (rd_Cell t4.2.1 t4.2.2).1, (rd_Cell t4.2.1 t4.2.2).2.1, (rd_Cell t4.2.1 t4.2.2).2.2)) fun r1 => bif (!r1) then k0 false else again (t4.1, t4.2.1, (Go.IntKind.wrap .i64 (t4.2.2 + (1 : Int)))) else none else none else none else none else k1 ()
noncomputable def L_laws_eqCellS_4 {R : Type} (k0 : Bool → Option R) (k1 : Unit → Option R) (t : T_laws_eqCellS_4) : Option R := iter (S_laws_eqCellS_4 k0 k1) FUEL t
noncomputable def F_laws_eqCellS (x : List E_Cell × List E_Cell) : Option (Bool) :=
  bif (((List.length x.1 : Nat) : Int) != ((List.length x.2 : Nat) : Int)) then some false else L_laws_eqCellS_4 (fun x2 => some x2) (fun x3 => some true) (x.1, x.2, (0 : Int))
noncomputable def f61B : Code := match Tryz.f61.body with
  | some c => c
  | none => .skip
noncomputable def f61K : C.Sem := tab [⟨129, F_laws_eqCell⟩]
def f61h4_0 : List Sh := [.v (.sl 94 ts_Cell), .v (.sl 94 ts_Cell), .dead, .dead, .dead, .v (.int .i64), .dead, .dead, .dead, .dead, .dead, .dead, .dead, .dead, .dead, .dead, .dead, .dead, .dead, .dead, .dead, .dead, .dead, .dead, .dead, .dead, .dead]
def f61o4_0 : List (Nat × OSh) := []
def f61e4_0 (t : List E_Cell × List E_Cell × Int) : St := ⟨[.val (.sl 94 ts_Cell) t.1, .val (.sl 94 ts_Cell) t.2.1, .dead, .dead, .dead, .val (.int .i64) t.2.2, .dead, .dead, .dead, .dead, .dead, .dead, .dead, .dead, .dead, .dead, .dead, .dead, .dead, .dead, .dead, .dead, .dead, .dead, .dead, .dead, .dead], []⟩
def f61x4_0 (t : Bool) : St := ⟨[.dead, .dead, .dead, .dead, .val .bool t, .dead, .dead, .dead, .dead, .dead, .dead, .dead, .dead, .dead, .dead, .dead, .dead, .dead, .dead, .dead, .dead, .dead, .dead, .dead, .dead, .dead, .dead], []⟩
def f61x4_1 (t : Unit) : St := ⟨[.dead, .dead, .dead, .dead, .dead, .dead, .dead, .dead, .dead, .dead, .dead, .dead, .dead, .dead, .dead, .dead, .dead, .dead, .dead, .dead, .dead, .dead, .dead, .dead, .dead, .dead, .dead], []⟩
def f61u4_0 (s : St) : Option (List E_Cell × List E_Cell × Int) := (unS f61h4_0 f61o4_0 s).map fun v => (v.1.1, v.1.2.1, v.1.2.2.2.2.2.1)
theorem f61un4_0 : ∀ (s : St) (t : List E_Cell × List E_Cell × Int), f61u4_0 s = some t → f61e4_0 t = s := fun s v h => by
  obtain ⟨u, hu, rfl⟩ := Option.map_eq_some_iff.1 h
  exact (show f61e4_0 (u.1.1, u.1.2.1, u.1.2.2.2.2.2.1) = mkS f61h4_0 f61o4_0 u by kernel_rfl).trans (mkS_un f61h4_0 f61o4_0 s u hu)
def f61u4 : St → Option (List E_Cell × List E_Cell × Int) := f61u4_0
def f61e4 : (List E_Cell × List E_Cell × Int) → St := f61e4_0
theorem f61un4 : ∀ (s : St) (t : List E_Cell × List E_Cell × Int), f61u4 s = some t → f61e4 t = s := f61un4_0
noncomputable def f61P : Lp := fun i s {_R} κ => bif Nat.beq i 4 then (f61u4 s).bind fun t => L_laws_eqCellS_4 (fun t => κ (none) (f61x4_0 t)) (fun t => κ (some 0) (f61x4_1 t)) t else none
noncomputable def f61c4 : Code := (loopsOf f61B).getD 0 .skip
theorem f61A4 : C.live 61 (firstRegion f61c4) = some ([0, 1, 5], [4]) := by kernel_rfl
theorem f61B4 {R : Type} (κ : Option Nat → St → Option R) (s : St) : f61P (firstRegion f61c4) s κ = (f61u4 s).bind fun t => iter (S_laws_eqCellS_4 (fun t => κ (none) (f61x4_0 t)) (fun t => κ (some 0) (f61x4_1 t))) FUEL t := by kernel_rfl
theorem f61C4 {R : Type} (κ : Option Nat → St → Option R) (again : St → Option R) (t : T_laws_eqCellS_4) : stepL C f61K f61P 61 f61c4 [0, 1, 5] [4] κ again (f61e4 t) = S_laws_eqCellS_4 (fun t => κ (none) (f61x4_0 t)) (fun t => κ (some 0) (f61x4_1 t)) (fun t => again (f61e4 t)) t := by kernel_rfl
theorem f61ok4 : LoopOk C f61K f61P 61 f61c4 := loop_ok f61A4 f61e4 f61u4 f61un4 (fun {_R} κ => S_laws_eqCellS_4 (fun t => κ (none) (f61x4_0 t)) (fun t => κ (some 0) (f61x4_1 t))) (fun {_R} κ s => f61B4 κ s) (fun {_R} κ again t => f61C4 κ again t)
theorem k61 : Contract C Tryz.prog f61K := contract_tab _ (fun p hp => by
    simp only [List.mem_cons, List.mem_nil_iff, or_false] at hp
    rcases hp with rfl
    · exact ok129)
theorem ev61 (x : List E_Cell × List E_Cell) : evalB C f61K f61P 61 Tryz.f61 f61B ⟨[.v false [(.sl 94 ts_Cell)] [false], .v false [(.sl 94 ts_Cell)] [false]], [⟨false, [.bool], [false]⟩], false⟩ [(.sl 94 ts_Cell), (.sl 94 ts_Cell)] [.bool] x = F_laws_eqCellS x := by kernel_rfl
theorem ok61 : ContractAt C Tryz.prog 61 F_laws_eqCellS := fn_sound (lp := f61P) tok mixed k61 (by kernel_rfl) (fn := Tryz.f61) (c := f61B) (sg := ⟨[.v false [(.sl 94 ts_Cell)] [false], .v false [(.sl 94 ts_Cell)] [false]], [⟨false, [.bool], [false]⟩], false⟩) Tryz.func61 (by decide) (by kernel_rfl) (by kernel_rfl) (by kernel_rfl) (fun c' hc' => by
    rw [show loopsOf f61B = [f61c4] by kernel_rfl] at hc'
    simp only [List.mem_cons, List.mem_nil_iff, or_false] at hc'
    rcases hc' with rfl
    · exact f61ok4) (by decide) (by decide) (fun x y h => (ev61 x).trans h)
noncomputable def F_laws_eqVol (x : ByteArray × Int × Int × Bool × ByteArray × Int × Int × Bool) : Option (Bool) :=
  bif (!((ByteArray.toList x.1) == (ByteArray.toList x.2.2.2.2.1))) then some false else bif (x.2.1 != x.2.2.2.2.2.1) then some false else bif (x.2.2.1 != x.2.2.2.2.2.2.1) then some false else bif (!(x.2.2.2.1 == x.2.2.2.2.2.2.2)) then some false else some true
noncomputable def f130B : Code := match Tryz.f130.body with
  | some c => c
  | none => .skip
noncomputable def f130K : C.Sem := tab []
noncomputable def f130P : Lp := fun i s {_R} κ => none
theorem k130 : Contract C Tryz.prog f130K := contract_tab _ (fun p hp => by cases hp)
theorem ev130 (x : ByteArray × Int × Int × Bool × ByteArray × Int × Int × Bool) : evalB C f130K f130P 130 Tryz.f130 f130B ⟨[.v true [.str, (.int .i64), (.int .i64), .bool] [false, false, false, false], .v true [.str, (.int .i64), (.int .i64), .bool] [false, false, false, false]], [⟨false, [.bool], [false]⟩], false⟩ [.str, (.int .i64), (.int .i64), .bool, .str, (.int .i64), (.int .i64), .bool] [.bool] x = F_laws_eqVol x := by kernel_rfl
theorem ok130 : ContractAt C Tryz.prog 130 F_laws_eqVol := fn_sound (lp := f130P) tok mixed k130 (by kernel_rfl) (fn := Tryz.f130) (c := f130B) (sg := ⟨[.v true [.str, (.int .i64), (.int .i64), .bool] [false, false, false, false], .v true [.str, (.int .i64), (.int .i64), .bool] [false, false, false, false]], [⟨false, [.bool], [false]⟩], false⟩) Tryz.func130 (by decide) (by kernel_rfl) (by kernel_rfl) (by kernel_rfl) (fun c' hc' => by
    rw [show loopsOf f130B = [] by kernel_rfl] at hc'
    cases hc') (by decide) (by decide) (fun x y h => (ev130 x).trans h)
abbrev T_laws_eqVolS_4 : Type := List E_Vol × List E_Vol × Int
noncomputable def S_laws_eqVolS_4 {R : Type} (k0 : Bool → Option R) (k1 : Unit → Option R) (again : T_laws_eqVolS_4 → Option R) (t4 : T_laws_eqVolS_4) : Option R :=
  bif (decide (t4.2.2 < ((List.length t4.1 : Nat) : Int))) then if (0 : Int) ≤ t4.2.2 then if t4.2.2 < ((List.length t4.1 : Nat) : Int) then if (0 : Int) ≤ t4.2.2 then if t4.2.2 < ((List.length t4.2.1 : Nat) : Int) then Option.bind (F_laws_eqVol ((rd_Vol t4.1 t4.2.2).1, (rd_Vol t4.1 t4.2.2).2.1, (rd_Vol t4.1 t4.2.2).2.2.1, (rd_Vol t4.1 t4.2.2).2.2.2, (rd_Vol t4.2.1 t4.2.2).1, (rd_Vol t4.2.1 t4.2.2).2.1, (rd_Vol t4.2.1 t4.2.2).2.2.1, (rd_Vol t4.2.1 t4.2.2).2.2.2)) fun r1 => bif (!r1) then k0 false else again (t4.1, t4.2.1, (Go.IntKind.wrap .i64 (t4.2.2 + (1 : Int)))) else none else none else none else none else k1 ()
noncomputable def L_laws_eqVolS_4 {R : Type} (k0 : Bool → Option R) (k1 : Unit → Option R) (t : T_laws_eqVolS_4) : Option R := iter (S_laws_eqVolS_4 k0 k1) FUEL t
noncomputable def F_laws_eqVolS (x : List E_Vol × List E_Vol) : Option (Bool) :=
  bif (((List.length x.1 : Nat) : Int) != ((List.length x.2 : Nat) : Int)) then some false else L_laws_eqVolS_4 (fun x2 => some x2) (fun x3 => some true) (x.1, x.2, (0 : Int))
noncomputable def f62B : Code := match Tryz.f62.body with
  | some c => c
  | none => .skip
noncomputable def f62K : C.Sem := tab [⟨130, F_laws_eqVol⟩]
def f62h4_0 : List Sh := [.v (.sl 90 ts_Vol), .v (.sl 90 ts_Vol), .dead, .dead, .dead, .v (.int .i64), .dead, .dead, .dead, .dead, .dead, .dead, .dead, .dead, .dead, .dead, .dead, .dead, .dead, .dead, .dead, .dead, .dead, .dead, .dead, .dead, .dead]
def f62o4_0 : List (Nat × OSh) := []
def f62e4_0 (t : List E_Vol × List E_Vol × Int) : St := ⟨[.val (.sl 90 ts_Vol) t.1, .val (.sl 90 ts_Vol) t.2.1, .dead, .dead, .dead, .val (.int .i64) t.2.2, .dead, .dead, .dead, .dead, .dead, .dead, .dead, .dead, .dead, .dead, .dead, .dead, .dead, .dead, .dead, .dead, .dead, .dead, .dead, .dead, .dead], []⟩
def f62x4_0 (t : Bool) : St := ⟨[.dead, .dead, .dead, .dead, .val .bool t, .dead, .dead, .dead, .dead, .dead, .dead, .dead, .dead, .dead, .dead, .dead, .dead, .dead, .dead, .dead, .dead, .dead, .dead, .dead, .dead, .dead, .dead], []⟩
def f62x4_1 (t : Unit) : St := ⟨[.dead, .dead, .dead, .dead, .dead, .dead, .dead, .dead, .dead, .dead, .dead, .dead, .dead, .dead, .dead, .dead, .dead, .dead, .dead, .dead, .dead, .dead, .dead, .dead, .dead, .dead, .dead], []⟩
def f62u4_0 (s : St) : Option (List E_Vol × List E_Vol × Int) := (unS f62h4_0 f62o4_0 s).map fun v => (v.1.1, v.1.2.1, v.1.2.2.2.2.2.1)
theorem f62un4_0 : ∀ (s : St) (t : List E_Vol × List E_Vol × Int), f62u4_0 s = some t → f62e4_0 t = s := fun s v h => by
  obtain ⟨u, hu, rfl⟩ := Option.map_eq_some_iff.1 h
  exact (show f62e4_0 (u.1.1, u.1.2.1, u.1.2.2.2.2.2.1) = mkS f62h4_0 f62o4_0 u by kernel_rfl).trans (mkS_un f62h4_0 f62o4_0 s u hu)
def f62u4 : St → Option (List E_Vol × List E_Vol × Int) := f62u4_0
def f62e4 : (List E_Vol × List E_Vol × Int) → St := f62e4_0
theorem f62un4 : ∀ (s : St) (t : List E_Vol × List E_Vol × Int), f62u4 s = some t → f62e4 t = s := f62un4_0
noncomputable def f62P : Lp := fun i s {_R} κ => bif Nat.beq i 4 then (f62u4 s).bind fun t => L_laws_eqVolS_4 (fun t => κ (none) (f62x4_0 t)) (fun t => κ (some 0) (f62x4_1 t)) t else none
noncomputable def f62c4 : Code := (loopsOf f62B).getD 0 .skip
theorem f62A4 : C.live 62 (firstRegion f62c4) = some ([0, 1, 5], [4]) := by kernel_rfl
theorem f62B4 {R : Type} (κ : Option Nat → St → Option R) (s : St) : f62P (firstRegion f62c4) s κ = (f62u4 s).bind fun t => iter (S_laws_eqVolS_4 (fun t => κ (none) (f62x4_0 t)) (fun t => κ (some 0) (f62x4_1 t))) FUEL t := by kernel_rfl
theorem f62C4 {R : Type} (κ : Option Nat → St → Option R) (again : St → Option R) (t : T_laws_eqVolS_4) : stepL C f62K f62P 62 f62c4 [0, 1, 5] [4] κ again (f62e4 t) = S_laws_eqVolS_4 (fun t => κ (none) (f62x4_0 t)) (fun t => κ (some 0) (f62x4_1 t)) (fun t => again (f62e4 t)) t := by kernel_rfl
theorem f62ok4 : LoopOk C f62K f62P 62 f62c4 := loop_ok f62A4 f62e4 f62u4 f62un4 (fun {_R} κ => S_laws_eqVolS_4 (fun t => κ (none) (f62x4_0 t)) (fun t => κ (some 0) (f62x4_1 t))) (fun {_R} κ s => f62B4 κ s) (fun {_R} κ again t => f62C4 κ again t)
theorem k62 : Contract C Tryz.prog f62K := contract_tab _ (fun p hp => by
    simp only [List.mem_cons, List.mem_nil_iff, or_false] at hp
    rcases hp with rfl
    · exact ok130)
theorem ev62 (x : List E_Vol × List E_Vol) : evalB C f62K f62P 62 Tryz.f62 f62B ⟨[.v false [(.sl 90 ts_Vol)] [false], .v false [(.sl 90 ts_Vol)] [false]], [⟨false, [.bool], [false]⟩], false⟩ [(.sl 90 ts_Vol), (.sl 90 ts_Vol)] [.bool] x = F_laws_eqVolS x := by kernel_rfl
theorem ok62 : ContractAt C Tryz.prog 62 F_laws_eqVolS := fn_sound (lp := f62P) tok mixed k62 (by kernel_rfl) (fn := Tryz.f62) (c := f62B) (sg := ⟨[.v false [(.sl 90 ts_Vol)] [false], .v false [(.sl 90 ts_Vol)] [false]], [⟨false, [.bool], [false]⟩], false⟩) Tryz.func62 (by decide) (by kernel_rfl) (by kernel_rfl) (by kernel_rfl) (fun c' hc' => by
    rw [show loopsOf f62B = [f62c4] by kernel_rfl] at hc'
    simp only [List.mem_cons, List.mem_nil_iff, or_false] at hc'
    rcases hc' with rfl
    · exact f62ok4) (by decide) (by decide) (fun x y h => (ev62 x).trans h)
noncomputable def F_laws_eqPool (x : List E_i64 × List E_Node × List E_Age × List E_Cell × List E_Vol × Int × List E_i64 × List E_Node × List E_Age × List E_Cell × List E_Vol × Int) : Option (Bool) :=
  Option.bind (F_laws_eqTree (x.1, x.2.1, x.2.2.2.2.2.2.1, x.2.2.2.2.2.2.2.1)) fun r1 => bif (!r1) then some false else Option.bind (F_laws_eqAgeS (x.2.2.1, x.2.2.2.2.2.2.2.2.1)) fun r2 => bif (!r2) then some false else Option.bind (F_laws_eqCellS (x.2.2.2.1, x.2.2.2.2.2.2.2.2.2.1)) fun r3 => bif (!r3) then some false else Option.bind (F_laws_eqVolS (x.2.2.2.2.1, x.2.2.2.2.2.2.2.2.2.2.1)) fun r4 => bif (!r4) then some false else bif (x.2.2.2.2.2.1 != x.2.2.2.2.2.2.2.2.2.2.2) then some false else some true
noncomputable def f19B : Code := match Tryz.f19.body with
  | some c => c
  | none => .skip
noncomputable def f19K : C.Sem := tab [⟨59, F_laws_eqTree⟩, ⟨60, F_laws_eqAgeS⟩, ⟨61, F_laws_eqCellS⟩, ⟨62, F_laws_eqVolS⟩]
noncomputable def f19P : Lp := fun i s {_R} κ => none
theorem k19 : Contract C Tryz.prog f19K := contract_tab _ (fun p hp => by
    simp only [List.mem_cons, List.mem_nil_iff, or_false] at hp
    rcases hp with rfl | rfl | rfl | rfl
    · exact ok59
    · exact ok60
    · exact ok61
    · exact ok62)
theorem ev19 (x : List E_i64 × List E_Node × List E_Age × List E_Cell × List E_Vol × Int × List E_i64 × List E_Node × List E_Age × List E_Cell × List E_Vol × Int) : evalB C f19K f19P 19 Tryz.f19 f19B ⟨[.v true [(.sl 3 ts_i64), (.sl 97 ts_Node), (.sl 88 ts_Age), (.sl 94 ts_Cell), (.sl 90 ts_Vol), (.int .i64)] [false, false, false, false, false, false], .v true [(.sl 3 ts_i64), (.sl 97 ts_Node), (.sl 88 ts_Age), (.sl 94 ts_Cell), (.sl 90 ts_Vol), (.int .i64)] [false, false, false, false, false, false]], [⟨false, [.bool], [false]⟩], false⟩ [(.sl 3 ts_i64), (.sl 97 ts_Node), (.sl 88 ts_Age), (.sl 94 ts_Cell), (.sl 90 ts_Vol), (.int .i64), (.sl 3 ts_i64), (.sl 97 ts_Node), (.sl 88 ts_Age), (.sl 94 ts_Cell), (.sl 90 ts_Vol), (.int .i64)] [.bool] x = F_laws_eqPool x := by kernel_rfl
theorem ok19 : ContractAt C Tryz.prog 19 F_laws_eqPool := fn_sound (lp := f19P) tok mixed k19 (by kernel_rfl) (fn := Tryz.f19) (c := f19B) (sg := ⟨[.v true [(.sl 3 ts_i64), (.sl 97 ts_Node), (.sl 88 ts_Age), (.sl 94 ts_Cell), (.sl 90 ts_Vol), (.int .i64)] [false, false, false, false, false, false], .v true [(.sl 3 ts_i64), (.sl 97 ts_Node), (.sl 88 ts_Age), (.sl 94 ts_Cell), (.sl 90 ts_Vol), (.int .i64)] [false, false, false, false, false, false]], [⟨false, [.bool], [false]⟩], false⟩) Tryz.func19 (by decide) (by kernel_rfl) (by kernel_rfl) (by kernel_rfl) (fun c' hc' => by
    rw [show loopsOf f19B = [] by kernel_rfl] at hc'
    cases hc') (by decide) (by decide) (fun x y h => (ev19 x).trans h)
abbrev T_laws_eqByteS_4 : Type := List E_u8 × List E_u8 × Int
noncomputable def S_laws_eqByteS_4 {R : Type} (k0 : Bool → Option R) (k1 : Unit → Option R) (again : T_laws_eqByteS_4 → Option R) (t4 : T_laws_eqByteS_4) : Option R :=
  bif (decide (t4.2.2 < ((List.length t4.1 : Nat) : Int))) then if (0 : Int) ≤ t4.2.2 then if t4.2.2 < ((List.length t4.1 : Nat) : Int) then if (0 : Int) ≤ t4.2.2 then if t4.2.2 < ((List.length t4.2.1 : Nat) : Int) then bif ((rd_u8 t4.1 t4.2.2) != (rd_u8 t4.2.1 t4.2.2)) then k0 false else again (t4.1, t4.2.1, (Go.IntKind.wrap .i64 (t4.2.2 + (1 : Int)))) else none else none else none else none else k1 ()
noncomputable def L_laws_eqByteS_4 {R : Type} (k0 : Bool → Option R) (k1 : Unit → Option R) (t : T_laws_eqByteS_4) : Option R := iter (S_laws_eqByteS_4 k0 k1) FUEL t
noncomputable def F_laws_eqByteS (x : List E_u8 × List E_u8) : Option (Bool) :=
  bif (((List.length x.1 : Nat) : Int) != ((List.length x.2 : Nat) : Int)) then some false else L_laws_eqByteS_4 (fun x1 => some x1) (fun x2 => some true) (x.1, x.2, (0 : Int))
noncomputable def f18B : Code := match Tryz.f18.body with
  | some c => c
  | none => .skip
noncomputable def f18K : C.Sem := tab []
def f18h4_0 : List Sh := [.v (.sl 5 ts_u8), .v (.sl 5 ts_u8), .dead, .dead, .dead, .v (.int .i64), .dead, .dead, .dead, .dead, .dead, .dead, .dead, .dead, .dead, .dead, .dead, .dead, .dead, .dead, .dead, .dead, .dead, .dead, .dead, .dead]
def f18o4_0 : List (Nat × OSh) := []
def f18e4_0 (t : List E_u8 × List E_u8 × Int) : St := ⟨[.val (.sl 5 ts_u8) t.1, .val (.sl 5 ts_u8) t.2.1, .dead, .dead, .dead, .val (.int .i64) t.2.2, .dead, .dead, .dead, .dead, .dead, .dead, .dead, .dead, .dead, .dead, .dead, .dead, .dead, .dead, .dead, .dead, .dead, .dead, .dead, .dead], []⟩
def f18x4_0 (t : Bool) : St := ⟨[.dead, .dead, .dead, .dead, .val .bool t, .dead, .dead, .dead, .dead, .dead, .dead, .dead, .dead, .dead, .dead, .dead, .dead, .dead, .dead, .dead, .dead, .dead, .dead, .dead, .dead, .dead], []⟩
def f18x4_1 (t : Unit) : St := ⟨[.dead, .dead, .dead, .dead, .dead, .dead, .dead, .dead, .dead, .dead, .dead, .dead, .dead, .dead, .dead, .dead, .dead, .dead, .dead, .dead, .dead, .dead, .dead, .dead, .dead, .dead], []⟩
def f18u4_0 (s : St) : Option (List E_u8 × List E_u8 × Int) := (unS f18h4_0 f18o4_0 s).map fun v => (v.1.1, v.1.2.1, v.1.2.2.2.2.2.1)
theorem f18un4_0 : ∀ (s : St) (t : List E_u8 × List E_u8 × Int), f18u4_0 s = some t → f18e4_0 t = s := fun s v h => by
  obtain ⟨u, hu, rfl⟩ := Option.map_eq_some_iff.1 h
  exact (show f18e4_0 (u.1.1, u.1.2.1, u.1.2.2.2.2.2.1) = mkS f18h4_0 f18o4_0 u by kernel_rfl).trans (mkS_un f18h4_0 f18o4_0 s u hu)
def f18u4 : St → Option (List E_u8 × List E_u8 × Int) := f18u4_0
def f18e4 : (List E_u8 × List E_u8 × Int) → St := f18e4_0
theorem f18un4 : ∀ (s : St) (t : List E_u8 × List E_u8 × Int), f18u4 s = some t → f18e4 t = s := f18un4_0
noncomputable def f18P : Lp := fun i s {_R} κ => bif Nat.beq i 4 then (f18u4 s).bind fun t => L_laws_eqByteS_4 (fun t => κ (none) (f18x4_0 t)) (fun t => κ (some 0) (f18x4_1 t)) t else none
noncomputable def f18c4 : Code := (loopsOf f18B).getD 0 .skip
theorem f18A4 : C.live 18 (firstRegion f18c4) = some ([0, 1, 5], [4]) := by kernel_rfl
theorem f18B4 {R : Type} (κ : Option Nat → St → Option R) (s : St) : f18P (firstRegion f18c4) s κ = (f18u4 s).bind fun t => iter (S_laws_eqByteS_4 (fun t => κ (none) (f18x4_0 t)) (fun t => κ (some 0) (f18x4_1 t))) FUEL t := by kernel_rfl
theorem f18C4 {R : Type} (κ : Option Nat → St → Option R) (again : St → Option R) (t : T_laws_eqByteS_4) : stepL C f18K f18P 18 f18c4 [0, 1, 5] [4] κ again (f18e4 t) = S_laws_eqByteS_4 (fun t => κ (none) (f18x4_0 t)) (fun t => κ (some 0) (f18x4_1 t)) (fun t => again (f18e4 t)) t := by kernel_rfl
theorem f18ok4 : LoopOk C f18K f18P 18 f18c4 := loop_ok f18A4 f18e4 f18u4 f18un4 (fun {_R} κ => S_laws_eqByteS_4 (fun t => κ (none) (f18x4_0 t)) (fun t => κ (some 0) (f18x4_1 t))) (fun {_R} κ s => f18B4 κ s) (fun {_R} κ again t => f18C4 κ again t)
theorem k18 : Contract C Tryz.prog f18K := contract_tab _ (fun p hp => by cases hp)
theorem ev18 (x : List E_u8 × List E_u8) : evalB C f18K f18P 18 Tryz.f18 f18B ⟨[.v false [(.sl 5 ts_u8)] [false], .v false [(.sl 5 ts_u8)] [false]], [⟨false, [.bool], [false]⟩], false⟩ [(.sl 5 ts_u8), (.sl 5 ts_u8)] [.bool] x = F_laws_eqByteS x := by kernel_rfl
theorem ok18 : ContractAt C Tryz.prog 18 F_laws_eqByteS := fn_sound (lp := f18P) tok mixed k18 (by kernel_rfl) (fn := Tryz.f18) (c := f18B) (sg := ⟨[.v false [(.sl 5 ts_u8)] [false], .v false [(.sl 5 ts_u8)] [false]], [⟨false, [.bool], [false]⟩], false⟩) Tryz.func18 (by decide) (by kernel_rfl) (by kernel_rfl) (by kernel_rfl) (fun c' hc' => by
    rw [show loopsOf f18B = [f18c4] by kernel_rfl] at hc'
    simp only [List.mem_cons, List.mem_nil_iff, or_false] at hc'
    rcases hc' with rfl
    · exact f18ok4) (by decide) (by decide) (fun x y h => (ev18 x).trans h)
abbrev T_laws_eqByteSS_4 : Type := List E_s_u8 × List E_s_u8 × Int
noncomputable def S_laws_eqByteSS_4 {R : Type} (k0 : Bool → Option R) (k1 : Unit → Option R) (again : T_laws_eqByteSS_4 → Option R) (t4 : T_laws_eqByteSS_4) : Option R :=
  bif (decide (t4.2.2 < ((List.length t4.1 : Nat) : Int))) then if (0 : Int) ≤ t4.2.2 then if t4.2.2 < ((List.length t4.1 : Nat) : Int) then if (0 : Int) ≤ t4.2.2 then if t4.2.2 < ((List.length t4.2.1 : Nat) : Int) then Option.bind (F_laws_eqByteS ((rd_s_u8 t4.1 t4.2.2), (rd_s_u8 t4.2.1 t4.2.2))) fun r1 => bif (!r1) then k0 false else again (t4.1, t4.2.1, (Go.IntKind.wrap .i64 (t4.2.2 + (1 : Int)))) else none else none else none else none else k1 ()
noncomputable def L_laws_eqByteSS_4 {R : Type} (k0 : Bool → Option R) (k1 : Unit → Option R) (t : T_laws_eqByteSS_4) : Option R := iter (S_laws_eqByteSS_4 k0 k1) FUEL t
noncomputable def F_laws_eqByteSS (x : List E_s_u8 × List E_s_u8) : Option (Bool) :=
  bif (((List.length x.1 : Nat) : Int) != ((List.length x.2 : Nat) : Int)) then some false else L_laws_eqByteSS_4 (fun x2 => some x2) (fun x3 => some true) (x.1, x.2, (0 : Int))
noncomputable def f77B : Code := match Tryz.f77.body with
  | some c => c
  | none => .skip
noncomputable def f77K : C.Sem := tab [⟨18, F_laws_eqByteS⟩]
def f77h4_0 : List Sh := [.v (.sl 56 ts_s_u8), .v (.sl 56 ts_s_u8), .dead, .dead, .dead, .v (.int .i64), .dead, .dead, .dead, .dead, .dead, .dead, .dead, .dead, .dead, .dead, .dead, .dead, .dead, .dead, .dead, .dead, .dead, .dead, .dead, .dead, .dead]
def f77o4_0 : List (Nat × OSh) := []
def f77e4_0 (t : List E_s_u8 × List E_s_u8 × Int) : St := ⟨[.val (.sl 56 ts_s_u8) t.1, .val (.sl 56 ts_s_u8) t.2.1, .dead, .dead, .dead, .val (.int .i64) t.2.2, .dead, .dead, .dead, .dead, .dead, .dead, .dead, .dead, .dead, .dead, .dead, .dead, .dead, .dead, .dead, .dead, .dead, .dead, .dead, .dead, .dead], []⟩
def f77x4_0 (t : Bool) : St := ⟨[.dead, .dead, .dead, .dead, .val .bool t, .dead, .dead, .dead, .dead, .dead, .dead, .dead, .dead, .dead, .dead, .dead, .dead, .dead, .dead, .dead, .dead, .dead, .dead, .dead, .dead, .dead, .dead], []⟩
def f77x4_1 (t : Unit) : St := ⟨[.dead, .dead, .dead, .dead, .dead, .dead, .dead, .dead, .dead, .dead, .dead, .dead, .dead, .dead, .dead, .dead, .dead, .dead, .dead, .dead, .dead, .dead, .dead, .dead, .dead, .dead, .dead], []⟩
def f77u4_0 (s : St) : Option (List E_s_u8 × List E_s_u8 × Int) := (unS f77h4_0 f77o4_0 s).map fun v => (v.1.1, v.1.2.1, v.1.2.2.2.2.2.1)
theorem f77un4_0 : ∀ (s : St) (t : List E_s_u8 × List E_s_u8 × Int), f77u4_0 s = some t → f77e4_0 t = s := fun s v h => by
  obtain ⟨u, hu, rfl⟩ := Option.map_eq_some_iff.1 h
  exact (show f77e4_0 (u.1.1, u.1.2.1, u.1.2.2.2.2.2.1) = mkS f77h4_0 f77o4_0 u by kernel_rfl).trans (mkS_un f77h4_0 f77o4_0 s u hu)
def f77u4 : St → Option (List E_s_u8 × List E_s_u8 × Int) := f77u4_0
def f77e4 : (List E_s_u8 × List E_s_u8 × Int) → St := f77e4_0
theorem f77un4 : ∀ (s : St) (t : List E_s_u8 × List E_s_u8 × Int), f77u4 s = some t → f77e4 t = s := f77un4_0
noncomputable def f77P : Lp := fun i s {_R} κ => bif Nat.beq i 4 then (f77u4 s).bind fun t => L_laws_eqByteSS_4 (fun t => κ (none) (f77x4_0 t)) (fun t => κ (some 0) (f77x4_1 t)) t else none
noncomputable def f77c4 : Code := (loopsOf f77B).getD 0 .skip
theorem f77A4 : C.live 77 (firstRegion f77c4) = some ([0, 1, 5], [4]) := by kernel_rfl
theorem f77B4 {R : Type} (κ : Option Nat → St → Option R) (s : St) : f77P (firstRegion f77c4) s κ = (f77u4 s).bind fun t => iter (S_laws_eqByteSS_4 (fun t => κ (none) (f77x4_0 t)) (fun t => κ (some 0) (f77x4_1 t))) FUEL t := by kernel_rfl
theorem f77C4 {R : Type} (κ : Option Nat → St → Option R) (again : St → Option R) (t : T_laws_eqByteSS_4) : stepL C f77K f77P 77 f77c4 [0, 1, 5] [4] κ again (f77e4 t) = S_laws_eqByteSS_4 (fun t => κ (none) (f77x4_0 t)) (fun t => κ (some 0) (f77x4_1 t)) (fun t => again (f77e4 t)) t := by kernel_rfl
theorem f77ok4 : LoopOk C f77K f77P 77 f77c4 := loop_ok f77A4 f77e4 f77u4 f77un4 (fun {_R} κ => S_laws_eqByteSS_4 (fun t => κ (none) (f77x4_0 t)) (fun t => κ (some 0) (f77x4_1 t))) (fun {_R} κ s => f77B4 κ s) (fun {_R} κ again t => f77C4 κ again t)
theorem k77 : Contract C Tryz.prog f77K := contract_tab _ (fun p hp => by
    simp only [List.mem_cons, List.mem_nil_iff, or_false] at hp
    rcases hp with rfl
    · exact ok18)
theorem ev77 (x : List E_s_u8 × List E_s_u8) : evalB C f77K f77P 77 Tryz.f77 f77B ⟨[.v false [(.sl 56 ts_s_u8)] [false], .v false [(.sl 56 ts_s_u8)] [false]], [⟨false, [.bool], [false]⟩], false⟩ [(.sl 56 ts_s_u8), (.sl 56 ts_s_u8)] [.bool] x = F_laws_eqByteSS x := by kernel_rfl
theorem ok77 : ContractAt C Tryz.prog 77 F_laws_eqByteSS := fn_sound (lp := f77P) tok mixed k77 (by kernel_rfl) (fn := Tryz.f77) (c := f77B) (sg := ⟨[.v false [(.sl 56 ts_s_u8)] [false], .v false [(.sl 56 ts_s_u8)] [false]], [⟨false, [.bool], [false]⟩], false⟩) Tryz.func77 (by decide) (by kernel_rfl) (by kernel_rfl) (by kernel_rfl) (fun c' hc' => by
    rw [show loopsOf f77B = [f77c4] by kernel_rfl] at hc'
    simp only [List.mem_cons, List.mem_nil_iff, or_false] at hc'
    rcases hc' with rfl
    · exact f77ok4) (by decide) (by decide) (fun x y h => (ev77 x).trans h)
noncomputable def F_laws_eqWr (x : Int × List E_u8 × Int × List E_u8) : Option (Bool) :=
  bif (x.1 != x.2.2.1) then some false else Option.bind (F_laws_eqByteS (x.2.1, x.2.2.2)) fun r1 => bif (!r1) then some false else some true
noncomputable def f148B : Code := match Tryz.f148.body with
  | some c => c
  | none => .skip
noncomputable def f148K : C.Sem := tab [⟨18, F_laws_eqByteS⟩]
noncomputable def f148P : Lp := fun i s {_R} κ => none
theorem k148 : Contract C Tryz.prog f148K := contract_tab _ (fun p hp => by
    simp only [List.mem_cons, List.mem_nil_iff, or_false] at hp
    rcases hp with rfl
    · exact ok18)
theorem ev148 (x : Int × List E_u8 × Int × List E_u8) : evalB C f148K f148P 148 Tryz.f148 f148B ⟨[.v true [(.int .i64), (.sl 5 ts_u8)] [false, false], .v true [(.int .i64), (.sl 5 ts_u8)] [false, false]], [⟨false, [.bool], [false]⟩], false⟩ [(.int .i64), (.sl 5 ts_u8), (.int .i64), (.sl 5 ts_u8)] [.bool] x = F_laws_eqWr x := by kernel_rfl
theorem ok148 : ContractAt C Tryz.prog 148 F_laws_eqWr := fn_sound (lp := f148P) tok mixed k148 (by kernel_rfl) (fn := Tryz.f148) (c := f148B) (sg := ⟨[.v true [(.int .i64), (.sl 5 ts_u8)] [false, false], .v true [(.int .i64), (.sl 5 ts_u8)] [false, false]], [⟨false, [.bool], [false]⟩], false⟩) Tryz.func148 (by decide) (by kernel_rfl) (by kernel_rfl) (by kernel_rfl) (fun c' hc' => by
    rw [show loopsOf f148B = [] by kernel_rfl] at hc'
    cases hc') (by decide) (by decide) (fun x y h => (ev148 x).trans h)
abbrev T_laws_eqWrS_4 : Type := List E_Wr × List E_Wr × Int
noncomputable def S_laws_eqWrS_4 {R : Type} (k0 : Bool → Option R) (k1 : Unit → Option R) (again : T_laws_eqWrS_4 → Option R) (t4 : T_laws_eqWrS_4) : Option R :=
  bif (decide (t4.2.2 < ((List.length t4.1 : Nat) : Int))) then if (0 : Int) ≤ t4.2.2 then if t4.2.2 < ((List.length t4.1 : Nat) : Int) then if (0 : Int) ≤ t4.2.2 then if t4.2.2 < ((List.length t4.2.1 : Nat) : Int) then Option.bind (F_laws_eqWr ((rd_Wr t4.1 t4.2.2).1, (rd_Wr t4.1 t4.2.2).2, (rd_Wr t4.2.1 t4.2.2).1, (rd_Wr t4.2.1 t4.2.2).2)) fun r1 => bif (!r1) then k0 false else again (t4.1, t4.2.1, (Go.IntKind.wrap .i64 (t4.2.2 + (1 : Int)))) else none else none else none else none else k1 ()
noncomputable def L_laws_eqWrS_4 {R : Type} (k0 : Bool → Option R) (k1 : Unit → Option R) (t : T_laws_eqWrS_4) : Option R := iter (S_laws_eqWrS_4 k0 k1) FUEL t
noncomputable def F_laws_eqWrS (x : List E_Wr × List E_Wr) : Option (Bool) :=
  bif (((List.length x.1 : Nat) : Int) != ((List.length x.2 : Nat) : Int)) then some false else L_laws_eqWrS_4 (fun x2 => some x2) (fun x3 => some true) (x.1, x.2, (0 : Int))
noncomputable def f78B : Code := match Tryz.f78.body with
  | some c => c
  | none => .skip
noncomputable def f78K : C.Sem := tab [⟨148, F_laws_eqWr⟩]
def f78h4_0 : List Sh := [.v (.sl 178 ts_Wr), .v (.sl 178 ts_Wr), .dead, .dead, .dead, .v (.int .i64), .dead, .dead, .dead, .dead, .dead, .dead, .dead, .dead, .dead, .dead, .dead, .dead, .dead, .dead, .dead, .dead, .dead, .dead, .dead, .dead, .dead]
def f78o4_0 : List (Nat × OSh) := []
def f78e4_0 (t : List E_Wr × List E_Wr × Int) : St := ⟨[.val (.sl 178 ts_Wr) t.1, .val (.sl 178 ts_Wr) t.2.1, .dead, .dead, .dead, .val (.int .i64) t.2.2, .dead, .dead, .dead, .dead, .dead, .dead, .dead, .dead, .dead, .dead, .dead, .dead, .dead, .dead, .dead, .dead, .dead, .dead, .dead, .dead, .dead], []⟩
def f78x4_0 (t : Bool) : St := ⟨[.dead, .dead, .dead, .dead, .val .bool t, .dead, .dead, .dead, .dead, .dead, .dead, .dead, .dead, .dead, .dead, .dead, .dead, .dead, .dead, .dead, .dead, .dead, .dead, .dead, .dead, .dead, .dead], []⟩
def f78x4_1 (t : Unit) : St := ⟨[.dead, .dead, .dead, .dead, .dead, .dead, .dead, .dead, .dead, .dead, .dead, .dead, .dead, .dead, .dead, .dead, .dead, .dead, .dead, .dead, .dead, .dead, .dead, .dead, .dead, .dead, .dead], []⟩
def f78u4_0 (s : St) : Option (List E_Wr × List E_Wr × Int) := (unS f78h4_0 f78o4_0 s).map fun v => (v.1.1, v.1.2.1, v.1.2.2.2.2.2.1)
theorem f78un4_0 : ∀ (s : St) (t : List E_Wr × List E_Wr × Int), f78u4_0 s = some t → f78e4_0 t = s := fun s v h => by
  obtain ⟨u, hu, rfl⟩ := Option.map_eq_some_iff.1 h
  exact (show f78e4_0 (u.1.1, u.1.2.1, u.1.2.2.2.2.2.1) = mkS f78h4_0 f78o4_0 u by kernel_rfl).trans (mkS_un f78h4_0 f78o4_0 s u hu)
def f78u4 : St → Option (List E_Wr × List E_Wr × Int) := f78u4_0
def f78e4 : (List E_Wr × List E_Wr × Int) → St := f78e4_0
theorem f78un4 : ∀ (s : St) (t : List E_Wr × List E_Wr × Int), f78u4 s = some t → f78e4 t = s := f78un4_0
noncomputable def f78P : Lp := fun i s {_R} κ => bif Nat.beq i 4 then (f78u4 s).bind fun t => L_laws_eqWrS_4 (fun t => κ (none) (f78x4_0 t)) (fun t => κ (some 0) (f78x4_1 t)) t else none
noncomputable def f78c4 : Code := (loopsOf f78B).getD 0 .skip
theorem f78A4 : C.live 78 (firstRegion f78c4) = some ([0, 1, 5], [4]) := by kernel_rfl
theorem f78B4 {R : Type} (κ : Option Nat → St → Option R) (s : St) : f78P (firstRegion f78c4) s κ = (f78u4 s).bind fun t => iter (S_laws_eqWrS_4 (fun t => κ (none) (f78x4_0 t)) (fun t => κ (some 0) (f78x4_1 t))) FUEL t := by kernel_rfl
theorem f78C4 {R : Type} (κ : Option Nat → St → Option R) (again : St → Option R) (t : T_laws_eqWrS_4) : stepL C f78K f78P 78 f78c4 [0, 1, 5] [4] κ again (f78e4 t) = S_laws_eqWrS_4 (fun t => κ (none) (f78x4_0 t)) (fun t => κ (some 0) (f78x4_1 t)) (fun t => again (f78e4 t)) t := by kernel_rfl
theorem f78ok4 : LoopOk C f78K f78P 78 f78c4 := loop_ok f78A4 f78e4 f78u4 f78un4 (fun {_R} κ => S_laws_eqWrS_4 (fun t => κ (none) (f78x4_0 t)) (fun t => κ (some 0) (f78x4_1 t))) (fun {_R} κ s => f78B4 κ s) (fun {_R} κ again t => f78C4 κ again t)
theorem k78 : Contract C Tryz.prog f78K := contract_tab _ (fun p hp => by
    simp only [List.mem_cons, List.mem_nil_iff, or_false] at hp
    rcases hp with rfl
    · exact ok148)
theorem ev78 (x : List E_Wr × List E_Wr) : evalB C f78K f78P 78 Tryz.f78 f78B ⟨[.v false [(.sl 178 ts_Wr)] [false], .v false [(.sl 178 ts_Wr)] [false]], [⟨false, [.bool], [false]⟩], false⟩ [(.sl 178 ts_Wr), (.sl 178 ts_Wr)] [.bool] x = F_laws_eqWrS x := by kernel_rfl
theorem ok78 : ContractAt C Tryz.prog 78 F_laws_eqWrS := fn_sound (lp := f78P) tok mixed k78 (by kernel_rfl) (fn := Tryz.f78) (c := f78B) (sg := ⟨[.v false [(.sl 178 ts_Wr)] [false], .v false [(.sl 178 ts_Wr)] [false]], [⟨false, [.bool], [false]⟩], false⟩) Tryz.func78 (by decide) (by kernel_rfl) (by kernel_rfl) (by kernel_rfl) (fun c' hc' => by
    rw [show loopsOf f78B = [f78c4] by kernel_rfl] at hc'
    simp only [List.mem_cons, List.mem_nil_iff, or_false] at hc'
    rcases hc' with rfl
    · exact f78ok4) (by decide) (by decide) (fun x y h => (ev78 x).trans h)
noncomputable def F_laws_eqDev (x : List E_s_u8 × List E_Wr × Int × Bool × List E_s_u8 × List E_Wr × Int × Bool) : Option (Bool) :=
  Option.bind (F_laws_eqByteSS (x.1, x.2.2.2.2.1)) fun r1 => bif (!r1) then some false else Option.bind (F_laws_eqWrS (x.2.1, x.2.2.2.2.2.1)) fun r2 => bif (!r2) then some false else bif (x.2.2.1 != x.2.2.2.2.2.2.1) then some false else bif (!(x.2.2.2.1 == x.2.2.2.2.2.2.2)) then some false else some true
noncomputable def f28B : Code := match Tryz.f28.body with
  | some c => c
  | none => .skip
noncomputable def f28K : C.Sem := tab [⟨77, F_laws_eqByteSS⟩, ⟨78, F_laws_eqWrS⟩]
noncomputable def f28P : Lp := fun i s {_R} κ => none
theorem k28 : Contract C Tryz.prog f28K := contract_tab _ (fun p hp => by
    simp only [List.mem_cons, List.mem_nil_iff, or_false] at hp
    rcases hp with rfl | rfl
    · exact ok77
    · exact ok78)
theorem ev28 (x : List E_s_u8 × List E_Wr × Int × Bool × List E_s_u8 × List E_Wr × Int × Bool) : evalB C f28K f28P 28 Tryz.f28 f28B ⟨[.v true [(.sl 56 ts_s_u8), (.sl 178 ts_Wr), (.int .i64), .bool] [false, false, false, false], .v true [(.sl 56 ts_s_u8), (.sl 178 ts_Wr), (.int .i64), .bool] [false, false, false, false]], [⟨false, [.bool], [false]⟩], false⟩ [(.sl 56 ts_s_u8), (.sl 178 ts_Wr), (.int .i64), .bool, (.sl 56 ts_s_u8), (.sl 178 ts_Wr), (.int .i64), .bool] [.bool] x = F_laws_eqDev x := by kernel_rfl
theorem ok28 : ContractAt C Tryz.prog 28 F_laws_eqDev := fn_sound (lp := f28P) tok mixed k28 (by kernel_rfl) (fn := Tryz.f28) (c := f28B) (sg := ⟨[.v true [(.sl 56 ts_s_u8), (.sl 178 ts_Wr), (.int .i64), .bool] [false, false, false, false], .v true [(.sl 56 ts_s_u8), (.sl 178 ts_Wr), (.int .i64), .bool] [false, false, false, false]], [⟨false, [.bool], [false]⟩], false⟩) Tryz.func28 (by decide) (by kernel_rfl) (by kernel_rfl) (by kernel_rfl) (fun c' hc' => by
    rw [show loopsOf f28B = [] by kernel_rfl] at hc'
    cases hc') (by decide) (by decide) (fun x y h => (ev28 x).trans h)
noncomputable def F_laws_eqStore (x : List E_s_u8 × List E_Wr × Int × Bool × List E_i64 × List E_Node × List E_Age × List E_Cell × List E_Vol × Int × Int × Int × Int × List E_s_u8 × List E_Wr × Int × Bool × List E_i64 × List E_Node × List E_Age × List E_Cell × List E_Vol × Int × Int × Int × Int) : Option (Bool) :=
  Option.bind (F_laws_eqDev (x.1, x.2.1, x.2.2.1, x.2.2.2.1, x.2.2.2.2.2.2.2.2.2.2.2.2.2.1, x.2.2.2.2.2.2.2.2.2.2.2.2.2.2.1, x.2.2.2.2.2.2.2.2.2.2.2.2.2.2.2.1, x.2.2.2.2.2.2.2.2.2.2.2.2.2.2.2.2.1)) fun r1 => bif (!r1) then some false else Option.bind (F_laws_eqPool (x.2.2.2.2.1, x.2.2.2.2.2.1, x.2.2.2.2.2.2.1, x.2.2.2.2.2.2.2.1, x.2.2.2.2.2.2.2.2.1, x.2.2.2.2.2.2.2.2.2.1, x.2.2.2.2.2.2.2.2.2.2.2.2.2.2.2.2.2.1, x.2.2.2.2.2.2.2.2.2.2.2.2.2.2.2.2.2.2.1, x.2.2.2.2.2.2.2.2.2.2.2.2.2.2.2.2.2.2.2.1, x.2.2.2.2.2.2.2.2.2.2.2.2.2.2.2.2.2.2.2.2.1, x.2.2.2.2.2.2.2.2.2.2.2.2.2.2.2.2.2.2.2.2.2.1, x.2.2.2.2.2.2.2.2.2.2.2.2.2.2.2.2.2.2.2.2.2.2.1)) fun r2 => bif (!r2) then some false else bif (x.2.2.2.2.2.2.2.2.2.2.1 != x.2.2.2.2.2.2.2.2.2.2.2.2.2.2.2.2.2.2.2.2.2.2.2.1) then some false else bif (x.2.2.2.2.2.2.2.2.2.2.2.1 != x.2.2.2.2.2.2.2.2.2.2.2.2.2.2.2.2.2.2.2.2.2.2.2.2.1) then some false else bif (x.2.2.2.2.2.2.2.2.2.2.2.2.1 != x.2.2.2.2.2.2.2.2.2.2.2.2.2.2.2.2.2.2.2.2.2.2.2.2.2) then some false else some true
noncomputable def f13B : Code := match Tryz.f13.body with
  | some c => c
  | none => .skip
noncomputable def f13K : C.Sem := tab [⟨19, F_laws_eqPool⟩, ⟨28, F_laws_eqDev⟩]
noncomputable def f13P : Lp := fun i s {_R} κ => none
theorem k13 : Contract C Tryz.prog f13K := contract_tab _ (fun p hp => by
    simp only [List.mem_cons, List.mem_nil_iff, or_false] at hp
    rcases hp with rfl | rfl
    · exact ok19
    · exact ok28)
theorem ev13 (x : List E_s_u8 × List E_Wr × Int × Bool × List E_i64 × List E_Node × List E_Age × List E_Cell × List E_Vol × Int × Int × Int × Int × List E_s_u8 × List E_Wr × Int × Bool × List E_i64 × List E_Node × List E_Age × List E_Cell × List E_Vol × Int × Int × Int × Int) : evalB C f13K f13P 13 Tryz.f13 f13B ⟨[.v true [(.sl 56 ts_s_u8), (.sl 178 ts_Wr), (.int .i64), .bool, (.sl 3 ts_i64), (.sl 97 ts_Node), (.sl 88 ts_Age), (.sl 94 ts_Cell), (.sl 90 ts_Vol), (.int .i64), (.int .i64), (.int .i64), (.int .i64)] [false, false, false, false, false, false, false, false, false, false, false, false, false], .v true [(.sl 56 ts_s_u8), (.sl 178 ts_Wr), (.int .i64), .bool, (.sl 3 ts_i64), (.sl 97 ts_Node), (.sl 88 ts_Age), (.sl 94 ts_Cell), (.sl 90 ts_Vol), (.int .i64), (.int .i64), (.int .i64), (.int .i64)] [false, false, false, false, false, false, false, false, false, false, false, false, false]], [⟨false, [.bool], [false]⟩], false⟩ [(.sl 56 ts_s_u8), (.sl 178 ts_Wr), (.int .i64), .bool, (.sl 3 ts_i64), (.sl 97 ts_Node), (.sl 88 ts_Age), (.sl 94 ts_Cell), (.sl 90 ts_Vol), (.int .i64), (.int .i64), (.int .i64), (.int .i64), (.sl 56 ts_s_u8), (.sl 178 ts_Wr), (.int .i64), .bool, (.sl 3 ts_i64), (.sl 97 ts_Node), (.sl 88 ts_Age), (.sl 94 ts_Cell), (.sl 90 ts_Vol), (.int .i64), (.int .i64), (.int .i64), (.int .i64)] [.bool] x = F_laws_eqStore x := by kernel_rfl
theorem ok13 : ContractAt C Tryz.prog 13 F_laws_eqStore := fn_sound (lp := f13P) tok mixed k13 (by kernel_rfl) (fn := Tryz.f13) (c := f13B) (sg := ⟨[.v true [(.sl 56 ts_s_u8), (.sl 178 ts_Wr), (.int .i64), .bool, (.sl 3 ts_i64), (.sl 97 ts_Node), (.sl 88 ts_Age), (.sl 94 ts_Cell), (.sl 90 ts_Vol), (.int .i64), (.int .i64), (.int .i64), (.int .i64)] [false, false, false, false, false, false, false, false, false, false, false, false, false], .v true [(.sl 56 ts_s_u8), (.sl 178 ts_Wr), (.int .i64), .bool, (.sl 3 ts_i64), (.sl 97 ts_Node), (.sl 88 ts_Age), (.sl 94 ts_Cell), (.sl 90 ts_Vol), (.int .i64), (.int .i64), (.int .i64), (.int .i64)] [false, false, false, false, false, false, false, false, false, false, false, false, false]], [⟨false, [.bool], [false]⟩], false⟩) Tryz.func13 (by decide) (by kernel_rfl) (by kernel_rfl) (by kernel_rfl) (fun c' hc' => by
    rw [show loopsOf f13B = [] by kernel_rfl] at hc'
    cases hc') (by decide) (by decide) (fun x y h => (ev13 x).trans h)
noncomputable def F_laws_FnExactStoreOk (x : List E_s_u8 × List E_LWr × Int × Bool × List E_i64 × List E_LNode × List E_LAge × List E_LCell × List E_LVol × Int × Int × Int × Int) : Option (Bool) :=
  Option.bind (F_laws_szStore (x.1, x.2.1, x.2.2.1, x.2.2.2.1, x.2.2.2.2.1, x.2.2.2.2.2.1, x.2.2.2.2.2.2.1, x.2.2.2.2.2.2.2.1, x.2.2.2.2.2.2.2.2.1, x.2.2.2.2.2.2.2.2.2.1, x.2.2.2.2.2.2.2.2.2.2.1, x.2.2.2.2.2.2.2.2.2.2.2.1, x.2.2.2.2.2.2.2.2.2.2.2.2, (1048576 : Int))) fun r1 => bif (decide (r1 < (0 : Int))) then some true else Option.bind (F_laws_toStore (x.1, x.2.1, x.2.2.1, x.2.2.2.1, x.2.2.2.2.1, x.2.2.2.2.2.1, x.2.2.2.2.2.2.1, x.2.2.2.2.2.2.2.1, x.2.2.2.2.2.2.2.2.1, x.2.2.2.2.2.2.2.2.2.1, x.2.2.2.2.2.2.2.2.2.2.1, x.2.2.2.2.2.2.2.2.2.2.2.1, x.2.2.2.2.2.2.2.2.2.2.2.2)) fun r2 => Option.bind (F_spec_StoreOk (r2.1, r2.2.1, r2.2.2.1, r2.2.2.2.1, r2.2.2.2.2.1, r2.2.2.2.2.2.1, r2.2.2.2.2.2.2.1, r2.2.2.2.2.2.2.2.1, r2.2.2.2.2.2.2.2.2.1, r2.2.2.2.2.2.2.2.2.2.1, r2.2.2.2.2.2.2.2.2.2.2.1, r2.2.2.2.2.2.2.2.2.2.2.2.1, r2.2.2.2.2.2.2.2.2.2.2.2.2)) fun r3 => Option.bind (F_laws_toStore (x.1, x.2.1, x.2.2.1, x.2.2.2.1, x.2.2.2.2.1, x.2.2.2.2.2.1, x.2.2.2.2.2.2.1, x.2.2.2.2.2.2.2.1, x.2.2.2.2.2.2.2.2.1, x.2.2.2.2.2.2.2.2.2.1, x.2.2.2.2.2.2.2.2.2.2.1, x.2.2.2.2.2.2.2.2.2.2.2.1, x.2.2.2.2.2.2.2.2.2.2.2.2)) fun r4 => Option.bind (F_impl_StoreOk (r4.1, r4.2.1, r4.2.2.1, r4.2.2.2.1, r4.2.2.2.2.1, r4.2.2.2.2.2.1, r4.2.2.2.2.2.2.1, r4.2.2.2.2.2.2.2.1, r4.2.2.2.2.2.2.2.2.1, r4.2.2.2.2.2.2.2.2.2.1, r4.2.2.2.2.2.2.2.2.2.2.1, r4.2.2.2.2.2.2.2.2.2.2.2.1, r4.2.2.2.2.2.2.2.2.2.2.2.2)) fun r5 => bif (!(r5 == r3)) then some false else Option.bind (F_laws_toStore (x.1, x.2.1, x.2.2.1, x.2.2.2.1, x.2.2.2.2.1, x.2.2.2.2.2.1, x.2.2.2.2.2.2.1, x.2.2.2.2.2.2.2.1, x.2.2.2.2.2.2.2.2.1, x.2.2.2.2.2.2.2.2.2.1, x.2.2.2.2.2.2.2.2.2.2.1, x.2.2.2.2.2.2.2.2.2.2.2.1, x.2.2.2.2.2.2.2.2.2.2.2.2)) fun r6 => Option.bind (F_laws_eqStore (r4.1, r4.2.1, r4.2.2.1, r4.2.2.2.1, r4.2.2.2.2.1, r4.2.2.2.2.2.1, r4.2.2.2.2.2.2.1, r4.2.2.2.2.2.2.2.1, r4.2.2.2.2.2.2.2.2.1, r4.2.2.2.2.2.2.2.2.2.1, r4.2.2.2.2.2.2.2.2.2.2.1, r4.2.2.2.2.2.2.2.2.2.2.2.1, r4.2.2.2.2.2.2.2.2.2.2.2.2, r6.1, r6.2.1, r6.2.2.1, r6.2.2.2.1, r6.2.2.2.2.1, r6.2.2.2.2.2.1, r6.2.2.2.2.2.2.1, r6.2.2.2.2.2.2.2.1, r6.2.2.2.2.2.2.2.2.1, r6.2.2.2.2.2.2.2.2.2.1, r6.2.2.2.2.2.2.2.2.2.2.1, r6.2.2.2.2.2.2.2.2.2.2.2.1, r6.2.2.2.2.2.2.2.2.2.2.2.2)) fun r7 => bif (!r7) then some false else some true
noncomputable def f3B : Code := match Tryz.f3.body with
  | some c => c
  | none => .skip
noncomputable def f3K : C.Sem := tab [⟨9, F_laws_szStore⟩, ⟨10, F_spec_StoreOk⟩, ⟨11, F_laws_toStore⟩, ⟨12, F_impl_StoreOk⟩, ⟨13, F_laws_eqStore⟩]
noncomputable def f3P : Lp := fun i s {_R} κ => none
theorem k3 : Contract C Tryz.prog f3K := contract_tab _ (fun p hp => by
    simp only [List.mem_cons, List.mem_nil_iff, or_false] at hp
    rcases hp with rfl | rfl | rfl | rfl | rfl
    · exact ok9
    · exact ok10
    · exact ok11
    · exact ok12
    · exact ok13)
theorem ev3 (x : List E_s_u8 × List E_LWr × Int × Bool × List E_i64 × List E_LNode × List E_LAge × List E_LCell × List E_LVol × Int × Int × Int × Int) : evalB C f3K f3P 3 Tryz.f3 f3B ⟨[.v true [(.sl 56 ts_s_u8), (.sl 173 ts_LWr), (.int .i64), .bool, (.sl 3 ts_i64), (.sl 205 ts_LNode), (.sl 158 ts_LAge), (.sl 160 ts_LCell), (.sl 150 ts_LVol), (.int .i64), (.int .i64), (.int .i64), (.int .i64)] [false, false, false, false, false, false, false, false, false, false, false, false, false]], [⟨false, [.bool], [false]⟩], false⟩ [(.sl 56 ts_s_u8), (.sl 173 ts_LWr), (.int .i64), .bool, (.sl 3 ts_i64), (.sl 205 ts_LNode), (.sl 158 ts_LAge), (.sl 160 ts_LCell), (.sl 150 ts_LVol), (.int .i64), (.int .i64), (.int .i64), (.int .i64)] [.bool] x = F_laws_FnExactStoreOk x := by kernel_rfl
theorem ok3 : ContractAt C Tryz.prog 3 F_laws_FnExactStoreOk := fn_sound (lp := f3P) tok mixed k3 (by kernel_rfl) (fn := Tryz.f3) (c := f3B) (sg := ⟨[.v true [(.sl 56 ts_s_u8), (.sl 173 ts_LWr), (.int .i64), .bool, (.sl 3 ts_i64), (.sl 205 ts_LNode), (.sl 158 ts_LAge), (.sl 160 ts_LCell), (.sl 150 ts_LVol), (.int .i64), (.int .i64), (.int .i64), (.int .i64)] [false, false, false, false, false, false, false, false, false, false, false, false, false]], [⟨false, [.bool], [false]⟩], false⟩) Tryz.func3 (by decide) (by kernel_rfl) (by kernel_rfl) (by kernel_rfl) (fun c' hc' => by
    rw [show loopsOf f3B = [] by kernel_rfl] at hc'
    cases hc') (by decide) (by decide) (fun x y h => (ev3 x).trans h)
end Go.Proofs.YtmofdkmggfdciaaGreat.XO
