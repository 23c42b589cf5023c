/- What functions compute, and that they do; part 2 of C; by a program (dec.py). No condition. -/
import Derived.Test.YtmofdkmggfdciaaGreatDC1
set_option linter.all false
namespace Go.Proofs.YtmofdkmggfdciaaGreat.XC
open Go.Proofs.YtmofdkmggfdciaaGreat.R
set_option maxRecDepth 100000
abbrev T_slices_IndexFunc_Vol_impl_Idle_1_2 : Type := List E_Vol × Int × Int × Int
noncomputable def S_slices_IndexFunc_Vol_impl_Idle_1_2 {R : Type} (k0 : (Int × Int) → Option R) (k1 : Int → Option R) (again : T_slices_IndexFunc_Vol_impl_Idle_1_2 → Option R) (t2 : T_slices_IndexFunc_Vol_impl_Idle_1_2) : Option R :=
  bif (decide (t2.2.2.1 < t2.2.1)) then if (0 : Int) ≤ t2.2.2.1 then if t2.2.2.1 < ((List.length t2.1 : Nat) : Int) then Option.bind (F_impl_Idle_1 ((rd_Vol t2.1 t2.2.2.1).1, (rd_Vol t2.1 t2.2.2.1).2.1, (rd_Vol t2.1 t2.2.2.1).2.2.1, (rd_Vol t2.1 t2.2.2.1).2.2.2, t2.2.2.2)) fun r1 => bif r1.1 then k0 (t2.2.2.1, r1.2) else again (t2.1, t2.2.1, (Go.IntKind.wrap .i64 (t2.2.2.1 + (1 : Int))), r1.2) else none else none else k1 t2.2.2.2
noncomputable def L_slices_IndexFunc_Vol_impl_Idle_1_2 {R : Type} (k0 : (Int × Int) → Option R) (k1 : Int → Option R) (t : T_slices_IndexFunc_Vol_impl_Idle_1_2) : Option R := iter (S_slices_IndexFunc_Vol_impl_Idle_1_2 k0 k1) FUEL t
noncomputable def F_slices_IndexFunc_Vol_impl_Idle_1 (x : List E_Vol × Int) : Option (Int × Int) :=
  L_slices_IndexFunc_Vol_impl_Idle_1_2 (fun x2 => some (x2.1, x2.2)) (fun x3 => some ((-1 : Int), x3)) (x.1, ((List.length x.1 : Nat) : Int), (0 : Int), x.2)
noncomputable def f100004B : Code := match Tryz.f231.body with
  | some c => c
  | none => .skip
noncomputable def f100004K : C.Sem := tab [⟨206, F_impl_Idle_1⟩]
def f100004h2_0 : List Sh := [.v (.sl 90 ts_Vol), .clo 206 901, .dead, .dead, .dead, .dead, .dead, .v (.int .i64), .v (.int .i64), .dead, .dead, .dead, .dead, .dead, .dead, .dead, .dead, .dead, .dead]
def f100004o2_0 : List (Nat × OSh) := [(901, .box [.v (.int .i64)])]
def f100004e2_0 (t : List E_Vol × Int × Int × Int) : St := ⟨[.val (.sl 90 ts_Vol) t.1, .clo 206 901, .dead, .dead, .dead, .dead, .dead, .val (.int .i64) t.2.1, .val (.int .i64) t.2.2.1, .dead, .dead, .dead, .dead, .dead, .dead, .dead, .dead, .dead, .dead], [(901, .box [.val (.int .i64) t.2.2.2])]⟩
def f100004x2_0 (t : Int × Int) : St := ⟨[.dead, .clo 206 901, .dead, .dead, .val (.int .i64) t.1, .dead, .dead, .dead, .dead, .dead, .dead, .dead, .dead, .dead, .dead, .dead, .dead, .dead, .dead], [(901, .box [.val (.int .i64) t.2])]⟩
def f100004x2_1 (t : Int) : St := ⟨[.dead, .clo 206 901, .dead, .dead, .dead, .dead, .dead, .dead, .dead, .dead, .dead, .dead, .dead, .dead, .dead, .dead, .dead, .dead, .dead], [(901, .box [.val (.int .i64) t])]⟩
def f100004u2_0 (s : St) : Option (List E_Vol × Int × Int × Int) := (unS f100004h2_0 f100004o2_0 s).map fun v => (v.1.1, v.1.2.2.2.2.2.2.2.1, v.1.2.2.2.2.2.2.2.2.1, v.2.1.1)
theorem f100004un2_0 : ∀ (s : St) (t : List E_Vol × Int × Int × Int), f100004u2_0 s = some t → f100004e2_0 t = s := fun s v h => by
  obtain ⟨u, hu, rfl⟩ := Option.map_eq_some_iff.1 h
  exact (show f100004e2_0 (u.1.1, u.1.2.2.2.2.2.2.2.1, u.1.2.2.2.2.2.2.2.2.1, u.2.1.1) = mkS f100004h2_0 f100004o2_0 u by kernel_rfl).trans (mkS_un f100004h2_0 f100004o2_0 s u hu)
def f100004u2 : St → Option (List E_Vol × Int × Int × Int) := f100004u2_0
def f100004e2 : (List E_Vol × Int × Int × Int) → St := f100004e2_0
theorem f100004un2 : ∀ (s : St) (t : List E_Vol × Int × Int × Int), f100004u2 s = some t → f100004e2 t = s := f100004un2_0
noncomputable def f100004P : Lp := fun i s {_R} κ => bif Nat.beq i 2 then (f100004u2 s).bind fun t => L_slices_IndexFunc_Vol_impl_Idle_1_2 (fun t => κ (none) (f100004x2_0 t)) (fun t => κ (some 0) (f100004x2_1 t)) t else none
noncomputable def f100004c2 : Code := (loopsOf f100004B).getD 0 .skip
theorem f100004A2 : C.live 100004 (firstRegion f100004c2) = some ([0, 1, 7, 8], [1, 4]) := by kernel_rfl
theorem f100004B2 {R : Type} (κ : Option Nat → St → Option R) (s : St) : f100004P (firstRegion f100004c2) s κ = (f100004u2 s).bind fun t => iter (S_slices_IndexFunc_Vol_impl_Idle_1_2 (fun t => κ (none) (f100004x2_0 t)) (fun t => κ (some 0) (f100004x2_1 t))) FUEL t := by kernel_rfl
theorem f100004C2 {R : Type} (κ : Option Nat → St → Option R) (again : St → Option R) (t : T_slices_IndexFunc_Vol_impl_Idle_1_2) : stepL C f100004K f100004P 100004 f100004c2 [0, 1, 7, 8] [1, 4] κ again (f100004e2 t) = S_slices_IndexFunc_Vol_impl_Idle_1_2 (fun t => κ (none) (f100004x2_0 t)) (fun t => κ (some 0) (f100004x2_1 t)) (fun t => again (f100004e2 t)) t := by kernel_rfl
theorem f100004ok2 : LoopOk C f100004K f100004P 100004 f100004c2 := loop_ok f100004A2 f100004e2 f100004u2 f100004un2 (fun {_R} κ => S_slices_IndexFunc_Vol_impl_Idle_1_2 (fun t => κ (none) (f100004x2_0 t)) (fun t => κ (some 0) (f100004x2_1 t))) (fun {_R} κ s => f100004B2 κ s) (fun {_R} κ again t => f100004C2 κ again t)
theorem k100004 : Contract C Tryz.prog f100004K := contract_tab _ (fun p hp => by
    simp only [List.mem_cons, List.mem_nil_iff, or_false] at hp
    rcases hp with rfl
    · exact ok206)
theorem ev100004 (x : List E_Vol × Int) : evalB C f100004K f100004P 100004 Tryz.f231 f100004B ⟨[.v false [(.sl 90 ts_Vol)] [false], .p (some 206) [(.int .i64)] [false]], [⟨false, [(.int .i64)], [false]⟩], false⟩ [(.sl 90 ts_Vol), (.int .i64)] [(.int .i64), (.int .i64)] x = F_slices_IndexFunc_Vol_impl_Idle_1 x := by kernel_rfl
theorem ok100004 : ContractAt C Tryz.prog 100004 F_slices_IndexFunc_Vol_impl_Idle_1 := fn_sound (lp := f100004P) tok mixed k100004 (by kernel_rfl) (fn := Tryz.f231) (c := f100004B) (sg := ⟨[.v false [(.sl 90 ts_Vol)] [false], .p (some 206) [(.int .i64)] [false]], [⟨false, [(.int .i64)], [false]⟩], false⟩) Tryz.func231 (by decide) (by kernel_rfl) (by kernel_rfl) (by kernel_rfl) (fun c' hc' => by
    rw [show loopsOf f100004B = [f100004c2] by kernel_rfl] at hc'
    simp only [List.mem_cons, List.mem_nil_iff, or_false] at hc'
    rcases hc' with rfl
    · exact f100004ok2) (by decide) (by decide) (fun x y h => (ev100004 x).trans h)
noncomputable def F_slices_ContainsFunc_Vol_impl_Idle_1 (x : List E_Vol × Int) : Option (Bool × Int) :=
  Option.bind (F_slices_IndexFunc_Vol_impl_Idle_1 (x.1, x.2)) fun r1 => some ((decide (r1.1 ≥ (0 : Int))), r1.2)
noncomputable def f100003B : Code := match Tryz.f189.body with
  | some c => c
  | none => .skip
noncomputable def f100003K : C.Sem := tab [⟨100004, F_slices_IndexFunc_Vol_impl_Idle_1⟩]
noncomputable def f100003P : Lp := fun i s {_R} κ => none
theorem k100003 : Contract C Tryz.prog f100003K := contract_tab _ (fun p hp => by
    simp only [List.mem_cons, List.mem_nil_iff, or_false] at hp
    rcases hp with rfl
    · exact ok100004)
theorem ev100003 (x : List E_Vol × Int) : evalB C f100003K f100003P 100003 Tryz.f189 f100003B ⟨[.v false [(.sl 90 ts_Vol)] [false], .p (some 206) [(.int .i64)] [false]], [⟨false, [.bool], [false]⟩], false⟩ [(.sl 90 ts_Vol), (.int .i64)] [.bool, (.int .i64)] x = F_slices_ContainsFunc_Vol_impl_Idle_1 x := by kernel_rfl
theorem ok100003 : ContractAt C Tryz.prog 100003 F_slices_ContainsFunc_Vol_impl_Idle_1 := fn_sound (lp := f100003P) tok mixed k100003 (by kernel_rfl) (fn := Tryz.f189) (c := f100003B) (sg := ⟨[.v false [(.sl 90 ts_Vol)] [false], .p (some 206) [(.int .i64)] [false]], [⟨false, [.bool], [false]⟩], false⟩) Tryz.func189 (by decide) (by kernel_rfl) (by kernel_rfl) (by kernel_rfl) (fun c' hc' => by
    rw [show loopsOf f100003B = [] by kernel_rfl] at hc'
    cases hc') (by decide) (by decide) (fun x y h => (ev100003 x).trans h)
noncomputable def F_impl_Idle (x : List E_i64 × List E_Node × List E_Age × List E_Cell × List E_Vol × Int × Int) : Option (Bool) :=
  Option.bind (F_slices_ContainsFunc_Vol_impl_Idle_1 (x.2.2.2.2.1, x.2.2.2.2.2.2)) fun r1 => some (!r1.1)
noncomputable def f162B : Code := match Tryz.f162.body with
  | some c => c
  | none => .skip
noncomputable def f162K : C.Sem := tab [⟨100003, F_slices_ContainsFunc_Vol_impl_Idle_1⟩]
noncomputable def f162P : Lp := fun i s {_R} κ => none
theorem k162 : Contract C Tryz.prog f162K := contract_tab _ (fun p hp => by
    simp only [List.mem_cons, List.mem_nil_iff, or_false] at hp
    rcases hp with rfl
    · exact ok100003)
theorem ev162 (x : List E_i64 × List E_Node × List E_Age × List E_Cell × List E_Vol × Int × Int) : evalB C f162K f162P 162 Tryz.f162 f162B ⟨[.v true [(.sl 3 ts_i64), (.sl 97 ts_Node), (.sl 88 ts_Age), (.sl 94 ts_Cell), (.sl 90 ts_Vol), (.int .i64)] [false, false, false, false, false, false], .v false [(.int .i64)] [false]], [⟨false, [.bool], [false]⟩], false⟩ [(.sl 3 ts_i64), (.sl 97 ts_Node), (.sl 88 ts_Age), (.sl 94 ts_Cell), (.sl 90 ts_Vol), (.int .i64), (.int .i64)] [.bool] x = F_impl_Idle x := by kernel_rfl
theorem ok162 : ContractAt C Tryz.prog 162 F_impl_Idle := fn_sound (lp := f162P) tok mixed k162 (by kernel_rfl) (fn := Tryz.f162) (c := f162B) (sg := ⟨[.v true [(.sl 3 ts_i64), (.sl 97 ts_Node), (.sl 88 ts_Age), (.sl 94 ts_Cell), (.sl 90 ts_Vol), (.int .i64)] [false, false, false, false, false, false], .v false [(.int .i64)] [false]], [⟨false, [.bool], [false]⟩], false⟩) Tryz.func162 (by decide) (by kernel_rfl) (by kernel_rfl) (by kernel_rfl) (fun c' hc' => by
    rw [show loopsOf f162B = [] by kernel_rfl] at hc'
    cases hc') (by decide) (by decide) (fun x y h => (ev162 x).trans h)
abbrev T_impl_PathOf_3 : Type := List E_Age × Int × Int × Int × List E_i64
noncomputable def S_impl_PathOf_3 {R : Type} (k0 : List E_i64 → Option R) (again : T_impl_PathOf_3 → Option R) (t3 : T_impl_PathOf_3) : Option R :=
  bif (decide (t3.2.2.2.1 < t3.2.2.1)) then Option.bind (F_impl_AgeAt (t3.1, t3.2.1)) fun r1 => bif (decide (r1 < (0 : Int))) then k0 t3.2.2.2.2 else if (List.length t3.2.2.2.2 + List.length ([t3.2.1] : List E_i64)) * 8 < 140737488355328 then if (0 : Int) ≤ r1 then if r1 < ((List.length t3.1 : Nat) : Int) then again (t3.1, (rd_Age t3.1 r1).2, t3.2.2.1, (Go.IntKind.wrap .i64 (t3.2.2.2.1 + (1 : Int))), (t3.2.2.2.2 ++ ([t3.2.1] : List E_i64))) else none else none else none else k0 t3.2.2.2.2
noncomputable def L_impl_PathOf_3 {R : Type} (k0 : List E_i64 → Option R) (t : T_impl_PathOf_3) : Option R := iter (S_impl_PathOf_3 k0) FUEL t
noncomputable def F_impl_PathOf (x : List E_Age × Int) : Option (List E_i64) :=
  L_impl_PathOf_3 (fun x2 => some x2) (x.1, x.2, (Go.IntKind.wrap .i64 (((List.length x.1 : Nat) : Int) + (1 : Int))), (0 : Int), ([] : List E_i64))
noncomputable def f240B : Code := match Tryz.f240.body with
  | some c => c
  | none => .skip
noncomputable def f240K : C.Sem := tab [⟨186, F_impl_AgeAt⟩]
def f240h3_0 : List Sh := [.v (.sl 88 ts_Age), .v (.int .i64), .dead, .dead, .dead, .own 10000000, .dead, .dead, .dead, .dead, .v (.int .i64), .v (.int .i64), .dead, .dead, .dead, .dead, .dead, .dead, .dead, .dead, .dead, .dead, .dead, .dead, .dead, .dead, .dead, .dead, .dead]
def f240o3_0 : List (Nat × OSh) := [(10000000, .root true 3 ts_i64)]
def f240e3_0 (t : List E_Age × Int × Int × Int × List E_i64) : St := ⟨[.val (.sl 88 ts_Age) t.1, .val (.int .i64) t.2.1, .dead, .dead, .dead, .own 10000000, .dead, .dead, .dead, .dead, .val (.int .i64) t.2.2.1, .val (.int .i64) t.2.2.2.1, .dead, .dead, .dead, .dead, .dead, .dead, .dead, .dead, .dead, .dead, .dead, .dead, .dead, .dead, .dead, .dead, .dead], [(10000000, .root true 3 ts_i64 t.2.2.2.2)]⟩
def f240x3_0 (t : List E_i64) : St := ⟨[.dead, .dead, .dead, .dead, .dead, .own 10000000, .dead, .dead, .dead, .dead, .dead, .dead, .dead, .dead, .dead, .dead, .dead, .dead, .dead, .dead, .dead, .dead, .dead, .dead, .dead, .dead, .dead, .dead, .dead], [(10000000, .root true 3 ts_i64 t)]⟩
def f240u3_0 (s : St) : Option (List E_Age × Int × Int × Int × List E_i64) := (unS f240h3_0 f240o3_0 s).map fun v => (v.1.1, v.1.2.1, v.1.2.2.2.2.2.2.2.2.2.2.1, v.1.2.2.2.2.2.2.2.2.2.2.2.1, v.2.1)
theorem f240un3_0 : ∀ (s : St) (t : List E_Age × Int × Int × Int × List E_i64), f240u3_0 s = some t → f240e3_0 t = s := fun s v h => by
  obtain ⟨u, hu, rfl⟩ := Option.map_eq_some_iff.1 h
  exact (show f240e3_0 (u.1.1, u.1.2.1, u.1.2.2.2.2.2.2.2.2.2.2.1, u.1.2.2.2.2.2.2.2.2.2.2.2.1, u.2.1) = mkS f240h3_0 f240o3_0 u by kernel_rfl).trans (mkS_un f240h3_0 f240o3_0 s u hu)
def f240u3 : St → Option (List E_Age × Int × Int × Int × List E_i64) := f240u3_0
def f240e3 : (List E_Age × Int × Int × Int × List E_i64) → St := f240e3_0
theorem f240un3 : ∀ (s : St) (t : List E_Age × Int × Int × Int × List E_i64), f240u3 s = some t → f240e3 t = s := f240un3_0
noncomputable def f240P : Lp := fun i s {_R} κ => bif Nat.beq i 3 then (f240u3 s).bind fun t => L_impl_PathOf_3 (fun t => κ (some 0) (f240x3_0 t)) t else none
noncomputable def f240c3 : Code := (loopsOf f240B).getD 0 .skip
theorem f240A3 : C.live 240 (firstRegion f240c3) = some ([0, 1, 5, 10, 11], [5]) := by kernel_rfl
theorem f240B3 {R : Type} (κ : Option Nat → St → Option R) (s : St) : f240P (firstRegion f240c3) s κ = (f240u3 s).bind fun t => iter (S_impl_PathOf_3 (fun t => κ (some 0) (f240x3_0 t))) FUEL t := by kernel_rfl
theorem f240C3 {R : Type} (κ : Option Nat → St → Option R) (again : St → Option R) (t : T_impl_PathOf_3) : stepL C f240K f240P 240 f240c3 [0, 1, 5, 10, 11] [5] κ again (f240e3 t) = S_impl_PathOf_3 (fun t => κ (some 0) (f240x3_0 t)) (fun t => again (f240e3 t)) t := by kernel_rfl
theorem f240ok3 : LoopOk C f240K f240P 240 f240c3 := loop_ok f240A3 f240e3 f240u3 f240un3 (fun {_R} κ => S_impl_PathOf_3 (fun t => κ (some 0) (f240x3_0 t))) (fun {_R} κ s => f240B3 κ s) (fun {_R} κ again t => f240C3 κ again t)
theorem k240 : Contract C Tryz.prog f240K := contract_tab _ (fun p hp => by
    simp only [List.mem_cons, List.mem_nil_iff, or_false] at hp
    rcases hp with rfl
    · exact ok186)
theorem ev240 (x : List E_Age × Int) : evalB C f240K f240P 240 Tryz.f240 f240B ⟨[.v false [(.sl 88 ts_Age)] [false], .v false [(.int .i64)] [false]], [⟨false, [(.sl 3 ts_i64)], [true]⟩], false⟩ [(.sl 88 ts_Age), (.int .i64)] [(.sl 3 ts_i64)] x = F_impl_PathOf x := by kernel_rfl
theorem ok240 : ContractAt C Tryz.prog 240 F_impl_PathOf := fn_sound (lp := f240P) tok mixed k240 (by kernel_rfl) (fn := Tryz.f240) (c := f240B) (sg := ⟨[.v false [(.sl 88 ts_Age)] [false], .v false [(.int .i64)] [false]], [⟨false, [(.sl 3 ts_i64)], [true]⟩], false⟩) Tryz.func240 (by decide) (by kernel_rfl) (by kernel_rfl) (by kernel_rfl) (fun c' hc' => by
    rw [show loopsOf f240B = [f240c3] by kernel_rfl] at hc'
    simp only [List.mem_cons, List.mem_nil_iff, or_false] at hc'
    rcases hc' with rfl
    · exact f240ok3) (by decide) (by decide) (fun x y h => (ev240 x).trans h)
abbrev T_impl_KeysOf_3 : Type := Int × Int × Int × List E_Key × List E_Key
noncomputable def S_impl_KeysOf_3 {R : Type} (k0 : List E_Key → Option R) (again : T_impl_KeysOf_3 → Option R) (t3 : T_impl_KeysOf_3) : Option R :=
  bif (decide (t3.2.2.1 < t3.2.1)) then if (0 : Int) ≤ t3.2.2.1 then if t3.2.2.1 < ((List.length t3.2.2.2.2 : Nat) : Int) then bif ((rd_Key t3.2.2.2.2 t3.2.2.1).1 == t3.1) then if (List.length t3.2.2.2.1 + List.length ([((rd_Key t3.2.2.2.2 t3.2.2.1).1, (rd_Key t3.2.2.2.2 t3.2.2.1).2.1, (rd_Key t3.2.2.2.2 t3.2.2.1).2.2.1, (rd_Key t3.2.2.2.2 t3.2.2.1).2.2.2.1, (rd_Key t3.2.2.2.2 t3.2.2.1).2.2.2.2)] : List E_Key)) * 40 < 140737488355328 then again (t3.1, t3.2.1, (Go.IntKind.wrap .i64 (t3.2.2.1 + (1 : Int))), (t3.2.2.2.1 ++ ([((rd_Key t3.2.2.2.2 t3.2.2.1).1, (rd_Key t3.2.2.2.2 t3.2.2.1).2.1, (rd_Key t3.2.2.2.2 t3.2.2.1).2.2.1, (rd_Key t3.2.2.2.2 t3.2.2.1).2.2.2.1, (rd_Key t3.2.2.2.2 t3.2.2.1).2.2.2.2)] : List E_Key)), t3.2.2.2.2) else none else again (t3.1, t3.2.1, (Go.IntKind.wrap .i64 (t3.2.2.1 + (1 : Int))), t3.2.2.2.1, t3.2.2.2.2) else none else none else k0 t3.2.2.2.1
noncomputable def L_impl_KeysOf_3 {R : Type} (k0 : List E_Key → Option R) (t : T_impl_KeysOf_3) : Option R := iter (S_impl_KeysOf_3 k0) FUEL t
noncomputable def F_impl_KeysOf (x : List E_i64 × List E_Node × Int) : Option (List E_Key) :=
  Option.bind (F_impl_TreeKeys (x.1, x.2.1)) fun r1 => L_impl_KeysOf_3 (fun x2 => some x2) (x.2.2, ((List.length r1 : Nat) : Int), (0 : Int), ([] : List E_Key), r1)
noncomputable def f267B : Code := match Tryz.f267.body with
  | some c => c
  | none => .skip
noncomputable def f267K : C.Sem := tab [⟨160, F_impl_TreeKeys⟩]
def f267h3_0 : List Sh := [.dead, .v (.int .i64), .dead, .dead, .dead, .own 10000000, .dead, .dead, .dead, .dead, .own 10000001, .v (.int .i64), .v (.int .i64), .dead, .dead, .dead, .dead, .dead, .dead, .dead, .dead, .dead, .dead, .dead, .dead, .dead]
def f267o3_0 : List (Nat × OSh) := [(10000000, .root true 105 ts_Key), (10000001, .root true 105 ts_Key)]
def f267e3_0 (t : Int × Int × Int × List E_Key × List E_Key) : St := ⟨[.dead, .val (.int .i64) t.1, .dead, .dead, .dead, .own 10000000, .dead, .dead, .dead, .dead, .own 10000001, .val (.int .i64) t.2.1, .val (.int .i64) t.2.2.1, .dead, .dead, .dead, .dead, .dead, .dead, .dead, .dead, .dead, .dead, .dead, .dead, .dead], [(10000000, .root true 105 ts_Key t.2.2.2.1), (10000001, .root true 105 ts_Key t.2.2.2.2)]⟩
def f267x3_0 (t : List E_Key) : St := ⟨[.dead, .dead, .dead, .dead, .dead, .own 10000000, .dead, .dead, .dead, .dead, .dead, .dead, .dead, .dead, .dead, .dead, .dead, .dead, .dead, .dead, .dead, .dead, .dead, .dead, .dead, .dead], [(10000000, .root true 105 ts_Key t)]⟩
def f267u3_0 (s : St) : Option (Int × Int × Int × List E_Key × List E_Key) := (unS f267h3_0 f267o3_0 s).map fun v => (v.1.2.1, v.1.2.2.2.2.2.2.2.2.2.2.2.1, v.1.2.2.2.2.2.2.2.2.2.2.2.2.1, v.2.1, v.2.2.1)
theorem f267un3_0 : ∀ (s : St) (t : Int × Int × Int × List E_Key × List E_Key), f267u3_0 s = some t → f267e3_0 t = s := fun s v h => by
  obtain ⟨u, hu, rfl⟩ := Option.map_eq_some_iff.1 h
  exact (show f267e3_0 (u.1.2.1, u.1.2.2.2.2.2.2.2.2.2.2.2.1, u.1.2.2.2.2.2.2.2.2.2.2.2.2.1, u.2.1, u.2.2.1) = mkS f267h3_0 f267o3_0 u by kernel_rfl).trans (mkS_un f267h3_0 f267o3_0 s u hu)
def f267u3 : St → Option (Int × Int × Int × List E_Key × List E_Key) := f267u3_0
def f267e3 : (Int × Int × Int × List E_Key × List E_Key) → St := f267e3_0
theorem f267un3 : ∀ (s : St) (t : Int × Int × Int × List E_Key × List E_Key), f267u3 s = some t → f267e3 t = s := f267un3_0
noncomputable def f267P : Lp := fun i s {_R} κ => bif Nat.beq i 3 then (f267u3 s).bind fun t => L_impl_KeysOf_3 (fun t => κ (some 0) (f267x3_0 t)) t else none
noncomputable def f267c3 : Code := (loopsOf f267B).getD 0 .skip
theorem f267A3 : C.live 267 (firstRegion f267c3) = some ([1, 5, 10, 11, 12], [5]) := by kernel_rfl
theorem f267B3 {R : Type} (κ : Option Nat → St → Option R) (s : St) : f267P (firstRegion f267c3) s κ = (f267u3 s).bind fun t => iter (S_impl_KeysOf_3 (fun t => κ (some 0) (f267x3_0 t))) FUEL t := by kernel_rfl
theorem f267C3 {R : Type} (κ : Option Nat → St → Option R) (again : St → Option R) (t : T_impl_KeysOf_3) : stepL C f267K f267P 267 f267c3 [1, 5, 10, 11, 12] [5] κ again (f267e3 t) = S_impl_KeysOf_3 (fun t => κ (some 0) (f267x3_0 t)) (fun t => again (f267e3 t)) t := by kernel_rfl
theorem f267ok3 : LoopOk C f267K f267P 267 f267c3 := loop_ok f267A3 f267e3 f267u3 f267un3 (fun {_R} κ => S_impl_KeysOf_3 (fun t => κ (some 0) (f267x3_0 t))) (fun {_R} κ s => f267B3 κ s) (fun {_R} κ again t => f267C3 κ again t)
theorem k267 : Contract C Tryz.prog f267K := contract_tab _ (fun p hp => by
    simp only [List.mem_cons, List.mem_nil_iff, or_false] at hp
    rcases hp with rfl
    · exact ok160)
theorem ev267 (x : List E_i64 × List E_Node × Int) : evalB C f267K f267P 267 Tryz.f267 f267B ⟨[.v true [(.sl 3 ts_i64), (.sl 97 ts_Node)] [false, false], .v false [(.int .i64)] [false]], [⟨false, [(.sl 105 ts_Key)], [true]⟩], false⟩ [(.sl 3 ts_i64), (.sl 97 ts_Node), (.int .i64)] [(.sl 105 ts_Key)] x = F_impl_KeysOf x := by kernel_rfl
theorem ok267 : ContractAt C Tryz.prog 267 F_impl_KeysOf := fn_sound (lp := f267P) tok mixed k267 (by kernel_rfl) (fn := Tryz.f267) (c := f267B) (sg := ⟨[.v true [(.sl 3 ts_i64), (.sl 97 ts_Node)] [false, false], .v false [(.int .i64)] [false]], [⟨false, [(.sl 105 ts_Key)], [true]⟩], false⟩) Tryz.func267 (by decide) (by kernel_rfl) (by kernel_rfl) (by kernel_rfl) (fun c' hc' => by
    rw [show loopsOf f267B = [f267c3] by kernel_rfl] at hc'
    simp only [List.mem_cons, List.mem_nil_iff, or_false] at hc'
    rcases hc' with rfl
    · exact f267ok3) (by decide) (by decide) (fun x y h => (ev267 x).trans h)
abbrev T_slices_Index_int_2 : Type := List E_i64 × Int × Int × Int
noncomputable def S_slices_Index_int_2 {R : Type} (k0 : Int → Option R) (k1 : Unit → Option R) (again : T_slices_Index_int_2 → Option R) (t2 : T_slices_Index_int_2) : Option R :=
  bif (decide (t2.2.2.2 < t2.2.2.1)) then if (0 : Int) ≤ t2.2.2.2 then if t2.2.2.2 < ((List.length t2.1 : Nat) : Int) then bif (t2.2.1 == (rd_i64 t2.1 t2.2.2.2)) then k0 t2.2.2.2 else again (t2.1, t2.2.1, t2.2.2.1, (Go.IntKind.wrap .i64 (t2.2.2.2 + (1 : Int)))) else none else none else k1 ()
noncomputable def L_slices_Index_int_2 {R : Type} (k0 : Int → Option R) (k1 : Unit → Option R) (t : T_slices_Index_int_2) : Option R := iter (S_slices_Index_int_2 k0 k1) FUEL t
noncomputable def F_slices_Index_int (x : List E_i64 × Int) : Option (Int) :=
  L_slices_Index_int_2 (fun x1 => some x1) (fun x2 => some (-1 : Int)) (x.1, x.2, ((List.length x.1 : Nat) : Int), (0 : Int))
noncomputable def f282B : Code := match Tryz.f282.body with
  | some c => c
  | none => .skip
noncomputable def f282K : C.Sem := tab []
def f282h2_0 : List Sh := [.v (.sl 3 ts_i64), .v (.int .i64), .dead, .dead, .dead, .dead, .dead, .v (.int .i64), .v (.int .i64), .dead, .dead, .dead, .dead, .dead, .dead, .dead, .dead, .dead, .dead]
def f282o2_0 : List (Nat × OSh) := []
def f282e2_0 (t : List E_i64 × Int × Int × Int) : St := ⟨[.val (.sl 3 ts_i64) t.1, .val (.int .i64) t.2.1, .dead, .dead, .dead, .dead, .dead, .val (.int .i64) t.2.2.1, .val (.int .i64) t.2.2.2, .dead, .dead, .dead, .dead, .dead, .dead, .dead, .dead, .dead, .dead], []⟩
def f282x2_0 (t : Int) : St := ⟨[.dead, .dead, .dead, .dead, .val (.int .i64) t, .dead, .dead, .dead, .dead, .dead, .dead, .dead, .dead, .dead, .dead, .dead, .dead, .dead, .dead], []⟩
def f282x2_1 (t : Unit) : St := ⟨[.dead, .dead, .dead, .dead, .dead, .dead, .dead, .dead, .dead, .dead, .dead, .dead, .dead, .dead, .dead, .dead, .dead, .dead, .dead], []⟩
def f282u2_0 (s : St) : Option (List E_i64 × Int × Int × Int) := (unS f282h2_0 f282o2_0 s).map fun v => (v.1.1, v.1.2.1, v.1.2.2.2.2.2.2.2.1, v.1.2.2.2.2.2.2.2.2.1)
theorem f282un2_0 : ∀ (s : St) (t : List E_i64 × Int × Int × Int), f282u2_0 s = some t → f282e2_0 t = s := fun s v h => by
  obtain ⟨u, hu, rfl⟩ := Option.map_eq_some_iff.1 h
  exact (show f282e2_0 (u.1.1, u.1.2.1, u.1.2.2.2.2.2.2.2.1, u.1.2.2.2.2.2.2.2.2.1) = mkS f282h2_0 f282o2_0 u by kernel_rfl).trans (mkS_un f282h2_0 f282o2_0 s u hu)
def f282u2 : St → Option (List E_i64 × Int × Int × Int) := f282u2_0
def f282e2 : (List E_i64 × Int × Int × Int) → St := f282e2_0
theorem f282un2 : ∀ (s : St) (t : List E_i64 × Int × Int × Int), f282u2 s = some t → f282e2 t = s := f282un2_0
noncomputable def f282P : Lp := fun i s {_R} κ => bif Nat.beq i 2 then (f282u2 s).bind fun t => L_slices_Index_int_2 (fun t => κ (none) (f282x2_0 t)) (fun t => κ (some 0) (f282x2_1 t)) t else none
noncomputable def f282c2 : Code := (loopsOf f282B).getD 0 .skip
theorem f282A2 : C.live 282 (firstRegion f282c2) = some ([0, 1, 7, 8], [4]) := by kernel_rfl
theorem f282B2 {R : Type} (κ : Option Nat → St → Option R) (s : St) : f282P (firstRegion f282c2) s κ = (f282u2 s).bind fun t => iter (S_slices_Index_int_2 (fun t => κ (none) (f282x2_0 t)) (fun t => κ (some 0) (f282x2_1 t))) FUEL t := by kernel_rfl
theorem f282C2 {R : Type} (κ : Option Nat → St → Option R) (again : St → Option R) (t : T_slices_Index_int_2) : stepL C f282K f282P 282 f282c2 [0, 1, 7, 8] [4] κ again (f282e2 t) = S_slices_Index_int_2 (fun t => κ (none) (f282x2_0 t)) (fun t => κ (some 0) (f282x2_1 t)) (fun t => again (f282e2 t)) t := by kernel_rfl
theorem f282ok2 : LoopOk C f282K f282P 282 f282c2 := loop_ok f282A2 f282e2 f282u2 f282un2 (fun {_R} κ => S_slices_Index_int_2 (fun t => κ (none) (f282x2_0 t)) (fun t => κ (some 0) (f282x2_1 t))) (fun {_R} κ s => f282B2 κ s) (fun {_R} κ again t => f282C2 κ again t)
theorem k282 : Contract C Tryz.prog f282K := contract_tab _ (fun p hp => by cases hp)
theorem ev282 (x : List E_i64 × Int) : evalB C f282K f282P 282 Tryz.f282 f282B ⟨[.v false [(.sl 3 ts_i64)] [false], .v false [(.int .i64)] [false]], [⟨false, [(.int .i64)], [false]⟩], false⟩ [(.sl 3 ts_i64), (.int .i64)] [(.int .i64)] x = F_slices_Index_int x := by kernel_rfl
theorem ok282 : ContractAt C Tryz.prog 282 F_slices_Index_int := fn_sound (lp := f282P) tok mixed k282 (by kernel_rfl) (fn := Tryz.f282) (c := f282B) (sg := ⟨[.v false [(.sl 3 ts_i64)] [false], .v false [(.int .i64)] [false]], [⟨false, [(.int .i64)], [false]⟩], false⟩) Tryz.func282 (by decide) (by kernel_rfl) (by kernel_rfl) (by kernel_rfl) (fun c' hc' => by
    rw [show loopsOf f282B = [f282c2] by kernel_rfl] at hc'
    simp only [List.mem_cons, List.mem_nil_iff, or_false] at hc'
    rcases hc' with rfl
    · exact f282ok2) (by decide) (by decide) (fun x y h => (ev282 x).trans h)
noncomputable def F_slices_Contains_int (x : List E_i64 × Int) : Option (Bool) :=
  Option.bind (F_slices_Index_int (x.1, x.2)) fun r1 => some (decide (r1 ≥ (0 : Int)))
noncomputable def f268B : Code := match Tryz.f268.body with
  | some c => c
  | none => .skip
noncomputable def f268K : C.Sem := tab [⟨282, F_slices_Index_int⟩]
noncomputable def f268P : Lp := fun i s {_R} κ => none
theorem k268 : Contract C Tryz.prog f268K := contract_tab _ (fun p hp => by
    simp only [List.mem_cons, List.mem_nil_iff, or_false] at hp
    rcases hp with rfl
    · exact ok282)
theorem ev268 (x : List E_i64 × Int) : evalB C f268K f268P 268 Tryz.f268 f268B ⟨[.v false [(.sl 3 ts_i64)] [false], .v false [(.int .i64)] [false]], [⟨false, [.bool], [false]⟩], false⟩ [(.sl 3 ts_i64), (.int .i64)] [.bool] x = F_slices_Contains_int x := by kernel_rfl
theorem ok268 : ContractAt C Tryz.prog 268 F_slices_Contains_int := fn_sound (lp := f268P) tok mixed k268 (by kernel_rfl) (fn := Tryz.f268) (c := f268B) (sg := ⟨[.v false [(.sl 3 ts_i64)] [false], .v false [(.int .i64)] [false]], [⟨false, [.bool], [false]⟩], false⟩) Tryz.func268 (by decide) (by kernel_rfl) (by kernel_rfl) (by kernel_rfl) (fun c' hc' => by
    rw [show loopsOf f268B = [] by kernel_rfl] at hc'
    cases hc') (by decide) (by decide) (fun x y h => (ev268 x).trans h)
abbrev T_impl_seenOn_3 : Type := List E_i64 × Bool × Int × Int × Int × Int × Int × Int × Int × Int × Int × Int × Int × Int × List E_Key
noncomputable def S_impl_seenOn_3 {R : Type} (k0 : (Bool × Int × Int × Int × Int × Int × Int × Int × Int × Int × Int) → Option R) (again : T_impl_seenOn_3 → Option R) (t3 : T_impl_seenOn_3) : Option R :=
  bif (decide (t3.2.2.2.1 < t3.2.2.1)) then if (0 : Int) ≤ t3.2.2.2.1 then if t3.2.2.2.1 < ((List.length t3.2.2.2.2.2.2.2.2.2.2.2.2.2.2 : Nat) : Int) then Option.bind (F_slices_Contains_int (t3.1, (rd_Key t3.2.2.2.2.2.2.2.2.2.2.2.2.2.2 t3.2.2.2.1).2.1)) fun r2 => Option.bind (bif r2 then Option.bind (bif (!t3.2.1) then some true else some (decide ((rd_Key t3.2.2.2.2.2.2.2.2.2.2.2.2.2.2 t3.2.2.2.1).2.1 > t3.2.2.2.2.2.2.2.2.2.2.1))) fun u4 => some u4 else some false) fun u3 => bif u3 then again (t3.1, true, t3.2.2.1, (Go.IntKind.wrap .i64 (t3.2.2.2.1 + (1 : Int))), t3.2.2.2.2.1, t3.2.2.2.2.2.1, t3.2.2.2.2.2.2.1, t3.2.2.2.2.2.2.2.1, t3.2.2.2.2.2.2.2.2.1, (rd_Key t3.2.2.2.2.2.2.2.2.2.2.2.2.2.2 t3.2.2.2.1).1, (rd_Key t3.2.2.2.2.2.2.2.2.2.2.2.2.2.2 t3.2.2.2.1).2.1, (rd_Key t3.2.2.2.2.2.2.2.2.2.2.2.2.2.2 t3.2.2.2.1).2.2.1, (rd_Key t3.2.2.2.2.2.2.2.2.2.2.2.2.2.2 t3.2.2.2.1).2.2.2.1, (rd_Key t3.2.2.2.2.2.2.2.2.2.2.2.2.2.2 t3.2.2.2.1).2.2.2.2, t3.2.2.2.2.2.2.2.2.2.2.2.2.2.2) else again (t3.1, t3.2.1, t3.2.2.1, (Go.IntKind.wrap .i64 (t3.2.2.2.1 + (1 : Int))), t3.2.2.2.2.1, t3.2.2.2.2.2.1, t3.2.2.2.2.2.2.1, t3.2.2.2.2.2.2.2.1, t3.2.2.2.2.2.2.2.2.1, t3.2.2.2.2.2.2.2.2.2.1, t3.2.2.2.2.2.2.2.2.2.2.1, t3.2.2.2.2.2.2.2.2.2.2.2.1, t3.2.2.2.2.2.2.2.2.2.2.2.2.1, t3.2.2.2.2.2.2.2.2.2.2.2.2.2.1, t3.2.2.2.2.2.2.2.2.2.2.2.2.2.2) else none else none else k0 (t3.2.1, t3.2.2.2.2.1, t3.2.2.2.2.2.1, t3.2.2.2.2.2.2.1, t3.2.2.2.2.2.2.2.1, t3.2.2.2.2.2.2.2.2.1, t3.2.2.2.2.2.2.2.2.2.1, t3.2.2.2.2.2.2.2.2.2.2.1, t3.2.2.2.2.2.2.2.2.2.2.2.1, t3.2.2.2.2.2.2.2.2.2.2.2.2.1, t3.2.2.2.2.2.2.2.2.2.2.2.2.2.1)
noncomputable def L_impl_seenOn_3 {R : Type} (k0 : (Bool × Int × Int × Int × Int × Int × Int × Int × Int × Int × Int) → Option R) (t : T_impl_seenOn_3) : Option R := iter (S_impl_seenOn_3 k0) FUEL t
noncomputable def F_impl_seenOn (x : List E_i64 × List E_Node × Int × List E_i64) : Option (Int × Int × Int × Int × Int × Bool) :=
  Option.bind (F_impl_KeysOf (x.1, x.2.1, x.2.2.1)) fun r1 => L_impl_seenOn_3 (fun x5 => some (x5.2.2.2.2.2.2.1, x5.2.2.2.2.2.2.2.1, x5.2.2.2.2.2.2.2.2.1, x5.2.2.2.2.2.2.2.2.2.1, x5.2.2.2.2.2.2.2.2.2.2, x5.1)) (x.2.2.2, false, ((List.length r1 : Nat) : Int), (0 : Int), (0 : Int), (0 : Int), (0 : Int), (0 : Int), (0 : Int), (0 : Int), (0 : Int), (0 : Int), (0 : Int), (0 : Int), r1)
noncomputable def f241B : Code := match Tryz.f241.body with
  | some c => c
  | none => .skip
noncomputable def f241K : C.Sem := tab [⟨267, F_impl_KeysOf⟩, ⟨268, F_slices_Contains_int⟩]
def f241h3_0 : List Sh := [.dead, .dead, .v (.sl 3 ts_i64), .dead, .dead, .dead, .box 6 0, .dead, .box 8 0, .v .bool, .dead, .dead, .dead, .dead, .dead, .own 10000000, .v (.int .i64), .v (.int .i64), .dead, .dead, .dead, .dead, .dead, .dead, .dead, .dead, .dead, .dead, .dead, .dead, .dead, .dead, .dead, .dead, .dead, .dead, .dead, .dead, .dead, .dead]
def f241o3_0 : List (Nat × OSh) := [(6, .box [.v (.int .i64), .v (.int .i64), .v (.int .i64), .v (.int .i64), .v (.int .i64)]), (8, .box [.v (.int .i64), .v (.int .i64), .v (.int .i64), .v (.int .i64), .v (.int .i64)]), (10000000, .root true 105 ts_Key)]
def f241e3_0 (t : List E_i64 × Bool × Int × Int × Int × Int × Int × Int × Int × Int × Int × Int × Int × Int × List E_Key) : St := ⟨[.dead, .dead, .val (.sl 3 ts_i64) t.1, .dead, .dead, .dead, .box 6 0, .dead, .box 8 0, .val .bool t.2.1, .dead, .dead, .dead, .dead, .dead, .own 10000000, .val (.int .i64) t.2.2.1, .val (.int .i64) t.2.2.2.1, .dead, .dead, .dead, .dead, .dead, .dead, .dead, .dead, .dead, .dead, .dead, .dead, .dead, .dead, .dead, .dead, .dead, .dead, .dead, .dead, .dead, .dead], [(6, .box [.val (.int .i64) t.2.2.2.2.1, .val (.int .i64) t.2.2.2.2.2.1, .val (.int .i64) t.2.2.2.2.2.2.1, .val (.int .i64) t.2.2.2.2.2.2.2.1, .val (.int .i64) t.2.2.2.2.2.2.2.2.1]), (8, .box [.val (.int .i64) t.2.2.2.2.2.2.2.2.2.1, .val (.int .i64) t.2.2.2.2.2.2.2.2.2.2.1, .val (.int .i64) t.2.2.2.2.2.2.2.2.2.2.2.1, .val (.int .i64) t.2.2.2.2.2.2.2.2.2.2.2.2.1, .val (.int .i64) t.2.2.2.2.2.2.2.2.2.2.2.2.2.1]), (10000000, .root true 105 ts_Key t.2.2.2.2.2.2.2.2.2.2.2.2.2.2)]⟩
def f241x3_0 (t : Bool × Int × Int × Int × Int × Int × Int × Int × Int × Int × Int) : St := ⟨[.dead, .dead, .dead, .dead, .dead, .dead, .box 6 0, .dead, .box 8 0, .val .bool t.1, .dead, .dead, .dead, .dead, .dead, .dead, .dead, .dead, .dead, .dead, .dead, .dead, .dead, .dead, .dead, .dead, .dead, .dead, .dead, .dead, .dead, .dead, .dead, .dead, .dead, .dead, .dead, .dead, .dead, .dead], [(6, .box [.val (.int .i64) t.2.1, .val (.int .i64) t.2.2.1, .val (.int .i64) t.2.2.2.1, .val (.int .i64) t.2.2.2.2.1, .val (.int .i64) t.2.2.2.2.2.1]), (8, .box [.val (.int .i64) t.2.2.2.2.2.2.1, .val (.int .i64) t.2.2.2.2.2.2.2.1, .val (.int .i64) t.2.2.2.2.2.2.2.2.1, .val (.int .i64) t.2.2.2.2.2.2.2.2.2.1, .val (.int .i64) t.2.2.2.2.2.2.2.2.2.2])]⟩
def f241u3_0 (s : St) : Option (List E_i64 × Bool × Int × Int × Int × Int × Int × Int × Int × Int × Int × Int × Int × Int × List E_Key) := (unS f241h3_0 f241o3_0 s).map fun v => (v.1.2.2.1, v.1.2.2.2.2.2.2.2.2.2.1, v.1.2.2.2.2.2.2.2.2.2.2.2.2.2.2.2.2.1, v.1.2.2.2.2.2.2.2.2.2.2.2.2.2.2.2.2.2.1, v.2.1.1, v.2.1.2.1, v.2.1.2.2.1, v.2.1.2.2.2.1, v.2.1.2.2.2.2.1, v.2.2.1.1, v.2.2.1.2.1, v.2.2.1.2.2.1, v.2.2.1.2.2.2.1, v.2.2.1.2.2.2.2.1, v.2.2.2.1)
theorem f241un3_0 : ∀ (s : St) (t : List E_i64 × Bool × Int × Int × Int × Int × Int × Int × Int × Int × Int × Int × Int × Int × List E_Key), f241u3_0 s = some t → f241e3_0 t = s := fun s v h => by
  obtain ⟨u, hu, rfl⟩ := Option.map_eq_some_iff.1 h
  exact (show f241e3_0 (u.1.2.2.1, u.1.2.2.2.2.2.2.2.2.2.1, u.1.2.2.2.2.2.2.2.2.2.2.2.2.2.2.2.2.1, u.1.2.2.2.2.2.2.2.2.2.2.2.2.2.2.2.2.2.1, u.2.1.1, u.2.1.2.1, u.2.1.2.2.1, u.2.1.2.2.2.1, u.2.1.2.2.2.2.1, u.2.2.1.1, u.2.2.1.2.1, u.2.2.1.2.2.1, u.2.2.1.2.2.2.1, u.2.2.1.2.2.2.2.1, u.2.2.2.1) = mkS f241h3_0 f241o3_0 u by kernel_rfl).trans (mkS_un f241h3_0 f241o3_0 s u hu)
def f241u3 : St → Option (List E_i64 × Bool × Int × Int × Int × Int × Int × Int × Int × Int × Int × Int × Int × Int × List E_Key) := f241u3_0
def f241e3 : (List E_i64 × Bool × Int × Int × Int × Int × Int × Int × Int × Int × Int × Int × Int × Int × List E_Key) → St := f241e3_0
theorem f241un3 : ∀ (s : St) (t : List E_i64 × Bool × Int × Int × Int × Int × Int × Int × Int × Int × Int × Int × Int × Int × List E_Key), f241u3 s = some t → f241e3 t = s := f241un3_0
noncomputable def f241P : Lp := fun i s {_R} κ => bif Nat.beq i 3 then (f241u3 s).bind fun t => L_impl_seenOn_3 (fun t => κ (some 0) (f241x3_0 t)) t else none
noncomputable def f241c3 : Code := (loopsOf f241B).getD 0 .skip
theorem f241A3 : C.live 241 (firstRegion f241c3) = some ([2, 6, 8, 9, 15, 16, 17, 26, 27, 28, 29, 30, 31, 32, 33, 34], [6, 8, 9]) := by kernel_rfl
theorem f241B3 {R : Type} (κ : Option Nat → St → Option R) (s : St) : f241P (firstRegion f241c3) s κ = (f241u3 s).bind fun t => iter (S_impl_seenOn_3 (fun t => κ (some 0) (f241x3_0 t))) FUEL t := by kernel_rfl
theorem f241C3 {R : Type} (κ : Option Nat → St → Option R) (again : St → Option R) (t : T_impl_seenOn_3) : stepL C f241K f241P 241 f241c3 [2, 6, 8, 9, 15, 16, 17, 26, 27, 28, 29, 30, 31, 32, 33, 34] [6, 8, 9] κ again (f241e3 t) = S_impl_seenOn_3 (fun t => κ (some 0) (f241x3_0 t)) (fun t => again (f241e3 t)) t := by kernel_rfl
theorem f241ok3 : LoopOk C f241K f241P 241 f241c3 := loop_ok f241A3 f241e3 f241u3 f241un3 (fun {_R} κ => S_impl_seenOn_3 (fun t => κ (some 0) (f241x3_0 t))) (fun {_R} κ s => f241B3 κ s) (fun {_R} κ again t => f241C3 κ again t)
theorem k241 : Contract C Tryz.prog f241K := contract_tab _ (fun p hp => by
    simp only [List.mem_cons, List.mem_nil_iff, or_false] at hp
    rcases hp with rfl | rfl
    · exact ok267
    · exact ok268)
theorem ev241 (x : List E_i64 × List E_Node × Int × List E_i64) : evalB C f241K f241P 241 Tryz.f241 f241B ⟨[.v true [(.sl 3 ts_i64), (.sl 97 ts_Node)] [false, false], .v false [(.int .i64)] [false], .v false [(.sl 3 ts_i64)] [false]], [⟨true, [(.int .i64), (.int .i64), (.int .i64), (.int .i64), (.int .i64)], [false, false, false, false, false]⟩, ⟨false, [.bool], [false]⟩], false⟩ [(.sl 3 ts_i64), (.sl 97 ts_Node), (.int .i64), (.sl 3 ts_i64)] [(.int .i64), (.int .i64), (.int .i64), (.int .i64), (.int .i64), .bool] x = F_impl_seenOn x := by kernel_rfl
theorem ok241 : ContractAt C Tryz.prog 241 F_impl_seenOn := fn_sound (lp := f241P) tok mixed k241 (by kernel_rfl) (fn := Tryz.f241) (c := f241B) (sg := ⟨[.v true [(.sl 3 ts_i64), (.sl 97 ts_Node)] [false, false], .v false [(.int .i64)] [false], .v false [(.sl 3 ts_i64)] [false]], [⟨true, [(.int .i64), (.int .i64), (.int .i64), (.int .i64), (.int .i64)], [false, false, false, false, false]⟩, ⟨false, [.bool], [false]⟩], false⟩) Tryz.func241 (by decide) (by kernel_rfl) (by kernel_rfl) (by kernel_rfl) (fun c' hc' => by
    rw [show loopsOf f241B = [f241c3] by kernel_rfl] at hc'
    simp only [List.mem_cons, List.mem_nil_iff, or_false] at hc'
    rcases hc' with rfl
    · exact f241ok3) (by decide) (by decide) (fun x y h => (ev241 x).trans h)
noncomputable def F_impl_Seen (x : List E_i64 × List E_Node × List E_Age × Int × Int) : Option (Int × Int × Int × Int × Int × Bool) :=
  Option.bind (F_impl_PathOf (x.2.2.1, x.2.2.2.2)) fun r1 => Option.bind (F_impl_seenOn (x.1, x.2.1, x.2.2.2.1, r1)) fun r2 => some (r2.1, r2.2.1, r2.2.2.1, r2.2.2.2.1, r2.2.2.2.2.1, r2.2.2.2.2.2)
noncomputable def f244B : Code := match Tryz.f244.body with
  | some c => c
  | none => .skip
noncomputable def f244K : C.Sem := tab [⟨240, F_impl_PathOf⟩, ⟨241, F_impl_seenOn⟩]
noncomputable def f244P : Lp := fun i s {_R} κ => none
theorem k244 : Contract C Tryz.prog f244K := contract_tab _ (fun p hp => by
    simp only [List.mem_cons, List.mem_nil_iff, or_false] at hp
    rcases hp with rfl | rfl
    · exact ok240
    · exact ok241)
theorem ev244 (x : List E_i64 × List E_Node × List E_Age × Int × Int) : evalB C f244K f244P 244 Tryz.f244 f244B ⟨[.v true [(.sl 3 ts_i64), (.sl 97 ts_Node)] [false, false], .v false [(.sl 88 ts_Age)] [false], .v false [(.int .i64)] [false], .v false [(.int .i64)] [false]], [⟨true, [(.int .i64), (.int .i64), (.int .i64), (.int .i64), (.int .i64)], [false, false, false, false, false]⟩, ⟨false, [.bool], [false]⟩], false⟩ [(.sl 3 ts_i64), (.sl 97 ts_Node), (.sl 88 ts_Age), (.int .i64), (.int .i64)] [(.int .i64), (.int .i64), (.int .i64), (.int .i64), (.int .i64), .bool] x = F_impl_Seen x := by kernel_rfl
theorem ok244 : ContractAt C Tryz.prog 244 F_impl_Seen := fn_sound (lp := f244P) tok mixed k244 (by kernel_rfl) (fn := Tryz.f244) (c := f244B) (sg := ⟨[.v true [(.sl 3 ts_i64), (.sl 97 ts_Node)] [false, false], .v false [(.sl 88 ts_Age)] [false], .v false [(.int .i64)] [false], .v false [(.int .i64)] [false]], [⟨true, [(.int .i64), (.int .i64), (.int .i64), (.int .i64), (.int .i64)], [false, false, false, false, false]⟩, ⟨false, [.bool], [false]⟩], false⟩) Tryz.func244 (by decide) (by kernel_rfl) (by kernel_rfl) (by kernel_rfl) (fun c' hc' => by
    rw [show loopsOf f244B = [] by kernel_rfl] at hc'
    cases hc') (by decide) (by decide) (fun x y h => (ev244 x).trans h)
noncomputable def F_impl_Sees (x : List E_i64 × List E_Node × List E_Age × Int × Int × Int × Int × Int × Int) : Option (Bool) :=
  Option.bind (F_impl_Seen (x.1, x.2.1, x.2.2.1, x.2.2.2.1, x.2.2.2.2.2.2.2.2)) fun r1 => Option.bind (bif r1.2.2.2.2.2 then some (r1.2.1 == x.2.2.2.2.1) else some false) fun u2 => some u2
noncomputable def f207B : Code := match Tryz.f207.body with
  | some c => c
  | none => .skip
noncomputable def f207K : C.Sem := tab [⟨244, F_impl_Seen⟩]
noncomputable def f207P : Lp := fun i s {_R} κ => none
theorem k207 : Contract C Tryz.prog f207K := contract_tab _ (fun p hp => by
    simp only [List.mem_cons, List.mem_nil_iff, or_false] at hp
    rcases hp with rfl
    · exact ok244)
theorem ev207 (x : List E_i64 × List E_Node × List E_Age × Int × Int × Int × Int × Int × Int) : evalB C f207K f207P 207 Tryz.f207 f207B ⟨[.v true [(.sl 3 ts_i64), (.sl 97 ts_Node)] [false, false], .v false [(.sl 88 ts_Age)] [false], .v true [(.int .i64), (.int .i64), (.int .i64), (.int .i64), (.int .i64)] [false, false, false, false, false], .v false [(.int .i64)] [false]], [⟨false, [.bool], [false]⟩], false⟩ [(.sl 3 ts_i64), (.sl 97 ts_Node), (.sl 88 ts_Age), (.int .i64), (.int .i64), (.int .i64), (.int .i64), (.int .i64), (.int .i64)] [.bool] x = F_impl_Sees x := by kernel_rfl
theorem ok207 : ContractAt C Tryz.prog 207 F_impl_Sees := fn_sound (lp := f207P) tok mixed k207 (by kernel_rfl) (fn := Tryz.f207) (c := f207B) (sg := ⟨[.v true [(.sl 3 ts_i64), (.sl 97 ts_Node)] [false, false], .v false [(.sl 88 ts_Age)] [false], .v true [(.int .i64), (.int .i64), (.int .i64), (.int .i64), (.int .i64)] [false, false, false, false, false], .v false [(.int .i64)] [false]], [⟨false, [.bool], [false]⟩], false⟩) Tryz.func207 (by decide) (by kernel_rfl) (by kernel_rfl) (by kernel_rfl) (fun c' hc' => by
    rw [show loopsOf f207B = [] by kernel_rfl] at hc'
    cases hc') (by decide) (by decide) (fun x y h => (ev207 x).trans h)
abbrev T_impl_SeenByAny_2 : Type := List E_Vol × Int × Int × List E_i64 × List E_Node × List E_Age × List E_Cell × List E_Vol × Int × Int × Int × Int × Int × Int
noncomputable def S_impl_SeenByAny_2 {R : Type} (k0 : Bool → Option R) (k1 : Unit → Option R) (again : T_impl_SeenByAny_2 → Option R) (t2 : T_impl_SeenByAny_2) : Option R :=
  bif (decide (t2.2.2.1 < t2.2.1)) then if (0 : Int) ≤ t2.2.2.1 then if t2.2.2.1 < ((List.length t2.1 : Nat) : Int) then Option.bind (bif (decide ((rd_Vol t2.1 t2.2.2.1).2.2.1 > t2.2.2.2.2.2.2.2.2.2.1)) then Option.bind (F_impl_Sees (t2.2.2.2.1, t2.2.2.2.2.1, t2.2.2.2.2.2.1, t2.2.2.2.2.2.2.2.2.2.1, t2.2.2.2.2.2.2.2.2.2.2.1, t2.2.2.2.2.2.2.2.2.2.2.2.1, t2.2.2.2.2.2.2.2.2.2.2.2.2.1, t2.2.2.2.2.2.2.2.2.2.2.2.2.2, (rd_Vol t2.1 t2.2.2.1).2.1)) fun r2 => some r2 else some false) fun u1 => bif u1 then k0 true else again (t2.1, t2.2.1, (Go.IntKind.wrap .i64 (t2.2.2.1 + (1 : Int))), t2.2.2.2.1, t2.2.2.2.2.1, t2.2.2.2.2.2.1, t2.2.2.2.2.2.2.1, t2.2.2.2.2.2.2.2.1, t2.2.2.2.2.2.2.2.2.1, t2.2.2.2.2.2.2.2.2.2.1, t2.2.2.2.2.2.2.2.2.2.2.1, t2.2.2.2.2.2.2.2.2.2.2.2.1, t2.2.2.2.2.2.2.2.2.2.2.2.2.1, t2.2.2.2.2.2.2.2.2.2.2.2.2.2) else none else none else k1 ()
noncomputable def L_impl_SeenByAny_2 {R : Type} (k0 : Bool → Option R) (k1 : Unit → Option R) (t : T_impl_SeenByAny_2) : Option R := iter (S_impl_SeenByAny_2 k0 k1) FUEL t
noncomputable def F_impl_SeenByAny (x : List E_i64 × List E_Node × List E_Age × List E_Cell × List E_Vol × Int × Int × Int × Int × Int × Int) : Option (Bool) :=
  L_impl_SeenByAny_2 (fun x3 => some x3) (fun x4 => some false) (x.2.2.2.2.1, ((List.length x.2.2.2.2.1 : Nat) : Int), (0 : Int), x.1, x.2.1, x.2.2.1, x.2.2.2.1, x.2.2.2.2.1, x.2.2.2.2.2.1, x.2.2.2.2.2.2.1, x.2.2.2.2.2.2.2.1, x.2.2.2.2.2.2.2.2.1, x.2.2.2.2.2.2.2.2.2.1, x.2.2.2.2.2.2.2.2.2.2)
noncomputable def f165B : Code := match Tryz.f165.body with
  | some c => c
  | none => .skip
noncomputable def f165K : C.Sem := tab [⟨207, F_impl_Sees⟩]
def f165h2_0 : List Sh := [.dead, .dead, .box 2 0, .box 3 0, .dead, .dead, .dead, .dead, .v (.sl 90 ts_Vol), .v (.int .i64), .v (.int .i64), .dead, .dead, .dead, .dead, .dead, .dead, .dead, .dead, .dead, .dead, .dead, .dead, .dead, .dead, .dead, .dead, .dead, .dead, .dead]
def f165o2_0 : List (Nat × OSh) := [(2, .box [.v (.sl 3 ts_i64), .v (.sl 97 ts_Node), .v (.sl 88 ts_Age), .v (.sl 94 ts_Cell), .v (.sl 90 ts_Vol), .v (.int .i64)]), (3, .box [.v (.int .i64), .v (.int .i64), .v (.int .i64), .v (.int .i64), .v (.int .i64)])]
def f165e2_0 (t : List E_Vol × Int × Int × List E_i64 × List E_Node × List E_Age × List E_Cell × List E_Vol × Int × Int × Int × Int × Int × Int) : St := ⟨[.dead, .dead, .box 2 0, .box 3 0, .dead, .dead, .dead, .dead, .val (.sl 90 ts_Vol) t.1, .val (.int .i64) t.2.1, .val (.int .i64) t.2.2.1, .dead, .dead, .dead, .dead, .dead, .dead, .dead, .dead, .dead, .dead, .dead, .dead, .dead, .dead, .dead, .dead, .dead, .dead, .dead], [(2, .box [.val (.sl 3 ts_i64) t.2.2.2.1, .val (.sl 97 ts_Node) t.2.2.2.2.1, .val (.sl 88 ts_Age) t.2.2.2.2.2.1, .val (.sl 94 ts_Cell) t.2.2.2.2.2.2.1, .val (.sl 90 ts_Vol) t.2.2.2.2.2.2.2.1, .val (.int .i64) t.2.2.2.2.2.2.2.2.1]), (3, .box [.val (.int .i64) t.2.2.2.2.2.2.2.2.2.1, .val (.int .i64) t.2.2.2.2.2.2.2.2.2.2.1, .val (.int .i64) t.2.2.2.2.2.2.2.2.2.2.2.1, .val (.int .i64) t.2.2.2.2.2.2.2.2.2.2.2.2.1, .val (.int .i64) t.2.2.2.2.2.2.2.2.2.2.2.2.2])]⟩
def f165x2_0 (t : Bool) : St := ⟨[.dead, .dead, .dead, .dead, .val .bool t, .dead, .dead, .dead, .dead, .dead, .dead, .dead, .dead, .dead, .dead, .dead, .dead, .dead, .dead, .dead, .dead, .dead, .dead, .dead, .dead, .dead, .dead, .dead, .dead, .dead], []⟩
def f165x2_1 (t : Unit) : St := ⟨[.dead, .dead, .dead, .dead, .dead, .dead, .dead, .dead, .dead, .dead, .dead, .dead, .dead, .dead, .dead, .dead, .dead, .dead, .dead, .dead, .dead, .dead, .dead, .dead, .dead, .dead, .dead, .dead, .dead, .dead], []⟩
def f165u2_0 (s : St) : Option (List E_Vol × Int × Int × List E_i64 × List E_Node × List E_Age × List E_Cell × List E_Vol × Int × Int × Int × Int × Int × Int) := (unS f165h2_0 f165o2_0 s).map fun v => (v.1.2.2.2.2.2.2.2.2.1, v.1.2.2.2.2.2.2.2.2.2.1, v.1.2.2.2.2.2.2.2.2.2.2.1, v.2.1.1, v.2.1.2.1, v.2.1.2.2.1, v.2.1.2.2.2.1, v.2.1.2.2.2.2.1, v.2.1.2.2.2.2.2.1, v.2.2.1.1, v.2.2.1.2.1, v.2.2.1.2.2.1, v.2.2.1.2.2.2.1, v.2.2.1.2.2.2.2.1)
theorem f165un2_0 : ∀ (s : St) (t : List E_Vol × Int × Int × List E_i64 × List E_Node × List E_Age × List E_Cell × List E_Vol × Int × Int × Int × Int × Int × Int), f165u2_0 s = some t → f165e2_0 t = s := fun s v h => by
  obtain ⟨u, hu, rfl⟩ := Option.map_eq_some_iff.1 h
  exact (show f165e2_0 (u.1.2.2.2.2.2.2.2.2.1, u.1.2.2.2.2.2.2.2.2.2.1, u.1.2.2.2.2.2.2.2.2.2.2.1, u.2.1.1, u.2.1.2.1, u.2.1.2.2.1, u.2.1.2.2.2.1, u.2.1.2.2.2.2.1, u.2.1.2.2.2.2.2.1, u.2.2.1.1, u.2.2.1.2.1, u.2.2.1.2.2.1, u.2.2.1.2.2.2.1, u.2.2.1.2.2.2.2.1) = mkS f165h2_0 f165o2_0 u by kernel_rfl).trans (mkS_un f165h2_0 f165o2_0 s u hu)
def f165u2 : St → Option (List E_Vol × Int × Int × List E_i64 × List E_Node × List E_Age × List E_Cell × List E_Vol × Int × Int × Int × Int × Int × Int) := f165u2_0
def f165e2 : (List E_Vol × Int × Int × List E_i64 × List E_Node × List E_Age × List E_Cell × List E_Vol × Int × Int × Int × Int × Int × Int) → St := f165e2_0
theorem f165un2 : ∀ (s : St) (t : List E_Vol × Int × Int × List E_i64 × List E_Node × List E_Age × List E_Cell × List E_Vol × Int × Int × Int × Int × Int × Int), f165u2 s = some t → f165e2 t = s := f165un2_0
noncomputable def f165P : Lp := fun i s {_R} κ => bif Nat.beq i 2 then (f165u2 s).bind fun t => L_impl_SeenByAny_2 (fun t => κ (none) (f165x2_0 t)) (fun t => κ (some 0) (f165x2_1 t)) t else none
noncomputable def f165c2 : Code := (loopsOf f165B).getD 0 .skip
theorem f165A2 : C.live 165 (firstRegion f165c2) = some ([2, 3, 8, 9, 10, 20, 21, 22, 23, 24, 25, 26, 27], [4]) := by kernel_rfl
theorem f165B2 {R : Type} (κ : Option Nat → St → Option R) (s : St) : f165P (firstRegion f165c2) s κ = (f165u2 s).bind fun t => iter (S_impl_SeenByAny_2 (fun t => κ (none) (f165x2_0 t)) (fun t => κ (some 0) (f165x2_1 t))) FUEL t := by kernel_rfl
theorem f165C2 {R : Type} (κ : Option Nat → St → Option R) (again : St → Option R) (t : T_impl_SeenByAny_2) : stepL C f165K f165P 165 f165c2 [2, 3, 8, 9, 10, 20, 21, 22, 23, 24, 25, 26, 27] [4] κ again (f165e2 t) = S_impl_SeenByAny_2 (fun t => κ (none) (f165x2_0 t)) (fun t => κ (some 0) (f165x2_1 t)) (fun t => again (f165e2 t)) t := by kernel_rfl
theorem f165ok2 : LoopOk C f165K f165P 165 f165c2 := loop_ok f165A2 f165e2 f165u2 f165un2 (fun {_R} κ => S_impl_SeenByAny_2 (fun t => κ (none) (f165x2_0 t)) (fun t => κ (some 0) (f165x2_1 t))) (fun {_R} κ s => f165B2 κ s) (fun {_R} κ again t => f165C2 κ again t)
theorem k165 : Contract C Tryz.prog f165K := contract_tab _ (fun p hp => by
    simp only [List.mem_cons, List.mem_nil_iff, or_false] at hp
    rcases hp with rfl
    · exact ok207)
theorem ev165 (x : List E_i64 × List E_Node × List E_Age × List E_Cell × List E_Vol × Int × Int × Int × Int × Int × Int) : evalB C f165K f165P 165 Tryz.f165 f165B ⟨[.v true [(.sl 3 ts_i64), (.sl 97 ts_Node), (.sl 88 ts_Age), (.sl 94 ts_Cell), (.sl 90 ts_Vol), (.int .i64)] [false, false, false, false, false, false], .v true [(.int .i64), (.int .i64), (.int .i64), (.int .i64), (.int .i64)] [false, false, false, false, false]], [⟨false, [.bool], [false]⟩], false⟩ [(.sl 3 ts_i64), (.sl 97 ts_Node), (.sl 88 ts_Age), (.sl 94 ts_Cell), (.sl 90 ts_Vol), (.int .i64), (.int .i64), (.int .i64), (.int .i64), (.int .i64), (.int .i64)] [.bool] x = F_impl_SeenByAny x := by kernel_rfl
theorem ok165 : ContractAt C Tryz.prog 165 F_impl_SeenByAny := fn_sound (lp := f165P) tok mixed k165 (by kernel_rfl) (fn := Tryz.f165) (c := f165B) (sg := ⟨[.v true [(.sl 3 ts_i64), (.sl 97 ts_Node), (.sl 88 ts_Age), (.sl 94 ts_Cell), (.sl 90 ts_Vol), (.int .i64)] [false, false, false, false, false, false], .v true [(.int .i64), (.int .i64), (.int .i64), (.int .i64), (.int .i64)] [false, false, false, false, false]], [⟨false, [.bool], [false]⟩], false⟩) Tryz.func165 (by decide) (by kernel_rfl) (by kernel_rfl) (by kernel_rfl) (fun c' hc' => by
    rw [show loopsOf f165B = [f165c2] by kernel_rfl] at hc'
    simp only [List.mem_cons, List.mem_nil_iff, or_false] at hc'
    rcases hc' with rfl
    · exact f165ok2) (by decide) (by decide) (fun x y h => (ev165 x).trans h)
noncomputable def F_impl_SeenAbove (x : List E_i64 × List E_Node × List E_Age × Int × Int) : Option (Int × Int × Int × Int × Int × Bool) :=
  Option.bind (F_impl_PathOf (x.2.2.1, x.2.2.2.2)) fun r1 => if (0 : Int) ≤ (if ((List.length r1 : Nat) : Int) < (1 : Int) then ((List.length r1 : Nat) : Int) else (1 : Int)) then if (if ((List.length r1 : Nat) : Int) < (1 : Int) then ((List.length r1 : Nat) : Int) else (1 : Int)) ≤ ((List.length r1 : Nat) : Int) then if ((List.length r1 : Nat) : Int) ≤ ((List.length r1 : Nat) : Int) then Option.bind (F_impl_seenOn (x.1, x.2.1, x.2.2.2.1, (List.drop (Int.toNat (if ((List.length r1 : Nat) : Int) < (1 : Int) then ((List.length r1 : Nat) : Int) else (1 : Int))) (List.take (Int.toNat ((List.length r1 : Nat) : Int)) r1)))) fun r2 => some (r2.1, r2.2.1, r2.2.2.1, r2.2.2.2.1, r2.2.2.2.2.1, r2.2.2.2.2.2) else none else none else none
noncomputable def f204B : Code := match Tryz.f204.body with
  | some c => c
  | none => .skip
noncomputable def f204K : C.Sem := tab [⟨240, F_impl_PathOf⟩, ⟨241, F_impl_seenOn⟩]
noncomputable def f204P : Lp := fun i s {_R} κ => none
theorem k204 : Contract C Tryz.prog f204K := contract_tab _ (fun p hp => by
    simp only [List.mem_cons, List.mem_nil_iff, or_false] at hp
    rcases hp with rfl | rfl
    · exact ok240
    · exact ok241)
theorem ev204 (x : List E_i64 × List E_Node × List E_Age × Int × Int) : evalB C f204K f204P 204 Tryz.f204 f204B ⟨[.v true [(.sl 3 ts_i64), (.sl 97 ts_Node)] [false, false], .v false [(.sl 88 ts_Age)] [false], .v false [(.int .i64)] [false], .v false [(.int .i64)] [false]], [⟨true, [(.int .i64), (.int .i64), (.int .i64), (.int .i64), (.int .i64)], [false, false, false, false, false]⟩, ⟨false, [.bool], [false]⟩], false⟩ [(.sl 3 ts_i64), (.sl 97 ts_Node), (.sl 88 ts_Age), (.int .i64), (.int .i64)] [(.int .i64), (.int .i64), (.int .i64), (.int .i64), (.int .i64), .bool] x = F_impl_SeenAbove x := by kernel_rfl
theorem ok204 : ContractAt C Tryz.prog 204 F_impl_SeenAbove := fn_sound (lp := f204P) tok mixed k204 (by kernel_rfl) (fn := Tryz.f204) (c := f204B) (sg := ⟨[.v true [(.sl 3 ts_i64), (.sl 97 ts_Node)] [false, false], .v false [(.sl 88 ts_Age)] [false], .v false [(.int .i64)] [false], .v false [(.int .i64)] [false]], [⟨true, [(.int .i64), (.int .i64), (.int .i64), (.int .i64), (.int .i64)], [false, false, false, false, false]⟩, ⟨false, [.bool], [false]⟩], false⟩) Tryz.func204 (by decide) (by kernel_rfl) (by kernel_rfl) (by kernel_rfl) (fun c' hc' => by
    rw [show loopsOf f204B = [] by kernel_rfl] at hc'
    cases hc') (by decide) (by decide) (fun x y h => (ev204 x).trans h)
abbrev T_impl_WhereIn_2 : Type := Int × Int × Int × List E_i64 × List E_Node
noncomputable def S_impl_WhereIn_2 {R : Type} (k0 : Int → Option R) (k1 : Unit → Option R) (again : T_impl_WhereIn_2 → Option R) (t2 : T_impl_WhereIn_2) : Option R :=
  bif (decide (t2.2.2.1 ≥ (0 : Int))) then if (0 : Int) ≤ t2.2.2.1 then if t2.2.2.1 < ((List.length t2.2.2.2.1 : Nat) : Int) then Option.bind (F_impl_SpotOf (t2.1, t2.2.1)) fun r1 => bif (decide ((rd_i64 t2.2.2.2.1 t2.2.2.1) ≤ r1)) then k0 t2.2.2.1 else again (t2.1, t2.2.1, (Go.IntKind.wrap .i64 (t2.2.2.1 - (1 : Int))), t2.2.2.2.1, t2.2.2.2.2) else none else none else k1 ()
noncomputable def L_impl_WhereIn_2 {R : Type} (k0 : Int → Option R) (k1 : Unit → Option R) (t : T_impl_WhereIn_2) : Option R := iter (S_impl_WhereIn_2 k0 k1) FUEL t
noncomputable def F_impl_WhereIn (x : List E_i64 × List E_Node × Int × Int) : Option (Int) :=
  L_impl_WhereIn_2 (fun x2 => some x2) (fun x3 => some (-1 : Int)) (x.2.2.1, x.2.2.2, (Go.IntKind.wrap .i64 (((List.length x.1 : Nat) : Int) - (1 : Int))), x.1, x.2.1)
noncomputable def f242B : Code := match Tryz.f242.body with
  | some c => c
  | none => .skip
noncomputable def f242K : C.Sem := tab [⟨226, F_impl_SpotOf⟩]
def f242h2_0 : List Sh := [.dead, .v (.int .i64), .v (.int .i64), .box 3 0, .dead, .dead, .dead, .v (.int .i64), .dead, .dead, .dead, .dead, .dead, .dead, .dead, .dead, .dead, .dead, .dead, .dead, .dead, .dead, .dead, .dead, .dead, .dead]
def f242o2_0 : List (Nat × OSh) := [(3, .box [.v (.sl 3 ts_i64), .v (.sl 97 ts_Node)])]
def f242e2_0 (t : Int × Int × Int × List E_i64 × List E_Node) : St := ⟨[.dead, .val (.int .i64) t.1, .val (.int .i64) t.2.1, .box 3 0, .dead, .dead, .dead, .val (.int .i64) t.2.2.1, .dead, .dead, .dead, .dead, .dead, .dead, .dead, .dead, .dead, .dead, .dead, .dead, .dead, .dead, .dead, .dead, .dead, .dead], [(3, .box [.val (.sl 3 ts_i64) t.2.2.2.1, .val (.sl 97 ts_Node) t.2.2.2.2])]⟩
def f242x2_0 (t : Int) : St := ⟨[.dead, .dead, .dead, .dead, .dead, .dead, .val (.int .i64) t, .dead, .dead, .dead, .dead, .dead, .dead, .dead, .dead, .dead, .dead, .dead, .dead, .dead, .dead, .dead, .dead, .dead, .dead, .dead], []⟩
def f242x2_1 (t : Unit) : St := ⟨[.dead, .dead, .dead, .dead, .dead, .dead, .dead, .dead, .dead, .dead, .dead, .dead, .dead, .dead, .dead, .dead, .dead, .dead, .dead, .dead, .dead, .dead, .dead, .dead, .dead, .dead], []⟩
def f242u2_0 (s : St) : Option (Int × Int × Int × List E_i64 × List E_Node) := (unS f242h2_0 f242o2_0 s).map fun v => (v.1.2.1, v.1.2.2.1, v.1.2.2.2.2.2.2.2.1, v.2.1.1, v.2.1.2.1)
theorem f242un2_0 : ∀ (s : St) (t : Int × Int × Int × List E_i64 × List E_Node), f242u2_0 s = some t → f242e2_0 t = s := fun s v h => by
  obtain ⟨u, hu, rfl⟩ := Option.map_eq_some_iff.1 h
  exact (show f242e2_0 (u.1.2.1, u.1.2.2.1, u.1.2.2.2.2.2.2.2.1, u.2.1.1, u.2.1.2.1) = mkS f242h2_0 f242o2_0 u by kernel_rfl).trans (mkS_un f242h2_0 f242o2_0 s u hu)
def f242u2 : St → Option (Int × Int × Int × List E_i64 × List E_Node) := f242u2_0
def f242e2 : (Int × Int × Int × List E_i64 × List E_Node) → St := f242e2_0
theorem f242un2 : ∀ (s : St) (t : Int × Int × Int × List E_i64 × List E_Node), f242u2 s = some t → f242e2 t = s := f242un2_0
noncomputable def f242P : Lp := fun i s {_R} κ => bif Nat.beq i 2 then (f242u2 s).bind fun t => L_impl_WhereIn_2 (fun t => κ (none) (f242x2_0 t)) (fun t => κ (some 0) (f242x2_1 t)) t else none
noncomputable def f242c2 : Code := (loopsOf f242B).getD 0 .skip
theorem f242A2 : C.live 242 (firstRegion f242c2) = some ([1, 2, 3, 7], [6]) := by kernel_rfl
theorem f242B2 {R : Type} (κ : Option Nat → St → Option R) (s : St) : f242P (firstRegion f242c2) s κ = (f242u2 s).bind fun t => iter (S_impl_WhereIn_2 (fun t => κ (none) (f242x2_0 t)) (fun t => κ (some 0) (f242x2_1 t))) FUEL t := by kernel_rfl
theorem f242C2 {R : Type} (κ : Option Nat → St → Option R) (again : St → Option R) (t : T_impl_WhereIn_2) : stepL C f242K f242P 242 f242c2 [1, 2, 3, 7] [6] κ again (f242e2 t) = S_impl_WhereIn_2 (fun t => κ (none) (f242x2_0 t)) (fun t => κ (some 0) (f242x2_1 t)) (fun t => again (f242e2 t)) t := by kernel_rfl
theorem f242ok2 : LoopOk C f242K f242P 242 f242c2 := loop_ok f242A2 f242e2 f242u2 f242un2 (fun {_R} κ => S_impl_WhereIn_2 (fun t => κ (none) (f242x2_0 t)) (fun t => κ (some 0) (f242x2_1 t))) (fun {_R} κ s => f242B2 κ s) (fun {_R} κ again t => f242C2 κ again t)
theorem k242 : Contract C Tryz.prog f242K := contract_tab _ (fun p hp => by
    simp only [List.mem_cons, List.mem_nil_iff, or_false] at hp
    rcases hp with rfl
    · exact ok226)
theorem ev242 (x : List E_i64 × List E_Node × Int × Int) : evalB C f242K f242P 242 Tryz.f242 f242B ⟨[.v true [(.sl 3 ts_i64), (.sl 97 ts_Node)] [false, false], .v false [(.int .i64)] [false], .v false [(.int .i64)] [false]], [⟨false, [(.int .i64)], [false]⟩], false⟩ [(.sl 3 ts_i64), (.sl 97 ts_Node), (.int .i64), (.int .i64)] [(.int .i64)] x = F_impl_WhereIn x := by kernel_rfl
theorem ok242 : ContractAt C Tryz.prog 242 F_impl_WhereIn := fn_sound (lp := f242P) tok mixed k242 (by kernel_rfl) (fn := Tryz.f242) (c := f242B) (sg := ⟨[.v true [(.sl 3 ts_i64), (.sl 97 ts_Node)] [false, false], .v false [(.int .i64)] [false], .v false [(.int .i64)] [false]], [⟨false, [(.int .i64)], [false]⟩], false⟩) Tryz.func242 (by decide) (by kernel_rfl) (by kernel_rfl) (by kernel_rfl) (fun c' hc' => by
    rw [show loopsOf f242B = [f242c2] by kernel_rfl] at hc'
    simp only [List.mem_cons, List.mem_nil_iff, or_false] at hc'
    rcases hc' with rfl
    · exact f242ok2) (by decide) (by decide) (fun x y h => (ev242 x).trans h)
abbrev T_impl_SetAt_2 : Type := Int × Int × List E_Key × Int × Int × Int × Int × Int × Int × Int
noncomputable def S_impl_SetAt_2 {R : Type} (k0 : (Bool × Int × Int × Int × Int × Int) → Option R) (k1 : (Int × Int × Int × Int × Int) → Option R) (again : T_impl_SetAt_2 → Option R) (t2 : T_impl_SetAt_2) : Option R :=
  bif (decide (t2.2.2.2.2.1 < t2.2.2.2.1)) then if (0 : Int) ≤ t2.2.2.2.2.1 then if t2.2.2.2.2.1 < ((List.length t2.2.2.1 : Nat) : Int) then Option.bind (bif ((rd_Key t2.2.2.1 t2.2.2.2.2.1).1 == t2.1) then some ((rd_Key t2.2.2.1 t2.2.2.2.2.1).2.1 == t2.2.1) else some false) fun u1 => bif u1 then k0 (true, (rd_Key t2.2.2.1 t2.2.2.2.2.1).1, (rd_Key t2.2.2.1 t2.2.2.2.2.1).2.1, (rd_Key t2.2.2.1 t2.2.2.2.2.1).2.2.1, (rd_Key t2.2.2.1 t2.2.2.2.2.1).2.2.2.1, (rd_Key t2.2.2.1 t2.2.2.2.2.1).2.2.2.2) else again (t2.1, t2.2.1, t2.2.2.1, t2.2.2.2.1, (Go.IntKind.wrap .i64 (t2.2.2.2.2.1 + (1 : Int))), t2.2.2.2.2.2.1, t2.2.2.2.2.2.2.1, t2.2.2.2.2.2.2.2.1, t2.2.2.2.2.2.2.2.2.1, t2.2.2.2.2.2.2.2.2.2) else none else none else k1 (t2.2.2.2.2.2.1, t2.2.2.2.2.2.2.1, t2.2.2.2.2.2.2.2.1, t2.2.2.2.2.2.2.2.2.1, t2.2.2.2.2.2.2.2.2.2)
noncomputable def L_impl_SetAt_2 {R : Type} (k0 : (Bool × Int × Int × Int × Int × Int) → Option R) (k1 : (Int × Int × Int × Int × Int) → Option R) (t : T_impl_SetAt_2) : Option R := iter (S_impl_SetAt_2 k0 k1) FUEL t
noncomputable def F_impl_SetAt (x : List E_Key × Int × Int) : Option (Int × Int × Int × Int × Int × Bool) :=
  L_impl_SetAt_2 (fun x2 => some (x2.2.1, x2.2.2.1, x2.2.2.2.1, x2.2.2.2.2.1, x2.2.2.2.2.2, x2.1)) (fun x3 => some ((0 : Int), (0 : Int), (0 : Int), (0 : Int), (0 : Int), false)) (x.2.1, x.2.2, x.1, ((List.length x.1 : Nat) : Int), (0 : Int), (0 : Int), (0 : Int), (0 : Int), (0 : Int), (0 : Int))
noncomputable def f269B : Code := match Tryz.f269.body with
  | some c => c
  | none => .skip
noncomputable def f269K : C.Sem := tab []
def f269h2_0 : List Sh := [.dead, .v (.int .i64), .v (.int .i64), .dead, .dead, .dead, .box 6 0, .dead, .dead, .dead, .v (.sl 105 ts_Key), .v (.int .i64), .v (.int .i64), .dead, .dead, .dead, .dead, .dead, .dead, .dead, .dead, .dead, .dead, .dead, .dead, .dead, .dead, .dead, .dead]
def f269o2_0 : List (Nat × OSh) := [(6, .box [.v (.int .i64), .v (.int .i64), .v (.int .i64), .v (.int .i64), .v (.int .i64)])]
def f269e2_0 (t : Int × Int × List E_Key × Int × Int × Int × Int × Int × Int × Int) : St := ⟨[.dead, .val (.int .i64) t.1, .val (.int .i64) t.2.1, .dead, .dead, .dead, .box 6 0, .dead, .dead, .dead, .val (.sl 105 ts_Key) t.2.2.1, .val (.int .i64) t.2.2.2.1, .val (.int .i64) t.2.2.2.2.1, .dead, .dead, .dead, .dead, .dead, .dead, .dead, .dead, .dead, .dead, .dead, .dead, .dead, .dead, .dead, .dead], [(6, .box [.val (.int .i64) t.2.2.2.2.2.1, .val (.int .i64) t.2.2.2.2.2.2.1, .val (.int .i64) t.2.2.2.2.2.2.2.1, .val (.int .i64) t.2.2.2.2.2.2.2.2.1, .val (.int .i64) t.2.2.2.2.2.2.2.2.2])]⟩
def f269x2_0 (t : Bool × Int × Int × Int × Int × Int) : St := ⟨[.dead, .dead, .dead, .dead, .dead, .dead, .box 6 0, .val .bool t.1, .dead, .dead, .dead, .dead, .dead, .dead, .dead, .dead, .dead, .dead, .dead, .dead, .dead, .dead, .dead, .dead, .dead, .dead, .dead, .dead, .dead], [(6, .box [.val (.int .i64) t.2.1, .val (.int .i64) t.2.2.1, .val (.int .i64) t.2.2.2.1, .val (.int .i64) t.2.2.2.2.1, .val (.int .i64) t.2.2.2.2.2])]⟩
def f269x2_1 (t : Int × Int × Int × Int × Int) : St := ⟨[.dead, .dead, .dead, .dead, .dead, .dead, .box 6 0, .dead, .dead, .dead, .dead, .dead, .dead, .dead, .dead, .dead, .dead, .dead, .dead, .dead, .dead, .dead, .dead, .dead, .dead, .dead, .dead, .dead, .dead], [(6, .box [.val (.int .i64) t.1, .val (.int .i64) t.2.1, .val (.int .i64) t.2.2.1, .val (.int .i64) t.2.2.2.1, .val (.int .i64) t.2.2.2.2])]⟩
def f269u2_0 (s : St) : Option (Int × Int × List E_Key × Int × Int × Int × Int × Int × Int × Int) := (unS f269h2_0 f269o2_0 s).map fun v => (v.1.2.1, v.1.2.2.1, v.1.2.2.2.2.2.2.2.2.2.2.1, v.1.2.2.2.2.2.2.2.2.2.2.2.1, v.1.2.2.2.2.2.2.2.2.2.2.2.2.1, v.2.1.1, v.2.1.2.1, v.2.1.2.2.1, v.2.1.2.2.2.1, v.2.1.2.2.2.2.1)
theorem f269un2_0 : ∀ (s : St) (t : Int × Int × List E_Key × Int × Int × Int × Int × Int × Int × Int), f269u2_0 s = some t → f269e2_0 t = s := fun s v h => by
  obtain ⟨u, hu, rfl⟩ := Option.map_eq_some_iff.1 h
  exact (show f269e2_0 (u.1.2.1, u.1.2.2.1, u.1.2.2.2.2.2.2.2.2.2.2.1, u.1.2.2.2.2.2.2.2.2.2.2.2.1, u.1.2.2.2.2.2.2.2.2.2.2.2.2.1, u.2.1.1, u.2.1.2.1, u.2.1.2.2.1, u.2.1.2.2.2.1, u.2.1.2.2.2.2.1) = mkS f269h2_0 f269o2_0 u by kernel_rfl).trans (mkS_un f269h2_0 f269o2_0 s u hu)
def f269u2 : St → Option (Int × Int × List E_Key × Int × Int × Int × Int × Int × Int × Int) := f269u2_0
def f269e2 : (Int × Int × List E_Key × Int × Int × Int × Int × Int × Int × Int) → St := f269e2_0
theorem f269un2 : ∀ (s : St) (t : Int × Int × List E_Key × Int × Int × Int × Int × Int × Int × Int), f269u2 s = some t → f269e2 t = s := f269un2_0
noncomputable def f269P : Lp := fun i s {_R} κ => bif Nat.beq i 2 then (f269u2 s).bind fun t => L_impl_SetAt_2 (fun t => κ (none) (f269x2_0 t)) (fun t => κ (some 0) (f269x2_1 t)) t else none
noncomputable def f269c2 : Code := (loopsOf f269B).getD 0 .skip
theorem f269A2 : C.live 269 (firstRegion f269c2) = some ([1, 2, 6, 10, 11, 12, 21, 22, 23, 24], [6, 7]) := by kernel_rfl
theorem f269B2 {R : Type} (κ : Option Nat → St → Option R) (s : St) : f269P (firstRegion f269c2) s κ = (f269u2 s).bind fun t => iter (S_impl_SetAt_2 (fun t => κ (none) (f269x2_0 t)) (fun t => κ (some 0) (f269x2_1 t))) FUEL t := by kernel_rfl
theorem f269C2 {R : Type} (κ : Option Nat → St → Option R) (again : St → Option R) (t : T_impl_SetAt_2) : stepL C f269K f269P 269 f269c2 [1, 2, 6, 10, 11, 12, 21, 22, 23, 24] [6, 7] κ again (f269e2 t) = S_impl_SetAt_2 (fun t => κ (none) (f269x2_0 t)) (fun t => κ (some 0) (f269x2_1 t)) (fun t => again (f269e2 t)) t := by kernel_rfl
theorem f269ok2 : LoopOk C f269K f269P 269 f269c2 := loop_ok f269A2 f269e2 f269u2 f269un2 (fun {_R} κ => S_impl_SetAt_2 (fun t => κ (none) (f269x2_0 t)) (fun t => κ (some 0) (f269x2_1 t))) (fun {_R} κ s => f269B2 κ s) (fun {_R} κ again t => f269C2 κ again t)
theorem k269 : Contract C Tryz.prog f269K := contract_tab _ (fun p hp => by cases hp)
theorem ev269 (x : List E_Key × Int × Int) : evalB C f269K f269P 269 Tryz.f269 f269B ⟨[.v false [(.sl 105 ts_Key)] [false], .v false [(.int .i64)] [false], .v false [(.int .i64)] [false]], [⟨true, [(.int .i64), (.int .i64), (.int .i64), (.int .i64), (.int .i64)], [false, false, false, false, false]⟩, ⟨false, [.bool], [false]⟩], false⟩ [(.sl 105 ts_Key), (.int .i64), (.int .i64)] [(.int .i64), (.int .i64), (.int .i64), (.int .i64), (.int .i64), .bool] x = F_impl_SetAt x := by kernel_rfl
theorem ok269 : ContractAt C Tryz.prog 269 F_impl_SetAt := fn_sound (lp := f269P) tok mixed k269 (by kernel_rfl) (fn := Tryz.f269) (c := f269B) (sg := ⟨[.v false [(.sl 105 ts_Key)] [false], .v false [(.int .i64)] [false], .v false [(.int .i64)] [false]], [⟨true, [(.int .i64), (.int .i64), (.int .i64), (.int .i64), (.int .i64)], [false, false, false, false, false]⟩, ⟨false, [.bool], [false]⟩], false⟩) Tryz.func269 (by decide) (by kernel_rfl) (by kernel_rfl) (by kernel_rfl) (fun c' hc' => by
    rw [show loopsOf f269B = [f269c2] by kernel_rfl] at hc'
    simp only [List.mem_cons, List.mem_nil_iff, or_false] at hc'
    rcases hc' with rfl
    · exact f269ok2) (by decide) (by decide) (fun x y h => (ev269 x).trans h)
abbrev T_impl_NodeAt_2 : Type := Int × Int × Int × List E_s_Key × Int × Int × Int × Int × Int
noncomputable def S_impl_NodeAt_2 {R : Type} (k0 : (Int × Int × Int × Int × Int) → Option R) (k1 : (Bool × Int × Int × Int × Int × Int) → Option R) (again : T_impl_NodeAt_2 → Option R) (t2 : T_impl_NodeAt_2) : Option R :=
  bif (decide (t2.2.2.1 ≥ (0 : Int))) then if (0 : Int) ≤ t2.2.2.1 then if t2.2.2.1 < ((List.length t2.2.2.2.1 : Nat) : Int) then Option.bind (F_impl_SetAt ((rd_s_Key t2.2.2.2.1 t2.2.2.1), t2.1, t2.2.1)) fun r1 => bif (!r1.2.2.2.2.2) then again (t2.1, t2.2.1, (Go.IntKind.wrap .i64 (t2.2.2.1 - (1 : Int))), t2.2.2.2.1, t2.2.2.2.2.1, t2.2.2.2.2.2.1, t2.2.2.2.2.2.2.1, t2.2.2.2.2.2.2.2.1, t2.2.2.2.2.2.2.2.2) else bif (r1.2.2.1 == (0 : Int)) then k0 (t2.2.2.2.2.1, t2.2.2.2.2.2.1, t2.2.2.2.2.2.2.1, t2.2.2.2.2.2.2.2.1, t2.2.2.2.2.2.2.2.2) else k1 (true, r1.1, r1.2.1, r1.2.2.1, r1.2.2.2.1, r1.2.2.2.2.1) else none else none else k0 (t2.2.2.2.2.1, t2.2.2.2.2.2.1, t2.2.2.2.2.2.2.1, t2.2.2.2.2.2.2.2.1, t2.2.2.2.2.2.2.2.2)
noncomputable def L_impl_NodeAt_2 {R : Type} (k0 : (Int × Int × Int × Int × Int) → Option R) (k1 : (Bool × Int × Int × Int × Int × Int) → Option R) (t : T_impl_NodeAt_2) : Option R := iter (S_impl_NodeAt_2 k0 k1) FUEL t
noncomputable def F_impl_NodeAt (x : List E_s_Key × Int × Int) : Option (Int × Int × Int × Int × Int × Bool) :=
  L_impl_NodeAt_2 (fun x2 => some ((0 : Int), (0 : Int), (0 : Int), (0 : Int), (0 : Int), false)) (fun x3 => some (x3.2.1, x3.2.2.1, x3.2.2.2.1, x3.2.2.2.2.1, x3.2.2.2.2.2, x3.1)) (x.2.1, x.2.2, (Go.IntKind.wrap .i64 (((List.length x.1 : Nat) : Int) - (1 : Int))), x.1, (0 : Int), (0 : Int), (0 : Int), (0 : Int), (0 : Int))
noncomputable def f243B : Code := match Tryz.f243.body with
  | some c => c
  | none => .skip
noncomputable def f243K : C.Sem := tab [⟨269, F_impl_SetAt⟩]
def f243h2_0 : List Sh := [.dead, .v (.int .i64), .v (.int .i64), .box 3 0, .dead, .dead, .box 6 0, .dead, .v (.int .i64), .dead, .dead, .dead, .dead, .dead, .dead, .dead, .dead, .dead, .dead, .dead, .dead, .dead, .dead, .dead, .dead, .dead, .dead, .dead, .dead, .dead, .dead, .dead, .dead, .dead, .dead, .dead, .dead]
def f243o2_0 : List (Nat × OSh) := [(3, .box [.v (.sl 99 ts_s_Key)]), (6, .box [.v (.int .i64), .v (.int .i64), .v (.int .i64), .v (.int .i64), .v (.int .i64)])]
def f243e2_0 (t : Int × Int × Int × List E_s_Key × Int × Int × Int × Int × Int) : St := ⟨[.dead, .val (.int .i64) t.1, .val (.int .i64) t.2.1, .box 3 0, .dead, .dead, .box 6 0, .dead, .val (.int .i64) t.2.2.1, .dead, .dead, .dead, .dead, .dead, .dead, .dead, .dead, .dead, .dead, .dead, .dead, .dead, .dead, .dead, .dead, .dead, .dead, .dead, .dead, .dead, .dead, .dead, .dead, .dead, .dead, .dead, .dead], [(3, .box [.val (.sl 99 ts_s_Key) t.2.2.2.1]), (6, .box [.val (.int .i64) t.2.2.2.2.1, .val (.int .i64) t.2.2.2.2.2.1, .val (.int .i64) t.2.2.2.2.2.2.1, .val (.int .i64) t.2.2.2.2.2.2.2.1, .val (.int .i64) t.2.2.2.2.2.2.2.2])]⟩
def f243x2_0 (t : Int × Int × Int × Int × Int) : St := ⟨[.dead, .dead, .dead, .dead, .dead, .dead, .box 6 0, .dead, .dead, .dead, .dead, .dead, .dead, .dead, .dead, .dead, .dead, .dead, .dead, .dead, .dead, .dead, .dead, .dead, .dead, .dead, .dead, .dead, .dead, .dead, .dead, .dead, .dead, .dead, .dead, .dead, .dead], [(6, .box [.val (.int .i64) t.1, .val (.int .i64) t.2.1, .val (.int .i64) t.2.2.1, .val (.int .i64) t.2.2.2.1, .val (.int .i64) t.2.2.2.2])]⟩
def f243x2_1 (t : Bool × Int × Int × Int × Int × Int) : St := ⟨[.dead, .dead, .dead, .dead, .dead, .dead, .box 6 0, .val .bool t.1, .dead, .dead, .dead, .dead, .dead, .dead, .dead, .dead, .dead, .dead, .dead, .dead, .dead, .dead, .dead, .dead, .dead, .dead, .dead, .dead, .dead, .dead, .dead, .dead, .dead, .dead, .dead, .dead, .dead], [(6, .box [.val (.int .i64) t.2.1, .val (.int .i64) t.2.2.1, .val (.int .i64) t.2.2.2.1, .val (.int .i64) t.2.2.2.2.1, .val (.int .i64) t.2.2.2.2.2])]⟩
def f243u2_0 (s : St) : Option (Int × Int × Int × List E_s_Key × Int × Int × Int × Int × Int) := (unS f243h2_0 f243o2_0 s).map fun v => (v.1.2.1, v.1.2.2.1, v.1.2.2.2.2.2.2.2.2.1, v.2.1.1, v.2.2.1.1, v.2.2.1.2.1, v.2.2.1.2.2.1, v.2.2.1.2.2.2.1, v.2.2.1.2.2.2.2.1)
theorem f243un2_0 : ∀ (s : St) (t : Int × Int × Int × List E_s_Key × Int × Int × Int × Int × Int), f243u2_0 s = some t → f243e2_0 t = s := fun s v h => by
  obtain ⟨u, hu, rfl⟩ := Option.map_eq_some_iff.1 h
  exact (show f243e2_0 (u.1.2.1, u.1.2.2.1, u.1.2.2.2.2.2.2.2.2.1, u.2.1.1, u.2.2.1.1, u.2.2.1.2.1, u.2.2.1.2.2.1, u.2.2.1.2.2.2.1, u.2.2.1.2.2.2.2.1) = mkS f243h2_0 f243o2_0 u by kernel_rfl).trans (mkS_un f243h2_0 f243o2_0 s u hu)
def f243u2 : St → Option (Int × Int × Int × List E_s_Key × Int × Int × Int × Int × Int) := f243u2_0
def f243e2 : (Int × Int × Int × List E_s_Key × Int × Int × Int × Int × Int) → St := f243e2_0
theorem f243un2 : ∀ (s : St) (t : Int × Int × Int × List E_s_Key × Int × Int × Int × Int × Int), f243u2 s = some t → f243e2 t = s := f243un2_0
noncomputable def f243P : Lp := fun i s {_R} κ => bif Nat.beq i 2 then (f243u2 s).bind fun t => L_impl_NodeAt_2 (fun t => κ (some 0) (f243x2_0 t)) (fun t => κ (none) (f243x2_1 t)) t else none
noncomputable def f243c2 : Code := (loopsOf f243B).getD 0 .skip
theorem f243A2 : C.live 243 (firstRegion f243c2) = some ([1, 2, 3, 6, 8], [6, 7]) := by kernel_rfl
theorem f243B2 {R : Type} (κ : Option Nat → St → Option R) (s : St) : f243P (firstRegion f243c2) s κ = (f243u2 s).bind fun t => iter (S_impl_NodeAt_2 (fun t => κ (some 0) (f243x2_0 t)) (fun t => κ (none) (f243x2_1 t))) FUEL t := by kernel_rfl
theorem f243C2 {R : Type} (κ : Option Nat → St → Option R) (again : St → Option R) (t : T_impl_NodeAt_2) : stepL C f243K f243P 243 f243c2 [1, 2, 3, 6, 8] [6, 7] κ again (f243e2 t) = S_impl_NodeAt_2 (fun t => κ (some 0) (f243x2_0 t)) (fun t => κ (none) (f243x2_1 t)) (fun t => again (f243e2 t)) t := by kernel_rfl
theorem f243ok2 : LoopOk C f243K f243P 243 f243c2 := loop_ok f243A2 f243e2 f243u2 f243un2 (fun {_R} κ => S_impl_NodeAt_2 (fun t => κ (some 0) (f243x2_0 t)) (fun t => κ (none) (f243x2_1 t))) (fun {_R} κ s => f243B2 κ s) (fun {_R} κ again t => f243C2 κ again t)
theorem k243 : Contract C Tryz.prog f243K := contract_tab _ (fun p hp => by
    simp only [List.mem_cons, List.mem_nil_iff, or_false] at hp
    rcases hp with rfl
    · exact ok269)
theorem ev243 (x : List E_s_Key × Int × Int) : evalB C f243K f243P 243 Tryz.f243 f243B ⟨[.v true [(.sl 99 ts_s_Key)] [false], .v false [(.int .i64)] [false], .v false [(.int .i64)] [false]], [⟨true, [(.int .i64), (.int .i64), (.int .i64), (.int .i64), (.int .i64)], [false, false, false, false, false]⟩, ⟨false, [.bool], [false]⟩], false⟩ [(.sl 99 ts_s_Key), (.int .i64), (.int .i64)] [(.int .i64), (.int .i64), (.int .i64), (.int .i64), (.int .i64), .bool] x = F_impl_NodeAt x := by kernel_rfl
theorem ok243 : ContractAt C Tryz.prog 243 F_impl_NodeAt := fn_sound (lp := f243P) tok mixed k243 (by kernel_rfl) (fn := Tryz.f243) (c := f243B) (sg := ⟨[.v true [(.sl 99 ts_s_Key)] [false], .v false [(.int .i64)] [false], .v false [(.int .i64)] [false]], [⟨true, [(.int .i64), (.int .i64), (.int .i64), (.int .i64), (.int .i64)], [false, false, false, false, false]⟩, ⟨false, [.bool], [false]⟩], false⟩) Tryz.func243 (by decide) (by kernel_rfl) (by kernel_rfl) (by kernel_rfl) (fun c' hc' => by
    rw [show loopsOf f243B = [f243c2] by kernel_rfl] at hc'
    simp only [List.mem_cons, List.mem_nil_iff, or_false] at hc'
    rcases hc' with rfl
    · exact f243ok2) (by decide) (by decide) (fun x y h => (ev243 x).trans h)
noncomputable def F_impl_TreeAt (x : List E_i64 × List E_Node × Int × Int) : Option (Int × Int × Int × Int × Int × Bool) :=
  Option.bind (F_impl_WhereIn (x.1, x.2.1, x.2.2.1, x.2.2.2)) fun r1 => Option.bind (F_impl_within (r1, (0 : Int), (Go.IntKind.wrap .i64 (((List.length x.2.1 : Nat) : Int) - (1 : Int))))) fun r2 => bif (!r2) then some ((0 : Int), (0 : Int), (0 : Int), (0 : Int), (0 : Int), false) else if (0 : Int) ≤ r1 then if r1 < ((List.length x.2.1 : Nat) : Int) then Option.bind (F_impl_NodeAt ((rd_Node x.2.1 r1), x.2.2.1, x.2.2.2)) fun r3 => some (r3.1, r3.2.1, r3.2.2.1, r3.2.2.2.1, r3.2.2.2.2.1, r3.2.2.2.2.2) else none else none
noncomputable def f205B : Code := match Tryz.f205.body with
  | some c => c
  | none => .skip
noncomputable def f205K : C.Sem := tab [⟨103, F_impl_within⟩, ⟨242, F_impl_WhereIn⟩, ⟨243, F_impl_NodeAt⟩]
noncomputable def f205P : Lp := fun i s {_R} κ => none
theorem k205 : Contract C Tryz.prog f205K := contract_tab _ (fun p hp => by
    simp only [List.mem_cons, List.mem_nil_iff, or_false] at hp
    rcases hp with rfl | rfl | rfl
    · exact ok103
    · exact ok242
    · exact ok243)
theorem ev205 (x : List E_i64 × List E_Node × Int × Int) : evalB C f205K f205P 205 Tryz.f205 f205B ⟨[.v true [(.sl 3 ts_i64), (.sl 97 ts_Node)] [false, false], .v false [(.int .i64)] [false], .v false [(.int .i64)] [false]], [⟨true, [(.int .i64), (.int .i64), (.int .i64), (.int .i64), (.int .i64)], [false, false, false, false, false]⟩, ⟨false, [.bool], [false]⟩], false⟩ [(.sl 3 ts_i64), (.sl 97 ts_Node), (.int .i64), (.int .i64)] [(.int .i64), (.int .i64), (.int .i64), (.int .i64), (.int .i64), .bool] x = F_impl_TreeAt x := by kernel_rfl
theorem ok205 : ContractAt C Tryz.prog 205 F_impl_TreeAt := fn_sound (lp := f205P) tok mixed k205 (by kernel_rfl) (fn := Tryz.f205) (c := f205B) (sg := ⟨[.v true [(.sl 3 ts_i64), (.sl 97 ts_Node)] [false, false], .v false [(.int .i64)] [false], .v false [(.int .i64)] [false]], [⟨true, [(.int .i64), (.int .i64), (.int .i64), (.int .i64), (.int .i64)], [false, false, false, false, false]⟩, ⟨false, [.bool], [false]⟩], false⟩) Tryz.func205 (by decide) (by kernel_rfl) (by kernel_rfl) (by kernel_rfl) (fun c' hc' => by
    rw [show loopsOf f205B = [] by kernel_rfl] at hc'
    cases hc') (by decide) (by decide) (fun x y h => (ev205 x).trans h)
noncomputable def F_impl_keyStep (x : List E_i64 × List E_Node × List E_Age × List E_Cell × List E_Vol × Int × Int × Int × Int × Int × Int × Int) : Option (Bool) :=
  bif (x.2.2.2.2.2.2.1 == (1 : Int)) then Option.bind (F_impl_SeenByAny (x.1, x.2.1, x.2.2.1, x.2.2.2.1, x.2.2.2.2.1, x.2.2.2.2.2.1, x.2.2.2.2.2.2.2.1, x.2.2.2.2.2.2.2.2.1, x.2.2.2.2.2.2.2.2.2.1, x.2.2.2.2.2.2.2.2.2.2.1, x.2.2.2.2.2.2.2.2.2.2.2)) fun r1 => some (!r1) else bif (x.2.2.2.2.2.2.1 == (2 : Int)) then Option.bind (F_impl_SeenAbove (x.1, x.2.1, x.2.2.1, x.2.2.2.2.2.2.2.1, x.2.2.2.2.2.2.2.2.1)) fun r2 => Option.bind (bif (x.2.2.2.2.2.2.2.2.2.1 == (2 : Int)) then some (!r2.2.2.2.2.2) else some false) fun u3 => some u3 else Option.bind (F_impl_KidsOf (x.2.2.1, x.2.2.2.2.2.2.2.2.1)) fun r4 => Option.bind (F_impl_Idle (x.1, x.2.1, x.2.2.1, x.2.2.2.1, x.2.2.2.2.1, x.2.2.2.2.2.1, x.2.2.2.2.2.2.2.2.1)) fun r5 => Option.bind (bif (!r5) then some true else some (((List.length r4 : Nat) : Int) != (1 : Int))) fun u6 => bif u6 then some false else if (0 : Int) ≤ (0 : Int) then if (0 : Int) < ((List.length r4 : Nat) : Int) then Option.bind (F_impl_TreeAt (x.1, x.2.1, x.2.2.2.2.2.2.2.1, (rd_i64 r4 (0 : Int)))) fun r7 => some (!r7.2.2.2.2.2) else none else none
noncomputable def f161B : Code := match Tryz.f161.body with
  | some c => c
  | none => .skip
noncomputable def f161K : C.Sem := tab [⟨162, F_impl_Idle⟩, ⟨163, F_impl_KidsOf⟩, ⟨165, F_impl_SeenByAny⟩, ⟨204, F_impl_SeenAbove⟩, ⟨205, F_impl_TreeAt⟩]
noncomputable def f161P : Lp := fun i s {_R} κ => none
theorem k161 : Contract C Tryz.prog f161K := contract_tab _ (fun p hp => by
    simp only [List.mem_cons, List.mem_nil_iff, or_false] at hp
    rcases hp with rfl | rfl | rfl | rfl | rfl
    · exact ok162
    · exact ok163
    · exact ok165
    · exact ok204
    · exact ok205)
theorem ev161 (x : List E_i64 × List E_Node × List E_Age × List E_Cell × List E_Vol × Int × Int × Int × Int × Int × Int × Int) : evalB C f161K f161P 161 Tryz.f161 f161B ⟨[.v true [(.sl 3 ts_i64), (.sl 97 ts_Node), (.sl 88 ts_Age), (.sl 94 ts_Cell), (.sl 90 ts_Vol), (.int .i64)] [false, false, false, false, false, false], .v false [(.int .i64)] [false], .v true [(.int .i64), (.int .i64), (.int .i64), (.int .i64), (.int .i64)] [false, false, false, false, false]], [⟨false, [.bool], [false]⟩], false⟩ [(.sl 3 ts_i64), (.sl 97 ts_Node), (.sl 88 ts_Age), (.sl 94 ts_Cell), (.sl 90 ts_Vol), (.int .i64), (.int .i64), (.int .i64), (.int .i64), (.int .i64), (.int .i64), (.int .i64)] [.bool] x = F_impl_keyStep x := by kernel_rfl
theorem ok161 : ContractAt C Tryz.prog 161 F_impl_keyStep := fn_sound (lp := f161P) tok mixed k161 (by kernel_rfl) (fn := Tryz.f161) (c := f161B) (sg := ⟨[.v true [(.sl 3 ts_i64), (.sl 97 ts_Node), (.sl 88 ts_Age), (.sl 94 ts_Cell), (.sl 90 ts_Vol), (.int .i64)] [false, false, false, false, false, false], .v false [(.int .i64)] [false], .v true [(.int .i64), (.int .i64), (.int .i64), (.int .i64), (.int .i64)] [false, false, false, false, false]], [⟨false, [.bool], [false]⟩], false⟩) Tryz.func161 (by decide) (by kernel_rfl) (by kernel_rfl) (by kernel_rfl) (fun c' hc' => by
    rw [show loopsOf f161B = [] by kernel_rfl] at hc'
    cases hc') (by decide) (by decide) (fun x y h => (ev161 x).trans h)
abbrev T_impl_hasKeys_2 : Type := Int × List E_Key × Int × Int
noncomputable def S_impl_hasKeys_2 {R : Type} (k0 : Bool → Option R) (k1 : Unit → Option R) (again : T_impl_hasKeys_2 → Option R) (t2 : T_impl_hasKeys_2) : Option R :=
  bif (decide (t2.2.2.2 < t2.2.2.1)) then if (0 : Int) ≤ t2.2.2.2 then if t2.2.2.2 < ((List.length t2.2.1 : Nat) : Int) then bif ((rd_Key t2.2.1 t2.2.2.2).2.1 == t2.1) then k0 true else again (t2.1, t2.2.1, t2.2.2.1, (Go.IntKind.wrap .i64 (t2.2.2.2 + (1 : Int)))) else none else none else k1 ()
noncomputable def L_impl_hasKeys_2 {R : Type} (k0 : Bool → Option R) (k1 : Unit → Option R) (t : T_impl_hasKeys_2) : Option R := iter (S_impl_hasKeys_2 k0 k1) FUEL t
noncomputable def F_impl_hasKeys (x : List E_Key × Int) : Option (Bool) :=
  L_impl_hasKeys_2 (fun x1 => some x1) (fun x2 => some false) (x.2, x.1, ((List.length x.1 : Nat) : Int), (0 : Int))
noncomputable def f164B : Code := match Tryz.f164.body with
  | some c => c
  | none => .skip
noncomputable def f164K : C.Sem := tab []
def f164h2_0 : List Sh := [.dead, .v (.int .i64), .dead, .dead, .dead, .dead, .dead, .v (.sl 105 ts_Key), .v (.int .i64), .v (.int .i64), .dead, .dead, .dead, .dead, .dead, .dead, .dead, .dead]
def f164o2_0 : List (Nat × OSh) := []
def f164e2_0 (t : Int × List E_Key × Int × Int) : St := ⟨[.dead, .val (.int .i64) t.1, .dead, .dead, .dead, .dead, .dead, .val (.sl 105 ts_Key) t.2.1, .val (.int .i64) t.2.2.1, .val (.int .i64) t.2.2.2, .dead, .dead, .dead, .dead, .dead, .dead, .dead, .dead], []⟩
def f164x2_0 (t : Bool) : St := ⟨[.dead, .dead, .dead, .dead, .val .bool t, .dead, .dead, .dead, .dead, .dead, .dead, .dead, .dead, .dead, .dead, .dead, .dead, .dead], []⟩
def f164x2_1 (t : Unit) : St := ⟨[.dead, .dead, .dead, .dead, .dead, .dead, .dead, .dead, .dead, .dead, .dead, .dead, .dead, .dead, .dead, .dead, .dead, .dead], []⟩
def f164u2_0 (s : St) : Option (Int × List E_Key × Int × Int) := (unS f164h2_0 f164o2_0 s).map fun v => (v.1.2.1, v.1.2.2.2.2.2.2.2.1, v.1.2.2.2.2.2.2.2.2.1, v.1.2.2.2.2.2.2.2.2.2.1)
theorem f164un2_0 : ∀ (s : St) (t : Int × List E_Key × Int × Int), f164u2_0 s = some t → f164e2_0 t = s := fun s v h => by
  obtain ⟨u, hu, rfl⟩ := Option.map_eq_some_iff.1 h
  exact (show f164e2_0 (u.1.2.1, u.1.2.2.2.2.2.2.2.1, u.1.2.2.2.2.2.2.2.2.1, u.1.2.2.2.2.2.2.2.2.2.1) = mkS f164h2_0 f164o2_0 u by kernel_rfl).trans (mkS_un f164h2_0 f164o2_0 s u hu)
def f164u2 : St → Option (Int × List E_Key × Int × Int) := f164u2_0
def f164e2 : (Int × List E_Key × Int × Int) → St := f164e2_0
theorem f164un2 : ∀ (s : St) (t : Int × List E_Key × Int × Int), f164u2 s = some t → f164e2 t = s := f164un2_0
noncomputable def f164P : Lp := fun i s {_R} κ => bif Nat.beq i 2 then (f164u2 s).bind fun t => L_impl_hasKeys_2 (fun t => κ (none) (f164x2_0 t)) (fun t => κ (some 0) (f164x2_1 t)) t else none
noncomputable def f164c2 : Code := (loopsOf f164B).getD 0 .skip
theorem f164A2 : C.live 164 (firstRegion f164c2) = some ([1, 7, 8, 9], [4]) := by kernel_rfl
theorem f164B2 {R : Type} (κ : Option Nat → St → Option R) (s : St) : f164P (firstRegion f164c2) s κ = (f164u2 s).bind fun t => iter (S_impl_hasKeys_2 (fun t => κ (none) (f164x2_0 t)) (fun t => κ (some 0) (f164x2_1 t))) FUEL t := by kernel_rfl
theorem f164C2 {R : Type} (κ : Option Nat → St → Option R) (again : St → Option R) (t : T_impl_hasKeys_2) : stepL C f164K f164P 164 f164c2 [1, 7, 8, 9] [4] κ again (f164e2 t) = S_impl_hasKeys_2 (fun t => κ (none) (f164x2_0 t)) (fun t => κ (some 0) (f164x2_1 t)) (fun t => again (f164e2 t)) t := by kernel_rfl
theorem f164ok2 : LoopOk C f164K f164P 164 f164c2 := loop_ok f164A2 f164e2 f164u2 f164un2 (fun {_R} κ => S_impl_hasKeys_2 (fun t => κ (none) (f164x2_0 t)) (fun t => κ (some 0) (f164x2_1 t))) (fun {_R} κ s => f164B2 κ s) (fun {_R} κ again t => f164C2 κ again t)
theorem k164 : Contract C Tryz.prog f164K := contract_tab _ (fun p hp => by cases hp)
theorem ev164 (x : List E_Key × Int) : evalB C f164K f164P 164 Tryz.f164 f164B ⟨[.v false [(.sl 105 ts_Key)] [false], .v false [(.int .i64)] [false]], [⟨false, [.bool], [false]⟩], false⟩ [(.sl 105 ts_Key), (.int .i64)] [.bool] x = F_impl_hasKeys x := by kernel_rfl
theorem ok164 : ContractAt C Tryz.prog 164 F_impl_hasKeys := fn_sound (lp := f164P) tok mixed k164 (by kernel_rfl) (fn := Tryz.f164) (c := f164B) (sg := ⟨[.v false [(.sl 105 ts_Key)] [false], .v false [(.int .i64)] [false]], [⟨false, [.bool], [false]⟩], false⟩) Tryz.func164 (by decide) (by kernel_rfl) (by kernel_rfl) (by kernel_rfl) (fun c' hc' => by
    rw [show loopsOf f164B = [f164c2] by kernel_rfl] at hc'
    simp only [List.mem_cons, List.mem_nil_iff, or_false] at hc'
    rcases hc' with rfl
    · exact f164ok2) (by decide) (by decide) (fun x y h => (ev164 x).trans h)
abbrev T_impl_NextStep_8 : Type := Int × Int × Int × Int × Int × List E_i64 × List E_Node × List E_Age × List E_Cell × List E_Vol × Int × List E_Key × List E_i64
noncomputable def S_impl_NextStep_8 {R : Type} (k0 : (Int × Int × Int × Int × List E_i64 × List E_Node × List E_Age × List E_Cell × List E_Vol × Int × List E_Key × List E_i64) → Option R) (k1 : (Int × Int × List E_i64 × List E_Node × List E_Age × List E_Cell × List E_Vol × Int × List E_Key × List E_i64) → Option R) (again : T_impl_NextStep_8 → Option R) (t8 : T_impl_NextStep_8) : Option R :=
  bif (decide (t8.2.2.2.2.1 < t8.2.2.2.1)) then if (0 : Int) ≤ t8.2.2.2.2.1 then if t8.2.2.2.2.1 < ((List.length t8.2.2.2.2.2.2.2.2.2.2.2.1 : Nat) : Int) then Option.bind (F_impl_keyStep (t8.2.2.2.2.2.1, t8.2.2.2.2.2.2.1, t8.2.2.2.2.2.2.2.1, t8.2.2.2.2.2.2.2.2.1, t8.2.2.2.2.2.2.2.2.2.1, t8.2.2.2.2.2.2.2.2.2.2.1, t8.1, (rd_Key t8.2.2.2.2.2.2.2.2.2.2.2.1 t8.2.2.2.2.1).1, (rd_Key t8.2.2.2.2.2.2.2.2.2.2.2.1 t8.2.2.2.2.1).2.1, (rd_Key t8.2.2.2.2.2.2.2.2.2.2.2.1 t8.2.2.2.2.1).2.2.1, (rd_Key t8.2.2.2.2.2.2.2.2.2.2.2.1 t8.2.2.2.2.1).2.2.2.1, (rd_Key t8.2.2.2.2.2.2.2.2.2.2.2.1 t8.2.2.2.2.1).2.2.2.2)) fun r3 => bif r3 then k0 (t8.1, t8.2.2.2.2.1, t8.2.1, t8.2.2.1, t8.2.2.2.2.2.1, t8.2.2.2.2.2.2.1, t8.2.2.2.2.2.2.2.1, t8.2.2.2.2.2.2.2.2.1, t8.2.2.2.2.2.2.2.2.2.1, t8.2.2.2.2.2.2.2.2.2.2.1, t8.2.2.2.2.2.2.2.2.2.2.2.1, t8.2.2.2.2.2.2.2.2.2.2.2.2) else again (t8.1, t8.2.1, t8.2.2.1, t8.2.2.2.1, (Go.IntKind.wrap .i64 (t8.2.2.2.2.1 + (1 : Int))), t8.2.2.2.2.2.1, t8.2.2.2.2.2.2.1, t8.2.2.2.2.2.2.2.1, t8.2.2.2.2.2.2.2.2.1, t8.2.2.2.2.2.2.2.2.2.1, t8.2.2.2.2.2.2.2.2.2.2.1, t8.2.2.2.2.2.2.2.2.2.2.2.1, t8.2.2.2.2.2.2.2.2.2.2.2.2) else none else none else k1 (t8.2.1, t8.2.2.1, t8.2.2.2.2.2.1, t8.2.2.2.2.2.2.1, t8.2.2.2.2.2.2.2.1, t8.2.2.2.2.2.2.2.2.1, t8.2.2.2.2.2.2.2.2.2.1, t8.2.2.2.2.2.2.2.2.2.2.1, t8.2.2.2.2.2.2.2.2.2.2.2.1, t8.2.2.2.2.2.2.2.2.2.2.2.2)
noncomputable def L_impl_NextStep_8 {R : Type} (k0 : (Int × Int × Int × Int × List E_i64 × List E_Node × List E_Age × List E_Cell × List E_Vol × Int × List E_Key × List E_i64) → Option R) (k1 : (Int × Int × List E_i64 × List E_Node × List E_Age × List E_Cell × List E_Vol × Int × List E_Key × List E_i64) → Option R) (t : T_impl_NextStep_8) : Option R := iter (S_impl_NextStep_8 k0 k1) FUEL t
abbrev T_impl_NextStep_5 : Type := Int × Int × List E_i64 × List E_Node × List E_Age × List E_Cell × List E_Vol × Int × List E_Key × List E_i64
noncomputable def S_impl_NextStep_5 {R : Type} (k0 : (Int × Int × List E_i64 × List E_Node × List E_Age × List E_Cell × List E_Vol × Int × List E_Key) → Option R) (k1 : (List E_i64 × List E_Node × List E_Age × List E_Cell × List E_Vol × Int × List E_Key) → Option R) (again : T_impl_NextStep_5 → Option R) (t5 : T_impl_NextStep_5) : Option R :=
  bif (decide (t5.2.1 < t5.1)) then if (0 : Int) ≤ t5.2.1 then if t5.2.1 < ((List.length t5.2.2.2.2.2.2.2.2.2 : Nat) : Int) then L_impl_NextStep_8 (fun x4 => k0 (x4.1, x4.2.1, x4.2.2.2.2.1, x4.2.2.2.2.2.1, x4.2.2.2.2.2.2.1, x4.2.2.2.2.2.2.2.1, x4.2.2.2.2.2.2.2.2.1, x4.2.2.2.2.2.2.2.2.2.1, x4.2.2.2.2.2.2.2.2.2.2.1)) (fun x5 => again (x5.1, (Go.IntKind.wrap .i64 (x5.2.1 + (1 : Int))), x5.2.2.1, x5.2.2.2.1, x5.2.2.2.2.1, x5.2.2.2.2.2.1, x5.2.2.2.2.2.2.1, x5.2.2.2.2.2.2.2.1, x5.2.2.2.2.2.2.2.2.1, x5.2.2.2.2.2.2.2.2.2)) ((rd_i64 t5.2.2.2.2.2.2.2.2.2 t5.2.1), t5.1, t5.2.1, ((List.length t5.2.2.2.2.2.2.2.2.1 : Nat) : Int), (0 : Int), t5.2.2.1, t5.2.2.2.1, t5.2.2.2.2.1, t5.2.2.2.2.2.1, t5.2.2.2.2.2.2.1, t5.2.2.2.2.2.2.2.1, t5.2.2.2.2.2.2.2.2.1, t5.2.2.2.2.2.2.2.2.2) else none else none else k1 (t5.2.2.1, t5.2.2.2.1, t5.2.2.2.2.1, t5.2.2.2.2.2.1, t5.2.2.2.2.2.2.1, t5.2.2.2.2.2.2.2.1, t5.2.2.2.2.2.2.2.2.1)
noncomputable def L_impl_NextStep_5 {R : Type} (k0 : (Int × Int × List E_i64 × List E_Node × List E_Age × List E_Cell × List E_Vol × Int × List E_Key) → Option R) (k1 : (List E_i64 × List E_Node × List E_Age × List E_Cell × List E_Vol × Int × List E_Key) → Option R) (t : T_impl_NextStep_5) : Option R := iter (S_impl_NextStep_5 k0 k1) FUEL t
abbrev T_impl_NextStep_15 : Type := List E_Age × Int × Int × List E_i64 × List E_Node × List E_Age × List E_Cell × List E_Vol × Int × List E_Key
noncomputable def S_impl_NextStep_15 {R : Type} (k0 : (Int × Int) → Option R) (k1 : Unit → Option R) (again : T_impl_NextStep_15 → Option R) (t15 : T_impl_NextStep_15) : Option R :=
  bif (decide (t15.2.2.1 < t15.2.1)) then if (0 : Int) ≤ t15.2.2.1 then if t15.2.2.1 < ((List.length t15.1 : Nat) : Int) then Option.bind (F_impl_Idle (t15.2.2.2.1, t15.2.2.2.2.1, t15.2.2.2.2.2.1, t15.2.2.2.2.2.2.1, t15.2.2.2.2.2.2.2.1, t15.2.2.2.2.2.2.2.2.1, (rd_Age t15.1 t15.2.2.1).1)) fun r8 => Option.bind (bif r8 then Option.bind (F_impl_KidsOf (t15.2.2.2.2.2.1, (rd_Age t15.1 t15.2.2.1).1)) fun r10 => some (decide (((List.length r10 : Nat) : Int) ≤ (1 : Int))) else some false) fun u9 => Option.bind (bif u9 then Option.bind (F_impl_hasKeys (t15.2.2.2.2.2.2.2.2.2, (rd_Age t15.1 t15.2.2.1).1)) fun r12 => some (!r12) else some false) fun u11 => bif u11 then k0 ((4 : Int), t15.2.2.1) else again (t15.1, t15.2.1, (Go.IntKind.wrap .i64 (t15.2.2.1 + (1 : Int))), t15.2.2.2.1, t15.2.2.2.2.1, t15.2.2.2.2.2.1, t15.2.2.2.2.2.2.1, t15.2.2.2.2.2.2.2.1, t15.2.2.2.2.2.2.2.2.1, t15.2.2.2.2.2.2.2.2.2) else none else none else k1 ()
noncomputable def L_impl_NextStep_15 {R : Type} (k0 : (Int × Int) → Option R) (k1 : Unit → Option R) (t : T_impl_NextStep_15) : Option R := iter (S_impl_NextStep_15 k0 k1) FUEL t
noncomputable def F_impl_NextStep (x : List E_i64 × List E_Node × List E_Age × List E_Cell × List E_Vol × Int) : Option (Int × Int) :=
  Option.bind (F_impl_PoolOk (x.1, x.2.1, x.2.2.1, x.2.2.2.1, x.2.2.2.2.1, x.2.2.2.2.2)) fun r1 => bif (!r1) then some ((0 : Int), (0 : Int)) else Option.bind (F_impl_TreeKeys (x.1, x.2.1)) fun r2 => L_impl_NextStep_5 (fun x6 => some (x6.1, x6.2.1)) (fun x7 => L_impl_NextStep_15 (fun x13 => some (x13.1, x13.2)) (fun x14 => some ((0 : Int), (0 : Int))) (x7.2.2.1, ((List.length x7.2.2.1 : Nat) : Int), (0 : Int), x7.1, x7.2.1, x7.2.2.1, x7.2.2.2.1, x7.2.2.2.2.1, x7.2.2.2.2.2.1, x7.2.2.2.2.2.2)) (((List.length ([(1 : Int), (2 : Int), (3 : Int)] : List E_i64) : Nat) : Int), (0 : Int), x.1, x.2.1, x.2.2.1, x.2.2.2.1, x.2.2.2.2.1, x.2.2.2.2.2, r2, ([(1 : Int), (2 : Int), (3 : Int)] : List E_i64))
noncomputable def f96B : Code := match Tryz.f96.body with
  | some c => c
  | none => .skip
noncomputable def f96K : C.Sem := tab [⟨54, F_impl_PoolOk⟩, ⟨160, F_impl_TreeKeys⟩, ⟨161, F_impl_keyStep⟩, ⟨162, F_impl_Idle⟩, ⟨163, F_impl_KidsOf⟩, ⟨164, F_impl_hasKeys⟩]
def f96h8_0 : List Sh := [.dead, .box 1 0, .dead, .dead, .own 10000000, .dead, .v (.int .i64), .dead, .dead, .dead, .dead, .dead, .dead, .dead, .dead, .dead, .dead, .own 10000001, .v (.int .i64), .v (.int .i64), .dead, .dead, .dead, .own 10000000, .v (.int .i64), .v (.int .i64), .dead, .dead, .dead, .dead, .dead, .dead, .dead, .dead, .dead, .dead, .dead, .dead, .dead, .dead, .dead, .dead, .dead, .dead, .dead, .dead, .dead, .dead, .dead, .dead, .dead, .dead, .dead, .dead, .dead, .dead, .dead, .dead, .dead, .dead, .dead, .dead, .dead, .dead, .dead, .dead, .dead, .dead]
def f96o8_0 : List (Nat × OSh) := [(1, .box [.v (.sl 3 ts_i64), .v (.sl 97 ts_Node), .v (.sl 88 ts_Age), .v (.sl 94 ts_Cell), .v (.sl 90 ts_Vol), .v (.int .i64)]), (10000000, .root true 105 ts_Key), (10000001, .root true 3 ts_i64)]
def f96e8_0 (t : Int × Int × Int × Int × Int × List E_i64 × List E_Node × List E_Age × List E_Cell × List E_Vol × Int × List E_Key × List E_i64) : St := ⟨[.dead, .box 1 0, .dead, .dead, .own 10000000, .dead, .val (.int .i64) t.1, .dead, .dead, .dead, .dead, .dead, .dead, .dead, .dead, .dead, .dead, .own 10000001, .val (.int .i64) t.2.1, .val (.int .i64) t.2.2.1, .dead, .dead, .dead, .own 10000000, .val (.int .i64) t.2.2.2.1, .val (.int .i64) t.2.2.2.2.1, .dead, .dead, .dead, .dead, .dead, .dead, .dead, .dead, .dead, .dead, .dead, .dead, .dead, .dead, .dead, .dead, .dead, .dead, .dead, .dead, .dead, .dead, .dead, .dead, .dead, .dead, .dead, .dead, .dead, .dead, .dead, .dead, .dead, .dead, .dead, .dead, .dead, .dead, .dead, .dead, .dead, .dead], [(1, .box [.val (.sl 3 ts_i64) t.2.2.2.2.2.1, .val (.sl 97 ts_Node) t.2.2.2.2.2.2.1, .val (.sl 88 ts_Age) t.2.2.2.2.2.2.2.1, .val (.sl 94 ts_Cell) t.2.2.2.2.2.2.2.2.1, .val (.sl 90 ts_Vol) t.2.2.2.2.2.2.2.2.2.1, .val (.int .i64) t.2.2.2.2.2.2.2.2.2.2.1]), (10000000, .root true 105 ts_Key t.2.2.2.2.2.2.2.2.2.2.2.1), (10000001, .root true 3 ts_i64 t.2.2.2.2.2.2.2.2.2.2.2.2)]⟩
def f96x8_0 (t : Int × Int × Int × Int × List E_i64 × List E_Node × List E_Age × List E_Cell × List E_Vol × Int × List E_Key × List E_i64) : St := ⟨[.dead, .box 1 0, .val (.int .i64) t.1, .val (.int .i64) t.2.1, .own 10000000, .dead, .dead, .dead, .dead, .dead, .dead, .dead, .dead, .dead, .dead, .dead, .dead, .own 10000001, .val (.int .i64) t.2.2.1, .val (.int .i64) t.2.2.2.1, .dead, .dead, .dead, .dead, .dead, .dead, .dead, .dead, .dead, .dead, .dead, .dead, .dead, .dead, .dead, .dead, .dead, .dead, .dead, .dead, .dead, .dead, .dead, .dead, .dead, .dead, .dead, .dead, .dead, .dead, .dead, .dead, .dead, .dead, .dead, .dead, .dead, .dead, .dead, .dead, .dead, .dead, .dead, .dead, .dead, .dead, .dead, .dead], [(1, .box [.val (.sl 3 ts_i64) t.2.2.2.2.1, .val (.sl 97 ts_Node) t.2.2.2.2.2.1, .val (.sl 88 ts_Age) t.2.2.2.2.2.2.1, .val (.sl 94 ts_Cell) t.2.2.2.2.2.2.2.1, .val (.sl 90 ts_Vol) t.2.2.2.2.2.2.2.2.1, .val (.int .i64) t.2.2.2.2.2.2.2.2.2.1]), (10000000, .root true 105 ts_Key t.2.2.2.2.2.2.2.2.2.2.1), (10000001, .root true 3 ts_i64 t.2.2.2.2.2.2.2.2.2.2.2)]⟩
def f96x8_1 (t : Int × Int × List E_i64 × List E_Node × List E_Age × List E_Cell × List E_Vol × Int × List E_Key × List E_i64) : St := ⟨[.dead, .box 1 0, .dead, .dead, .own 10000000, .dead, .dead, .dead, .dead, .dead, .dead, .dead, .dead, .dead, .dead, .dead, .dead, .own 10000001, .val (.int .i64) t.1, .val (.int .i64) t.2.1, .dead, .dead, .dead, .dead, .dead, .dead, .dead, .dead, .dead, .dead, .dead, .dead, .dead, .dead, .dead, .dead, .dead, .dead, .dead, .dead, .dead, .dead, .dead, .dead, .dead, .dead, .dead, .dead, .dead, .dead, .dead, .dead, .dead, .dead, .dead, .dead, .dead, .dead, .dead, .dead, .dead, .dead, .dead, .dead, .dead, .dead, .dead, .dead], [(1, .box [.val (.sl 3 ts_i64) t.2.2.1, .val (.sl 97 ts_Node) t.2.2.2.1, .val (.sl 88 ts_Age) t.2.2.2.2.1, .val (.sl 94 ts_Cell) t.2.2.2.2.2.1, .val (.sl 90 ts_Vol) t.2.2.2.2.2.2.1, .val (.int .i64) t.2.2.2.2.2.2.2.1]), (10000000, .root true 105 ts_Key t.2.2.2.2.2.2.2.2.1), (10000001, .root true 3 ts_i64 t.2.2.2.2.2.2.2.2.2)]⟩
def f96u8_0 (s : St) : Option (Int × Int × Int × Int × Int × List E_i64 × List E_Node × List E_Age × List E_Cell × List E_Vol × Int × List E_Key × List E_i64) := (unS f96h8_0 f96o8_0 s).map fun v => (v.1.2.2.2.2.2.2.1, v.1.2.2.2.2.2.2.2.2.2.2.2.2.2.2.2.2.2.2.1, v.1.2.2.2.2.2.2.2.2.2.2.2.2.2.2.2.2.2.2.2.1, v.1.2.2.2.2.2.2.2.2.2.2.2.2.2.2.2.2.2.2.2.2.2.2.2.2.1, v.1.2.2.2.2.2.2.2.2.2.2.2.2.2.2.2.2.2.2.2.2.2.2.2.2.2.1, v.2.1.1, v.2.1.2.1, v.2.1.2.2.1, v.2.1.2.2.2.1, v.2.1.2.2.2.2.1, v.2.1.2.2.2.2.2.1, v.2.2.1, v.2.2.2.1)
theorem f96un8_0 : ∀ (s : St) (t : Int × Int × Int × Int × Int × List E_i64 × List E_Node × List E_Age × List E_Cell × List E_Vol × Int × List E_Key × List E_i64), f96u8_0 s = some t → f96e8_0 t = s := fun s v h => by
  obtain ⟨u, hu, rfl⟩ := Option.map_eq_some_iff.1 h
  exact (show f96e8_0 (u.1.2.2.2.2.2.2.1, u.1.2.2.2.2.2.2.2.2.2.2.2.2.2.2.2.2.2.2.1, u.1.2.2.2.2.2.2.2.2.2.2.2.2.2.2.2.2.2.2.2.1, u.1.2.2.2.2.2.2.2.2.2.2.2.2.2.2.2.2.2.2.2.2.2.2.2.2.1, u.1.2.2.2.2.2.2.2.2.2.2.2.2.2.2.2.2.2.2.2.2.2.2.2.2.2.1, u.2.1.1, u.2.1.2.1, u.2.1.2.2.1, u.2.1.2.2.2.1, u.2.1.2.2.2.2.1, u.2.1.2.2.2.2.2.1, u.2.2.1, u.2.2.2.1) = mkS f96h8_0 f96o8_0 u by kernel_rfl).trans (mkS_un f96h8_0 f96o8_0 s u hu)
def f96u8 : St → Option (Int × Int × Int × Int × Int × List E_i64 × List E_Node × List E_Age × List E_Cell × List E_Vol × Int × List E_Key × List E_i64) := f96u8_0
def f96e8 : (Int × Int × Int × Int × Int × List E_i64 × List E_Node × List E_Age × List E_Cell × List E_Vol × Int × List E_Key × List E_i64) → St := f96e8_0
theorem f96un8 : ∀ (s : St) (t : Int × Int × Int × Int × Int × List E_i64 × List E_Node × List E_Age × List E_Cell × List E_Vol × Int × List E_Key × List E_i64), f96u8 s = some t → f96e8 t = s := f96un8_0
def f96h5_0 : List Sh := [.dead, .box 1 0, .dead, .dead, .own 10000000, .dead, .dead, .dead, .dead, .dead, .dead, .dead, .dead, .dead, .dead, .dead, .dead, .own 10000001, .v (.int .i64), .v (.int .i64), .dead, .dead, .dead, .dead, .dead, .dead, .dead, .dead, .dead, .dead, .dead, .dead, .dead, .dead, .dead, .dead, .dead, .dead, .dead, .dead, .dead, .dead, .dead, .dead, .dead, .dead, .dead, .dead, .dead, .dead, .dead, .dead, .dead, .dead, .dead, .dead, .dead, .dead, .dead, .dead, .dead, .dead, .dead, .dead, .dead, .dead, .dead, .dead]
def f96o5_0 : List (Nat × OSh) := [(1, .box [.v (.sl 3 ts_i64), .v (.sl 97 ts_Node), .v (.sl 88 ts_Age), .v (.sl 94 ts_Cell), .v (.sl 90 ts_Vol), .v (.int .i64)]), (10000000, .root true 105 ts_Key), (10000001, .root true 3 ts_i64)]
def f96e5_0 (t : Int × Int × List E_i64 × List E_Node × List E_Age × List E_Cell × List E_Vol × Int × List E_Key × List E_i64) : St := ⟨[.dead, .box 1 0, .dead, .dead, .own 10000000, .dead, .dead, .dead, .dead, .dead, .dead, .dead, .dead, .dead, .dead, .dead, .dead, .own 10000001, .val (.int .i64) t.1, .val (.int .i64) t.2.1, .dead, .dead, .dead, .dead, .dead, .dead, .dead, .dead, .dead, .dead, .dead, .dead, .dead, .dead, .dead, .dead, .dead, .dead, .dead, .dead, .dead, .dead, .dead, .dead, .dead, .dead, .dead, .dead, .dead, .dead, .dead, .dead, .dead, .dead, .dead, .dead, .dead, .dead, .dead, .dead, .dead, .dead, .dead, .dead, .dead, .dead, .dead, .dead], [(1, .box [.val (.sl 3 ts_i64) t.2.2.1, .val (.sl 97 ts_Node) t.2.2.2.1, .val (.sl 88 ts_Age) t.2.2.2.2.1, .val (.sl 94 ts_Cell) t.2.2.2.2.2.1, .val (.sl 90 ts_Vol) t.2.2.2.2.2.2.1, .val (.int .i64) t.2.2.2.2.2.2.2.1]), (10000000, .root true 105 ts_Key t.2.2.2.2.2.2.2.2.1), (10000001, .root true 3 ts_i64 t.2.2.2.2.2.2.2.2.2)]⟩
def f96x5_0 (t : Int × Int × List E_i64 × List E_Node × List E_Age × List E_Cell × List E_Vol × Int × List E_Key) : St := ⟨[.dead, .box 1 0, .val (.int .i64) t.1, .val (.int .i64) t.2.1, .own 10000000, .dead, .dead, .dead, .dead, .dead, .dead, .dead, .dead, .dead, .dead, .dead, .dead, .dead, .dead, .dead, .dead, .dead, .dead, .dead, .dead, .dead, .dead, .dead, .dead, .dead, .dead, .dead, .dead, .dead, .dead, .dead, .dead, .dead, .dead, .dead, .dead, .dead, .dead, .dead, .dead, .dead, .dead, .dead, .dead, .dead, .dead, .dead, .dead, .dead, .dead, .dead, .dead, .dead, .dead, .dead, .dead, .dead, .dead, .dead, .dead, .dead, .dead, .dead], [(1, .box [.val (.sl 3 ts_i64) t.2.2.1, .val (.sl 97 ts_Node) t.2.2.2.1, .val (.sl 88 ts_Age) t.2.2.2.2.1, .val (.sl 94 ts_Cell) t.2.2.2.2.2.1, .val (.sl 90 ts_Vol) t.2.2.2.2.2.2.1, .val (.int .i64) t.2.2.2.2.2.2.2.1]), (10000000, .root true 105 ts_Key t.2.2.2.2.2.2.2.2)]⟩
def f96x5_1 (t : List E_i64 × List E_Node × List E_Age × List E_Cell × List E_Vol × Int × List E_Key) : St := ⟨[.dead, .box 1 0, .dead, .dead, .own 10000000, .dead, .dead, .dead, .dead, .dead, .dead, .dead, .dead, .dead, .dead, .dead, .dead, .dead, .dead, .dead, .dead, .dead, .dead, .dead, .dead, .dead, .dead, .dead, .dead, .dead, .dead, .dead, .dead, .dead, .dead, .dead, .dead, .dead, .dead, .dead, .dead, .dead, .dead, .dead, .dead, .dead, .dead, .dead, .dead, .dead, .dead, .dead, .dead, .dead, .dead, .dead, .dead, .dead, .dead, .dead, .dead, .dead, .dead, .dead, .dead, .dead, .dead, .dead], [(1, .box [.val (.sl 3 ts_i64) t.1, .val (.sl 97 ts_Node) t.2.1, .val (.sl 88 ts_Age) t.2.2.1, .val (.sl 94 ts_Cell) t.2.2.2.1, .val (.sl 90 ts_Vol) t.2.2.2.2.1, .val (.int .i64) t.2.2.2.2.2.1]), (10000000, .root true 105 ts_Key t.2.2.2.2.2.2)]⟩
def f96u5_0 (s : St) : Option (Int × Int × List E_i64 × List E_Node × List E_Age × List E_Cell × List E_Vol × Int × List E_Key × List E_i64) := (unS f96h5_0 f96o5_0 s).map fun v => (v.1.2.2.2.2.2.2.2.2.2.2.2.2.2.2.2.2.2.2.1, v.1.2.2.2.2.2.2.2.2.2.2.2.2.2.2.2.2.2.2.2.1, v.2.1.1, v.2.1.2.1, v.2.1.2.2.1, v.2.1.2.2.2.1, v.2.1.2.2.2.2.1, v.2.1.2.2.2.2.2.1, v.2.2.1, v.2.2.2.1)
theorem f96un5_0 : ∀ (s : St) (t : Int × Int × List E_i64 × List E_Node × List E_Age × List E_Cell × List E_Vol × Int × List E_Key × List E_i64), f96u5_0 s = some t → f96e5_0 t = s := fun s v h => by
  obtain ⟨u, hu, rfl⟩ := Option.map_eq_some_iff.1 h
  exact (show f96e5_0 (u.1.2.2.2.2.2.2.2.2.2.2.2.2.2.2.2.2.2.2.1, u.1.2.2.2.2.2.2.2.2.2.2.2.2.2.2.2.2.2.2.2.1, u.2.1.1, u.2.1.2.1, u.2.1.2.2.1, u.2.1.2.2.2.1, u.2.1.2.2.2.2.1, u.2.1.2.2.2.2.2.1, u.2.2.1, u.2.2.2.1) = mkS f96h5_0 f96o5_0 u by kernel_rfl).trans (mkS_un f96h5_0 f96o5_0 s u hu)
def f96u5 : St → Option (Int × Int × List E_i64 × List E_Node × List E_Age × List E_Cell × List E_Vol × Int × List E_Key × List E_i64) := f96u5_0
def f96e5 : (Int × Int × List E_i64 × List E_Node × List E_Age × List E_Cell × List E_Vol × Int × List E_Key × List E_i64) → St := f96e5_0
theorem f96un5 : ∀ (s : St) (t : Int × Int × List E_i64 × List E_Node × List E_Age × List E_Cell × List E_Vol × Int × List E_Key × List E_i64), f96u5 s = some t → f96e5 t = s := f96un5_0
def f96h15_0 : List Sh := [.dead, .box 1 0, .dead, .dead, .own 10000000, .dead, .dead, .dead, .dead, .dead, .dead, .dead, .dead, .dead, .dead, .dead, .dead, .dead, .dead, .dead, .dead, .dead, .dead, .dead, .dead, .dead, .dead, .dead, .dead, .dead, .dead, .dead, .dead, .dead, .dead, .dead, .dead, .dead, .dead, .v (.sl 88 ts_Age), .v (.int .i64), .v (.int .i64), .dead, .dead, .dead, .dead, .dead, .dead, .dead, .dead, .dead, .dead, .dead, .dead, .dead, .dead, .dead, .dead, .dead, .dead, .dead, .dead, .dead, .dead, .dead, .dead, .dead, .dead]
def f96o15_0 : List (Nat × OSh) := [(1, .box [.v (.sl 3 ts_i64), .v (.sl 97 ts_Node), .v (.sl 88 ts_Age), .v (.sl 94 ts_Cell), .v (.sl 90 ts_Vol), .v (.int .i64)]), (10000000, .root true 105 ts_Key)]
def f96e15_0 (t : List E_Age × Int × Int × List E_i64 × List E_Node × List E_Age × List E_Cell × List E_Vol × Int × List E_Key) : St := ⟨[.dead, .box 1 0, .dead, .dead, .own 10000000, .dead, .dead, .dead, .dead, .dead, .dead, .dead, .dead, .dead, .dead, .dead, .dead, .dead, .dead, .dead, .dead, .dead, .dead, .dead, .dead, .dead, .dead, .dead, .dead, .dead, .dead, .dead, .dead, .dead, .dead, .dead, .dead, .dead, .dead, .val (.sl 88 ts_Age) t.1, .val (.int .i64) t.2.1, .val (.int .i64) t.2.2.1, .dead, .dead, .dead, .dead, .dead, .dead, .dead, .dead, .dead, .dead, .dead, .dead, .dead, .dead, .dead, .dead, .dead, .dead, .dead, .dead, .dead, .dead, .dead, .dead, .dead, .dead], [(1, .box [.val (.sl 3 ts_i64) t.2.2.2.1, .val (.sl 97 ts_Node) t.2.2.2.2.1, .val (.sl 88 ts_Age) t.2.2.2.2.2.1, .val (.sl 94 ts_Cell) t.2.2.2.2.2.2.1, .val (.sl 90 ts_Vol) t.2.2.2.2.2.2.2.1, .val (.int .i64) t.2.2.2.2.2.2.2.2.1]), (10000000, .root true 105 ts_Key t.2.2.2.2.2.2.2.2.2)]⟩
def f96x15_0 (t : Int × Int) : St := ⟨[.dead, .dead, .val (.int .i64) t.1, .val (.int .i64) t.2, .dead, .dead, .dead, .dead, .dead, .dead, .dead, .dead, .dead, .dead, .dead, .dead, .dead, .dead, .dead, .dead, .dead, .dead, .dead, .dead, .dead, .dead, .dead, .dead, .dead, .dead, .dead, .dead, .dead, .dead, .dead, .dead, .dead, .dead, .dead, .dead, .dead, .dead, .dead, .dead, .dead, .dead, .dead, .dead, .dead, .dead, .dead, .dead, .dead, .dead, .dead, .dead, .dead, .dead, .dead, .dead, .dead, .dead, .dead, .dead, .dead, .dead, .dead, .dead], []⟩
def f96x15_1 (t : Unit) : St := ⟨[.dead, .dead, .dead, .dead, .dead, .dead, .dead, .dead, .dead, .dead, .dead, .dead, .dead, .dead, .dead, .dead, .dead, .dead, .dead, .dead, .dead, .dead, .dead, .dead, .dead, .dead, .dead, .dead, .dead, .dead, .dead, .dead, .dead, .dead, .dead, .dead, .dead, .dead, .dead, .dead, .dead, .dead, .dead, .dead, .dead, .dead, .dead, .dead, .dead, .dead, .dead, .dead, .dead, .dead, .dead, .dead, .dead, .dead, .dead, .dead, .dead, .dead, .dead, .dead, .dead, .dead, .dead, .dead], []⟩
def f96u15_0 (s : St) : Option (List E_Age × Int × Int × List E_i64 × List E_Node × List E_Age × List E_Cell × List E_Vol × Int × List E_Key) := (unS f96h15_0 f96o15_0 s).map fun v => (v.1.2.2.2.2.2.2.2.2.2.2.2.2.2.2.2.2.2.2.2.2.2.2.2.2.2.2.2.2.2.2.2.2.2.2.2.2.2.2.2.1, v.1.2.2.2.2.2.2.2.2.2.2.2.2.2.2.2.2.2.2.2.2.2.2.2.2.2.2.2.2.2.2.2.2.2.2.2.2.2.2.2.2.1, v.1.2.2.2.2.2.2.2.2.2.2.2.2.2.2.2.2.2.2.2.2.2.2.2.2.2.2.2.2.2.2.2.2.2.2.2.2.2.2.2.2.2.1, v.2.1.1, v.2.1.2.1, v.2.1.2.2.1, v.2.1.2.2.2.1, v.2.1.2.2.2.2.1, v.2.1.2.2.2.2.2.1, v.2.2.1)
theorem f96un15_0 : ∀ (s : St) (t : List E_Age × Int × Int × List E_i64 × List E_Node × List E_Age × List E_Cell × List E_Vol × Int × List E_Key), f96u15_0 s = some t → f96e15_0 t = s := fun s v h => by
  obtain ⟨u, hu, rfl⟩ := Option.map_eq_some_iff.1 h
  exact (show f96e15_0 (u.1.2.2.2.2.2.2.2.2.2.2.2.2.2.2.2.2.2.2.2.2.2.2.2.2.2.2.2.2.2.2.2.2.2.2.2.2.2.2.2.1, u.1.2.2.2.2.2.2.2.2.2.2.2.2.2.2.2.2.2.2.2.2.2.2.2.2.2.2.2.2.2.2.2.2.2.2.2.2.2.2.2.2.1, u.1.2.2.2.2.2.2.2.2.2.2.2.2.2.2.2.2.2.2.2.2.2.2.2.2.2.2.2.2.2.2.2.2.2.2.2.2.2.2.2.2.2.1, u.2.1.1, u.2.1.2.1, u.2.1.2.2.1, u.2.1.2.2.2.1, u.2.1.2.2.2.2.1, u.2.1.2.2.2.2.2.1, u.2.2.1) = mkS f96h15_0 f96o15_0 u by kernel_rfl).trans (mkS_un f96h15_0 f96o15_0 s u hu)
def f96u15 : St → Option (List E_Age × Int × Int × List E_i64 × List E_Node × List E_Age × List E_Cell × List E_Vol × Int × List E_Key) := f96u15_0
def f96e15 : (List E_Age × Int × Int × List E_i64 × List E_Node × List E_Age × List E_Cell × List E_Vol × Int × List E_Key) → St := f96e15_0
theorem f96un15 : ∀ (s : St) (t : List E_Age × Int × Int × List E_i64 × List E_Node × List E_Age × List E_Cell × List E_Vol × Int × List E_Key), f96u15 s = some t → f96e15 t = s := f96un15_0
noncomputable def f96P : Lp := fun i s {_R} κ => bif Nat.beq i 15 then (f96u15 s).bind fun t => L_impl_NextStep_15 (fun t => κ (none) (f96x15_0 t)) (fun t => κ (some 4) (f96x15_1 t)) t else bif Nat.beq i 5 then (f96u5 s).bind fun t => L_impl_NextStep_5 (fun t => κ (none) (f96x5_0 t)) (fun t => κ (some 0) (f96x5_1 t)) t else bif Nat.beq i 8 then (f96u8 s).bind fun t => L_impl_NextStep_8 (fun t => κ (none) (f96x8_0 t)) (fun t => κ (some 2) (f96x8_1 t)) t else none
noncomputable def f96c8 : Code := (loopsOf f96B).getD 1 .skip
theorem f96A8 : C.live 96 (firstRegion f96c8) = some ([1, 4, 6, 17, 18, 19, 23, 24, 25, 51, 52, 53, 54, 55, 56, 57, 60, 61, 62, 63, 64], [1, 2, 3, 4, 17, 18, 19, 51, 52, 53, 54, 55, 56, 57, 60, 61, 62, 63, 64]) := by kernel_rfl
theorem f96B8 {R : Type} (κ : Option Nat → St → Option R) (s : St) : f96P (firstRegion f96c8) s κ = (f96u8 s).bind fun t => iter (S_impl_NextStep_8 (fun t => κ (none) (f96x8_0 t)) (fun t => κ (some 2) (f96x8_1 t))) FUEL t := by kernel_rfl
theorem f96C8 {R : Type} (κ : Option Nat → St → Option R) (again : St → Option R) (t : T_impl_NextStep_8) : stepL C f96K f96P 96 f96c8 [1, 4, 6, 17, 18, 19, 23, 24, 25, 51, 52, 53, 54, 55, 56, 57, 60, 61, 62, 63, 64] [1, 2, 3, 4, 17, 18, 19, 51, 52, 53, 54, 55, 56, 57, 60, 61, 62, 63, 64] κ again (f96e8 t) = S_impl_NextStep_8 (fun t => κ (none) (f96x8_0 t)) (fun t => κ (some 2) (f96x8_1 t)) (fun t => again (f96e8 t)) t := by kernel_rfl
theorem f96ok8 : LoopOk C f96K f96P 96 f96c8 := loop_ok f96A8 f96e8 f96u8 f96un8 (fun {_R} κ => S_impl_NextStep_8 (fun t => κ (none) (f96x8_0 t)) (fun t => κ (some 2) (f96x8_1 t))) (fun {_R} κ s => f96B8 κ s) (fun {_R} κ again t => f96C8 κ again t)
noncomputable def f96c5 : Code := (loopsOf f96B).getD 0 .skip
theorem f96A5 : C.live 96 (firstRegion f96c5) = some ([1, 4, 17, 18, 19, 51, 52, 53, 54, 55, 56, 57, 60, 61, 62, 63, 64], [1, 2, 3, 4, 51, 52, 53, 54, 55, 56, 57, 60, 61, 62, 63, 64]) := by kernel_rfl
theorem f96B5 {R : Type} (κ : Option Nat → St → Option R) (s : St) : f96P (firstRegion f96c5) s κ = (f96u5 s).bind fun t => iter (S_impl_NextStep_5 (fun t => κ (none) (f96x5_0 t)) (fun t => κ (some 0) (f96x5_1 t))) FUEL t := by kernel_rfl
theorem f96C5 {R : Type} (κ : Option Nat → St → Option R) (again : St → Option R) (t : T_impl_NextStep_5) : stepL C f96K f96P 96 f96c5 [1, 4, 17, 18, 19, 51, 52, 53, 54, 55, 56, 57, 60, 61, 62, 63, 64] [1, 2, 3, 4, 51, 52, 53, 54, 55, 56, 57, 60, 61, 62, 63, 64] κ again (f96e5 t) = S_impl_NextStep_5 (fun t => κ (none) (f96x5_0 t)) (fun t => κ (some 0) (f96x5_1 t)) (fun t => again (f96e5 t)) t := by kernel_rfl
theorem f96ok5 : LoopOk C f96K f96P 96 f96c5 := loop_ok f96A5 f96e5 f96u5 f96un5 (fun {_R} κ => S_impl_NextStep_5 (fun t => κ (none) (f96x5_0 t)) (fun t => κ (some 0) (f96x5_1 t))) (fun {_R} κ s => f96B5 κ s) (fun {_R} κ again t => f96C5 κ again t)
noncomputable def f96c15 : Code := (loopsOf f96B).getD 2 .skip
theorem f96A15 : C.live 96 (firstRegion f96c15) = some ([1, 4, 39, 40, 41, 51, 52, 53, 54, 55, 56, 57, 60, 61, 62, 63, 64], [2, 3]) := by kernel_rfl
theorem f96B15 {R : Type} (κ : Option Nat → St → Option R) (s : St) : f96P (firstRegion f96c15) s κ = (f96u15 s).bind fun t => iter (S_impl_NextStep_15 (fun t => κ (none) (f96x15_0 t)) (fun t => κ (some 4) (f96x15_1 t))) FUEL t := by kernel_rfl
theorem f96C15 {R : Type} (κ : Option Nat → St → Option R) (again : St → Option R) (t : T_impl_NextStep_15) : stepL C f96K f96P 96 f96c15 [1, 4, 39, 40, 41, 51, 52, 53, 54, 55, 56, 57, 60, 61, 62, 63, 64] [2, 3] κ again (f96e15 t) = S_impl_NextStep_15 (fun t => κ (none) (f96x15_0 t)) (fun t => κ (some 4) (f96x15_1 t)) (fun t => again (f96e15 t)) t := by kernel_rfl
theorem f96ok15 : LoopOk C f96K f96P 96 f96c15 := loop_ok f96A15 f96e15 f96u15 f96un15 (fun {_R} κ => S_impl_NextStep_15 (fun t => κ (none) (f96x15_0 t)) (fun t => κ (some 4) (f96x15_1 t))) (fun {_R} κ s => f96B15 κ s) (fun {_R} κ again t => f96C15 κ again t)
theorem k96 : Contract C Tryz.prog f96K := contract_tab _ (fun p hp => by
    simp only [List.mem_cons, List.mem_nil_iff, or_false] at hp
    rcases hp with rfl | rfl | rfl | rfl | rfl | rfl
    · exact ok54
    · exact ok160
    · exact ok161
    · exact ok162
    · exact ok163
    · exact ok164)
theorem ev96 (x : List E_i64 × List E_Node × List E_Age × List E_Cell × List E_Vol × Int) : evalB C f96K f96P 96 Tryz.f96 f96B ⟨[.v true [(.sl 3 ts_i64), (.sl 97 ts_Node), (.sl 88 ts_Age), (.sl 94 ts_Cell), (.sl 90 ts_Vol), (.int .i64)] [false, false, false, false, false, false]], [⟨false, [(.int .i64)], [false]⟩, ⟨false, [(.int .i64)], [false]⟩], false⟩ [(.sl 3 ts_i64), (.sl 97 ts_Node), (.sl 88 ts_Age), (.sl 94 ts_Cell), (.sl 90 ts_Vol), (.int .i64)] [(.int .i64), (.int .i64)] x = F_impl_NextStep x := by kernel_rfl
theorem ok96 : ContractAt C Tryz.prog 96 F_impl_NextStep := fn_sound (lp := f96P) tok mixed k96 (by kernel_rfl) (fn := Tryz.f96) (c := f96B) (sg := ⟨[.v true [(.sl 3 ts_i64), (.sl 97 ts_Node), (.sl 88 ts_Age), (.sl 94 ts_Cell), (.sl 90 ts_Vol), (.int .i64)] [false, false, false, false, false, false]], [⟨false, [(.int .i64)], [false]⟩, ⟨false, [(.int .i64)], [false]⟩], false⟩) Tryz.func96 (by decide) (by kernel_rfl) (by kernel_rfl) (by kernel_rfl) (fun c' hc' => by
    rw [show loopsOf f96B = [f96c5, f96c8, f96c15] by kernel_rfl] at hc'
    simp only [List.mem_cons, List.mem_nil_iff, or_false] at hc'
    rcases hc' with rfl | rfl | rfl
    · exact f96ok5
    · exact f96ok8
    · exact f96ok15) (by decide) (by decide) (fun x y h => (ev96 x).trans h)
abbrev T_impl_Distinct_3 : Type := Int × Int × Int × List E_i64 × List E_Node × List E_Age × List E_Cell × List E_Vol × Int × List E_Key
noncomputable def S_impl_Distinct_3 {R : Type} (k0 : Int → Option R) (again : T_impl_Distinct_3 → Option R) (t3 : T_impl_Distinct_3) : Option R :=
  bif (decide (t3.2.2.1 < t3.2.1)) then if (0 : Int) ≤ t3.2.2.1 then if t3.2.2.1 < ((List.length t3.2.2.2.2.2.2.2.2.2 : Nat) : Int) then Option.bind (bif ((rd_Key t3.2.2.2.2.2.2.2.2.2 t3.2.2.1).2.2.1 == (1 : Int)) then Option.bind (F_impl_SeenByAny (t3.2.2.2.1, t3.2.2.2.2.1, t3.2.2.2.2.2.1, t3.2.2.2.2.2.2.1, t3.2.2.2.2.2.2.2.1, t3.2.2.2.2.2.2.2.2.1, (rd_Key t3.2.2.2.2.2.2.2.2.2 t3.2.2.1).1, (rd_Key t3.2.2.2.2.2.2.2.2.2 t3.2.2.1).2.1, (rd_Key t3.2.2.2.2.2.2.2.2.2 t3.2.2.1).2.2.1, (rd_Key t3.2.2.2.2.2.2.2.2.2 t3.2.2.1).2.2.2.1, (rd_Key t3.2.2.2.2.2.2.2.2.2 t3.2.2.1).2.2.2.2)) fun r3 => some r3 else some false) fun u2 => bif u2 then again ((Go.IntKind.wrap .i64 (t3.1 + (1 : Int))), t3.2.1, (Go.IntKind.wrap .i64 (t3.2.2.1 + (1 : Int))), t3.2.2.2.1, t3.2.2.2.2.1, t3.2.2.2.2.2.1, t3.2.2.2.2.2.2.1, t3.2.2.2.2.2.2.2.1, t3.2.2.2.2.2.2.2.2.1, t3.2.2.2.2.2.2.2.2.2) else again (t3.1, t3.2.1, (Go.IntKind.wrap .i64 (t3.2.2.1 + (1 : Int))), t3.2.2.2.1, t3.2.2.2.2.1, t3.2.2.2.2.2.1, t3.2.2.2.2.2.2.1, t3.2.2.2.2.2.2.2.1, t3.2.2.2.2.2.2.2.2.1, t3.2.2.2.2.2.2.2.2.2) else none else none else k0 t3.1
noncomputable def L_impl_Distinct_3 {R : Type} (k0 : Int → Option R) (t : T_impl_Distinct_3) : Option R := iter (S_impl_Distinct_3 k0) FUEL t
noncomputable def F_impl_Distinct (x : List E_i64 × List E_Node × List E_Age × List E_Cell × List E_Vol × Int) : Option (Int) :=
  Option.bind (F_impl_TreeKeys (x.1, x.2.1)) fun r1 => L_impl_Distinct_3 (fun x4 => some x4) ((0 : Int), ((List.length r1 : Nat) : Int), (0 : Int), x.1, x.2.1, x.2.2.1, x.2.2.2.1, x.2.2.2.2.1, x.2.2.2.2.2, r1)
noncomputable def f98B : Code := match Tryz.f98.body with
  | some c => c
  | none => .skip
noncomputable def f98K : C.Sem := tab [⟨160, F_impl_TreeKeys⟩, ⟨165, F_impl_SeenByAny⟩]
def f98h3_0 : List Sh := [.dead, .box 1 0, .dead, .v (.int .i64), .dead, .dead, .dead, .dead, .own 10000000, .v (.int .i64), .v (.int .i64), .dead, .dead, .dead, .dead, .dead, .dead, .dead, .dead, .dead, .dead, .dead, .dead, .dead, .dead, .dead]
def f98o3_0 : List (Nat × OSh) := [(1, .box [.v (.sl 3 ts_i64), .v (.sl 97 ts_Node), .v (.sl 88 ts_Age), .v (.sl 94 ts_Cell), .v (.sl 90 ts_Vol), .v (.int .i64)]), (10000000, .root true 105 ts_Key)]
def f98e3_0 (t : Int × Int × Int × List E_i64 × List E_Node × List E_Age × List E_Cell × List E_Vol × Int × List E_Key) : St := ⟨[.dead, .box 1 0, .dead, .val (.int .i64) t.1, .dead, .dead, .dead, .dead, .own 10000000, .val (.int .i64) t.2.1, .val (.int .i64) t.2.2.1, .dead, .dead, .dead, .dead, .dead, .dead, .dead, .dead, .dead, .dead, .dead, .dead, .dead, .dead, .dead], [(1, .box [.val (.sl 3 ts_i64) t.2.2.2.1, .val (.sl 97 ts_Node) t.2.2.2.2.1, .val (.sl 88 ts_Age) t.2.2.2.2.2.1, .val (.sl 94 ts_Cell) t.2.2.2.2.2.2.1, .val (.sl 90 ts_Vol) t.2.2.2.2.2.2.2.1, .val (.int .i64) t.2.2.2.2.2.2.2.2.1]), (10000000, .root true 105 ts_Key t.2.2.2.2.2.2.2.2.2)]⟩
def f98x3_0 (t : Int) : St := ⟨[.dead, .dead, .dead, .val (.int .i64) t, .dead, .dead, .dead, .dead, .dead, .dead, .dead, .dead, .dead, .dead, .dead, .dead, .dead, .dead, .dead, .dead, .dead, .dead, .dead, .dead, .dead, .dead], []⟩
def f98u3_0 (s : St) : Option (Int × Int × Int × List E_i64 × List E_Node × List E_Age × List E_Cell × List E_Vol × Int × List E_Key) := (unS f98h3_0 f98o3_0 s).map fun v => (v.1.2.2.2.1, v.1.2.2.2.2.2.2.2.2.2.1, v.1.2.2.2.2.2.2.2.2.2.2.1, v.2.1.1, v.2.1.2.1, v.2.1.2.2.1, v.2.1.2.2.2.1, v.2.1.2.2.2.2.1, v.2.1.2.2.2.2.2.1, v.2.2.1)
theorem f98un3_0 : ∀ (s : St) (t : Int × Int × Int × List E_i64 × List E_Node × List E_Age × List E_Cell × List E_Vol × Int × List E_Key), f98u3_0 s = some t → f98e3_0 t = s := fun s v h => by
  obtain ⟨u, hu, rfl⟩ := Option.map_eq_some_iff.1 h
  exact (show f98e3_0 (u.1.2.2.2.1, u.1.2.2.2.2.2.2.2.2.2.1, u.1.2.2.2.2.2.2.2.2.2.2.1, u.2.1.1, u.2.1.2.1, u.2.1.2.2.1, u.2.1.2.2.2.1, u.2.1.2.2.2.2.1, u.2.1.2.2.2.2.2.1, u.2.2.1) = mkS f98h3_0 f98o3_0 u by kernel_rfl).trans (mkS_un f98h3_0 f98o3_0 s u hu)
def f98u3 : St → Option (Int × Int × Int × List E_i64 × List E_Node × List E_Age × List E_Cell × List E_Vol × Int × List E_Key) := f98u3_0
def f98e3 : (Int × Int × Int × List E_i64 × List E_Node × List E_Age × List E_Cell × List E_Vol × Int × List E_Key) → St := f98e3_0
theorem f98un3 : ∀ (s : St) (t : Int × Int × Int × List E_i64 × List E_Node × List E_Age × List E_Cell × List E_Vol × Int × List E_Key), f98u3 s = some t → f98e3 t = s := f98un3_0
noncomputable def f98P : Lp := fun i s {_R} κ => bif Nat.beq i 3 then (f98u3 s).bind fun t => L_impl_Distinct_3 (fun t => κ (some 0) (f98x3_0 t)) t else none
noncomputable def f98c3 : Code := (loopsOf f98B).getD 0 .skip
theorem f98A3 : C.live 98 (firstRegion f98c3) = some ([1, 3, 8, 9, 10, 18, 19, 20], [3]) := by kernel_rfl
theorem f98B3 {R : Type} (κ : Option Nat → St → Option R) (s : St) : f98P (firstRegion f98c3) s κ = (f98u3 s).bind fun t => iter (S_impl_Distinct_3 (fun t => κ (some 0) (f98x3_0 t))) FUEL t := by kernel_rfl
theorem f98C3 {R : Type} (κ : Option Nat → St → Option R) (again : St → Option R) (t : T_impl_Distinct_3) : stepL C f98K f98P 98 f98c3 [1, 3, 8, 9, 10, 18, 19, 20] [3] κ again (f98e3 t) = S_impl_Distinct_3 (fun t => κ (some 0) (f98x3_0 t)) (fun t => again (f98e3 t)) t := by kernel_rfl
theorem f98ok3 : LoopOk C f98K f98P 98 f98c3 := loop_ok f98A3 f98e3 f98u3 f98un3 (fun {_R} κ => S_impl_Distinct_3 (fun t => κ (some 0) (f98x3_0 t))) (fun {_R} κ s => f98B3 κ s) (fun {_R} κ again t => f98C3 κ again t)
theorem k98 : Contract C Tryz.prog f98K := contract_tab _ (fun p hp => by
    simp only [List.mem_cons, List.mem_nil_iff, or_false] at hp
    rcases hp with rfl | rfl
    · exact ok160
    · exact ok165)
theorem ev98 (x : List E_i64 × List E_Node × List E_Age × List E_Cell × List E_Vol × Int) : evalB C f98K f98P 98 Tryz.f98 f98B ⟨[.v true [(.sl 3 ts_i64), (.sl 97 ts_Node), (.sl 88 ts_Age), (.sl 94 ts_Cell), (.sl 90 ts_Vol), (.int .i64)] [false, false, false, false, false, false]], [⟨false, [(.int .i64)], [false]⟩], false⟩ [(.sl 3 ts_i64), (.sl 97 ts_Node), (.sl 88 ts_Age), (.sl 94 ts_Cell), (.sl 90 ts_Vol), (.int .i64)] [(.int .i64)] x = F_impl_Distinct x := by kernel_rfl
theorem ok98 : ContractAt C Tryz.prog 98 F_impl_Distinct := fn_sound (lp := f98P) tok mixed k98 (by kernel_rfl) (fn := Tryz.f98) (c := f98B) (sg := ⟨[.v true [(.sl 3 ts_i64), (.sl 97 ts_Node), (.sl 88 ts_Age), (.sl 94 ts_Cell), (.sl 90 ts_Vol), (.int .i64)] [false, false, false, false, false, false]], [⟨false, [(.int .i64)], [false]⟩], false⟩) Tryz.func98 (by decide) (by kernel_rfl) (by kernel_rfl) (by kernel_rfl) (fun c' hc' => by
    rw [show loopsOf f98B = [f98c3] by kernel_rfl] at hc'
    simp only [List.mem_cons, List.mem_nil_iff, or_false] at hc'
    rcases hc' with rfl
    · exact f98ok3) (by decide) (by decide) (fun x y h => (ev98 x).trans h)
noncomputable def F_impl_CalmOk (x : List E_i64 × List E_Node × List E_Age × List E_Cell × List E_Vol × Int) : Option (Bool) :=
  Option.bind (F_impl_NextStep (x.1, x.2.1, x.2.2.1, x.2.2.2.1, x.2.2.2.2.1, x.2.2.2.2.2)) fun r1 => Option.bind (F_impl_PoolOk (x.1, x.2.1, x.2.2.1, x.2.2.2.1, x.2.2.2.2.1, x.2.2.2.2.2)) fun r2 => Option.bind (bif r2 then some (r1.1 == (0 : Int)) else some false) fun u3 => Option.bind (bif u3 then Option.bind (F_impl_UsedCells x.2.2.2.1) fun r5 => Option.bind (F_impl_Distinct (x.1, x.2.1, x.2.2.1, x.2.2.2.1, x.2.2.2.2.1, x.2.2.2.2.2)) fun r6 => some (r5 == r6) else some false) fun u4 => some u4
noncomputable def f35B : Code := match Tryz.f35.body with
  | some c => c
  | none => .skip
noncomputable def f35K : C.Sem := tab [⟨54, F_impl_PoolOk⟩, ⟨96, F_impl_NextStep⟩, ⟨97, F_impl_UsedCells⟩, ⟨98, F_impl_Distinct⟩]
noncomputable def f35P : Lp := fun i s {_R} κ => none
theorem k35 : Contract C Tryz.prog f35K := contract_tab _ (fun p hp => by
    simp only [List.mem_cons, List.mem_nil_iff, or_false] at hp
    rcases hp with rfl | rfl | rfl | rfl
    · exact ok54
    · exact ok96
    · exact ok97
    · exact ok98)
theorem ev35 (x : List E_i64 × List E_Node × List E_Age × List E_Cell × List E_Vol × Int) : evalB C f35K f35P 35 Tryz.f35 f35B ⟨[.v true [(.sl 3 ts_i64), (.sl 97 ts_Node), (.sl 88 ts_Age), (.sl 94 ts_Cell), (.sl 90 ts_Vol), (.int .i64)] [false, false, false, false, false, false]], [⟨false, [.bool], [false]⟩], false⟩ [(.sl 3 ts_i64), (.sl 97 ts_Node), (.sl 88 ts_Age), (.sl 94 ts_Cell), (.sl 90 ts_Vol), (.int .i64)] [.bool] x = F_impl_CalmOk x := by kernel_rfl
theorem ok35 : ContractAt C Tryz.prog 35 F_impl_CalmOk := fn_sound (lp := f35P) tok mixed k35 (by kernel_rfl) (fn := Tryz.f35) (c := f35B) (sg := ⟨[.v true [(.sl 3 ts_i64), (.sl 97 ts_Node), (.sl 88 ts_Age), (.sl 94 ts_Cell), (.sl 90 ts_Vol), (.int .i64)] [false, false, false, false, false, false]], [⟨false, [.bool], [false]⟩], false⟩) Tryz.func35 (by decide) (by kernel_rfl) (by kernel_rfl) (by kernel_rfl) (fun c' hc' => by
    rw [show loopsOf f35B = [] by kernel_rfl] at hc'
    cases hc') (by decide) (by decide) (fun x y h => (ev35 x).trans h)
noncomputable def F_laws_FnExactCalmOk (x : List E_i64 × List E_LNode × List E_LAge × List E_LCell × List E_LVol × Int) : Option (Bool) :=
  Option.bind (F_laws_szPool (x.1, x.2.1, x.2.2.1, x.2.2.2.1, x.2.2.2.2.1, x.2.2.2.2.2, (1048576 : Int))) fun r1 => bif (decide (r1 < (0 : Int))) then some true else Option.bind (F_laws_toPool (x.1, x.2.1, x.2.2.1, x.2.2.2.1, x.2.2.2.2.1, x.2.2.2.2.2)) fun r2 => Option.bind (F_spec_CalmOk (r2.1, r2.2.1, r2.2.2.1, r2.2.2.2.1, r2.2.2.2.2.1, r2.2.2.2.2.2)) fun r3 => Option.bind (F_laws_toPool (x.1, x.2.1, x.2.2.1, x.2.2.2.1, x.2.2.2.2.1, x.2.2.2.2.2)) fun r4 => Option.bind (F_impl_CalmOk (r4.1, r4.2.1, r4.2.2.1, r4.2.2.2.1, r4.2.2.2.2.1, r4.2.2.2.2.2)) fun r5 => bif (!(r5 == r3)) then some false else Option.bind (F_laws_toPool (x.1, x.2.1, x.2.2.1, x.2.2.2.1, x.2.2.2.2.1, x.2.2.2.2.2)) fun r6 => Option.bind (F_laws_eqPool (r4.1, r4.2.1, r4.2.2.1, r4.2.2.2.1, r4.2.2.2.2.1, r4.2.2.2.2.2, r6.1, r6.2.1, r6.2.2.1, r6.2.2.2.1, r6.2.2.2.2.1, r6.2.2.2.2.2)) fun r7 => bif (!r7) then some false else some true
noncomputable def f7B : Code := match Tryz.f7.body with
  | some c => c
  | none => .skip
noncomputable def f7K : C.Sem := tab [⟨14, F_laws_szPool⟩, ⟨16, F_laws_toPool⟩, ⟨19, F_laws_eqPool⟩, ⟨34, F_spec_CalmOk⟩, ⟨35, F_impl_CalmOk⟩]
noncomputable def f7P : Lp := fun i s {_R} κ => none
theorem k7 : Contract C Tryz.prog f7K := contract_tab _ (fun p hp => by
    simp only [List.mem_cons, List.mem_nil_iff, or_false] at hp
    rcases hp with rfl | rfl | rfl | rfl | rfl
    · exact ok14
    · exact ok16
    · exact ok19
    · exact ok34
    · exact ok35)
theorem ev7 (x : List E_i64 × List E_LNode × List E_LAge × List E_LCell × List E_LVol × Int) : evalB C f7K f7P 7 Tryz.f7 f7B ⟨[.v true [(.sl 3 ts_i64), (.sl 205 ts_LNode), (.sl 158 ts_LAge), (.sl 160 ts_LCell), (.sl 150 ts_LVol), (.int .i64)] [false, false, false, false, false, false]], [⟨false, [.bool], [false]⟩], false⟩ [(.sl 3 ts_i64), (.sl 205 ts_LNode), (.sl 158 ts_LAge), (.sl 160 ts_LCell), (.sl 150 ts_LVol), (.int .i64)] [.bool] x = F_laws_FnExactCalmOk x := by kernel_rfl
theorem ok7 : ContractAt C Tryz.prog 7 F_laws_FnExactCalmOk := fn_sound (lp := f7P) tok mixed k7 (by kernel_rfl) (fn := Tryz.f7) (c := f7B) (sg := ⟨[.v true [(.sl 3 ts_i64), (.sl 205 ts_LNode), (.sl 158 ts_LAge), (.sl 160 ts_LCell), (.sl 150 ts_LVol), (.int .i64)] [false, false, false, false, false, false]], [⟨false, [.bool], [false]⟩], false⟩) Tryz.func7 (by decide) (by kernel_rfl) (by kernel_rfl) (by kernel_rfl) (fun c' hc' => by
    rw [show loopsOf f7B = [] by kernel_rfl] at hc'
    cases hc') (by decide) (by decide) (fun x y h => (ev7 x).trans h)
end Go.Proofs.YtmofdkmggfdciaaGreat.XC
