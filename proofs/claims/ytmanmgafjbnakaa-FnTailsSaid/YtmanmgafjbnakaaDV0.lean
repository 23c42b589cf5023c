/- What functions compute, and that they do; part 0 of V; by a program (dec.py). No condition. -/
import Derived.Test.YtmanmgafjbnakaaXV
namespace Go.Proofs.Ytmanmgafjbnakaa.XV
open Go.Proofs.Ytmanmgafjbnakaa.R
set_option linter.unusedVariables false
set_option maxRecDepth 100000

/-! ### 18: laws.big -/
noncomputable def F_laws_big (x : List E_u8) : Option (Bool) :=
  some (decide (((List.length x : Nat) : Int) > (1048576 : Int)))
noncomputable def f18B : Code := match Try.f18.body with
  | some c => c
  | none => .skip
noncomputable def f18K : C.Sem := tab []
noncomputable def f18P : Lp := fun i s {_R} κ => none
theorem k18 : Contract C Try.prog f18K := contract_tab _ (fun p hp => by cases hp)
theorem ev18 (x : List E_u8) : evalB C f18K f18P 18 Try.f18 f18B ⟨[.v false [(.sl 5 ts_u8)] [false]], [⟨false, [.bool], [false]⟩], false⟩ [(.sl 5 ts_u8)] [.bool] x = F_laws_big x := by kernel_rfl
theorem ok18 : ContractAt C Try.prog 18 F_laws_big := fn_sound (lp := f18P) tok mixed k18 (by kernel_rfl) (fn := Try.f18) (c := f18B) (sg := ⟨[.v false [(.sl 5 ts_u8)] [false]], [⟨false, [.bool], [false]⟩], false⟩) Try.func18 (by decide) (by kernel_rfl) (by kernel_rfl) (by kernel_rfl) (fun c' hc' => by
    rw [show loopsOf f18B = [] by kernel_rfl] at hc'
    cases hc') (by decide) (by decide) (fun x y h => (ev18 x).trans h)

/-! ### 85: impl.within -/
noncomputable def F_impl_within (x : Int × Int × Int) : Option (Bool) :=
  Option.bind (bif (decide (x.1 ≥ x.2.1)) then some (decide (x.1 ≤ x.2.2)) else some false) fun u1 => some u1
noncomputable def f85B : Code := match Try.f85.body with
  | some c => c
  | none => .skip
noncomputable def f85K : C.Sem := tab []
noncomputable def f85P : Lp := fun i s {_R} κ => none
theorem k85 : Contract C Try.prog f85K := contract_tab _ (fun p hp => by cases hp)
theorem ev85 (x : Int × Int × Int) : evalB C f85K f85P 85 Try.f85 f85B ⟨[.v false [(.int .i64)] [false], .v false [(.int .i64)] [false], .v false [(.int .i64)] [false]], [⟨false, [.bool], [false]⟩], false⟩ [(.int .i64), (.int .i64), (.int .i64)] [.bool] x = F_impl_within x := by kernel_rfl
theorem ok85 : ContractAt C Try.prog 85 F_impl_within := fn_sound (lp := f85P) tok mixed k85 (by kernel_rfl) (fn := Try.f85) (c := f85B) (sg := ⟨[.v false [(.int .i64)] [false], .v false [(.int .i64)] [false], .v false [(.int .i64)] [false]], [⟨false, [.bool], [false]⟩], false⟩) Try.func85 (by decide) (by kernel_rfl) (by kernel_rfl) (by kernel_rfl) (fun c' hc' => by
    rw [show loopsOf f85B = [] by kernel_rfl] at hc'
    cases hc') (by decide) (by decide) (fun x y h => (ev85 x).trans h)

/-! ### 142: impl.isWord -/
noncomputable def F_impl_isWord (x : Int) : Option (Bool) :=
  Option.bind (F_impl_within (x, (0 : Int), (65535 : Int))) fun r1 => some r1
noncomputable def f142B : Code := match Try.f142.body with
  | some c => c
  | none => .skip
noncomputable def f142K : C.Sem := tab [⟨85, F_impl_within⟩]
noncomputable def f142P : Lp := fun i s {_R} κ => none
theorem k142 : Contract C Try.prog f142K := contract_tab _ (fun p hp => by
    simp only [List.mem_cons, List.mem_nil_iff, or_false] at hp
    rcases hp with rfl
    · exact ok85)
theorem ev142 (x : Int) : evalB C f142K f142P 142 Try.f142 f142B ⟨[.v false [(.int .i64)] [false]], [⟨false, [.bool], [false]⟩], false⟩ [(.int .i64)] [.bool] x = F_impl_isWord x := by kernel_rfl
theorem ok142 : ContractAt C Try.prog 142 F_impl_isWord := fn_sound (lp := f142P) tok mixed k142 (by kernel_rfl) (fn := Try.f142) (c := f142B) (sg := ⟨[.v false [(.int .i64)] [false]], [⟨false, [.bool], [false]⟩], false⟩) Try.func142 (by decide) (by kernel_rfl) (by kernel_rfl) (by kernel_rfl) (fun c' hc' => by
    rw [show loopsOf f142B = [] by kernel_rfl] at hc'
    cases hc') (by decide) (by decide) (fun x y h => (ev142 x).trans h)

/-! ### 143: impl.NameOk -/
abbrev T_impl_NameOk_2 : Type := ByteArray × Int
noncomputable def S_impl_NameOk_2 {R : Type} (k0 : (ByteArray × Bool) → Option R) (k1 : ByteArray → Option R) (again : T_impl_NameOk_2 → Option R) (t2 : T_impl_NameOk_2) : Option R :=
  bif (decide (t2.2 < ((ByteArray.size t2.1 : Nat) : Int))) then if (0 : Int) ≤ t2.2 then if h1 : Int.toNat t2.2 < ByteArray.size t2.1 then Option.bind (F_impl_within ((Go.IntKind.wrap .i64 ((UInt8.toNat (ByteArray.get t2.1 (Int.toNat t2.2) h1) : Nat) : Int)), (97 : Int), (122 : Int))) fun r2 => Option.bind (bif (!r2) then if (0 : Int) ≤ t2.2 then if h4 : Int.toNat t2.2 < ByteArray.size t2.1 then Option.bind (F_impl_within ((Go.IntKind.wrap .i64 ((UInt8.toNat (ByteArray.get t2.1 (Int.toNat t2.2) h4) : Nat) : Int)), (48 : Int), (57 : Int))) fun r5 => some (!r5) else none else none else some false) fun u3 => bif u3 then k0 (t2.1, false) else again (t2.1, (Go.IntKind.wrap .i64 (t2.2 + (1 : Int)))) else none else none else k1 t2.1
noncomputable def L_impl_NameOk_2 {R : Type} (k0 : (ByteArray × Bool) → Option R) (k1 : ByteArray → Option R) (t : T_impl_NameOk_2) : Option R := iter (S_impl_NameOk_2 k0 k1) FUEL t
noncomputable def F_impl_NameOk (x : ByteArray) : Option (Bool) :=
  L_impl_NameOk_2 (fun x6 => some x6.2) (fun x7 => Option.bind (F_impl_within (((ByteArray.size x7 : Nat) : Int), (1 : Int), (6 : Int))) fun r8 => some r8) (x, (0 : Int))
noncomputable def f143B : Code := match Try.f143.body with
  | some c => c
  | none => .skip
noncomputable def f143K : C.Sem := tab [⟨85, F_impl_within⟩]
def f143h2_0 : List Sh := [.v .str, .dead, .dead, .v (.int .i64), .dead, .dead, .dead, .dead, .dead, .dead, .dead, .dead, .dead, .dead, .dead, .dead, .dead, .dead, .dead, .dead, .dead, .dead, .dead, .dead, .dead, .dead, .dead]
def f143o2_0 : List (Nat × OSh) := []
def f143e2_0 (t : ByteArray × Int) : St := ⟨[.val .str t.1, .dead, .dead, .val (.int .i64) t.2, .dead, .dead, .dead, .dead, .dead, .dead, .dead, .dead, .dead, .dead, .dead, .dead, .dead, .dead, .dead, .dead, .dead, .dead, .dead, .dead, .dead, .dead, .dead], []⟩
def f143x2_0 (t : ByteArray × Bool) : St := ⟨[.val .str t.1, .dead, .val .bool t.2, .dead, .dead, .dead, .dead, .dead, .dead, .dead, .dead, .dead, .dead, .dead, .dead, .dead, .dead, .dead, .dead, .dead, .dead, .dead, .dead, .dead, .dead, .dead, .dead], []⟩
def f143x2_1 (t : ByteArray) : St := ⟨[.val .str t, .dead, .dead, .dead, .dead, .dead, .dead, .dead, .dead, .dead, .dead, .dead, .dead, .dead, .dead, .dead, .dead, .dead, .dead, .dead, .dead, .dead, .dead, .dead, .dead, .dead, .dead], []⟩
def f143u2_0 (s : St) : Option (ByteArray × Int) := (unS f143h2_0 f143o2_0 s).map fun v => (v.1.1, v.1.2.2.2.1)
theorem f143un2_0 : ∀ (s : St) (t : ByteArray × Int), f143u2_0 s = some t → f143e2_0 t = s := fun s v h => by
  obtain ⟨u, hu, rfl⟩ := Option.map_eq_some_iff.1 h
  exact (show f143e2_0 (u.1.1, u.1.2.2.2.1) = mkS f143h2_0 f143o2_0 u by kernel_rfl).trans (mkS_un f143h2_0 f143o2_0 s u hu)
def f143u2 : St → Option (ByteArray × Int) := f143u2_0
def f143e2 : (ByteArray × Int) → St := f143e2_0
theorem f143un2 : ∀ (s : St) (t : ByteArray × Int), f143u2 s = some t → f143e2 t = s := f143un2_0
noncomputable def f143P : Lp := fun i s {_R} κ => bif Nat.beq i 2 then (f143u2 s).bind fun t => L_impl_NameOk_2 (fun t => κ (none) (f143x2_0 t)) (fun t => κ (some 0) (f143x2_1 t)) t else none
noncomputable def f143c2 : Code := (loopsOf f143B).getD 0 .skip
theorem f143A2 : C.live 143 (firstRegion f143c2) = some ([0, 3, 17, 18, 19, 20, 21, 22], [0, 2]) := by kernel_rfl
theorem f143B2 {R : Type} (κ : Option Nat → St → Option R) (s : St) : f143P (firstRegion f143c2) s κ = (f143u2 s).bind fun t => iter (S_impl_NameOk_2 (fun t => κ (none) (f143x2_0 t)) (fun t => κ (some 0) (f143x2_1 t))) FUEL t := by kernel_rfl
theorem f143C2 {R : Type} (κ : Option Nat → St → Option R) (again : St → Option R) (t : T_impl_NameOk_2) : stepL C f143K f143P 143 f143c2 [0, 3, 17, 18, 19, 20, 21, 22] [0, 2] κ again (f143e2 t) = S_impl_NameOk_2 (fun t => κ (none) (f143x2_0 t)) (fun t => κ (some 0) (f143x2_1 t)) (fun t => again (f143e2 t)) t := by kernel_rfl
theorem f143ok2 : LoopOk C f143K f143P 143 f143c2 := loop_ok f143A2 f143e2 f143u2 f143un2 (fun {_R} κ => S_impl_NameOk_2 (fun t => κ (none) (f143x2_0 t)) (fun t => κ (some 0) (f143x2_1 t))) (fun {_R} κ s => f143B2 κ s) (fun {_R} κ again t => f143C2 κ again t)
theorem k143 : Contract C Try.prog f143K := contract_tab _ (fun p hp => by
    simp only [List.mem_cons, List.mem_nil_iff, or_false] at hp
    rcases hp with rfl
    · exact ok85)
theorem ev143 (x : ByteArray) : evalB C f143K f143P 143 Try.f143 f143B ⟨[.v false [.str] [false]], [⟨false, [.bool], [false]⟩], false⟩ [.str] [.bool] x = F_impl_NameOk x := by kernel_rfl
theorem ok143 : ContractAt C Try.prog 143 F_impl_NameOk := fn_sound (lp := f143P) tok mixed k143 (by kernel_rfl) (fn := Try.f143) (c := f143B) (sg := ⟨[.v false [.str] [false]], [⟨false, [.bool], [false]⟩], false⟩) Try.func143 (by decide) (by kernel_rfl) (by kernel_rfl) (by kernel_rfl) (fun c' hc' => by
    rw [show loopsOf f143B = [f143c2] by kernel_rfl] at hc'
    simp only [List.mem_cons, List.mem_nil_iff, or_false] at hc'
    rcases hc' with rfl
    · exact f143ok2) (by decide) (by decide) (fun x y h => (ev143 x).trans h)

/-! ### 109: impl.OpOk -/
noncomputable def F_impl_OpOk (x : Int × ByteArray × ByteArray × Int × Int) : Option (Bool) :=
  Option.bind (F_impl_within (x.1, (1 : Int), (9 : Int))) fun r1 => Option.bind (bif (!r1) then some true else Option.bind (F_impl_isWord x.2.2.2.1) fun r3 => some (!r3)) fun u2 => Option.bind (bif u2 then some true else Option.bind (F_impl_isWord x.2.2.2.2) fun r5 => some (!r5)) fun u4 => bif u4 then some false else bif (decide (x.1 ≤ (6 : Int))) then Option.bind (F_impl_NameOk x.2.1) fun r6 => bif (x.1 == (2 : Int)) then Option.bind (F_impl_NameOk x.2.2.1) fun r7 => bif (x.1 == (2 : Int)) then Option.bind (bif (x.2.2.2.1 == (0 : Int)) then some (decide (x.2.2.2.2 ≤ (1 : Int))) else some false) fun u8 => Option.bind (bif r6 then some r7 else some false) fun u9 => Option.bind (bif u9 then some u8 else some false) fun u10 => some u10 else bif (x.1 == (3 : Int)) then bif (x.1 == (3 : Int)) then Option.bind (bif (x.2.2.2.1 == (0 : Int)) then some (x.2.2.2.2 == (0 : Int)) else some false) fun u11 => Option.bind (bif r6 then some r7 else some false) fun u12 => Option.bind (bif u12 then some u11 else some false) fun u13 => some u13 else bif (x.1 == (4 : Int)) then Option.bind (bif r6 then some r7 else some false) fun u14 => Option.bind (bif u14 then some true else some false) fun u15 => some u15 else Option.bind (bif r6 then some r7 else some false) fun u16 => Option.bind (bif u16 then some (x.2.2.2.2 == (0 : Int)) else some false) fun u17 => some u17 else bif (x.1 == (7 : Int)) then Option.bind (bif (x.2.2.2.1 == (0 : Int)) then some (x.2.2.2.2 == (0 : Int)) else some false) fun u18 => Option.bind (bif r6 then some r7 else some false) fun u19 => Option.bind (bif u19 then some u18 else some false) fun u20 => some u20 else bif (x.1 == (4 : Int)) then Option.bind (bif r6 then some r7 else some false) fun u21 => Option.bind (bif u21 then some true else some false) fun u22 => some u22 else Option.bind (bif r6 then some r7 else some false) fun u23 => Option.bind (bif u23 then some (x.2.2.2.2 == (0 : Int)) else some false) fun u24 => some u24 else bif (x.1 == (2 : Int)) then Option.bind (bif (x.2.2.2.1 == (0 : Int)) then some (decide (x.2.2.2.2 ≤ (1 : Int))) else some false) fun u25 => Option.bind (bif r6 then some ((ByteArray.toList x.2.2.1) == (ByteArray.toList ({ data := #[] }))) else some false) fun u26 => Option.bind (bif u26 then some u25 else some false) fun u27 => some u27 else bif (x.1 == (3 : Int)) then bif (x.1 == (3 : Int)) then Option.bind (bif (x.2.2.2.1 == (0 : Int)) then some (x.2.2.2.2 == (0 : Int)) else some false) fun u28 => Option.bind (bif r6 then some ((ByteArray.toList x.2.2.1) == (ByteArray.toList ({ data := #[] }))) else some false) fun u29 => Option.bind (bif u29 then some u28 else some false) fun u30 => some u30 else bif (x.1 == (4 : Int)) then Option.bind (bif r6 then some ((ByteArray.toList x.2.2.1) == (ByteArray.toList ({ data := #[] }))) else some false) fun u31 => Option.bind (bif u31 then some true else some false) fun u32 => some u32 else Option.bind (bif r6 then some ((ByteArray.toList x.2.2.1) == (ByteArray.toList ({ data := #[] }))) else some false) fun u33 => Option.bind (bif u33 then some (x.2.2.2.2 == (0 : Int)) else some false) fun u34 => some u34 else bif (x.1 == (7 : Int)) then Option.bind (bif (x.2.2.2.1 == (0 : Int)) then some (x.2.2.2.2 == (0 : Int)) else some false) fun u35 => Option.bind (bif r6 then some ((ByteArray.toList x.2.2.1) == (ByteArray.toList ({ data := #[] }))) else some false) fun u36 => Option.bind (bif u36 then some u35 else some false) fun u37 => some u37 else bif (x.1 == (4 : Int)) then Option.bind (bif r6 then some ((ByteArray.toList x.2.2.1) == (ByteArray.toList ({ data := #[] }))) else some false) fun u38 => Option.bind (bif u38 then some true else some false) fun u39 => some u39 else Option.bind (bif r6 then some ((ByteArray.toList x.2.2.1) == (ByteArray.toList ({ data := #[] }))) else some false) fun u40 => Option.bind (bif u40 then some (x.2.2.2.2 == (0 : Int)) else some false) fun u41 => some u41 else bif (x.1 == (2 : Int)) then Option.bind (F_impl_NameOk x.2.2.1) fun r42 => bif (x.1 == (2 : Int)) then Option.bind (bif (x.2.2.2.1 == (0 : Int)) then some (decide (x.2.2.2.2 ≤ (1 : Int))) else some false) fun u43 => Option.bind (bif ((ByteArray.toList x.2.1) == (ByteArray.toList ({ data := #[] }))) then some r42 else some false) fun u44 => Option.bind (bif u44 then some u43 else some false) fun u45 => some u45 else bif (x.1 == (3 : Int)) then bif (x.1 == (3 : Int)) then Option.bind (bif (x.2.2.2.1 == (0 : Int)) then some (x.2.2.2.2 == (0 : Int)) else some false) fun u46 => Option.bind (bif ((ByteArray.toList x.2.1) == (ByteArray.toList ({ data := #[] }))) then some r42 else some false) fun u47 => Option.bind (bif u47 then some u46 else some false) fun u48 => some u48 else bif (x.1 == (4 : Int)) then Option.bind (bif ((ByteArray.toList x.2.1) == (ByteArray.toList ({ data := #[] }))) then some r42 else some false) fun u49 => Option.bind (bif u49 then some true else some false) fun u50 => some u50 else Option.bind (bif ((ByteArray.toList x.2.1) == (ByteArray.toList ({ data := #[] }))) then some r42 else some false) fun u51 => Option.bind (bif u51 then some (x.2.2.2.2 == (0 : Int)) else some false) fun u52 => some u52 else bif (x.1 == (7 : Int)) then Option.bind (bif (x.2.2.2.1 == (0 : Int)) then some (x.2.2.2.2 == (0 : Int)) else some false) fun u53 => Option.bind (bif ((ByteArray.toList x.2.1) == (ByteArray.toList ({ data := #[] }))) then some r42 else some false) fun u54 => Option.bind (bif u54 then some u53 else some false) fun u55 => some u55 else bif (x.1 == (4 : Int)) then Option.bind (bif ((ByteArray.toList x.2.1) == (ByteArray.toList ({ data := #[] }))) then some r42 else some false) fun u56 => Option.bind (bif u56 then some true else some false) fun u57 => some u57 else Option.bind (bif ((ByteArray.toList x.2.1) == (ByteArray.toList ({ data := #[] }))) then some r42 else some false) fun u58 => Option.bind (bif u58 then some (x.2.2.2.2 == (0 : Int)) else some false) fun u59 => some u59 else bif (x.1 == (2 : Int)) then Option.bind (bif (x.2.2.2.1 == (0 : Int)) then some (decide (x.2.2.2.2 ≤ (1 : Int))) else some false) fun u60 => Option.bind (bif ((ByteArray.toList x.2.1) == (ByteArray.toList ({ data := #[] }))) then some ((ByteArray.toList x.2.2.1) == (ByteArray.toList ({ data := #[] }))) else some false) fun u61 => Option.bind (bif u61 then some u60 else some false) fun u62 => some u62 else bif (x.1 == (3 : Int)) then bif (x.1 == (3 : Int)) then Option.bind (bif (x.2.2.2.1 == (0 : Int)) then some (x.2.2.2.2 == (0 : Int)) else some false) fun u63 => Option.bind (bif ((ByteArray.toList x.2.1) == (ByteArray.toList ({ data := #[] }))) then some ((ByteArray.toList x.2.2.1) == (ByteArray.toList ({ data := #[] }))) else some false) fun u64 => Option.bind (bif u64 then some u63 else some false) fun u65 => some u65 else bif (x.1 == (4 : Int)) then Option.bind (bif ((ByteArray.toList x.2.1) == (ByteArray.toList ({ data := #[] }))) then some ((ByteArray.toList x.2.2.1) == (ByteArray.toList ({ data := #[] }))) else some false) fun u66 => Option.bind (bif u66 then some true else some false) fun u67 => some u67 else Option.bind (bif ((ByteArray.toList x.2.1) == (ByteArray.toList ({ data := #[] }))) then some ((ByteArray.toList x.2.2.1) == (ByteArray.toList ({ data := #[] }))) else some false) fun u68 => Option.bind (bif u68 then some (x.2.2.2.2 == (0 : Int)) else some false) fun u69 => some u69 else bif (x.1 == (7 : Int)) then Option.bind (bif (x.2.2.2.1 == (0 : Int)) then some (x.2.2.2.2 == (0 : Int)) else some false) fun u70 => Option.bind (bif ((ByteArray.toList x.2.1) == (ByteArray.toList ({ data := #[] }))) then some ((ByteArray.toList x.2.2.1) == (ByteArray.toList ({ data := #[] }))) else some false) fun u71 => Option.bind (bif u71 then some u70 else some false) fun u72 => some u72 else bif (x.1 == (4 : Int)) then Option.bind (bif ((ByteArray.toList x.2.1) == (ByteArray.toList ({ data := #[] }))) then some ((ByteArray.toList x.2.2.1) == (ByteArray.toList ({ data := #[] }))) else some false) fun u73 => Option.bind (bif u73 then some true else some false) fun u74 => some u74 else Option.bind (bif ((ByteArray.toList x.2.1) == (ByteArray.toList ({ data := #[] }))) then some ((ByteArray.toList x.2.2.1) == (ByteArray.toList ({ data := #[] }))) else some false) fun u75 => Option.bind (bif u75 then some (x.2.2.2.2 == (0 : Int)) else some false) fun u76 => some u76
noncomputable def f109B : Code := match Try.f109.body with
  | some c => c
  | none => .skip
noncomputable def f109K : C.Sem := tab [⟨85, F_impl_within⟩, ⟨142, F_impl_isWord⟩, ⟨143, F_impl_NameOk⟩]
noncomputable def f109P : Lp := fun i s {_R} κ => none
theorem k109 : Contract C Try.prog f109K := contract_tab _ (fun p hp => by
    simp only [List.mem_cons, List.mem_nil_iff, or_false] at hp
    rcases hp with rfl | rfl | rfl
    · exact ok85
    · exact ok142
    · exact ok143)
theorem ev109 (x : Int × ByteArray × ByteArray × Int × Int) : evalB C f109K f109P 109 Try.f109 f109B ⟨[.v true [(.int .i64), .str, .str, (.int .i64), (.int .i64)] [false, false, false, false, false]], [⟨false, [.bool], [false]⟩], false⟩ [(.int .i64), .str, .str, (.int .i64), (.int .i64)] [.bool] x = F_impl_OpOk x := by kernel_rfl
theorem ok109 : ContractAt C Try.prog 109 F_impl_OpOk := fn_sound (lp := f109P) tok mixed k109 (by kernel_rfl) (fn := Try.f109) (c := f109B) (sg := ⟨[.v true [(.int .i64), .str, .str, (.int .i64), (.int .i64)] [false, false, false, false, false]], [⟨false, [.bool], [false]⟩], false⟩) Try.func109 (by decide) (by kernel_rfl) (by kernel_rfl) (by kernel_rfl) (fun c' hc' => by
    rw [show loopsOf f109B = [] by kernel_rfl] at hc'
    cases hc') (by decide) (by decide) (fun x y h => (ev109 x).trans h)

/-! ### 48: impl.EntOk -/
noncomputable def F_impl_EntOk (x : Int × Int × ByteArray × ByteArray × Int × Int) : Option (Bool) :=
  Option.bind (F_impl_within (x.1, (1 : Int), (60000 : Int))) fun r1 => Option.bind (bif r1 then Option.bind (F_impl_OpOk (x.2.1, x.2.2.1, x.2.2.2.1, x.2.2.2.2.1, x.2.2.2.2.2)) fun r3 => some r3 else some false) fun u2 => some u2
noncomputable def f48B : Code := match Try.f48.body with
  | some c => c
  | none => .skip
noncomputable def f48K : C.Sem := tab [⟨85, F_impl_within⟩, ⟨109, F_impl_OpOk⟩]
noncomputable def f48P : Lp := fun i s {_R} κ => none
theorem k48 : Contract C Try.prog f48K := contract_tab _ (fun p hp => by
    simp only [List.mem_cons, List.mem_nil_iff, or_false] at hp
    rcases hp with rfl | rfl
    · exact ok85
    · exact ok109)
theorem ev48 (x : Int × Int × ByteArray × ByteArray × Int × Int) : evalB C f48K f48P 48 Try.f48 f48B ⟨[.v true [(.int .i64), (.int .i64), .str, .str, (.int .i64), (.int .i64)] [false, false, false, false, false, false]], [⟨false, [.bool], [false]⟩], false⟩ [(.int .i64), (.int .i64), .str, .str, (.int .i64), (.int .i64)] [.bool] x = F_impl_EntOk x := by kernel_rfl
theorem ok48 : ContractAt C Try.prog 48 F_impl_EntOk := fn_sound (lp := f48P) tok mixed k48 (by kernel_rfl) (fn := Try.f48) (c := f48B) (sg := ⟨[.v true [(.int .i64), (.int .i64), .str, .str, (.int .i64), (.int .i64)] [false, false, false, false, false, false]], [⟨false, [.bool], [false]⟩], false⟩) Try.func48 (by decide) (by kernel_rfl) (by kernel_rfl) (by kernel_rfl) (fun c' hc' => by
    rw [show loopsOf f48B = [] by kernel_rfl] at hc'
    cases hc') (by decide) (by decide) (fun x y h => (ev48 x).trans h)

/-! ### 70: impl.Crc -/
abbrev T_impl_Crc_7 : Type := Int × List E_u8 × Int × Int × Int
noncomputable def S_impl_Crc_7 {R : Type} (k0 : (Int × List E_u8 × Int × Int) → Option R) (again : T_impl_Crc_7 → Option R) (t7 : T_impl_Crc_7) : Option R :=
  bif (decide (t7.2.2.2.2 < (8 : Int))) then bif ((Int.tmod t7.1 (2 : Int)) == (1 : Int)) then again ((Go.bits .xor .i64 (Go.IntKind.wrap .i64 (Int.tdiv t7.1 (2 : Int))) (2197175160 : Int)), t7.2.1, t7.2.2.1, t7.2.2.2.1, (Go.IntKind.wrap .i64 (t7.2.2.2.2 + (1 : Int)))) else again ((Go.IntKind.wrap .i64 (Int.tdiv t7.1 (2 : Int))), t7.2.1, t7.2.2.1, t7.2.2.2.1, (Go.IntKind.wrap .i64 (t7.2.2.2.2 + (1 : Int)))) else k0 (t7.1, t7.2.1, t7.2.2.1, t7.2.2.2.1)
noncomputable def L_impl_Crc_7 {R : Type} (k0 : (Int × List E_u8 × Int × Int) → Option R) (t : T_impl_Crc_7) : Option R := iter (S_impl_Crc_7 k0) FUEL t
abbrev T_impl_Crc_3 : Type := Int × List E_u8 × Int × Int
noncomputable def S_impl_Crc_3 {R : Type} (k0 : Int → Option R) (again : T_impl_Crc_3 → Option R) (t3 : T_impl_Crc_3) : Option R :=
  bif (decide (t3.2.2.2 < t3.2.2.1)) then if (0 : Int) ≤ t3.2.2.2 then if t3.2.2.2 < ((List.length t3.2.1 : Nat) : Int) then L_impl_Crc_7 (fun x1 => again (x1.1, x1.2.1, x1.2.2.1, (Go.IntKind.wrap .i64 (x1.2.2.2 + (1 : Int))))) ((Go.bits .xor .i64 t3.1 (Go.IntKind.wrap .i64 (rd_u8 t3.2.1 t3.2.2.2))), t3.2.1, t3.2.2.1, t3.2.2.2, (0 : Int)) else none else none else k0 t3.1
noncomputable def L_impl_Crc_3 {R : Type} (k0 : Int → Option R) (t : T_impl_Crc_3) : Option R := iter (S_impl_Crc_3 k0) FUEL t
noncomputable def F_impl_Crc (x : List E_u8) : Option (Int) :=
  L_impl_Crc_3 (fun x2 => some (Go.bits .xor .i64 x2 (4294967295 : Int))) ((4294967295 : Int), x, ((List.length x : Nat) : Int), (0 : Int))
noncomputable def f70B : Code := match Try.f70.body with
  | some c => c
  | none => .skip
noncomputable def f70K : C.Sem := tab []
def f70h7_0 : List Sh := [.dead, .dead, .dead, .v (.int .i64), .dead, .dead, .dead, .v (.sl 5 ts_u8), .v (.int .i64), .v (.int .i64), .dead, .dead, .dead, .dead, .dead, .dead, .dead, .v (.int .i64), .dead, .dead, .dead, .dead, .dead, .dead, .dead, .dead, .dead, .dead, .dead, .dead, .dead]
def f70o7_0 : List (Nat × OSh) := []
def f70e7_0 (t : Int × List E_u8 × Int × Int × Int) : St := ⟨[.dead, .dead, .dead, .val (.int .i64) t.1, .dead, .dead, .dead, .val (.sl 5 ts_u8) t.2.1, .val (.int .i64) t.2.2.1, .val (.int .i64) t.2.2.2.1, .dead, .dead, .dead, .dead, .dead, .dead, .dead, .val (.int .i64) t.2.2.2.2, .dead, .dead, .dead, .dead, .dead, .dead, .dead, .dead, .dead, .dead, .dead, .dead, .dead], []⟩
def f70x7_0 (t : Int × List E_u8 × Int × Int) : St := ⟨[.dead, .dead, .dead, .val (.int .i64) t.1, .dead, .dead, .dead, .val (.sl 5 ts_u8) t.2.1, .val (.int .i64) t.2.2.1, .val (.int .i64) t.2.2.2, .dead, .dead, .dead, .dead, .dead, .dead, .dead, .dead, .dead, .dead, .dead, .dead, .dead, .dead, .dead, .dead, .dead, .dead, .dead, .dead, .dead], []⟩
def f70u7_0 (s : St) : Option (Int × List E_u8 × Int × Int × Int) := (unS f70h7_0 f70o7_0 s).map fun v => (v.1.2.2.2.1, v.1.2.2.2.2.2.2.2.1, v.1.2.2.2.2.2.2.2.2.1, v.1.2.2.2.2.2.2.2.2.2.1, v.1.2.2.2.2.2.2.2.2.2.2.2.2.2.2.2.2.2.1)
theorem f70un7_0 : ∀ (s : St) (t : Int × List E_u8 × Int × Int × Int), f70u7_0 s = some t → f70e7_0 t = s := fun s v h => by
  obtain ⟨u, hu, rfl⟩ := Option.map_eq_some_iff.1 h
  exact (show f70e7_0 (u.1.2.2.2.1, u.1.2.2.2.2.2.2.2.1, u.1.2.2.2.2.2.2.2.2.1, u.1.2.2.2.2.2.2.2.2.2.1, u.1.2.2.2.2.2.2.2.2.2.2.2.2.2.2.2.2.2.1) = mkS f70h7_0 f70o7_0 u by kernel_rfl).trans (mkS_un f70h7_0 f70o7_0 s u hu)
def f70u7 : St → Option (Int × List E_u8 × Int × Int × Int) := f70u7_0
def f70e7 : (Int × List E_u8 × Int × Int × Int) → St := f70e7_0
theorem f70un7 : ∀ (s : St) (t : Int × List E_u8 × Int × Int × Int), f70u7 s = some t → f70e7 t = s := f70un7_0
def f70h3_0 : List Sh := [.dead, .dead, .dead, .v (.int .i64), .dead, .dead, .dead, .v (.sl 5 ts_u8), .v (.int .i64), .v (.int .i64), .dead, .dead, .dead, .dead, .dead, .dead, .dead, .dead, .dead, .dead, .dead, .dead, .dead, .dead, .dead, .dead, .dead, .dead, .dead, .dead, .dead]
def f70o3_0 : List (Nat × OSh) := []
def f70e3_0 (t : Int × List E_u8 × Int × Int) : St := ⟨[.dead, .dead, .dead, .val (.int .i64) t.1, .dead, .dead, .dead, .val (.sl 5 ts_u8) t.2.1, .val (.int .i64) t.2.2.1, .val (.int .i64) t.2.2.2, .dead, .dead, .dead, .dead, .dead, .dead, .dead, .dead, .dead, .dead, .dead, .dead, .dead, .dead, .dead, .dead, .dead, .dead, .dead, .dead, .dead], []⟩
def f70x3_0 (t : Int) : St := ⟨[.dead, .dead, .dead, .val (.int .i64) t, .dead, .dead, .dead, .dead, .dead, .dead, .dead, .dead, .dead, .dead, .dead, .dead, .dead, .dead, .dead, .dead, .dead, .dead, .dead, .dead, .dead, .dead, .dead, .dead, .dead, .dead, .dead], []⟩
def f70u3_0 (s : St) : Option (Int × List E_u8 × Int × Int) := (unS f70h3_0 f70o3_0 s).map fun v => (v.1.2.2.2.1, v.1.2.2.2.2.2.2.2.1, v.1.2.2.2.2.2.2.2.2.1, v.1.2.2.2.2.2.2.2.2.2.1)
theorem f70un3_0 : ∀ (s : St) (t : Int × List E_u8 × Int × Int), f70u3_0 s = some t → f70e3_0 t = s := fun s v h => by
  obtain ⟨u, hu, rfl⟩ := Option.map_eq_some_iff.1 h
  exact (show f70e3_0 (u.1.2.2.2.1, u.1.2.2.2.2.2.2.2.1, u.1.2.2.2.2.2.2.2.2.1, u.1.2.2.2.2.2.2.2.2.2.1) = mkS f70h3_0 f70o3_0 u by kernel_rfl).trans (mkS_un f70h3_0 f70o3_0 s u hu)
def f70u3 : St → Option (Int × List E_u8 × Int × Int) := f70u3_0
def f70e3 : (Int × List E_u8 × Int × Int) → St := f70e3_0
theorem f70un3 : ∀ (s : St) (t : Int × List E_u8 × Int × Int), f70u3 s = some t → f70e3 t = s := f70un3_0
noncomputable def f70P : Lp := fun i s {_R} κ => bif Nat.beq i 3 then (f70u3 s).bind fun t => L_impl_Crc_3 (fun t => κ (some 0) (f70x3_0 t)) t else bif Nat.beq i 7 then (f70u7 s).bind fun t => L_impl_Crc_7 (fun t => κ (some 2) (f70x7_0 t)) t else none
noncomputable def f70c7 : Code := (loopsOf f70B).getD 1 .skip
theorem f70A7 : C.live 70 (firstRegion f70c7) = some ([3, 7, 8, 9, 17], [3, 7, 8, 9]) := by kernel_rfl
theorem f70B7 {R : Type} (κ : Option Nat → St → Option R) (s : St) : f70P (firstRegion f70c7) s κ = (f70u7 s).bind fun t => iter (S_impl_Crc_7 (fun t => κ (some 2) (f70x7_0 t))) FUEL t := by kernel_rfl
theorem f70C7 {R : Type} (κ : Option Nat → St → Option R) (again : St → Option R) (t : T_impl_Crc_7) : stepL C f70K f70P 70 f70c7 [3, 7, 8, 9, 17] [3, 7, 8, 9] κ again (f70e7 t) = S_impl_Crc_7 (fun t => κ (some 2) (f70x7_0 t)) (fun t => again (f70e7 t)) t := by kernel_rfl
theorem f70ok7 : LoopOk C f70K f70P 70 f70c7 := loop_ok f70A7 f70e7 f70u7 f70un7 (fun {_R} κ => S_impl_Crc_7 (fun t => κ (some 2) (f70x7_0 t))) (fun {_R} κ s => f70B7 κ s) (fun {_R} κ again t => f70C7 κ again t)
noncomputable def f70c3 : Code := (loopsOf f70B).getD 0 .skip
theorem f70A3 : C.live 70 (firstRegion f70c3) = some ([3, 7, 8, 9], [3]) := by kernel_rfl
theorem f70B3 {R : Type} (κ : Option Nat → St → Option R) (s : St) : f70P (firstRegion f70c3) s κ = (f70u3 s).bind fun t => iter (S_impl_Crc_3 (fun t => κ (some 0) (f70x3_0 t))) FUEL t := by kernel_rfl
theorem f70C3 {R : Type} (κ : Option Nat → St → Option R) (again : St → Option R) (t : T_impl_Crc_3) : stepL C f70K f70P 70 f70c3 [3, 7, 8, 9] [3] κ again (f70e3 t) = S_impl_Crc_3 (fun t => κ (some 0) (f70x3_0 t)) (fun t => again (f70e3 t)) t := by kernel_rfl
theorem f70ok3 : LoopOk C f70K f70P 70 f70c3 := loop_ok f70A3 f70e3 f70u3 f70un3 (fun {_R} κ => S_impl_Crc_3 (fun t => κ (some 0) (f70x3_0 t))) (fun {_R} κ s => f70B3 κ s) (fun {_R} κ again t => f70C3 κ again t)
theorem k70 : Contract C Try.prog f70K := contract_tab _ (fun p hp => by cases hp)
theorem ev70 (x : List E_u8) : evalB C f70K f70P 70 Try.f70 f70B ⟨[.v false [(.sl 5 ts_u8)] [false]], [⟨false, [(.int .i64)], [false]⟩], false⟩ [(.sl 5 ts_u8)] [(.int .i64)] x = F_impl_Crc x := by kernel_rfl
theorem ok70 : ContractAt C Try.prog 70 F_impl_Crc := fn_sound (lp := f70P) tok mixed k70 (by kernel_rfl) (fn := Try.f70) (c := f70B) (sg := ⟨[.v false [(.sl 5 ts_u8)] [false]], [⟨false, [(.int .i64)], [false]⟩], false⟩) Try.func70 (by decide) (by kernel_rfl) (by kernel_rfl) (by kernel_rfl) (fun c' hc' => by
    rw [show loopsOf f70B = [f70c3, f70c7] by kernel_rfl] at hc'
    simp only [List.mem_cons, List.mem_nil_iff, or_false] at hc'
    rcases hc' with rfl | rfl
    · exact f70ok3
    · exact f70ok7) (by decide) (by decide) (fun x y h => (ev70 x).trans h)

/-! ### 133: impl.GetW -/
noncomputable def F_impl_GetW (x : List E_u8 × Int) : Option (Int × Int × Bool) :=
  Option.bind (bif (decide (x.2 < (0 : Int))) then some true else some (decide (x.2 > (Go.IntKind.wrap .i64 (((List.length x.1 : Nat) : Int) - (2 : Int)))))) fun u1 => bif u1 then some ((0 : Int), (0 : Int), false) else if (0 : Int) ≤ x.2 then if x.2 < ((List.length x.1 : Nat) : Int) then if (0 : Int) ≤ (Go.IntKind.wrap .i64 (x.2 + (1 : Int))) then if (Go.IntKind.wrap .i64 (x.2 + (1 : Int))) < ((List.length x.1 : Nat) : Int) then some ((Go.bits .or .i64 (Go.IntKind.wrap .i64 ((Go.IntKind.wrap .i64 (rd_u8 x.1 x.2)) * 2 ^ (min (Int.toNat (8 : Int)) (Go.IntKind.bits .i64)))) (Go.IntKind.wrap .i64 (rd_u8 x.1 (Go.IntKind.wrap .i64 (x.2 + (1 : Int)))))), (Go.IntKind.wrap .i64 (x.2 + (2 : Int))), true) else none else none else none else none
noncomputable def f133B : Code := match Try.f133.body with
  | some c => c
  | none => .skip
noncomputable def f133K : C.Sem := tab []
noncomputable def f133P : Lp := fun i s {_R} κ => none
theorem k133 : Contract C Try.prog f133K := contract_tab _ (fun p hp => by cases hp)
theorem ev133 (x : List E_u8 × Int) : evalB C f133K f133P 133 Try.f133 f133B ⟨[.v false [(.sl 5 ts_u8)] [false], .v false [(.int .i64)] [false]], [⟨false, [(.int .i64)], [false]⟩, ⟨false, [(.int .i64)], [false]⟩, ⟨false, [.bool], [false]⟩], false⟩ [(.sl 5 ts_u8), (.int .i64)] [(.int .i64), (.int .i64), .bool] x = F_impl_GetW x := by kernel_rfl
theorem ok133 : ContractAt C Try.prog 133 F_impl_GetW := fn_sound (lp := f133P) tok mixed k133 (by kernel_rfl) (fn := Try.f133) (c := f133B) (sg := ⟨[.v false [(.sl 5 ts_u8)] [false], .v false [(.int .i64)] [false]], [⟨false, [(.int .i64)], [false]⟩, ⟨false, [(.int .i64)], [false]⟩, ⟨false, [.bool], [false]⟩], false⟩) Try.func133 (by decide) (by kernel_rfl) (by kernel_rfl) (by kernel_rfl) (fun c' hc' => by
    rw [show loopsOf f133B = [] by kernel_rfl] at hc'
    cases hc') (by decide) (by decide) (fun x y h => (ev133 x).trans h)

/-! ### 79: impl.reader).word -/
noncomputable def F_impl_reader_word (x : List E_u8 × Int × Bool) : Option (Int × List E_u8 × Int × Bool) :=
  Option.bind (F_impl_GetW (x.1, x.2.1)) fun r1 => Option.bind (bif x.2.2 then some true else some (!r1.2.2)) fun u2 => bif u2 then some ((0 : Int), x.1, x.2.1, true) else some (r1.1, x.1, r1.2.1, x.2.2)
noncomputable def f79B : Code := match Try.f79.body with
  | some c => c
  | none => .skip
noncomputable def f79K : C.Sem := tab [⟨133, F_impl_GetW⟩]
noncomputable def f79P : Lp := fun i s {_R} κ => none
theorem k79 : Contract C Try.prog f79K := contract_tab _ (fun p hp => by
    simp only [List.mem_cons, List.mem_nil_iff, or_false] at hp
    rcases hp with rfl
    · exact ok133)
theorem ev79 (x : List E_u8 × Int × Bool) : evalB C f79K f79P 79 Try.f79 f79B ⟨[.p none [(.sl 5 ts_u8), (.int .i64), .bool] [false, false, false]], [⟨false, [(.int .i64)], [false]⟩], false⟩ [(.sl 5 ts_u8), (.int .i64), .bool] [(.int .i64), (.sl 5 ts_u8), (.int .i64), .bool] x = F_impl_reader_word x := by kernel_rfl
theorem ok79 : ContractAt C Try.prog 79 F_impl_reader_word := fn_sound (lp := f79P) tok mixed k79 (by kernel_rfl) (fn := Try.f79) (c := f79B) (sg := ⟨[.p none [(.sl 5 ts_u8), (.int .i64), .bool] [false, false, false]], [⟨false, [(.int .i64)], [false]⟩], false⟩) Try.func79 (by decide) (by kernel_rfl) (by kernel_rfl) (by kernel_rfl) (fun c' hc' => by
    rw [show loopsOf f79B = [] by kernel_rfl] at hc'
    cases hc') (by decide) (by decide) (fun x y h => (ev79 x).trans h)

/-! ### 81: impl.reader).four -/
noncomputable def F_impl_reader_four (x : List E_u8 × Int × Bool) : Option (Int × List E_u8 × Int × Bool) :=
  Option.bind (F_impl_reader_word (x.1, x.2.1, x.2.2)) fun r1 => Option.bind (F_impl_reader_word (r1.2.1, r1.2.2.1, r1.2.2.2)) fun r2 => some ((Go.bits .or .i64 (Go.IntKind.wrap .i64 (r1.1 * 2 ^ (min (Int.toNat (16 : Int)) (Go.IntKind.bits .i64)))) r2.1), r2.2.1, r2.2.2.1, r2.2.2.2)
noncomputable def f81B : Code := match Try.f81.body with
  | some c => c
  | none => .skip
noncomputable def f81K : C.Sem := tab [⟨79, F_impl_reader_word⟩]
noncomputable def f81P : Lp := fun i s {_R} κ => none
theorem k81 : Contract C Try.prog f81K := contract_tab _ (fun p hp => by
    simp only [List.mem_cons, List.mem_nil_iff, or_false] at hp
    rcases hp with rfl
    · exact ok79)
theorem ev81 (x : List E_u8 × Int × Bool) : evalB C f81K f81P 81 Try.f81 f81B ⟨[.p none [(.sl 5 ts_u8), (.int .i64), .bool] [false, false, false]], [⟨false, [(.int .i64)], [false]⟩], false⟩ [(.sl 5 ts_u8), (.int .i64), .bool] [(.int .i64), (.sl 5 ts_u8), (.int .i64), .bool] x = F_impl_reader_four x := by kernel_rfl
theorem ok81 : ContractAt C Try.prog 81 F_impl_reader_four := fn_sound (lp := f81P) tok mixed k81 (by kernel_rfl) (fn := Try.f81) (c := f81B) (sg := ⟨[.p none [(.sl 5 ts_u8), (.int .i64), .bool] [false, false, false]], [⟨false, [(.int .i64)], [false]⟩], false⟩) Try.func81 (by decide) (by kernel_rfl) (by kernel_rfl) (by kernel_rfl) (fun c' hc' => by
    rw [show loopsOf f81B = [] by kernel_rfl] at hc'
    cases hc') (by decide) (by decide) (fun x y h => (ev81 x).trans h)

/-! ### 82: impl.reader).done -/
noncomputable def F_impl_reader_done (x : List E_u8 × Int × Bool) : Option (Bool × List E_u8 × Int × Bool) :=
  Option.bind (bif (!x.2.2) then some (x.2.1 == ((List.length x.1 : Nat) : Int)) else some false) fun u1 => some (u1, x.1, x.2.1, x.2.2)
noncomputable def f82B : Code := match Try.f82.body with
  | some c => c
  | none => .skip
noncomputable def f82K : C.Sem := tab []
noncomputable def f82P : Lp := fun i s {_R} κ => none
theorem k82 : Contract C Try.prog f82K := contract_tab _ (fun p hp => by cases hp)
theorem ev82 (x : List E_u8 × Int × Bool) : evalB C f82K f82P 82 Try.f82 f82B ⟨[.p none [(.sl 5 ts_u8), (.int .i64), .bool] [false, false, false]], [⟨false, [.bool], [false]⟩], false⟩ [(.sl 5 ts_u8), (.int .i64), .bool] [.bool, (.sl 5 ts_u8), (.int .i64), .bool] x = F_impl_reader_done x := by kernel_rfl
theorem ok82 : ContractAt C Try.prog 82 F_impl_reader_done := fn_sound (lp := f82P) tok mixed k82 (by kernel_rfl) (fn := Try.f82) (c := f82B) (sg := ⟨[.p none [(.sl 5 ts_u8), (.int .i64), .bool] [false, false, false]], [⟨false, [.bool], [false]⟩], false⟩) Try.func82 (by decide) (by kernel_rfl) (by kernel_rfl) (by kernel_rfl) (fun c' hc' => by
    rw [show loopsOf f82B = [] by kernel_rfl] at hc'
    cases hc') (by decide) (by decide) (fun x y h => (ev82 x).trans h)

/-! ### 80: impl.reader).one -/
noncomputable def F_impl_reader_one (x : List E_u8 × Int × Bool) : Option (Int × List E_u8 × Int × Bool) :=
  Option.bind (bif x.2.2 then some true else some (decide (x.2.1 < (0 : Int)))) fun u1 => Option.bind (bif u1 then some true else some (decide (x.2.1 ≥ ((List.length x.1 : Nat) : Int)))) fun u2 => bif u2 then some ((0 : Int), x.1, x.2.1, true) else if (0 : Int) ≤ (Go.IntKind.wrap .i64 ((Go.IntKind.wrap .i64 (x.2.1 + (1 : Int))) - (1 : Int))) then if (Go.IntKind.wrap .i64 ((Go.IntKind.wrap .i64 (x.2.1 + (1 : Int))) - (1 : Int))) < ((List.length x.1 : Nat) : Int) then some ((Go.IntKind.wrap .i64 (rd_u8 x.1 (Go.IntKind.wrap .i64 ((Go.IntKind.wrap .i64 (x.2.1 + (1 : Int))) - (1 : Int))))), x.1, (Go.IntKind.wrap .i64 (x.2.1 + (1 : Int))), x.2.2) else none else none
noncomputable def f80B : Code := match Try.f80.body with
  | some c => c
  | none => .skip
noncomputable def f80K : C.Sem := tab []
noncomputable def f80P : Lp := fun i s {_R} κ => none
theorem k80 : Contract C Try.prog f80K := contract_tab _ (fun p hp => by cases hp)
theorem ev80 (x : List E_u8 × Int × Bool) : evalB C f80K f80P 80 Try.f80 f80B ⟨[.p none [(.sl 5 ts_u8), (.int .i64), .bool] [false, false, false]], [⟨false, [(.int .i64)], [false]⟩], false⟩ [(.sl 5 ts_u8), (.int .i64), .bool] [(.int .i64), (.sl 5 ts_u8), (.int .i64), .bool] x = F_impl_reader_one x := by kernel_rfl
theorem ok80 : ContractAt C Try.prog 80 F_impl_reader_one := fn_sound (lp := f80P) tok mixed k80 (by kernel_rfl) (fn := Try.f80) (c := f80B) (sg := ⟨[.p none [(.sl 5 ts_u8), (.int .i64), .bool] [false, false, false]], [⟨false, [(.int .i64)], [false]⟩], false⟩) Try.func80 (by decide) (by kernel_rfl) (by kernel_rfl) (by kernel_rfl) (fun c' hc' => by
    rw [show loopsOf f80B = [] by kernel_rfl] at hc'
    cases hc') (by decide) (by decide) (fun x y h => (ev80 x).trans h)

/-! ### 168: impl.GetText -/
noncomputable def F_impl_GetText (x : List E_u8 × Int) : Option (ByteArray × Int × Bool) :=
  Option.bind (F_impl_GetW (x.1, x.2)) fun r1 => Option.bind (bif (!r1.2.2) then some true else some (decide (r1.1 > (60 : Int)))) fun u2 => Option.bind (bif u2 then some true else some (decide (r1.1 > (Go.IntKind.wrap .i64 (((List.length x.1 : Nat) : Int) - r1.2.1))))) fun u3 => bif u3 then some ({ data := #[] }, (0 : Int), false) else if (0 : Int) ≤ r1.2.1 then if r1.2.1 ≤ (Go.IntKind.wrap .i64 (r1.2.1 + r1.1)) then if (Go.IntKind.wrap .i64 (r1.2.1 + r1.1)) ≤ ((List.length x.1 : Nat) : Int) then some ((textOf (List.drop (Int.toNat r1.2.1) (List.take (Int.toNat (Go.IntKind.wrap .i64 (r1.2.1 + r1.1))) x.1))), (Go.IntKind.wrap .i64 (r1.2.1 + r1.1)), true) else none else none else none
noncomputable def f168B : Code := match Try.f168.body with
  | some c => c
  | none => .skip
noncomputable def f168K : C.Sem := tab [⟨133, F_impl_GetW⟩]
noncomputable def f168P : Lp := fun i s {_R} κ => none
theorem k168 : Contract C Try.prog f168K := contract_tab _ (fun p hp => by
    simp only [List.mem_cons, List.mem_nil_iff, or_false] at hp
    rcases hp with rfl
    · exact ok133)
theorem ev168 (x : List E_u8 × Int) : evalB C f168K f168P 168 Try.f168 f168B ⟨[.v false [(.sl 5 ts_u8)] [false], .v false [(.int .i64)] [false]], [⟨false, [.str], [false]⟩, ⟨false, [(.int .i64)], [false]⟩, ⟨false, [.bool], [false]⟩], false⟩ [(.sl 5 ts_u8), (.int .i64)] [.str, (.int .i64), .bool] x = F_impl_GetText x := by kernel_rfl
theorem ok168 : ContractAt C Try.prog 168 F_impl_GetText := fn_sound (lp := f168P) tok mixed k168 (by kernel_rfl) (fn := Try.f168) (c := f168B) (sg := ⟨[.v false [(.sl 5 ts_u8)] [false], .v false [(.int .i64)] [false]], [⟨false, [.str], [false]⟩, ⟨false, [(.int .i64)], [false]⟩, ⟨false, [.bool], [false]⟩], false⟩) Try.func168 (by decide) (by kernel_rfl) (by kernel_rfl) (by kernel_rfl) (fun c' hc' => by
    rw [show loopsOf f168B = [] by kernel_rfl] at hc'
    cases hc') (by decide) (by decide) (fun x y h => (ev168 x).trans h)

/-! ### 135: impl.reader).text -/
noncomputable def F_impl_reader_text (x : List E_u8 × Int × Bool) : Option (ByteArray × List E_u8 × Int × Bool) :=
  Option.bind (F_impl_GetText (x.1, x.2.1)) fun r1 => Option.bind (bif x.2.2 then some true else some (!r1.2.2)) fun u2 => bif u2 then some ({ data := #[] }, x.1, x.2.1, true) else some (r1.1, x.1, r1.2.1, x.2.2)
noncomputable def f135B : Code := match Try.f135.body with
  | some c => c
  | none => .skip
noncomputable def f135K : C.Sem := tab [⟨168, F_impl_GetText⟩]
noncomputable def f135P : Lp := fun i s {_R} κ => none
theorem k135 : Contract C Try.prog f135K := contract_tab _ (fun p hp => by
    simp only [List.mem_cons, List.mem_nil_iff, or_false] at hp
    rcases hp with rfl
    · exact ok168)
theorem ev135 (x : List E_u8 × Int × Bool) : evalB C f135K f135P 135 Try.f135 f135B ⟨[.p none [(.sl 5 ts_u8), (.int .i64), .bool] [false, false, false]], [⟨false, [.str], [false]⟩], false⟩ [(.sl 5 ts_u8), (.int .i64), .bool] [.str, (.sl 5 ts_u8), (.int .i64), .bool] x = F_impl_reader_text x := by kernel_rfl
theorem ok135 : ContractAt C Try.prog 135 F_impl_reader_text := fn_sound (lp := f135P) tok mixed k135 (by kernel_rfl) (fn := Try.f135) (c := f135B) (sg := ⟨[.p none [(.sl 5 ts_u8), (.int .i64), .bool] [false, false, false]], [⟨false, [.str], [false]⟩], false⟩) Try.func135 (by decide) (by kernel_rfl) (by kernel_rfl) (by kernel_rfl) (fun c' hc' => by
    rw [show loopsOf f135B = [] by kernel_rfl] at hc'
    cases hc') (by decide) (by decide) (fun x y h => (ev135 x).trans h)

/-! ### 88: impl.reader).op -/
noncomputable def F_impl_reader_op (x : List E_u8 × Int × Bool) : Option (Int × ByteArray × ByteArray × Int × Int × List E_u8 × Int × Bool) :=
  Option.bind (F_impl_reader_one (x.1, x.2.1, x.2.2)) fun r1 => Option.bind (F_impl_reader_text (r1.2.1, r1.2.2.1, r1.2.2.2)) fun r2 => Option.bind (F_impl_reader_text (r2.2.1, r2.2.2.1, r2.2.2.2)) fun r3 => Option.bind (F_impl_reader_word (r3.2.1, r3.2.2.1, r3.2.2.2)) fun r4 => Option.bind (F_impl_reader_word (r4.2.1, r4.2.2.1, r4.2.2.2)) fun r5 => Option.bind (bif r5.2.2.2 then some true else Option.bind (F_impl_OpOk (r1.1, r2.1, r3.1, r4.1, r5.1)) fun r7 => some (!r7)) fun u6 => bif u6 then some ((0 : Int), (⟨#[]⟩ : ByteArray), (⟨#[]⟩ : ByteArray), (0 : Int), (0 : Int), r5.2.1, r5.2.2.1, true) else some (r1.1, r2.1, r3.1, r4.1, r5.1, r5.2.1, r5.2.2.1, r5.2.2.2)
noncomputable def f88B : Code := match Try.f88.body with
  | some c => c
  | none => .skip
noncomputable def f88K : C.Sem := tab [⟨79, F_impl_reader_word⟩, ⟨80, F_impl_reader_one⟩, ⟨109, F_impl_OpOk⟩, ⟨135, F_impl_reader_text⟩]
noncomputable def f88P : Lp := fun i s {_R} κ => none
theorem k88 : Contract C Try.prog f88K := contract_tab _ (fun p hp => by
    simp only [List.mem_cons, List.mem_nil_iff, or_false] at hp
    rcases hp with rfl | rfl | rfl | rfl
    · exact ok79
    · exact ok80
    · exact ok109
    · exact ok135)
theorem ev88 (x : List E_u8 × Int × Bool) : evalB C f88K f88P 88 Try.f88 f88B ⟨[.p none [(.sl 5 ts_u8), (.int .i64), .bool] [false, false, false]], [⟨true, [(.int .i64), .str, .str, (.int .i64), (.int .i64)], [false, false, false, false, false]⟩], false⟩ [(.sl 5 ts_u8), (.int .i64), .bool] [(.int .i64), .str, .str, (.int .i64), (.int .i64), (.sl 5 ts_u8), (.int .i64), .bool] x = F_impl_reader_op x := by kernel_rfl
theorem ok88 : ContractAt C Try.prog 88 F_impl_reader_op := fn_sound (lp := f88P) tok mixed k88 (by kernel_rfl) (fn := Try.f88) (c := f88B) (sg := ⟨[.p none [(.sl 5 ts_u8), (.int .i64), .bool] [false, false, false]], [⟨true, [(.int .i64), .str, .str, (.int .i64), (.int .i64)], [false, false, false, false, false]⟩], false⟩) Try.func88 (by decide) (by kernel_rfl) (by kernel_rfl) (by kernel_rfl) (fun c' hc' => by
    rw [show loopsOf f88B = [] by kernel_rfl] at hc'
    cases hc') (by decide) (by decide) (fun x y h => (ev88 x).trans h)

/-! ### 32: impl.GetEnt -/
noncomputable def F_impl_GetEnt (x : List E_u8) : Option (Int × Int × ByteArray × ByteArray × Int × Int × Bool) :=
  Option.bind (F_impl_reader_word (x, (0 : Int), false)) fun r1 => Option.bind (F_impl_reader_op (r1.2.1, r1.2.2.1, r1.2.2.2)) fun r2 => Option.bind (F_impl_reader_four (r2.2.2.2.2.2.1, r2.2.2.2.2.2.2.1, r2.2.2.2.2.2.2.2)) fun r3 => Option.bind (F_impl_reader_done (r3.2.1, r3.2.2.1, r3.2.2.2)) fun r4 => Option.bind (bif (!r4.1) then some true else Option.bind (F_impl_EntOk (r1.1, r2.1, r2.2.1, r2.2.2.1, r2.2.2.2.1, r2.2.2.2.2.1)) fun r6 => some (!r6)) fun u5 => Option.bind (bif u5 then some true else if (0 : Int) ≤ (0 : Int) then if (0 : Int) ≤ r2.2.2.2.2.2.2.1 then if r2.2.2.2.2.2.2.1 ≤ ((List.length x : Nat) : Int) then Option.bind (F_impl_Crc (List.drop (Int.toNat (0 : Int)) (List.take (Int.toNat r2.2.2.2.2.2.2.1) x))) fun r8 => some (r3.1 != r8) else none else none else none) fun u7 => bif u7 then some ((0 : Int), (0 : Int), (⟨#[]⟩ : ByteArray), (⟨#[]⟩ : ByteArray), (0 : Int), (0 : Int), false) else some (r1.1, r2.1, r2.2.1, r2.2.2.1, r2.2.2.2.1, r2.2.2.2.2.1, true)
noncomputable def f32B : Code := match Try.f32.body with
  | some c => c
  | none => .skip
noncomputable def f32K : C.Sem := tab [⟨48, F_impl_EntOk⟩, ⟨70, F_impl_Crc⟩, ⟨79, F_impl_reader_word⟩, ⟨81, F_impl_reader_four⟩, ⟨82, F_impl_reader_done⟩, ⟨88, F_impl_reader_op⟩]
noncomputable def f32P : Lp := fun i s {_R} κ => none
theorem k32 : Contract C Try.prog f32K := contract_tab _ (fun p hp => by
    simp only [List.mem_cons, List.mem_nil_iff, or_false] at hp
    rcases hp with rfl | rfl | rfl | rfl | rfl | rfl
    · exact ok48
    · exact ok70
    · exact ok79
    · exact ok81
    · exact ok82
    · exact ok88)
theorem ev32 (x : List E_u8) : evalB C f32K f32P 32 Try.f32 f32B ⟨[.v false [(.sl 5 ts_u8)] [false]], [⟨true, [(.int .i64), (.int .i64), .str, .str, (.int .i64), (.int .i64)], [false, false, false, false, false, false]⟩, ⟨false, [.bool], [false]⟩], false⟩ [(.sl 5 ts_u8)] [(.int .i64), (.int .i64), .str, .str, (.int .i64), (.int .i64), .bool] x = F_impl_GetEnt x := by kernel_rfl
theorem ok32 : ContractAt C Try.prog 32 F_impl_GetEnt := fn_sound (lp := f32P) tok mixed k32 (by kernel_rfl) (fn := Try.f32) (c := f32B) (sg := ⟨[.v false [(.sl 5 ts_u8)] [false]], [⟨true, [(.int .i64), (.int .i64), .str, .str, (.int .i64), (.int .i64)], [false, false, false, false, false, false]⟩, ⟨false, [.bool], [false]⟩], false⟩) Try.func32 (by decide) (by kernel_rfl) (by kernel_rfl) (by kernel_rfl) (fun c' hc' => by
    rw [show loopsOf f32B = [] by kernel_rfl] at hc'
    cases hc') (by decide) (by decide) (fun x y h => (ev32 x).trans h)

/-! ### 47: impl.SlotOf -/
noncomputable def F_impl_SlotOf (x : Int) : Option (Int) :=
  bif (decide (x < (0 : Int))) then some (-1 : Int) else some (Go.IntKind.wrap .i64 ((2 : Int) + (Int.tmod x (6 : Int))))
noncomputable def f47B : Code := match Try.f47.body with
  | some c => c
  | none => .skip
noncomputable def f47K : C.Sem := tab []
noncomputable def f47P : Lp := fun i s {_R} κ => none
theorem k47 : Contract C Try.prog f47K := contract_tab _ (fun p hp => by cases hp)
theorem ev47 (x : Int) : evalB C f47K f47P 47 Try.f47 f47B ⟨[.v false [(.int .i64)] [false]], [⟨false, [(.int .i64)], [false]⟩], false⟩ [(.int .i64)] [(.int .i64)] x = F_impl_SlotOf x := by kernel_rfl
theorem ok47 : ContractAt C Try.prog 47 F_impl_SlotOf := fn_sound (lp := f47P) tok mixed k47 (by kernel_rfl) (fn := Try.f47) (c := f47B) (sg := ⟨[.v false [(.int .i64)] [false]], [⟨false, [(.int .i64)], [false]⟩], false⟩) Try.func47 (by decide) (by kernel_rfl) (by kernel_rfl) (by kernel_rfl) (fun c' hc' => by
    rw [show loopsOf f47B = [] by kernel_rfl] at hc'
    cases hc') (by decide) (by decide) (fun x y h => (ev47 x).trans h)

/-! ### 86: spec.l1In -/
noncomputable def F_spec_l1In (x : Int × Int × Int) : Option (Bool) :=
  Option.bind (bif (decide (x.1 ≥ x.2.1)) then some (decide (x.1 ≤ x.2.2)) else some false) fun u1 => some u1
noncomputable def f86B : Code := match Try.f86.body with
  | some c => c
  | none => .skip
noncomputable def f86K : C.Sem := tab []
noncomputable def f86P : Lp := fun i s {_R} κ => none
theorem k86 : Contract C Try.prog f86K := contract_tab _ (fun p hp => by cases hp)
theorem ev86 (x : Int × Int × Int) : evalB C f86K f86P 86 Try.f86 f86B ⟨[.v false [(.int .i64)] [false], .v false [(.int .i64)] [false], .v false [(.int .i64)] [false]], [⟨false, [.bool], [false]⟩], false⟩ [(.int .i64), (.int .i64), (.int .i64)] [.bool] x = F_spec_l1In x := by kernel_rfl
theorem ok86 : ContractAt C Try.prog 86 F_spec_l1In := fn_sound (lp := f86P) tok mixed k86 (by kernel_rfl) (fn := Try.f86) (c := f86B) (sg := ⟨[.v false [(.int .i64)] [false], .v false [(.int .i64)] [false], .v false [(.int .i64)] [false]], [⟨false, [.bool], [false]⟩], false⟩) Try.func86 (by decide) (by kernel_rfl) (by kernel_rfl) (by kernel_rfl) (fun c' hc' => by
    rw [show loopsOf f86B = [] by kernel_rfl] at hc'
    cases hc') (by decide) (by decide) (fun x y h => (ev86 x).trans h)

/-! ### 144: spec.NameOk -/
abbrev T_spec_NameOk_2 : Type := ByteArray × Int
noncomputable def S_spec_NameOk_2 {R : Type} (k0 : (ByteArray × Bool) → Option R) (k1 : ByteArray → Option R) (again : T_spec_NameOk_2 → Option R) (t2 : T_spec_NameOk_2) : Option R :=
  bif (decide (t2.2 < ((ByteArray.size t2.1 : Nat) : Int))) then if (0 : Int) ≤ t2.2 then if h1 : Int.toNat t2.2 < ByteArray.size t2.1 then Option.bind (F_spec_l1In ((Go.IntKind.wrap .i64 ((UInt8.toNat (ByteArray.get t2.1 (Int.toNat t2.2) h1) : Nat) : Int)), (97 : Int), (122 : Int))) fun r2 => Option.bind (bif (!r2) then if (0 : Int) ≤ t2.2 then if h4 : Int.toNat t2.2 < ByteArray.size t2.1 then Option.bind (F_spec_l1In ((Go.IntKind.wrap .i64 ((UInt8.toNat (ByteArray.get t2.1 (Int.toNat t2.2) h4) : Nat) : Int)), (48 : Int), (57 : Int))) fun r5 => some (!r5) else none else none else some false) fun u3 => bif u3 then k0 (t2.1, false) else again (t2.1, (Go.IntKind.wrap .i64 (t2.2 + (1 : Int)))) else none else none else k1 t2.1
noncomputable def L_spec_NameOk_2 {R : Type} (k0 : (ByteArray × Bool) → Option R) (k1 : ByteArray → Option R) (t : T_spec_NameOk_2) : Option R := iter (S_spec_NameOk_2 k0 k1) FUEL t
noncomputable def F_spec_NameOk (x : ByteArray) : Option (Bool) :=
  L_spec_NameOk_2 (fun x6 => some x6.2) (fun x7 => Option.bind (F_spec_l1In (((ByteArray.size x7 : Nat) : Int), (1 : Int), (6 : Int))) fun r8 => some r8) (x, (0 : Int))
noncomputable def f144B : Code := match Try.f144.body with
  | some c => c
  | none => .skip
noncomputable def f144K : C.Sem := tab [⟨86, F_spec_l1In⟩]
def f144h2_0 : List Sh := [.v .str, .dead, .dead, .v (.int .i64), .dead, .dead, .dead, .dead, .dead, .dead, .dead, .dead, .dead, .dead, .dead, .dead, .dead, .dead, .dead, .dead, .dead, .dead, .dead, .dead, .dead, .dead, .dead]
def f144o2_0 : List (Nat × OSh) := []
def f144e2_0 (t : ByteArray × Int) : St := ⟨[.val .str t.1, .dead, .dead, .val (.int .i64) t.2, .dead, .dead, .dead, .dead, .dead, .dead, .dead, .dead, .dead, .dead, .dead, .dead, .dead, .dead, .dead, .dead, .dead, .dead, .dead, .dead, .dead, .dead, .dead], []⟩
def f144x2_0 (t : ByteArray × Bool) : St := ⟨[.val .str t.1, .dead, .val .bool t.2, .dead, .dead, .dead, .dead, .dead, .dead, .dead, .dead, .dead, .dead, .dead, .dead, .dead, .dead, .dead, .dead, .dead, .dead, .dead, .dead, .dead, .dead, .dead, .dead], []⟩
def f144x2_1 (t : ByteArray) : St := ⟨[.val .str t, .dead, .dead, .dead, .dead, .dead, .dead, .dead, .dead, .dead, .dead, .dead, .dead, .dead, .dead, .dead, .dead, .dead, .dead, .dead, .dead, .dead, .dead, .dead, .dead, .dead, .dead], []⟩
def f144u2_0 (s : St) : Option (ByteArray × Int) := (unS f144h2_0 f144o2_0 s).map fun v => (v.1.1, v.1.2.2.2.1)
theorem f144un2_0 : ∀ (s : St) (t : ByteArray × Int), f144u2_0 s = some t → f144e2_0 t = s := fun s v h => by
  obtain ⟨u, hu, rfl⟩ := Option.map_eq_some_iff.1 h
  exact (show f144e2_0 (u.1.1, u.1.2.2.2.1) = mkS f144h2_0 f144o2_0 u by kernel_rfl).trans (mkS_un f144h2_0 f144o2_0 s u hu)
def f144u2 : St → Option (ByteArray × Int) := f144u2_0
def f144e2 : (ByteArray × Int) → St := f144e2_0
theorem f144un2 : ∀ (s : St) (t : ByteArray × Int), f144u2 s = some t → f144e2 t = s := f144un2_0
noncomputable def f144P : Lp := fun i s {_R} κ => bif Nat.beq i 2 then (f144u2 s).bind fun t => L_spec_NameOk_2 (fun t => κ (none) (f144x2_0 t)) (fun t => κ (some 0) (f144x2_1 t)) t else none
noncomputable def f144c2 : Code := (loopsOf f144B).getD 0 .skip
theorem f144A2 : C.live 144 (firstRegion f144c2) = some ([0, 3, 17, 18, 19, 20, 21, 22], [0, 2]) := by kernel_rfl
theorem f144B2 {R : Type} (κ : Option Nat → St → Option R) (s : St) : f144P (firstRegion f144c2) s κ = (f144u2 s).bind fun t => iter (S_spec_NameOk_2 (fun t => κ (none) (f144x2_0 t)) (fun t => κ (some 0) (f144x2_1 t))) FUEL t := by kernel_rfl
theorem f144C2 {R : Type} (κ : Option Nat → St → Option R) (again : St → Option R) (t : T_spec_NameOk_2) : stepL C f144K f144P 144 f144c2 [0, 3, 17, 18, 19, 20, 21, 22] [0, 2] κ again (f144e2 t) = S_spec_NameOk_2 (fun t => κ (none) (f144x2_0 t)) (fun t => κ (some 0) (f144x2_1 t)) (fun t => again (f144e2 t)) t := by kernel_rfl
theorem f144ok2 : LoopOk C f144K f144P 144 f144c2 := loop_ok f144A2 f144e2 f144u2 f144un2 (fun {_R} κ => S_spec_NameOk_2 (fun t => κ (none) (f144x2_0 t)) (fun t => κ (some 0) (f144x2_1 t))) (fun {_R} κ s => f144B2 κ s) (fun {_R} κ again t => f144C2 κ again t)
theorem k144 : Contract C Try.prog f144K := contract_tab _ (fun p hp => by
    simp only [List.mem_cons, List.mem_nil_iff, or_false] at hp
    rcases hp with rfl
    · exact ok86)
theorem ev144 (x : ByteArray) : evalB C f144K f144P 144 Try.f144 f144B ⟨[.v false [.str] [false]], [⟨false, [.bool], [false]⟩], false⟩ [.str] [.bool] x = F_spec_NameOk x := by kernel_rfl
theorem ok144 : ContractAt C Try.prog 144 F_spec_NameOk := fn_sound (lp := f144P) tok mixed k144 (by kernel_rfl) (fn := Try.f144) (c := f144B) (sg := ⟨[.v false [.str] [false]], [⟨false, [.bool], [false]⟩], false⟩) Try.func144 (by decide) (by kernel_rfl) (by kernel_rfl) (by kernel_rfl) (fun c' hc' => by
    rw [show loopsOf f144B = [f144c2] by kernel_rfl] at hc'
    simp only [List.mem_cons, List.mem_nil_iff, or_false] at hc'
    rcases hc' with rfl
    · exact f144ok2) (by decide) (by decide) (fun x y h => (ev144 x).trans h)

/-! ### 145: spec.l1Word -/
noncomputable def F_spec_l1Word (x : Int) : Option (Bool) :=
  Option.bind (F_spec_l1In (x, (0 : Int), (65535 : Int))) fun r1 => some r1
noncomputable def f145B : Code := match Try.f145.body with
  | some c => c
  | none => .skip
noncomputable def f145K : C.Sem := tab [⟨86, F_spec_l1In⟩]
noncomputable def f145P : Lp := fun i s {_R} κ => none
theorem k145 : Contract C Try.prog f145K := contract_tab _ (fun p hp => by
    simp only [List.mem_cons, List.mem_nil_iff, or_false] at hp
    rcases hp with rfl
    · exact ok86)
theorem ev145 (x : Int) : evalB C f145K f145P 145 Try.f145 f145B ⟨[.v false [(.int .i64)] [false]], [⟨false, [.bool], [false]⟩], false⟩ [(.int .i64)] [.bool] x = F_spec_l1Word x := by kernel_rfl
theorem ok145 : ContractAt C Try.prog 145 F_spec_l1Word := fn_sound (lp := f145P) tok mixed k145 (by kernel_rfl) (fn := Try.f145) (c := f145B) (sg := ⟨[.v false [(.int .i64)] [false]], [⟨false, [.bool], [false]⟩], false⟩) Try.func145 (by decide) (by kernel_rfl) (by kernel_rfl) (by kernel_rfl) (fun c' hc' => by
    rw [show loopsOf f145B = [] by kernel_rfl] at hc'
    cases hc') (by decide) (by decide) (fun x y h => (ev145 x).trans h)

/-! ### 146: spec.l15Zero -/
noncomputable def F_spec_l15Zero (x : Int × ByteArray × ByteArray × Int × Int) : Option (Bool) :=
  bif (x.1 == (2 : Int)) then Option.bind (bif (x.2.2.2.1 == (0 : Int)) then Option.bind (F_spec_l1In (x.2.2.2.2, (0 : Int), (1 : Int))) fun r2 => some r2 else some false) fun u1 => some u1 else bif (x.1 == (3 : Int)) then bif (x.1 == (3 : Int)) then Option.bind (bif (x.2.2.2.1 == (0 : Int)) then some (x.2.2.2.2 == (0 : Int)) else some false) fun u3 => some u3 else bif (x.1 == (4 : Int)) then some true else some (x.2.2.2.2 == (0 : Int)) else bif (x.1 == (7 : Int)) then Option.bind (bif (x.2.2.2.1 == (0 : Int)) then some (x.2.2.2.2 == (0 : Int)) else some false) fun u4 => some u4 else bif (x.1 == (4 : Int)) then some true else some (x.2.2.2.2 == (0 : Int))
noncomputable def f146B : Code := match Try.f146.body with
  | some c => c
  | none => .skip
noncomputable def f146K : C.Sem := tab [⟨86, F_spec_l1In⟩]
noncomputable def f146P : Lp := fun i s {_R} κ => none
theorem k146 : Contract C Try.prog f146K := contract_tab _ (fun p hp => by
    simp only [List.mem_cons, List.mem_nil_iff, or_false] at hp
    rcases hp with rfl
    · exact ok86)
theorem ev146 (x : Int × ByteArray × ByteArray × Int × Int) : evalB C f146K f146P 146 Try.f146 f146B ⟨[.v true [(.int .i64), .str, .str, (.int .i64), (.int .i64)] [false, false, false, false, false]], [⟨false, [.bool], [false]⟩], false⟩ [(.int .i64), .str, .str, (.int .i64), (.int .i64)] [.bool] x = F_spec_l15Zero x := by kernel_rfl
theorem ok146 : ContractAt C Try.prog 146 F_spec_l15Zero := fn_sound (lp := f146P) tok mixed k146 (by kernel_rfl) (fn := Try.f146) (c := f146B) (sg := ⟨[.v true [(.int .i64), .str, .str, (.int .i64), (.int .i64)] [false, false, false, false, false]], [⟨false, [.bool], [false]⟩], false⟩) Try.func146 (by decide) (by kernel_rfl) (by kernel_rfl) (by kernel_rfl) (fun c' hc' => by
    rw [show loopsOf f146B = [] by kernel_rfl] at hc'
    cases hc') (by decide) (by decide) (fun x y h => (ev146 x).trans h)

/-! ### 110: spec.OpOk -/
noncomputable def F_spec_OpOk (x : Int × ByteArray × ByteArray × Int × Int) : Option (Bool) :=
  Option.bind (F_spec_NameOk x.2.1) fun r1 => bif (decide (x.1 ≥ (7 : Int))) then bif (x.1 == (2 : Int)) then Option.bind (F_spec_NameOk x.2.2.1) fun r2 => Option.bind (F_spec_l1In (x.1, (1 : Int), (9 : Int))) fun r3 => Option.bind (bif r3 then some ((ByteArray.toList x.2.1) == (ByteArray.toList ({ data := #[] }))) else some false) fun u4 => Option.bind (bif u4 then some r2 else some false) fun u5 => Option.bind (bif u5 then Option.bind (F_spec_l1Word x.2.2.2.1) fun r7 => some r7 else some false) fun u6 => Option.bind (bif u6 then Option.bind (F_spec_l1Word x.2.2.2.2) fun r9 => some r9 else some false) fun u8 => Option.bind (bif u8 then Option.bind (F_spec_l15Zero (x.1, x.2.1, x.2.2.1, x.2.2.2.1, x.2.2.2.2)) fun r11 => some r11 else some false) fun u10 => some u10 else Option.bind (F_spec_l1In (x.1, (1 : Int), (9 : Int))) fun r12 => Option.bind (bif r12 then some ((ByteArray.toList x.2.1) == (ByteArray.toList ({ data := #[] }))) else some false) fun u13 => Option.bind (bif u13 then some ((ByteArray.toList x.2.2.1) == (ByteArray.toList ({ data := #[] }))) else some false) fun u14 => Option.bind (bif u14 then Option.bind (F_spec_l1Word x.2.2.2.1) fun r16 => some r16 else some false) fun u15 => Option.bind (bif u15 then Option.bind (F_spec_l1Word x.2.2.2.2) fun r18 => some r18 else some false) fun u17 => Option.bind (bif u17 then Option.bind (F_spec_l15Zero (x.1, x.2.1, x.2.2.1, x.2.2.2.1, x.2.2.2.2)) fun r20 => some r20 else some false) fun u19 => some u19 else bif (x.1 == (2 : Int)) then Option.bind (F_spec_NameOk x.2.2.1) fun r21 => Option.bind (F_spec_l1In (x.1, (1 : Int), (9 : Int))) fun r22 => Option.bind (bif r22 then some r1 else some false) fun u23 => Option.bind (bif u23 then some r21 else some false) fun u24 => Option.bind (bif u24 then Option.bind (F_spec_l1Word x.2.2.2.1) fun r26 => some r26 else some false) fun u25 => Option.bind (bif u25 then Option.bind (F_spec_l1Word x.2.2.2.2) fun r28 => some r28 else some false) fun u27 => Option.bind (bif u27 then Option.bind (F_spec_l15Zero (x.1, x.2.1, x.2.2.1, x.2.2.2.1, x.2.2.2.2)) fun r30 => some r30 else some false) fun u29 => some u29 else Option.bind (F_spec_l1In (x.1, (1 : Int), (9 : Int))) fun r31 => Option.bind (bif r31 then some r1 else some false) fun u32 => Option.bind (bif u32 then some ((ByteArray.toList x.2.2.1) == (ByteArray.toList ({ data := #[] }))) else some false) fun u33 => Option.bind (bif u33 then Option.bind (F_spec_l1Word x.2.2.2.1) fun r35 => some r35 else some false) fun u34 => Option.bind (bif u34 then Option.bind (F_spec_l1Word x.2.2.2.2) fun r37 => some r37 else some false) fun u36 => Option.bind (bif u36 then Option.bind (F_spec_l15Zero (x.1, x.2.1, x.2.2.1, x.2.2.2.1, x.2.2.2.2)) fun r39 => some r39 else some false) fun u38 => some u38
noncomputable def f110B : Code := match Try.f110.body with
  | some c => c
  | none => .skip
noncomputable def f110K : C.Sem := tab [⟨86, F_spec_l1In⟩, ⟨144, F_spec_NameOk⟩, ⟨145, F_spec_l1Word⟩, ⟨146, F_spec_l15Zero⟩]
noncomputable def f110P : Lp := fun i s {_R} κ => none
theorem k110 : Contract C Try.prog f110K := contract_tab _ (fun p hp => by
    simp only [List.mem_cons, List.mem_nil_iff, or_false] at hp
    rcases hp with rfl | rfl | rfl | rfl
    · exact ok86
    · exact ok144
    · exact ok145
    · exact ok146)
theorem ev110 (x : Int × ByteArray × ByteArray × Int × Int) : evalB C f110K f110P 110 Try.f110 f110B ⟨[.v true [(.int .i64), .str, .str, (.int .i64), (.int .i64)] [false, false, false, false, false]], [⟨false, [.bool], [false]⟩], false⟩ [(.int .i64), .str, .str, (.int .i64), (.int .i64)] [.bool] x = F_spec_OpOk x := by kernel_rfl
theorem ok110 : ContractAt C Try.prog 110 F_spec_OpOk := fn_sound (lp := f110P) tok mixed k110 (by kernel_rfl) (fn := Try.f110) (c := f110B) (sg := ⟨[.v true [(.int .i64), .str, .str, (.int .i64), (.int .i64)] [false, false, false, false, false]], [⟨false, [.bool], [false]⟩], false⟩) Try.func110 (by decide) (by kernel_rfl) (by kernel_rfl) (by kernel_rfl) (fun c' hc' => by
    rw [show loopsOf f110B = [] by kernel_rfl] at hc'
    cases hc') (by decide) (by decide) (fun x y h => (ev110 x).trans h)

/-! ### 49: spec.EntOk -/
noncomputable def F_spec_EntOk (x : Int × Int × ByteArray × ByteArray × Int × Int) : Option (Bool) :=
  Option.bind (F_spec_l1In (x.1, (1 : Int), (60000 : Int))) fun r1 => Option.bind (bif r1 then Option.bind (F_spec_OpOk (x.2.1, x.2.2.1, x.2.2.2.1, x.2.2.2.2.1, x.2.2.2.2.2)) fun r3 => some r3 else some false) fun u2 => some u2
noncomputable def f49B : Code := match Try.f49.body with
  | some c => c
  | none => .skip
noncomputable def f49K : C.Sem := tab [⟨86, F_spec_l1In⟩, ⟨110, F_spec_OpOk⟩]
noncomputable def f49P : Lp := fun i s {_R} κ => none
theorem k49 : Contract C Try.prog f49K := contract_tab _ (fun p hp => by
    simp only [List.mem_cons, List.mem_nil_iff, or_false] at hp
    rcases hp with rfl | rfl
    · exact ok86
    · exact ok110)
theorem ev49 (x : Int × Int × ByteArray × ByteArray × Int × Int) : evalB C f49K f49P 49 Try.f49 f49B ⟨[.v true [(.int .i64), (.int .i64), .str, .str, (.int .i64), (.int .i64)] [false, false, false, false, false, false]], [⟨false, [.bool], [false]⟩], false⟩ [(.int .i64), (.int .i64), .str, .str, (.int .i64), (.int .i64)] [.bool] x = F_spec_EntOk x := by kernel_rfl
theorem ok49 : ContractAt C Try.prog 49 F_spec_EntOk := fn_sound (lp := f49P) tok mixed k49 (by kernel_rfl) (fn := Try.f49) (c := f49B) (sg := ⟨[.v true [(.int .i64), (.int .i64), .str, .str, (.int .i64), (.int .i64)] [false, false, false, false, false, false]], [⟨false, [.bool], [false]⟩], false⟩) Try.func49 (by decide) (by kernel_rfl) (by kernel_rfl) (by kernel_rfl) (fun c' hc' => by
    rw [show loopsOf f49B = [] by kernel_rfl] at hc'
    cases hc') (by decide) (by decide) (fun x y h => (ev49 x).trans h)

/-! ### 63: spec.PutW -/
noncomputable def F_spec_PutW (x : List E_u8 × Int) : Option (List E_u8) :=
  if (List.length ([] : List E_u8) + List.length x.1) * 1 < 140737488355328 then if (List.length (([] : List E_u8) ++ x.1) + List.length ([(Go.IntKind.wrap .u8 (Int.fdiv x.2 (2 ^ (min (Int.toNat (8 : Int)) (Go.IntKind.bits .i64))))), (Go.IntKind.wrap .u8 x.2)] : List E_u8)) * 1 < 140737488355328 then some ((([] : List E_u8) ++ x.1) ++ ([(Go.IntKind.wrap .u8 (Int.fdiv x.2 (2 ^ (min (Int.toNat (8 : Int)) (Go.IntKind.bits .i64))))), (Go.IntKind.wrap .u8 x.2)] : List E_u8)) else none else none
noncomputable def f63B : Code := match Try.f63.body with
  | some c => c
  | none => .skip
noncomputable def f63K : C.Sem := tab []
noncomputable def f63P : Lp := fun i s {_R} κ => none
theorem k63 : Contract C Try.prog f63K := contract_tab _ (fun p hp => by cases hp)
theorem ev63 (x : List E_u8 × Int) : evalB C f63K f63P 63 Try.f63 f63B ⟨[.v false [(.sl 5 ts_u8)] [false], .v false [(.int .i64)] [false]], [⟨false, [(.sl 5 ts_u8)], [true]⟩], false⟩ [(.sl 5 ts_u8), (.int .i64)] [(.sl 5 ts_u8)] x = F_spec_PutW x := by kernel_rfl
theorem ok63 : ContractAt C Try.prog 63 F_spec_PutW := fn_sound (lp := f63P) tok mixed k63 (by kernel_rfl) (fn := Try.f63) (c := f63B) (sg := ⟨[.v false [(.sl 5 ts_u8)] [false], .v false [(.int .i64)] [false]], [⟨false, [(.sl 5 ts_u8)], [true]⟩], false⟩) Try.func63 (by decide) (by kernel_rfl) (by kernel_rfl) (by kernel_rfl) (fun c' hc' => by
    rw [show loopsOf f63B = [] by kernel_rfl] at hc'
    cases hc') (by decide) (by decide) (fun x y h => (ev63 x).trans h)

/-! ### 130: spec.PutText -/
noncomputable def F_spec_PutText (x : List E_u8 × ByteArray) : Option (List E_u8) :=
  bif (decide (((ByteArray.size x.2 : Nat) : Int) > (60 : Int))) then if (List.length ([] : List E_u8) + List.length x.1) * 1 < 140737488355328 then some (([] : List E_u8) ++ x.1) else none else Option.bind (F_spec_PutW (x.1, ((ByteArray.size x.2 : Nat) : Int))) fun r1 => if (List.length r1 + List.length (bytesL x.2)) * 1 < 140737488355328 then some (r1 ++ (bytesL x.2)) else none
noncomputable def f130B : Code := match Try.f130.body with
  | some c => c
  | none => .skip
noncomputable def f130K : C.Sem := tab [⟨63, F_spec_PutW⟩]
noncomputable def f130P : Lp := fun i s {_R} κ => none
theorem k130 : Contract C Try.prog f130K := contract_tab _ (fun p hp => by
    simp only [List.mem_cons, List.mem_nil_iff, or_false] at hp
    rcases hp with rfl
    · exact ok63)
theorem ev130 (x : List E_u8 × ByteArray) : evalB C f130K f130P 130 Try.f130 f130B ⟨[.v false [(.sl 5 ts_u8)] [false], .v false [.str] [false]], [⟨false, [(.sl 5 ts_u8)], [true]⟩], false⟩ [(.sl 5 ts_u8), .str] [(.sl 5 ts_u8)] x = F_spec_PutText x := by kernel_rfl
theorem ok130 : ContractAt C Try.prog 130 F_spec_PutText := fn_sound (lp := f130P) tok mixed k130 (by kernel_rfl) (fn := Try.f130) (c := f130B) (sg := ⟨[.v false [(.sl 5 ts_u8)] [false], .v false [.str] [false]], [⟨false, [(.sl 5 ts_u8)], [true]⟩], false⟩) Try.func130 (by decide) (by kernel_rfl) (by kernel_rfl) (by kernel_rfl) (fun c' hc' => by
    rw [show loopsOf f130B = [] by kernel_rfl] at hc'
    cases hc') (by decide) (by decide) (fun x y h => (ev130 x).trans h)

/-! ### 62: spec.PutOp -/
noncomputable def F_spec_PutOp (x : List E_u8 × Int × ByteArray × ByteArray × Int × Int) : Option (List E_u8) :=
  if (List.length ([] : List E_u8) + List.length x.1) * 1 < 140737488355328 then Option.bind (F_spec_OpOk (x.2.1, x.2.2.1, x.2.2.2.1, x.2.2.2.2.1, x.2.2.2.2.2)) fun r1 => bif (!r1) then some (([] : List E_u8) ++ x.1) else if (List.length (([] : List E_u8) ++ x.1) + List.length ([(Go.IntKind.wrap .u8 x.2.1)] : List E_u8)) * 1 < 140737488355328 then Option.bind (F_spec_PutText (((([] : List E_u8) ++ x.1) ++ ([(Go.IntKind.wrap .u8 x.2.1)] : List E_u8)), x.2.2.1)) fun r2 => Option.bind (F_spec_PutText (r2, x.2.2.2.1)) fun r3 => Option.bind (F_spec_PutW (r3, x.2.2.2.2.1)) fun r4 => Option.bind (F_spec_PutW (r4, x.2.2.2.2.2)) fun r5 => some r5 else none else none
noncomputable def f62B : Code := match Try.f62.body with
  | some c => c
  | none => .skip
noncomputable def f62K : C.Sem := tab [⟨63, F_spec_PutW⟩, ⟨110, F_spec_OpOk⟩, ⟨130, F_spec_PutText⟩]
noncomputable def f62P : Lp := fun i s {_R} κ => none
theorem k62 : Contract C Try.prog f62K := contract_tab _ (fun p hp => by
    simp only [List.mem_cons, List.mem_nil_iff, or_false] at hp
    rcases hp with rfl | rfl | rfl
    · exact ok63
    · exact ok110
    · exact ok130)
theorem ev62 (x : List E_u8 × Int × ByteArray × ByteArray × Int × Int) : evalB C f62K f62P 62 Try.f62 f62B ⟨[.v false [(.sl 5 ts_u8)] [false], .v true [(.int .i64), .str, .str, (.int .i64), (.int .i64)] [false, false, false, false, false]], [⟨false, [(.sl 5 ts_u8)], [true]⟩], false⟩ [(.sl 5 ts_u8), (.int .i64), .str, .str, (.int .i64), (.int .i64)] [(.sl 5 ts_u8)] x = F_spec_PutOp x := by kernel_rfl
theorem ok62 : ContractAt C Try.prog 62 F_spec_PutOp := fn_sound (lp := f62P) tok mixed k62 (by kernel_rfl) (fn := Try.f62) (c := f62B) (sg := ⟨[.v false [(.sl 5 ts_u8)] [false], .v true [(.int .i64), .str, .str, (.int .i64), (.int .i64)] [false, false, false, false, false]], [⟨false, [(.sl 5 ts_u8)], [true]⟩], false⟩) Try.func62 (by decide) (by kernel_rfl) (by kernel_rfl) (by kernel_rfl) (fun c' hc' => by
    rw [show loopsOf f62B = [] by kernel_rfl] at hc'
    cases hc') (by decide) (by decide) (fun x y h => (ev62 x).trans h)

/-! ### 64: spec.l17Four -/
noncomputable def F_spec_l17Four (x : List E_u8 × Int) : Option (List E_u8) :=
  if (List.length ([] : List E_u8) + List.length x.1) * 1 < 140737488355328 then if (List.length (([] : List E_u8) ++ x.1) + List.length ([(Go.IntKind.wrap .u8 (Int.fdiv x.2 (2 ^ (min (Int.toNat (24 : Int)) (Go.IntKind.bits .i64))))), (Go.IntKind.wrap .u8 (Int.fdiv x.2 (2 ^ (min (Int.toNat (16 : Int)) (Go.IntKind.bits .i64))))), (Go.IntKind.wrap .u8 (Int.fdiv x.2 (2 ^ (min (Int.toNat (8 : Int)) (Go.IntKind.bits .i64))))), (Go.IntKind.wrap .u8 x.2)] : List E_u8)) * 1 < 140737488355328 then some ((([] : List E_u8) ++ x.1) ++ ([(Go.IntKind.wrap .u8 (Int.fdiv x.2 (2 ^ (min (Int.toNat (24 : Int)) (Go.IntKind.bits .i64))))), (Go.IntKind.wrap .u8 (Int.fdiv x.2 (2 ^ (min (Int.toNat (16 : Int)) (Go.IntKind.bits .i64))))), (Go.IntKind.wrap .u8 (Int.fdiv x.2 (2 ^ (min (Int.toNat (8 : Int)) (Go.IntKind.bits .i64))))), (Go.IntKind.wrap .u8 x.2)] : List E_u8)) else none else none
noncomputable def f64B : Code := match Try.f64.body with
  | some c => c
  | none => .skip
noncomputable def f64K : C.Sem := tab []
noncomputable def f64P : Lp := fun i s {_R} κ => none
theorem k64 : Contract C Try.prog f64K := contract_tab _ (fun p hp => by cases hp)
theorem ev64 (x : List E_u8 × Int) : evalB C f64K f64P 64 Try.f64 f64B ⟨[.v false [(.sl 5 ts_u8)] [false], .v false [(.int .i64)] [false]], [⟨false, [(.sl 5 ts_u8)], [true]⟩], false⟩ [(.sl 5 ts_u8), (.int .i64)] [(.sl 5 ts_u8)] x = F_spec_l17Four x := by kernel_rfl
theorem ok64 : ContractAt C Try.prog 64 F_spec_l17Four := fn_sound (lp := f64P) tok mixed k64 (by kernel_rfl) (fn := Try.f64) (c := f64B) (sg := ⟨[.v false [(.sl 5 ts_u8)] [false], .v false [(.int .i64)] [false]], [⟨false, [(.sl 5 ts_u8)], [true]⟩], false⟩) Try.func64 (by decide) (by kernel_rfl) (by kernel_rfl) (by kernel_rfl) (fun c' hc' => by
    rw [show loopsOf f64B = [] by kernel_rfl] at hc'
    cases hc') (by decide) (by decide) (fun x y h => (ev64 x).trans h)

/-! ### 65: spec.Crc -/
abbrev T_spec_Crc_7 : Type := List E_u8 × Int × Int × Int
noncomputable def S_spec_Crc_7 {R : Type} (k0 : (List E_u8 × Int × Int) → Option R) (again : T_spec_Crc_7 → Option R) (t7 : T_spec_Crc_7) : Option R :=
  bif (decide (t7.2.2.2 < (8 : Int))) then bif ((Go.bits .and .i64 t7.2.1 (1 : Int)) == (1 : Int)) then again (t7.1, (Go.bits .xor .i64 (Int.fdiv t7.2.1 (2 ^ (min (Int.toNat (1 : Int)) (Go.IntKind.bits .i64)))) (2197175160 : Int)), t7.2.2.1, (Go.IntKind.wrap .i64 (t7.2.2.2 + (1 : Int)))) else again (t7.1, (Int.fdiv t7.2.1 (2 ^ (min (Int.toNat (1 : Int)) (Go.IntKind.bits .i64)))), t7.2.2.1, (Go.IntKind.wrap .i64 (t7.2.2.2 + (1 : Int)))) else k0 (t7.1, t7.2.1, t7.2.2.1)
noncomputable def L_spec_Crc_7 {R : Type} (k0 : (List E_u8 × Int × Int) → Option R) (t : T_spec_Crc_7) : Option R := iter (S_spec_Crc_7 k0) FUEL t
abbrev T_spec_Crc_3 : Type := List E_u8 × Int × Int
noncomputable def S_spec_Crc_3 {R : Type} (k0 : Int → Option R) (again : T_spec_Crc_3 → Option R) (t3 : T_spec_Crc_3) : Option R :=
  bif (decide (t3.2.2 < ((List.length t3.1 : Nat) : Int))) then if (0 : Int) ≤ t3.2.2 then if t3.2.2 < ((List.length t3.1 : Nat) : Int) then L_spec_Crc_7 (fun x1 => again (x1.1, x1.2.1, (Go.IntKind.wrap .i64 (x1.2.2 + (1 : Int))))) (t3.1, (Go.bits .xor .i64 t3.2.1 (Go.IntKind.wrap .i64 (rd_u8 t3.1 t3.2.2))), t3.2.2, (0 : Int)) else none else none else k0 t3.2.1
noncomputable def L_spec_Crc_3 {R : Type} (k0 : Int → Option R) (t : T_spec_Crc_3) : Option R := iter (S_spec_Crc_3 k0) FUEL t
noncomputable def F_spec_Crc (x : List E_u8) : Option (Int) :=
  L_spec_Crc_3 (fun x2 => some (Go.bits .xor .i64 x2 (4294967295 : Int))) (x, (4294967295 : Int), (0 : Int))
noncomputable def f65B : Code := match Try.f65.body with
  | some c => c
  | none => .skip
noncomputable def f65K : C.Sem := tab []
def f65h7_0 : List Sh := [.v (.sl 5 ts_u8), .dead, .dead, .v (.int .i64), .v (.int .i64), .v (.int .i64), .dead, .dead, .dead, .dead, .dead, .dead, .dead, .dead, .dead, .dead, .dead, .dead, .dead, .dead, .dead, .dead, .dead, .dead, .dead, .dead, .dead, .dead, .dead, .dead, .dead, .dead, .dead]
def f65o7_0 : List (Nat × OSh) := []
def f65e7_0 (t : List E_u8 × Int × Int × Int) : St := ⟨[.val (.sl 5 ts_u8) t.1, .dead, .dead, .val (.int .i64) t.2.1, .val (.int .i64) t.2.2.1, .val (.int .i64) t.2.2.2, .dead, .dead, .dead, .dead, .dead, .dead, .dead, .dead, .dead, .dead, .dead, .dead, .dead, .dead, .dead, .dead, .dead, .dead, .dead, .dead, .dead, .dead, .dead, .dead, .dead, .dead, .dead], []⟩
def f65x7_0 (t : List E_u8 × Int × Int) : St := ⟨[.val (.sl 5 ts_u8) t.1, .dead, .dead, .val (.int .i64) t.2.1, .val (.int .i64) t.2.2, .dead, .dead, .dead, .dead, .dead, .dead, .dead, .dead, .dead, .dead, .dead, .dead, .dead, .dead, .dead, .dead, .dead, .dead, .dead, .dead, .dead, .dead, .dead, .dead, .dead, .dead, .dead, .dead], []⟩
def f65u7_0 (s : St) : Option (List E_u8 × Int × Int × Int) := (unS f65h7_0 f65o7_0 s).map fun v => (v.1.1, v.1.2.2.2.1, v.1.2.2.2.2.1, v.1.2.2.2.2.2.1)
theorem f65un7_0 : ∀ (s : St) (t : List E_u8 × Int × Int × Int), f65u7_0 s = some t → f65e7_0 t = s := fun s v h => by
  obtain ⟨u, hu, rfl⟩ := Option.map_eq_some_iff.1 h
  exact (show f65e7_0 (u.1.1, u.1.2.2.2.1, u.1.2.2.2.2.1, u.1.2.2.2.2.2.1) = mkS f65h7_0 f65o7_0 u by kernel_rfl).trans (mkS_un f65h7_0 f65o7_0 s u hu)
def f65u7 : St → Option (List E_u8 × Int × Int × Int) := f65u7_0
def f65e7 : (List E_u8 × Int × Int × Int) → St := f65e7_0
theorem f65un7 : ∀ (s : St) (t : List E_u8 × Int × Int × Int), f65u7 s = some t → f65e7 t = s := f65un7_0
def f65h3_0 : List Sh := [.v (.sl 5 ts_u8), .dead, .dead, .v (.int .i64), .v (.int .i64), .dead, .dead, .dead, .dead, .dead, .dead, .dead, .dead, .dead, .dead, .dead, .dead, .dead, .dead, .dead, .dead, .dead, .dead, .dead, .dead, .dead, .dead, .dead, .dead, .dead, .dead, .dead, .dead]
def f65o3_0 : List (Nat × OSh) := []
def f65e3_0 (t : List E_u8 × Int × Int) : St := ⟨[.val (.sl 5 ts_u8) t.1, .dead, .dead, .val (.int .i64) t.2.1, .val (.int .i64) t.2.2, .dead, .dead, .dead, .dead, .dead, .dead, .dead, .dead, .dead, .dead, .dead, .dead, .dead, .dead, .dead, .dead, .dead, .dead, .dead, .dead, .dead, .dead, .dead, .dead, .dead, .dead, .dead, .dead], []⟩
def f65x3_0 (t : Int) : St := ⟨[.dead, .dead, .dead, .val (.int .i64) t, .dead, .dead, .dead, .dead, .dead, .dead, .dead, .dead, .dead, .dead, .dead, .dead, .dead, .dead, .dead, .dead, .dead, .dead, .dead, .dead, .dead, .dead, .dead, .dead, .dead, .dead, .dead, .dead, .dead], []⟩
def f65u3_0 (s : St) : Option (List E_u8 × Int × Int) := (unS f65h3_0 f65o3_0 s).map fun v => (v.1.1, v.1.2.2.2.1, v.1.2.2.2.2.1)
theorem f65un3_0 : ∀ (s : St) (t : List E_u8 × Int × Int), f65u3_0 s = some t → f65e3_0 t = s := fun s v h => by
  obtain ⟨u, hu, rfl⟩ := Option.map_eq_some_iff.1 h
  exact (show f65e3_0 (u.1.1, u.1.2.2.2.1, u.1.2.2.2.2.1) = mkS f65h3_0 f65o3_0 u by kernel_rfl).trans (mkS_un f65h3_0 f65o3_0 s u hu)
def f65u3 : St → Option (List E_u8 × Int × Int) := f65u3_0
def f65e3 : (List E_u8 × Int × Int) → St := f65e3_0
theorem f65un3 : ∀ (s : St) (t : List E_u8 × Int × Int), f65u3 s = some t → f65e3 t = s := f65un3_0
noncomputable def f65P : Lp := fun i s {_R} κ => bif Nat.beq i 3 then (f65u3 s).bind fun t => L_spec_Crc_3 (fun t => κ (some 0) (f65x3_0 t)) t else bif Nat.beq i 7 then (f65u7 s).bind fun t => L_spec_Crc_7 (fun t => κ (some 2) (f65x7_0 t)) t else none
noncomputable def f65c7 : Code := (loopsOf f65B).getD 1 .skip
theorem f65A7 : C.live 65 (firstRegion f65c7) = some ([0, 3, 4, 5], [0, 3, 4]) := by kernel_rfl
theorem f65B7 {R : Type} (κ : Option Nat → St → Option R) (s : St) : f65P (firstRegion f65c7) s κ = (f65u7 s).bind fun t => iter (S_spec_Crc_7 (fun t => κ (some 2) (f65x7_0 t))) FUEL t := by kernel_rfl
theorem f65C7 {R : Type} (κ : Option Nat → St → Option R) (again : St → Option R) (t : T_spec_Crc_7) : stepL C f65K f65P 65 f65c7 [0, 3, 4, 5] [0, 3, 4] κ again (f65e7 t) = S_spec_Crc_7 (fun t => κ (some 2) (f65x7_0 t)) (fun t => again (f65e7 t)) t := by kernel_rfl
theorem f65ok7 : LoopOk C f65K f65P 65 f65c7 := loop_ok f65A7 f65e7 f65u7 f65un7 (fun {_R} κ => S_spec_Crc_7 (fun t => κ (some 2) (f65x7_0 t))) (fun {_R} κ s => f65B7 κ s) (fun {_R} κ again t => f65C7 κ again t)
noncomputable def f65c3 : Code := (loopsOf f65B).getD 0 .skip
theorem f65A3 : C.live 65 (firstRegion f65c3) = some ([0, 3, 4], [3]) := by kernel_rfl
theorem f65B3 {R : Type} (κ : Option Nat → St → Option R) (s : St) : f65P (firstRegion f65c3) s κ = (f65u3 s).bind fun t => iter (S_spec_Crc_3 (fun t => κ (some 0) (f65x3_0 t))) FUEL t := by kernel_rfl
theorem f65C3 {R : Type} (κ : Option Nat → St → Option R) (again : St → Option R) (t : T_spec_Crc_3) : stepL C f65K f65P 65 f65c3 [0, 3, 4] [3] κ again (f65e3 t) = S_spec_Crc_3 (fun t => κ (some 0) (f65x3_0 t)) (fun t => again (f65e3 t)) t := by kernel_rfl
theorem f65ok3 : LoopOk C f65K f65P 65 f65c3 := loop_ok f65A3 f65e3 f65u3 f65un3 (fun {_R} κ => S_spec_Crc_3 (fun t => κ (some 0) (f65x3_0 t))) (fun {_R} κ s => f65B3 κ s) (fun {_R} κ again t => f65C3 κ again t)
theorem k65 : Contract C Try.prog f65K := contract_tab _ (fun p hp => by cases hp)
theorem ev65 (x : List E_u8) : evalB C f65K f65P 65 Try.f65 f65B ⟨[.v false [(.sl 5 ts_u8)] [false]], [⟨false, [(.int .i64)], [false]⟩], false⟩ [(.sl 5 ts_u8)] [(.int .i64)] x = F_spec_Crc x := by kernel_rfl
theorem ok65 : ContractAt C Try.prog 65 F_spec_Crc := fn_sound (lp := f65P) tok mixed k65 (by kernel_rfl) (fn := Try.f65) (c := f65B) (sg := ⟨[.v false [(.sl 5 ts_u8)] [false]], [⟨false, [(.int .i64)], [false]⟩], false⟩) Try.func65 (by decide) (by kernel_rfl) (by kernel_rfl) (by kernel_rfl) (fun c' hc' => by
    rw [show loopsOf f65B = [f65c3, f65c7] by kernel_rfl] at hc'
    simp only [List.mem_cons, List.mem_nil_iff, or_false] at hc'
    rcases hc' with rfl | rfl
    · exact f65ok3
    · exact f65ok7) (by decide) (by decide) (fun x y h => (ev65 x).trans h)

/-! ### 12: spec.PutEnt -/
noncomputable def F_spec_PutEnt (x : Int × Int × ByteArray × ByteArray × Int × Int) : Option (List E_u8) :=
  Option.bind (F_spec_EntOk (x.1, x.2.1, x.2.2.1, x.2.2.2.1, x.2.2.2.2.1, x.2.2.2.2.2)) fun r1 => bif (!r1) then some ([] : List E_u8) else Option.bind (F_spec_PutW (([] : List E_u8), x.1)) fun r2 => Option.bind (F_spec_PutOp (r2, x.2.1, x.2.2.1, x.2.2.2.1, x.2.2.2.2.1, x.2.2.2.2.2)) fun r3 => Option.bind (F_spec_Crc r3) fun r4 => Option.bind (F_spec_l17Four (r3, r4)) fun r5 => some r5
noncomputable def f12B : Code := match Try.f12.body with
  | some c => c
  | none => .skip
noncomputable def f12K : C.Sem := tab [⟨49, F_spec_EntOk⟩, ⟨62, F_spec_PutOp⟩, ⟨63, F_spec_PutW⟩, ⟨64, F_spec_l17Four⟩, ⟨65, F_spec_Crc⟩]
noncomputable def f12P : Lp := fun i s {_R} κ => none
theorem k12 : Contract C Try.prog f12K := contract_tab _ (fun p hp => by
    simp only [List.mem_cons, List.mem_nil_iff, or_false] at hp
    rcases hp with rfl | rfl | rfl | rfl | rfl
    · exact ok49
    · exact ok62
    · exact ok63
    · exact ok64
    · exact ok65)
theorem ev12 (x : Int × Int × ByteArray × ByteArray × Int × Int) : evalB C f12K f12P 12 Try.f12 f12B ⟨[.v true [(.int .i64), (.int .i64), .str, .str, (.int .i64), (.int .i64)] [false, false, false, false, false, false]], [⟨false, [(.sl 5 ts_u8)], [true]⟩], false⟩ [(.int .i64), (.int .i64), .str, .str, (.int .i64), (.int .i64)] [(.sl 5 ts_u8)] x = F_spec_PutEnt x := by kernel_rfl
theorem ok12 : ContractAt C Try.prog 12 F_spec_PutEnt := fn_sound (lp := f12P) tok mixed k12 (by kernel_rfl) (fn := Try.f12) (c := f12B) (sg := ⟨[.v true [(.int .i64), (.int .i64), .str, .str, (.int .i64), (.int .i64)] [false, false, false, false, false, false]], [⟨false, [(.sl 5 ts_u8)], [true]⟩], false⟩) Try.func12 (by decide) (by kernel_rfl) (by kernel_rfl) (by kernel_rfl) (fun c' hc' => by
    rw [show loopsOf f12B = [] by kernel_rfl] at hc'
    cases hc') (by decide) (by decide) (fun x y h => (ev12 x).trans h)

/-! ### 50: spec.SlotOf -/
noncomputable def F_spec_SlotOf (x : Int) : Option (Int) :=
  bif (decide (x < (0 : Int))) then some (-1 : Int) else some (Go.IntKind.wrap .i64 ((2 : Int) + (Int.tmod x (6 : Int))))
noncomputable def f50B : Code := match Try.f50.body with
  | some c => c
  | none => .skip
noncomputable def f50K : C.Sem := tab []
noncomputable def f50P : Lp := fun i s {_R} κ => none
theorem k50 : Contract C Try.prog f50K := contract_tab _ (fun p hp => by cases hp)
theorem ev50 (x : Int) : evalB C f50K f50P 50 Try.f50 f50B ⟨[.v false [(.int .i64)] [false]], [⟨false, [(.int .i64)], [false]⟩], false⟩ [(.int .i64)] [(.int .i64)] x = F_spec_SlotOf x := by kernel_rfl
theorem ok50 : ContractAt C Try.prog 50 F_spec_SlotOf := fn_sound (lp := f50P) tok mixed k50 (by kernel_rfl) (fn := Try.f50) (c := f50B) (sg := ⟨[.v false [(.int .i64)] [false]], [⟨false, [(.int .i64)], [false]⟩], false⟩) Try.func50 (by decide) (by kernel_rfl) (by kernel_rfl) (by kernel_rfl) (fun c' hc' => by
    rw [show loopsOf f50B = [] by kernel_rfl] at hc'
    cases hc') (by decide) (by decide) (fun x y h => (ev50 x).trans h)

/-! ### 71: spec.l1New -/
abbrev T_spec_l1New_3 : Type := List E_u8 × Int × Int
noncomputable def S_spec_l1New_3 {R : Type} (k0 : (List E_u8 × Int) → Option R) (again : T_spec_l1New_3 → Option R) (t3 : T_spec_l1New_3) : Option R :=
  Option.bind (bif (decide (t3.2.2 < ((List.length t3.1 : Nat) : Int))) then some (decide (t3.2.2 < (4000 : Int))) else some false) fun u1 => bif u1 then if (0 : Int) ≤ t3.2.2 then if t3.2.2 < ((List.length t3.1 : Nat) : Int) then again (t3.1, (Go.bits .and .i64 (Go.IntKind.wrap .i64 ((Go.IntKind.wrap .i64 ((Go.IntKind.wrap .i64 (t3.2.1 * (137 : Int))) + (Go.IntKind.wrap .i64 (rd_u8 t3.1 t3.2.2)))) + (11 : Int))) (1073741823 : Int)), (Go.IntKind.wrap .i64 (t3.2.2 + (1 : Int)))) else none else none else k0 (t3.1, t3.2.1)
noncomputable def L_spec_l1New_3 {R : Type} (k0 : (List E_u8 × Int) → Option R) (t : T_spec_l1New_3) : Option R := iter (S_spec_l1New_3 k0) FUEL t
noncomputable def F_spec_l1New (x : List E_u8) : Option (List E_u8 × Int × Int) :=
  L_spec_l1New_3 (fun x2 => some (x2.1, (0 : Int), x2.2)) (x, (Go.IntKind.wrap .i64 ((941941 : Int) + ((List.length x : Nat) : Int))), (0 : Int))
noncomputable def f71B : Code := match Try.f71.body with
  | some c => c
  | none => .skip
noncomputable def f71K : C.Sem := tab []
def f71h3_0 : List Sh := [.v (.sl 5 ts_u8), .dead, .dead, .v (.int .i64), .v (.int .i64), .dead, .dead, .dead, .dead, .dead, .dead, .dead, .dead, .dead, .dead, .dead, .dead, .dead, .dead, .dead, .dead, .dead, .dead, .dead, .dead, .dead, .dead, .dead, .dead, .dead, .dead, .dead]
def f71o3_0 : List (Nat × OSh) := []
def f71e3_0 (t : List E_u8 × Int × Int) : St := ⟨[.val (.sl 5 ts_u8) t.1, .dead, .dead, .val (.int .i64) t.2.1, .val (.int .i64) t.2.2, .dead, .dead, .dead, .dead, .dead, .dead, .dead, .dead, .dead, .dead, .dead, .dead, .dead, .dead, .dead, .dead, .dead, .dead, .dead, .dead, .dead, .dead, .dead, .dead, .dead, .dead, .dead], []⟩
def f71x3_0 (t : List E_u8 × Int) : St := ⟨[.val (.sl 5 ts_u8) t.1, .dead, .dead, .val (.int .i64) t.2, .dead, .dead, .dead, .dead, .dead, .dead, .dead, .dead, .dead, .dead, .dead, .dead, .dead, .dead, .dead, .dead, .dead, .dead, .dead, .dead, .dead, .dead, .dead, .dead, .dead, .dead, .dead, .dead], []⟩
def f71u3_0 (s : St) : Option (List E_u8 × Int × Int) := (unS f71h3_0 f71o3_0 s).map fun v => (v.1.1, v.1.2.2.2.1, v.1.2.2.2.2.1)
theorem f71un3_0 : ∀ (s : St) (t : List E_u8 × Int × Int), f71u3_0 s = some t → f71e3_0 t = s := fun s v h => by
  obtain ⟨u, hu, rfl⟩ := Option.map_eq_some_iff.1 h
  exact (show f71e3_0 (u.1.1, u.1.2.2.2.1, u.1.2.2.2.2.1) = mkS f71h3_0 f71o3_0 u by kernel_rfl).trans (mkS_un f71h3_0 f71o3_0 s u hu)
def f71u3 : St → Option (List E_u8 × Int × Int) := f71u3_0
def f71e3 : (List E_u8 × Int × Int) → St := f71e3_0
theorem f71un3 : ∀ (s : St) (t : List E_u8 × Int × Int), f71u3 s = some t → f71e3 t = s := f71un3_0
noncomputable def f71P : Lp := fun i s {_R} κ => bif Nat.beq i 3 then (f71u3 s).bind fun t => L_spec_l1New_3 (fun t => κ (some 0) (f71x3_0 t)) t else none
noncomputable def f71c3 : Code := (loopsOf f71B).getD 0 .skip
theorem f71A3 : C.live 71 (firstRegion f71c3) = some ([0, 3, 4, 13, 14], [0, 3]) := by kernel_rfl
theorem f71B3 {R : Type} (κ : Option Nat → St → Option R) (s : St) : f71P (firstRegion f71c3) s κ = (f71u3 s).bind fun t => iter (S_spec_l1New_3 (fun t => κ (some 0) (f71x3_0 t))) FUEL t := by kernel_rfl
theorem f71C3 {R : Type} (κ : Option Nat → St → Option R) (again : St → Option R) (t : T_spec_l1New_3) : stepL C f71K f71P 71 f71c3 [0, 3, 4, 13, 14] [0, 3] κ again (f71e3 t) = S_spec_l1New_3 (fun t => κ (some 0) (f71x3_0 t)) (fun t => again (f71e3 t)) t := by kernel_rfl
theorem f71ok3 : LoopOk C f71K f71P 71 f71c3 := loop_ok f71A3 f71e3 f71u3 f71un3 (fun {_R} κ => S_spec_l1New_3 (fun t => κ (some 0) (f71x3_0 t))) (fun {_R} κ s => f71B3 κ s) (fun {_R} κ again t => f71C3 κ again t)
theorem k71 : Contract C Try.prog f71K := contract_tab _ (fun p hp => by cases hp)
theorem ev71 (x : List E_u8) : evalB C f71K f71P 71 Try.f71 f71B ⟨[.v false [(.sl 5 ts_u8)] [false]], [⟨true, [(.sl 5 ts_u8), (.int .i64), (.int .i64)], [false, false, false]⟩], true⟩ [(.sl 5 ts_u8)] [(.sl 5 ts_u8), (.int .i64), (.int .i64)] x = F_spec_l1New x := by kernel_rfl
theorem ok71 : ContractAt C Try.prog 71 F_spec_l1New := fn_sound (lp := f71P) tok mixed k71 (by kernel_rfl) (fn := Try.f71) (c := f71B) (sg := ⟨[.v false [(.sl 5 ts_u8)] [false]], [⟨true, [(.sl 5 ts_u8), (.int .i64), (.int .i64)], [false, false, false]⟩], true⟩) Try.func71 (by decide) (by kernel_rfl) (by kernel_rfl) (by kernel_rfl) (fun c' hc' => by
    rw [show loopsOf f71B = [f71c3] by kernel_rfl] at hc'
    simp only [List.mem_cons, List.mem_nil_iff, or_false] at hc'
    rcases hc' with rfl
    · exact f71ok3) (by decide) (by decide) (fun x y h => (ev71 x).trans h)

/-! ### 132: spec.l1Byte -/
noncomputable def F_spec_l1Byte (x : List E_u8 × Int × Int) : Option (Int × List E_u8 × Int × Int) :=
  bif (decide (x.2.1 < ((List.length x.1 : Nat) : Int))) then if (0 : Int) ≤ x.2.1 then if x.2.1 < ((List.length x.1 : Nat) : Int) then some ((Go.bits .and .i64 (Go.IntKind.wrap .i64 ((Go.bits .and .i64 (Go.bits .xor .i64 (Int.fdiv (Go.IntKind.wrap .i64 ((Go.IntKind.wrap .i64 (x.2.2 * (6364136223846793005 : Int))) + (1442695040888963407 : Int))) (2 ^ (min (Int.toNat (33 : Int)) (Go.IntKind.bits .i64)))) (Int.fdiv (Go.IntKind.wrap .i64 ((Go.IntKind.wrap .i64 (x.2.2 * (6364136223846793005 : Int))) + (1442695040888963407 : Int))) (2 ^ (min (Int.toNat (47 : Int)) (Go.IntKind.bits .i64))))) (255 : Int)) + (Go.IntKind.wrap .i64 (rd_u8 x.1 x.2.1)))) (255 : Int)), x.1, (Go.IntKind.wrap .i64 (x.2.1 + (1 : Int))), (Go.IntKind.wrap .i64 ((Go.IntKind.wrap .i64 (x.2.2 * (6364136223846793005 : Int))) + (1442695040888963407 : Int)))) else none else none else some ((Go.bits .and .i64 (Go.bits .xor .i64 (Int.fdiv (Go.IntKind.wrap .i64 ((Go.IntKind.wrap .i64 (x.2.2 * (6364136223846793005 : Int))) + (1442695040888963407 : Int))) (2 ^ (min (Int.toNat (33 : Int)) (Go.IntKind.bits .i64)))) (Int.fdiv (Go.IntKind.wrap .i64 ((Go.IntKind.wrap .i64 (x.2.2 * (6364136223846793005 : Int))) + (1442695040888963407 : Int))) (2 ^ (min (Int.toNat (47 : Int)) (Go.IntKind.bits .i64))))) (255 : Int)), x.1, x.2.1, (Go.IntKind.wrap .i64 ((Go.IntKind.wrap .i64 (x.2.2 * (6364136223846793005 : Int))) + (1442695040888963407 : Int))))
noncomputable def f132B : Code := match Try.f132.body with
  | some c => c
  | none => .skip
noncomputable def f132K : C.Sem := tab []
noncomputable def f132P : Lp := fun i s {_R} κ => none
theorem k132 : Contract C Try.prog f132K := contract_tab _ (fun p hp => by cases hp)
theorem ev132 (x : List E_u8 × Int × Int) : evalB C f132K f132P 132 Try.f132 f132B ⟨[.p none [(.sl 5 ts_u8), (.int .i64), (.int .i64)] [false, false, false]], [⟨false, [(.int .i64)], [false]⟩], false⟩ [(.sl 5 ts_u8), (.int .i64), (.int .i64)] [(.int .i64), (.sl 5 ts_u8), (.int .i64), (.int .i64)] x = F_spec_l1Byte x := by kernel_rfl
theorem ok132 : ContractAt C Try.prog 132 F_spec_l1Byte := fn_sound (lp := f132P) tok mixed k132 (by kernel_rfl) (fn := Try.f132) (c := f132B) (sg := ⟨[.p none [(.sl 5 ts_u8), (.int .i64), (.int .i64)] [false, false, false]], [⟨false, [(.int .i64)], [false]⟩], false⟩) Try.func132 (by decide) (by kernel_rfl) (by kernel_rfl) (by kernel_rfl) (fun c' hc' => by
    rw [show loopsOf f132B = [] by kernel_rfl] at hc'
    cases hc') (by decide) (by decide) (fun x y h => (ev132 x).trans h)

/-! ### 78: spec.l1Below -/
noncomputable def F_spec_l1Below (x : List E_u8 × Int × Int × Int) : Option (Int × List E_u8 × Int × Int) :=
  bif (decide (x.2.2.2 ≤ (0 : Int))) then some ((0 : Int), x.1, x.2.1, x.2.2.1) else bif (decide (x.2.2.2 ≤ (256 : Int))) then Option.bind (F_spec_l1Byte (x.1, x.2.1, x.2.2.1)) fun r1 => if x.2.2.2 = 0 then none else some ((Int.tmod r1.1 x.2.2.2), r1.2.1, r1.2.2.1, r1.2.2.2) else Option.bind (F_spec_l1Byte (x.1, x.2.1, x.2.2.1)) fun r2 => Option.bind (F_spec_l1Byte (r2.2.1, r2.2.2.1, r2.2.2.2)) fun r3 => Option.bind (F_spec_l1Byte (r3.2.1, r3.2.2.1, r3.2.2.2)) fun r4 => if x.2.2.2 = 0 then none else some ((Int.tmod (Go.IntKind.wrap .i64 ((Go.IntKind.wrap .i64 ((Go.IntKind.wrap .i64 (r2.1 * (65536 : Int))) + (Go.IntKind.wrap .i64 (r3.1 * (256 : Int))))) + r4.1)) x.2.2.2), r4.2.1, r4.2.2.1, r4.2.2.2)
noncomputable def f78B : Code := match Try.f78.body with
  | some c => c
  | none => .skip
noncomputable def f78K : C.Sem := tab [⟨132, F_spec_l1Byte⟩]
noncomputable def f78P : Lp := fun i s {_R} κ => none
theorem k78 : Contract C Try.prog f78K := contract_tab _ (fun p hp => by
    simp only [List.mem_cons, List.mem_nil_iff, or_false] at hp
    rcases hp with rfl
    · exact ok132)
theorem ev78 (x : List E_u8 × Int × Int × Int) : evalB C f78K f78P 78 Try.f78 f78B ⟨[.p none [(.sl 5 ts_u8), (.int .i64), (.int .i64)] [false, false, false], .v false [(.int .i64)] [false]], [⟨false, [(.int .i64)], [false]⟩], false⟩ [(.sl 5 ts_u8), (.int .i64), (.int .i64), (.int .i64)] [(.int .i64), (.sl 5 ts_u8), (.int .i64), (.int .i64)] x = F_spec_l1Below x := by kernel_rfl
theorem ok78 : ContractAt C Try.prog 78 F_spec_l1Below := fn_sound (lp := f78P) tok mixed k78 (by kernel_rfl) (fn := Try.f78) (c := f78B) (sg := ⟨[.p none [(.sl 5 ts_u8), (.int .i64), (.int .i64)] [false, false, false], .v false [(.int .i64)] [false]], [⟨false, [(.int .i64)], [false]⟩], false⟩) Try.func78 (by decide) (by kernel_rfl) (by kernel_rfl) (by kernel_rfl) (fun c' hc' => by
    rw [show loopsOf f78B = [] by kernel_rfl] at hc'
    cases hc') (by decide) (by decide) (fun x y h => (ev78 x).trans h)

/-! ### 76: spec.l1Once -/
noncomputable def F_spec_l1Once (x : List E_u8 × Int × Int × Int) : Option (Bool × List E_u8 × Int × Int) :=
  Option.bind (F_spec_l1Below (x.1, x.2.1, x.2.2.1, x.2.2.2)) fun r1 => some ((r1.1 == (0 : Int)), r1.2.1, r1.2.2.1, r1.2.2.2)
noncomputable def f76B : Code := match Try.f76.body with
  | some c => c
  | none => .skip
noncomputable def f76K : C.Sem := tab [⟨78, F_spec_l1Below⟩]
noncomputable def f76P : Lp := fun i s {_R} κ => none
theorem k76 : Contract C Try.prog f76K := contract_tab _ (fun p hp => by
    simp only [List.mem_cons, List.mem_nil_iff, or_false] at hp
    rcases hp with rfl
    · exact ok78)
theorem ev76 (x : List E_u8 × Int × Int × Int) : evalB C f76K f76P 76 Try.f76 f76B ⟨[.p none [(.sl 5 ts_u8), (.int .i64), (.int .i64)] [false, false, false], .v false [(.int .i64)] [false]], [⟨false, [.bool], [false]⟩], false⟩ [(.sl 5 ts_u8), (.int .i64), (.int .i64), (.int .i64)] [.bool, (.sl 5 ts_u8), (.int .i64), (.int .i64)] x = F_spec_l1Once x := by kernel_rfl
theorem ok76 : ContractAt C Try.prog 76 F_spec_l1Once := fn_sound (lp := f76P) tok mixed k76 (by kernel_rfl) (fn := Try.f76) (c := f76B) (sg := ⟨[.p none [(.sl 5 ts_u8), (.int .i64), (.int .i64)] [false, false, false], .v false [(.int .i64)] [false]], [⟨false, [.bool], [false]⟩], false⟩) Try.func76 (by decide) (by kernel_rfl) (by kernel_rfl) (by kernel_rfl) (fun c' hc' => by
    rw [show loopsOf f76B = [] by kernel_rfl] at hc'
    cases hc') (by decide) (by decide) (fun x y h => (ev76 x).trans h)

/-! ### 77: spec.l1Int -/
noncomputable def F_spec_l1Int (x : List E_u8 × Int × Int × List E_i64) : Option (Int × List E_u8 × Int × Int) :=
  Option.bind (F_spec_l1Below (x.1, x.2.1, x.2.2.1, ((List.length x.2.2.2 : Nat) : Int))) fun r1 => if (0 : Int) ≤ r1.1 then if r1.1 < ((List.length x.2.2.2 : Nat) : Int) then some ((rd_i64 x.2.2.2 r1.1), r1.2.1, r1.2.2.1, r1.2.2.2) else none else none
noncomputable def f77B : Code := match Try.f77.body with
  | some c => c
  | none => .skip
noncomputable def f77K : C.Sem := tab [⟨78, F_spec_l1Below⟩]
noncomputable def f77P : Lp := fun i s {_R} κ => none
theorem k77 : Contract C Try.prog f77K := contract_tab _ (fun p hp => by
    simp only [List.mem_cons, List.mem_nil_iff, or_false] at hp
    rcases hp with rfl
    · exact ok78)
theorem ev77 (x : List E_u8 × Int × Int × List E_i64) : evalB C f77K f77P 77 Try.f77 f77B ⟨[.p none [(.sl 5 ts_u8), (.int .i64), (.int .i64)] [false, false, false], .v false [(.sl 3 ts_i64)] [false]], [⟨false, [(.int .i64)], [false]⟩], false⟩ [(.sl 5 ts_u8), (.int .i64), (.int .i64), (.sl 3 ts_i64)] [(.int .i64), (.sl 5 ts_u8), (.int .i64), (.int .i64)] x = F_spec_l1Int x := by kernel_rfl
theorem ok77 : ContractAt C Try.prog 77 F_spec_l1Int := fn_sound (lp := f77P) tok mixed k77 (by kernel_rfl) (fn := Try.f77) (c := f77B) (sg := ⟨[.p none [(.sl 5 ts_u8), (.int .i64), (.int .i64)] [false, false, false], .v false [(.sl 3 ts_i64)] [false]], [⟨false, [(.int .i64)], [false]⟩], false⟩) Try.func77 (by decide) (by kernel_rfl) (by kernel_rfl) (by kernel_rfl) (fun c' hc' => by
    rw [show loopsOf f77B = [] by kernel_rfl] at hc'
    cases hc') (by decide) (by decide) (fun x y h => (ev77 x).trans h)

/-! ### 125: spec.DevNew -/
abbrev T_spec_DevNew_5 : Type := (Int × Int × Int × Bool × Int × Bool) ⊕ (Int × Int × Int × Bool × Int × Bool × List E_s_u8)
noncomputable def S_spec_DevNew_5 {R : Type} (k0 : (Int × Bool × Int × Bool) → Option R) (k1 : (Int × Bool × Int × Bool × List E_s_u8) → Option R) (again : T_spec_DevNew_5 → Option R) : T_spec_DevNew_5 → Option R
  | .inl t5 => bif (decide (t5.2.1 < t5.1)) then if List.length ([([] : List E_u8)] : List E_s_u8) * 24 < 140737488355328 then again (Sum.inr (t5.1, (Go.IntKind.wrap .i64 (t5.2.1 + (1 : Int))), t5.2.2.1, t5.2.2.2.1, t5.2.2.2.2.1, t5.2.2.2.2.2, ([([] : List E_u8)] : List E_s_u8))) else none else k0 (t5.2.2.1, t5.2.2.2.1, t5.2.2.2.2.1, t5.2.2.2.2.2)
  | .inr t5 => bif (decide (t5.2.1 < t5.1)) then if (List.length t5.2.2.2.2.2.2 + List.length ([([] : List E_u8)] : List E_s_u8)) * 24 < 140737488355328 then again (Sum.inr (t5.1, (Go.IntKind.wrap .i64 (t5.2.1 + (1 : Int))), t5.2.2.1, t5.2.2.2.1, t5.2.2.2.2.1, t5.2.2.2.2.2.1, (t5.2.2.2.2.2.2 ++ ([([] : List E_u8)] : List E_s_u8)))) else none else k1 (t5.2.2.1, t5.2.2.2.1, t5.2.2.2.2.1, t5.2.2.2.2.2.1, t5.2.2.2.2.2.2)
noncomputable def L_spec_DevNew_5 {R : Type} (k0 : (Int × Bool × Int × Bool) → Option R) (k1 : (Int × Bool × Int × Bool × List E_s_u8) → Option R) (t : T_spec_DevNew_5) : Option R := iter (S_spec_DevNew_5 k0 k1) FUEL t
noncomputable def F_spec_DevNew (x : Int) : Option (List E_s_u8 × List E_Wr × Int × Bool) :=
  Option.bind (F_spec_l1In (x, (1 : Int), (60 : Int))) fun r1 => bif (!r1) then some (([] : List E_s_u8), ([] : List E_Wr), (0 : Int), false) else L_spec_DevNew_5 (fun x2 => some (([] : List E_s_u8), ([] : List E_Wr), x2.2.2.1, x2.2.2.2)) (fun x3 => some (x3.2.2.2.2, ([] : List E_Wr), x3.2.2.1, x3.2.2.2.1)) (Sum.inl (x, (0 : Int), (0 : Int), false, (-1 : Int), false))
noncomputable def f125B : Code := match Try.f125.body with
  | some c => c
  | none => .skip
noncomputable def f125K : C.Sem := tab [⟨86, F_spec_l1In⟩]
def f125h5_0 : List Sh := [.v (.int .i64), .dead, .box 2 0, .box 3 0, .v (.int .i64), .dead, .dead, .dead, .dead, .dead, .dead, .dead, .dead, .dead, .dead, .dead, .dead, .dead, .dead, .dead, .dead, .dead]
def f125o5_0 : List (Nat × OSh) := [(2, .box [.nils, .nils, .v (.int .i64), .v .bool]), (3, .box [.nils, .nils, .v (.int .i64), .v .bool])]
def f125e5_0 (t : Int × Int × Int × Bool × Int × Bool) : St := ⟨[.val (.int .i64) t.1, .dead, .box 2 0, .box 3 0, .val (.int .i64) t.2.1, .dead, .dead, .dead, .dead, .dead, .dead, .dead, .dead, .dead, .dead, .dead, .dead, .dead, .dead, .dead, .dead, .dead], [(2, .box [.nils, .nils, .val (.int .i64) t.2.2.1, .val .bool t.2.2.2.1]), (3, .box [.nils, .nils, .val (.int .i64) t.2.2.2.2.1, .val .bool t.2.2.2.2.2])]⟩
def f125h5_1 : List Sh := [.v (.int .i64), .dead, .box 2 0, .box 3 0, .v (.int .i64), .dead, .dead, .dead, .dead, .dead, .dead, .dead, .dead, .dead, .dead, .dead, .dead, .dead, .dead, .dead, .dead, .dead]
def f125o5_1 : List (Nat × OSh) := [(2, .box [.nils, .nils, .v (.int .i64), .v .bool]), (3, .box [.own 10000000, .nils, .v (.int .i64), .v .bool]), (10000000, .root true 27 ts_s_u8)]
def f125e5_1 (t : Int × Int × Int × Bool × Int × Bool × List E_s_u8) : St := ⟨[.val (.int .i64) t.1, .dead, .box 2 0, .box 3 0, .val (.int .i64) t.2.1, .dead, .dead, .dead, .dead, .dead, .dead, .dead, .dead, .dead, .dead, .dead, .dead, .dead, .dead, .dead, .dead, .dead], [(2, .box [.nils, .nils, .val (.int .i64) t.2.2.1, .val .bool t.2.2.2.1]), (3, .box [.own 10000000, .nils, .val (.int .i64) t.2.2.2.2.1, .val .bool t.2.2.2.2.2.1]), (10000000, .root true 27 ts_s_u8 t.2.2.2.2.2.2)]⟩
def f125x5_0 (t : Int × Bool × Int × Bool) : St := ⟨[.dead, .dead, .box 2 0, .box 3 0, .dead, .dead, .dead, .dead, .dead, .dead, .dead, .dead, .dead, .dead, .dead, .dead, .dead, .dead, .dead, .dead, .dead, .dead], [(2, .box [.nils, .nils, .val (.int .i64) t.1, .val .bool t.2.1]), (3, .box [.nils, .nils, .val (.int .i64) t.2.2.1, .val .bool t.2.2.2])]⟩
def f125x5_1 (t : Int × Bool × Int × Bool × List E_s_u8) : St := ⟨[.dead, .dead, .box 2 0, .box 3 0, .dead, .dead, .dead, .dead, .dead, .dead, .dead, .dead, .dead, .dead, .dead, .dead, .dead, .dead, .dead, .dead, .dead, .dead], [(2, .box [.nils, .nils, .val (.int .i64) t.1, .val .bool t.2.1]), (3, .box [.own 10000000, .nils, .val (.int .i64) t.2.2.1, .val .bool t.2.2.2.1]), (10000000, .root true 27 ts_s_u8 t.2.2.2.2)]⟩
def f125u5_0 (s : St) : Option (Int × Int × Int × Bool × Int × Bool) := (unS f125h5_0 f125o5_0 s).map fun v => (v.1.1, v.1.2.2.2.2.1, v.2.1.2.2.1, v.2.1.2.2.2.1, v.2.2.1.2.2.1, v.2.2.1.2.2.2.1)
theorem f125un5_0 : ∀ (s : St) (t : Int × Int × Int × Bool × Int × Bool), f125u5_0 s = some t → f125e5_0 t = s := fun s v h => by
  obtain ⟨u, hu, rfl⟩ := Option.map_eq_some_iff.1 h
  exact (show f125e5_0 (u.1.1, u.1.2.2.2.2.1, u.2.1.2.2.1, u.2.1.2.2.2.1, u.2.2.1.2.2.1, u.2.2.1.2.2.2.1) = mkS f125h5_0 f125o5_0 u by kernel_rfl).trans (mkS_un f125h5_0 f125o5_0 s u hu)
def f125u5_1 (s : St) : Option (Int × Int × Int × Bool × Int × Bool × List E_s_u8) := (unS f125h5_1 f125o5_1 s).map fun v => (v.1.1, v.1.2.2.2.2.1, v.2.1.2.2.1, v.2.1.2.2.2.1, v.2.2.1.2.2.1, v.2.2.1.2.2.2.1, v.2.2.2.1)
theorem f125un5_1 : ∀ (s : St) (t : Int × Int × Int × Bool × Int × Bool × List E_s_u8), f125u5_1 s = some t → f125e5_1 t = s := fun s v h => by
  obtain ⟨u, hu, rfl⟩ := Option.map_eq_some_iff.1 h
  exact (show f125e5_1 (u.1.1, u.1.2.2.2.2.1, u.2.1.2.2.1, u.2.1.2.2.2.1, u.2.2.1.2.2.1, u.2.2.1.2.2.2.1, u.2.2.2.1) = mkS f125h5_1 f125o5_1 u by kernel_rfl).trans (mkS_un f125h5_1 f125o5_1 s u hu)
def f125u5r1 : St → Option (Int × Int × Int × Bool × Int × Bool × List E_s_u8) := f125u5_1
def f125e5r1 : (Int × Int × Int × Bool × Int × Bool × List E_s_u8) → St := f125e5_1
theorem f125un5r1 : ∀ (s : St) (t : Int × Int × Int × Bool × Int × Bool × List E_s_u8), f125u5r1 s = some t → f125e5r1 t = s := f125un5_1
def f125u5 (s : St) : Option ((Int × Int × Int × Bool × Int × Bool) ⊕ (Int × Int × Int × Bool × Int × Bool × List E_s_u8)) := ((f125u5_0 s).map Sum.inl).or ((f125u5r1 s).map Sum.inr)
def f125e5 : ((Int × Int × Int × Bool × Int × Bool) ⊕ (Int × Int × Int × Bool × Int × Bool × List E_s_u8)) → St := Sum.elim f125e5_0 f125e5r1
theorem f125un5 : ∀ (s : St) (t : (Int × Int × Int × Bool × Int × Bool) ⊕ (Int × Int × Int × Bool × Int × Bool × List E_s_u8)), f125u5 s = some t → f125e5 t = s := or_un f125un5_0 f125un5r1
noncomputable def f125P : Lp := fun i s {_R} κ => bif Nat.beq i 5 then (f125u5 s).bind fun t => L_spec_DevNew_5 (fun t => κ (some 0) (f125x5_0 t)) (fun t => κ (some 0) (f125x5_1 t)) t else none
noncomputable def f125c5 : Code := (loopsOf f125B).getD 0 .skip
theorem f125A5 : C.live 125 (firstRegion f125c5) = some ([0, 2, 3, 4], [2, 3]) := by kernel_rfl
theorem f125B5 {R : Type} (κ : Option Nat → St → Option R) (s : St) : f125P (firstRegion f125c5) s κ = (f125u5 s).bind fun t => iter (S_spec_DevNew_5 (fun t => κ (some 0) (f125x5_0 t)) (fun t => κ (some 0) (f125x5_1 t))) FUEL t := by kernel_rfl
theorem f125C5_0 {R : Type} (κ : Option Nat → St → Option R) (again : St → Option R) (v : Int × Int × Int × Bool × Int × Bool) : stepL C f125K f125P 125 f125c5 [0, 2, 3, 4] [2, 3] κ again (f125e5 (Sum.inl v)) = S_spec_DevNew_5 (fun t => κ (some 0) (f125x5_0 t)) (fun t => κ (some 0) (f125x5_1 t)) (fun t => again (f125e5 t)) (Sum.inl v) := by kernel_rfl
theorem f125C5_1 {R : Type} (κ : Option Nat → St → Option R) (again : St → Option R) (v : Int × Int × Int × Bool × Int × Bool × List E_s_u8) : stepL C f125K f125P 125 f125c5 [0, 2, 3, 4] [2, 3] κ again (f125e5 (Sum.inr v)) = S_spec_DevNew_5 (fun t => κ (some 0) (f125x5_0 t)) (fun t => κ (some 0) (f125x5_1 t)) (fun t => again (f125e5 t)) (Sum.inr v) := by kernel_rfl
theorem f125C5 {R : Type} (κ : Option Nat → St → Option R) (again : St → Option R) : ∀ t : T_spec_DevNew_5, stepL C f125K f125P 125 f125c5 [0, 2, 3, 4] [2, 3] κ again (f125e5 t) = S_spec_DevNew_5 (fun t => κ (some 0) (f125x5_0 t)) (fun t => κ (some 0) (f125x5_1 t)) (fun t => again (f125e5 t)) t
  | Sum.inl v => f125C5_0 κ again v
  | Sum.inr v => f125C5_1 κ again v
theorem f125ok5 : LoopOk C f125K f125P 125 f125c5 := loop_ok f125A5 f125e5 f125u5 f125un5 (fun {_R} κ => S_spec_DevNew_5 (fun t => κ (some 0) (f125x5_0 t)) (fun t => κ (some 0) (f125x5_1 t))) (fun {_R} κ s => f125B5 κ s) (fun {_R} κ again t => f125C5 κ again t)
theorem k125 : Contract C Try.prog f125K := contract_tab _ (fun p hp => by
    simp only [List.mem_cons, List.mem_nil_iff, or_false] at hp
    rcases hp with rfl
    · exact ok86)
theorem ev125 (x : Int) : evalB C f125K f125P 125 Try.f125 f125B ⟨[.v false [(.int .i64)] [false]], [⟨true, [(.sl 27 ts_s_u8), (.sl 155 ts_Wr), (.int .i64), .bool], [true, true, false, false]⟩], false⟩ [(.int .i64)] [(.sl 27 ts_s_u8), (.sl 155 ts_Wr), (.int .i64), .bool] x = F_spec_DevNew x := by kernel_rfl
theorem ok125 : ContractAt C Try.prog 125 F_spec_DevNew := fn_sound (lp := f125P) tok mixed k125 (by kernel_rfl) (fn := Try.f125) (c := f125B) (sg := ⟨[.v false [(.int .i64)] [false]], [⟨true, [(.sl 27 ts_s_u8), (.sl 155 ts_Wr), (.int .i64), .bool], [true, true, false, false]⟩], false⟩) Try.func125 (by decide) (by kernel_rfl) (by kernel_rfl) (by kernel_rfl) (fun c' hc' => by
    rw [show loopsOf f125B = [f125c5] by kernel_rfl] at hc'
    simp only [List.mem_cons, List.mem_nil_iff, or_false] at hc'
    rcases hc' with rfl
    · exact f125ok5) (by decide) (by decide) (fun x y h => (ev125 x).trans h)

/-! ### 162: spec.l2Op -/
noncomputable def F_spec_l2Op (x : List E_s_u8 × List E_Wr × Int × Bool) : Option (Bool × List E_s_u8 × List E_Wr × Int × Bool) :=
  bif (x.2.2.1 == (0 : Int)) then some (false, x.1, x.2.1, (-1 : Int), true) else bif (decide (x.2.2.1 > (0 : Int))) then some (true, x.1, x.2.1, (Go.IntKind.wrap .i64 (x.2.2.1 - (1 : Int))), x.2.2.2) else some (true, x.1, x.2.1, x.2.2.1, x.2.2.2)
noncomputable def f162B : Code := match Try.f162.body with
  | some c => c
  | none => .skip
noncomputable def f162K : C.Sem := tab []
noncomputable def f162P : Lp := fun i s {_R} κ => none
theorem k162 : Contract C Try.prog f162K := contract_tab _ (fun p hp => by cases hp)
theorem ev162 (x : List E_s_u8 × List E_Wr × Int × Bool) : evalB C f162K f162P 162 Try.f162 f162B ⟨[.p none [(.sl 27 ts_s_u8), (.sl 155 ts_Wr), (.int .i64), .bool] [true, true, false, false]], [⟨false, [.bool], [false]⟩], false⟩ [(.sl 27 ts_s_u8), (.sl 155 ts_Wr), (.int .i64), .bool] [.bool, (.sl 27 ts_s_u8), (.sl 155 ts_Wr), (.int .i64), .bool] x = F_spec_l2Op x := by kernel_rfl
theorem ok162 : ContractAt C Try.prog 162 F_spec_l2Op := fn_sound (lp := f162P) tok mixed k162 (by kernel_rfl) (fn := Try.f162) (c := f162B) (sg := ⟨[.p none [(.sl 27 ts_s_u8), (.sl 155 ts_Wr), (.int .i64), .bool] [true, true, false, false]], [⟨false, [.bool], [false]⟩], false⟩) Try.func162 (by decide) (by kernel_rfl) (by kernel_rfl) (by kernel_rfl) (fun c' hc' => by
    rw [show loopsOf f162B = [] by kernel_rfl] at hc'
    cases hc') (by decide) (by decide) (fun x y h => (ev162 x).trans h)

/-! ### 126: spec.l2Write -/
noncomputable def F_spec_l2Write (x : List E_s_u8 × List E_Wr × Int × Bool × Int × List E_u8) : Option (List E_s_u8 × List E_Wr × Int × Bool) :=
  Option.bind (bif x.2.2.2.1 then some true else Option.bind (F_spec_l1In (x.2.2.2.2.1, (0 : Int), (Go.IntKind.wrap .i64 (((List.length x.1 : Nat) : Int) - (1 : Int))))) fun r2 => some (!r2)) fun u1 => Option.bind (bif u1 then some true else some (decide (((List.length x.2.2.2.2.2 : Nat) : Int) > (80 : Int)))) fun u3 => Option.bind (bif u3 then some true else some (decide (((List.length x.2.1 : Nat) : Int) ≥ (60 : Int)))) fun u4 => bif u4 then some (x.1, x.2.1, x.2.2.1, x.2.2.2.1) else Option.bind (F_spec_l2Op (x.1, x.2.1, x.2.2.1, x.2.2.2.1)) fun r5 => bif (!r5.1) then some (r5.2.1, r5.2.2.1, r5.2.2.2.1, r5.2.2.2.2) else if (List.length ([] : List E_u8) + List.length x.2.2.2.2.2) * 1 < 140737488355328 then if (List.length r5.2.2.1 + List.length ([(x.2.2.2.2.1, (([] : List E_u8) ++ x.2.2.2.2.2))] : List E_Wr)) * 32 < 140737488355328 then some (r5.2.1, (r5.2.2.1 ++ ([(x.2.2.2.2.1, (([] : List E_u8) ++ x.2.2.2.2.2))] : List E_Wr)), r5.2.2.2.1, r5.2.2.2.2) else none else none
noncomputable def f126B : Code := match Try.f126.body with
  | some c => c
  | none => .skip
noncomputable def f126K : C.Sem := tab [⟨86, F_spec_l1In⟩, ⟨162, F_spec_l2Op⟩]
noncomputable def f126P : Lp := fun i s {_R} κ => none
theorem k126 : Contract C Try.prog f126K := contract_tab _ (fun p hp => by
    simp only [List.mem_cons, List.mem_nil_iff, or_false] at hp
    rcases hp with rfl | rfl
    · exact ok86
    · exact ok162)
theorem ev126 (x : List E_s_u8 × List E_Wr × Int × Bool × Int × List E_u8) : evalB C f126K f126P 126 Try.f126 f126B ⟨[.p none [(.sl 27 ts_s_u8), (.sl 155 ts_Wr), (.int .i64), .bool] [true, true, false, false], .v false [(.int .i64)] [false], .v false [(.sl 5 ts_u8)] [false]], [], false⟩ [(.sl 27 ts_s_u8), (.sl 155 ts_Wr), (.int .i64), .bool, (.int .i64), (.sl 5 ts_u8)] [(.sl 27 ts_s_u8), (.sl 155 ts_Wr), (.int .i64), .bool] x = F_spec_l2Write x := by kernel_rfl
theorem ok126 : ContractAt C Try.prog 126 F_spec_l2Write := fn_sound (lp := f126P) tok mixed k126 (by kernel_rfl) (fn := Try.f126) (c := f126B) (sg := ⟨[.p none [(.sl 27 ts_s_u8), (.sl 155 ts_Wr), (.int .i64), .bool] [true, true, false, false], .v false [(.int .i64)] [false], .v false [(.sl 5 ts_u8)] [false]], [], false⟩) Try.func126 (by decide) (by kernel_rfl) (by kernel_rfl) (by kernel_rfl) (fun c' hc' => by
    rw [show loopsOf f126B = [] by kernel_rfl] at hc'
    cases hc') (by decide) (by decide) (fun x y h => (ev126 x).trans h)

/-! ### 163: spec.l1Str -/
noncomputable def F_spec_l1Str (x : List E_u8 × Int × Int × List E_string) : Option (ByteArray × List E_u8 × Int × Int) :=
  Option.bind (F_spec_l1Below (x.1, x.2.1, x.2.2.1, ((List.length x.2.2.2 : Nat) : Int))) fun r1 => if (0 : Int) ≤ r1.1 then if r1.1 < ((List.length x.2.2.2 : Nat) : Int) then some ((rd_string x.2.2.2 r1.1), r1.2.1, r1.2.2.1, r1.2.2.2) else none else none
noncomputable def f163B : Code := match Try.f163.body with
  | some c => c
  | none => .skip
noncomputable def f163K : C.Sem := tab [⟨78, F_spec_l1Below⟩]
noncomputable def f163P : Lp := fun i s {_R} κ => none
theorem k163 : Contract C Try.prog f163K := contract_tab _ (fun p hp => by
    simp only [List.mem_cons, List.mem_nil_iff, or_false] at hp
    rcases hp with rfl
    · exact ok78)
theorem ev163 (x : List E_u8 × Int × Int × List E_string) : evalB C f163K f163P 163 Try.f163 f163B ⟨[.p none [(.sl 5 ts_u8), (.int .i64), (.int .i64)] [false, false, false], .v false [(.sl 9 ts_string)] [false]], [⟨false, [.str], [false]⟩], false⟩ [(.sl 5 ts_u8), (.int .i64), (.int .i64), (.sl 9 ts_string)] [.str, (.sl 5 ts_u8), (.int .i64), (.int .i64)] x = F_spec_l1Str x := by kernel_rfl
theorem ok163 : ContractAt C Try.prog 163 F_spec_l1Str := fn_sound (lp := f163P) tok mixed k163 (by kernel_rfl) (fn := Try.f163) (c := f163B) (sg := ⟨[.p none [(.sl 5 ts_u8), (.int .i64), (.int .i64)] [false, false, false], .v false [(.sl 9 ts_string)] [false]], [⟨false, [.str], [false]⟩], false⟩) Try.func163 (by decide) (by kernel_rfl) (by kernel_rfl) (by kernel_rfl) (fun c' hc' => by
    rw [show loopsOf f163B = [] by kernel_rfl] at hc'
    cases hc') (by decide) (by decide) (fun x y h => (ev163 x).trans h)

/-! ### 164: spec.l1Name -/
noncomputable def F_spec_l1Name (x : List E_u8 × Int × Int) : Option (ByteArray × List E_u8 × Int × Int) :=
  Option.bind (F_spec_l1Str (x.1, x.2.1, x.2.2, ([{ data := #[97] }, { data := #[98] }, { data := #[99] }, { data := #[100] }, { data := #[101, 53] }] : List E_string))) fun r1 => some (r1.1, r1.2.1, r1.2.2.1, r1.2.2.2)
noncomputable def f164B : Code := match Try.f164.body with
  | some c => c
  | none => .skip
noncomputable def f164K : C.Sem := tab [⟨163, F_spec_l1Str⟩]
noncomputable def f164P : Lp := fun i s {_R} κ => none
theorem k164 : Contract C Try.prog f164K := contract_tab _ (fun p hp => by
    simp only [List.mem_cons, List.mem_nil_iff, or_false] at hp
    rcases hp with rfl
    · exact ok163)
theorem ev164 (x : List E_u8 × Int × Int) : evalB C f164K f164P 164 Try.f164 f164B ⟨[.p none [(.sl 5 ts_u8), (.int .i64), (.int .i64)] [false, false, false]], [⟨false, [.str], [false]⟩], false⟩ [(.sl 5 ts_u8), (.int .i64), (.int .i64)] [.str, (.sl 5 ts_u8), (.int .i64), (.int .i64)] x = F_spec_l1Name x := by kernel_rfl
theorem ok164 : ContractAt C Try.prog 164 F_spec_l1Name := fn_sound (lp := f164P) tok mixed k164 (by kernel_rfl) (fn := Try.f164) (c := f164B) (sg := ⟨[.p none [(.sl 5 ts_u8), (.int .i64), (.int .i64)] [false, false, false]], [⟨false, [.str], [false]⟩], false⟩) Try.func164 (by decide) (by kernel_rfl) (by kernel_rfl) (by kernel_rfl) (fun c' hc' => by
    rw [show loopsOf f164B = [] by kernel_rfl] at hc'
    cases hc') (by decide) (by decide) (fun x y h => (ev164 x).trans h)

/-! ### 165: spec.l1Draw -/
noncomputable def F_spec_l1Draw (x : List E_u8 × Int × Int) : Option (Int × List E_u8 × Int × Int) :=
  Option.bind (F_spec_l1Below (x.1, x.2.1, x.2.2, (200 : Int))) fun r1 => Option.bind (F_spec_l1Int (r1.2.1, r1.2.2.1, r1.2.2.2, ([(0 : Int), (1 : Int), (2 : Int), (7 : Int), (65535 : Int), (Go.IntKind.wrap .i64 ((1 : Int) + r1.1))] : List E_i64))) fun r2 => some (r2.1, r2.2.1, r2.2.2.1, r2.2.2.2)
noncomputable def f165B : Code := match Try.f165.body with
  | some c => c
  | none => .skip
noncomputable def f165K : C.Sem := tab [⟨77, F_spec_l1Int⟩, ⟨78, F_spec_l1Below⟩]
noncomputable def f165P : Lp := fun i s {_R} κ => none
theorem k165 : Contract C Try.prog f165K := contract_tab _ (fun p hp => by
    simp only [List.mem_cons, List.mem_nil_iff, or_false] at hp
    rcases hp with rfl | rfl
    · exact ok77
    · exact ok78)
theorem ev165 (x : List E_u8 × Int × Int) : evalB C f165K f165P 165 Try.f165 f165B ⟨[.p none [(.sl 5 ts_u8), (.int .i64), (.int .i64)] [false, false, false]], [⟨false, [(.int .i64)], [false]⟩], false⟩ [(.sl 5 ts_u8), (.int .i64), (.int .i64)] [(.int .i64), (.sl 5 ts_u8), (.int .i64), (.int .i64)] x = F_spec_l1Draw x := by kernel_rfl
theorem ok165 : ContractAt C Try.prog 165 F_spec_l1Draw := fn_sound (lp := f165P) tok mixed k165 (by kernel_rfl) (fn := Try.f165) (c := f165B) (sg := ⟨[.p none [(.sl 5 ts_u8), (.int .i64), (.int .i64)] [false, false, false]], [⟨false, [(.int .i64)], [false]⟩], false⟩) Try.func165 (by decide) (by kernel_rfl) (by kernel_rfl) (by kernel_rfl) (fun c' hc' => by
    rw [show loopsOf f165B = [] by kernel_rfl] at hc'
    cases hc') (by decide) (by decide) (fun x y h => (ev165 x).trans h)

/-! ### 127: spec.l15Draw -/
noncomputable def F_spec_l15Draw (x : List E_u8 × Int × Int) : Option (Int × ByteArray × ByteArray × Int × Int × List E_u8 × Int × Int) :=
  Option.bind (F_spec_l1Int (x.1, x.2.1, x.2.2, ([(1 : Int), (1 : Int), (1 : Int), (2 : Int), (2 : Int), (3 : Int), (4 : Int), (4 : Int), (4 : Int), (4 : Int), (4 : Int), (4 : Int), (5 : Int), (6 : Int), (7 : Int), (7 : Int), (8 : Int), (9 : Int)] : List E_i64))) fun r1 => bif (decide (r1.1 < (7 : Int))) then Option.bind (F_spec_l1Str (r1.2.1, r1.2.2.1, r1.2.2.2, ([{ data := #[97] }, { data := #[97] }, { data := #[98] }, { data := #[99] }, { data := #[100] }] : List E_string))) fun r2 => bif (r1.1 == (1 : Int)) then bif (r1.1 == (1 : Int)) then Option.bind (F_spec_l1Int (r2.2.1, r2.2.2.1, r2.2.2.2, ([(1 : Int), (3 : Int), (4 : Int), (12 : Int), (5 : Int)] : List E_i64))) fun r3 => some (r1.1, r2.1, (⟨#[]⟩ : ByteArray), r3.1, (0 : Int), r3.2.1, r3.2.2.1, r3.2.2.2) else bif (r1.1 == (2 : Int)) then Option.bind (F_spec_l1Name (r2.2.1, r2.2.2.1, r2.2.2.2)) fun r4 => Option.bind (F_spec_l1Int (r4.2.1, r4.2.2.1, r4.2.2.2, ([(0 : Int), (0 : Int), (0 : Int), (1 : Int)] : List E_i64))) fun r5 => some (r1.1, r2.1, r4.1, (0 : Int), r5.1, r5.2.1, r5.2.2.1, r5.2.2.2) else bif (r1.1 == (4 : Int)) then Option.bind (F_spec_l1Below (r2.2.1, r2.2.2.1, r2.2.2.2, (5 : Int))) fun r6 => Option.bind (F_spec_l1Draw (r6.2.1, r6.2.2.1, r6.2.2.2)) fun r7 => some (r1.1, r2.1, (⟨#[]⟩ : ByteArray), r6.1, r7.1, r7.2.1, r7.2.2.1, r7.2.2.2) else bif (r1.1 == (5 : Int)) then Option.bind (F_spec_l1Below (r2.2.1, r2.2.2.1, r2.2.2.2, (5 : Int))) fun r8 => some (r1.1, r2.1, (⟨#[]⟩ : ByteArray), r8.1, (0 : Int), r8.2.1, r8.2.2.1, r8.2.2.2) else bif (r1.1 == (8 : Int)) then bif (r1.1 == (8 : Int)) then Option.bind (F_spec_l1Below (r2.2.1, r2.2.2.1, r2.2.2.2, (6 : Int))) fun r9 => some (r1.1, r2.1, (⟨#[]⟩ : ByteArray), r9.1, (0 : Int), r9.2.1, r9.2.2.1, r9.2.2.2) else some (r1.1, r2.1, (⟨#[]⟩ : ByteArray), (0 : Int), (0 : Int), r2.2.1, r2.2.2.1, r2.2.2.2) else bif (r1.1 == (9 : Int)) then Option.bind (F_spec_l1Below (r2.2.1, r2.2.2.1, r2.2.2.2, (6 : Int))) fun r10 => some (r1.1, r2.1, (⟨#[]⟩ : ByteArray), r10.1, (0 : Int), r10.2.1, r10.2.2.1, r10.2.2.2) else some (r1.1, r2.1, (⟨#[]⟩ : ByteArray), (0 : Int), (0 : Int), r2.2.1, r2.2.2.1, r2.2.2.2) else bif (r1.1 == (6 : Int)) then Option.bind (F_spec_l1Int (r2.2.1, r2.2.2.1, r2.2.2.2, ([(1 : Int), (3 : Int), (4 : Int), (12 : Int), (5 : Int)] : List E_i64))) fun r11 => some (r1.1, r2.1, (⟨#[]⟩ : ByteArray), r11.1, (0 : Int), r11.2.1, r11.2.2.1, r11.2.2.2) else bif (r1.1 == (2 : Int)) then Option.bind (F_spec_l1Name (r2.2.1, r2.2.2.1, r2.2.2.2)) fun r12 => Option.bind (F_spec_l1Int (r12.2.1, r12.2.2.1, r12.2.2.2, ([(0 : Int), (0 : Int), (0 : Int), (1 : Int)] : List E_i64))) fun r13 => some (r1.1, r2.1, r12.1, (0 : Int), r13.1, r13.2.1, r13.2.2.1, r13.2.2.2) else bif (r1.1 == (4 : Int)) then Option.bind (F_spec_l1Below (r2.2.1, r2.2.2.1, r2.2.2.2, (5 : Int))) fun r14 => Option.bind (F_spec_l1Draw (r14.2.1, r14.2.2.1, r14.2.2.2)) fun r15 => some (r1.1, r2.1, (⟨#[]⟩ : ByteArray), r14.1, r15.1, r15.2.1, r15.2.2.1, r15.2.2.2) else bif (r1.1 == (5 : Int)) then Option.bind (F_spec_l1Below (r2.2.1, r2.2.2.1, r2.2.2.2, (5 : Int))) fun r16 => some (r1.1, r2.1, (⟨#[]⟩ : ByteArray), r16.1, (0 : Int), r16.2.1, r16.2.2.1, r16.2.2.2) else bif (r1.1 == (8 : Int)) then bif (r1.1 == (8 : Int)) then Option.bind (F_spec_l1Below (r2.2.1, r2.2.2.1, r2.2.2.2, (6 : Int))) fun r17 => some (r1.1, r2.1, (⟨#[]⟩ : ByteArray), r17.1, (0 : Int), r17.2.1, r17.2.2.1, r17.2.2.2) else some (r1.1, r2.1, (⟨#[]⟩ : ByteArray), (0 : Int), (0 : Int), r2.2.1, r2.2.2.1, r2.2.2.2) else bif (r1.1 == (9 : Int)) then Option.bind (F_spec_l1Below (r2.2.1, r2.2.2.1, r2.2.2.2, (6 : Int))) fun r18 => some (r1.1, r2.1, (⟨#[]⟩ : ByteArray), r18.1, (0 : Int), r18.2.1, r18.2.2.1, r18.2.2.2) else some (r1.1, r2.1, (⟨#[]⟩ : ByteArray), (0 : Int), (0 : Int), r2.2.1, r2.2.2.1, r2.2.2.2) else bif (r1.1 == (1 : Int)) then bif (r1.1 == (1 : Int)) then Option.bind (F_spec_l1Int (r1.2.1, r1.2.2.1, r1.2.2.2, ([(1 : Int), (3 : Int), (4 : Int), (12 : Int), (5 : Int)] : List E_i64))) fun r19 => some (r1.1, (⟨#[]⟩ : ByteArray), (⟨#[]⟩ : ByteArray), r19.1, (0 : Int), r19.2.1, r19.2.2.1, r19.2.2.2) else bif (r1.1 == (2 : Int)) then Option.bind (F_spec_l1Name (r1.2.1, r1.2.2.1, r1.2.2.2)) fun r20 => Option.bind (F_spec_l1Int (r20.2.1, r20.2.2.1, r20.2.2.2, ([(0 : Int), (0 : Int), (0 : Int), (1 : Int)] : List E_i64))) fun r21 => some (r1.1, (⟨#[]⟩ : ByteArray), r20.1, (0 : Int), r21.1, r21.2.1, r21.2.2.1, r21.2.2.2) else bif (r1.1 == (4 : Int)) then Option.bind (F_spec_l1Below (r1.2.1, r1.2.2.1, r1.2.2.2, (5 : Int))) fun r22 => Option.bind (F_spec_l1Draw (r22.2.1, r22.2.2.1, r22.2.2.2)) fun r23 => some (r1.1, (⟨#[]⟩ : ByteArray), (⟨#[]⟩ : ByteArray), r22.1, r23.1, r23.2.1, r23.2.2.1, r23.2.2.2) else bif (r1.1 == (5 : Int)) then Option.bind (F_spec_l1Below (r1.2.1, r1.2.2.1, r1.2.2.2, (5 : Int))) fun r24 => some (r1.1, (⟨#[]⟩ : ByteArray), (⟨#[]⟩ : ByteArray), r24.1, (0 : Int), r24.2.1, r24.2.2.1, r24.2.2.2) else bif (r1.1 == (8 : Int)) then bif (r1.1 == (8 : Int)) then Option.bind (F_spec_l1Below (r1.2.1, r1.2.2.1, r1.2.2.2, (6 : Int))) fun r25 => some (r1.1, (⟨#[]⟩ : ByteArray), (⟨#[]⟩ : ByteArray), r25.1, (0 : Int), r25.2.1, r25.2.2.1, r25.2.2.2) else some (r1.1, (⟨#[]⟩ : ByteArray), (⟨#[]⟩ : ByteArray), (0 : Int), (0 : Int), r1.2.1, r1.2.2.1, r1.2.2.2) else bif (r1.1 == (9 : Int)) then Option.bind (F_spec_l1Below (r1.2.1, r1.2.2.1, r1.2.2.2, (6 : Int))) fun r26 => some (r1.1, (⟨#[]⟩ : ByteArray), (⟨#[]⟩ : ByteArray), r26.1, (0 : Int), r26.2.1, r26.2.2.1, r26.2.2.2) else some (r1.1, (⟨#[]⟩ : ByteArray), (⟨#[]⟩ : ByteArray), (0 : Int), (0 : Int), r1.2.1, r1.2.2.1, r1.2.2.2) else bif (r1.1 == (6 : Int)) then Option.bind (F_spec_l1Int (r1.2.1, r1.2.2.1, r1.2.2.2, ([(1 : Int), (3 : Int), (4 : Int), (12 : Int), (5 : Int)] : List E_i64))) fun r27 => some (r1.1, (⟨#[]⟩ : ByteArray), (⟨#[]⟩ : ByteArray), r27.1, (0 : Int), r27.2.1, r27.2.2.1, r27.2.2.2) else bif (r1.1 == (2 : Int)) then Option.bind (F_spec_l1Name (r1.2.1, r1.2.2.1, r1.2.2.2)) fun r28 => Option.bind (F_spec_l1Int (r28.2.1, r28.2.2.1, r28.2.2.2, ([(0 : Int), (0 : Int), (0 : Int), (1 : Int)] : List E_i64))) fun r29 => some (r1.1, (⟨#[]⟩ : ByteArray), r28.1, (0 : Int), r29.1, r29.2.1, r29.2.2.1, r29.2.2.2) else bif (r1.1 == (4 : Int)) then Option.bind (F_spec_l1Below (r1.2.1, r1.2.2.1, r1.2.2.2, (5 : Int))) fun r30 => Option.bind (F_spec_l1Draw (r30.2.1, r30.2.2.1, r30.2.2.2)) fun r31 => some (r1.1, (⟨#[]⟩ : ByteArray), (⟨#[]⟩ : ByteArray), r30.1, r31.1, r31.2.1, r31.2.2.1, r31.2.2.2) else bif (r1.1 == (5 : Int)) then Option.bind (F_spec_l1Below (r1.2.1, r1.2.2.1, r1.2.2.2, (5 : Int))) fun r32 => some (r1.1, (⟨#[]⟩ : ByteArray), (⟨#[]⟩ : ByteArray), r32.1, (0 : Int), r32.2.1, r32.2.2.1, r32.2.2.2) else bif (r1.1 == (8 : Int)) then bif (r1.1 == (8 : Int)) then Option.bind (F_spec_l1Below (r1.2.1, r1.2.2.1, r1.2.2.2, (6 : Int))) fun r33 => some (r1.1, (⟨#[]⟩ : ByteArray), (⟨#[]⟩ : ByteArray), r33.1, (0 : Int), r33.2.1, r33.2.2.1, r33.2.2.2) else some (r1.1, (⟨#[]⟩ : ByteArray), (⟨#[]⟩ : ByteArray), (0 : Int), (0 : Int), r1.2.1, r1.2.2.1, r1.2.2.2) else bif (r1.1 == (9 : Int)) then Option.bind (F_spec_l1Below (r1.2.1, r1.2.2.1, r1.2.2.2, (6 : Int))) fun r34 => some (r1.1, (⟨#[]⟩ : ByteArray), (⟨#[]⟩ : ByteArray), r34.1, (0 : Int), r34.2.1, r34.2.2.1, r34.2.2.2) else some (r1.1, (⟨#[]⟩ : ByteArray), (⟨#[]⟩ : ByteArray), (0 : Int), (0 : Int), r1.2.1, r1.2.2.1, r1.2.2.2)
noncomputable def f127B : Code := match Try.f127.body with
  | some c => c
  | none => .skip
noncomputable def f127K : C.Sem := tab [⟨77, F_spec_l1Int⟩, ⟨78, F_spec_l1Below⟩, ⟨163, F_spec_l1Str⟩, ⟨164, F_spec_l1Name⟩, ⟨165, F_spec_l1Draw⟩]
noncomputable def f127P : Lp := fun i s {_R} κ => none
theorem k127 : Contract C Try.prog f127K := contract_tab _ (fun p hp => by
    simp only [List.mem_cons, List.mem_nil_iff, or_false] at hp
    rcases hp with rfl | rfl | rfl | rfl | rfl
    · exact ok77
    · exact ok78
    · exact ok163
    · exact ok164
    · exact ok165)
theorem ev127 (x : List E_u8 × Int × Int) : evalB C f127K f127P 127 Try.f127 f127B ⟨[.p none [(.sl 5 ts_u8), (.int .i64), (.int .i64)] [false, false, false]], [⟨true, [(.int .i64), .str, .str, (.int .i64), (.int .i64)], [false, false, false, false, false]⟩], false⟩ [(.sl 5 ts_u8), (.int .i64), (.int .i64)] [(.int .i64), .str, .str, (.int .i64), (.int .i64), (.sl 5 ts_u8), (.int .i64), (.int .i64)] x = F_spec_l15Draw x := by kernel_rfl
theorem ok127 : ContractAt C Try.prog 127 F_spec_l15Draw := fn_sound (lp := f127P) tok mixed k127 (by kernel_rfl) (fn := Try.f127) (c := f127B) (sg := ⟨[.p none [(.sl 5 ts_u8), (.int .i64), (.int .i64)] [false, false, false]], [⟨true, [(.int .i64), .str, .str, (.int .i64), (.int .i64)], [false, false, false, false, false]⟩], false⟩) Try.func127 (by decide) (by kernel_rfl) (by kernel_rfl) (by kernel_rfl) (fun c' hc' => by
    rw [show loopsOf f127B = [] by kernel_rfl] at hc'
    cases hc') (by decide) (by decide) (fun x y h => (ev127 x).trans h)

/-! ### 167: spec.l1Bytes -/
abbrev T_spec_l1Bytes_3 : Type := Int × Int × List E_u8 × Int × Int × List E_u8
noncomputable def S_spec_l1Bytes_3 {R : Type} (k0 : (List E_u8 × Int × Int × List E_u8) → Option R) (again : T_spec_l1Bytes_3 → Option R) (t3 : T_spec_l1Bytes_3) : Option R :=
  bif (decide (t3.2.1 < t3.1)) then Option.bind (F_spec_l1Byte (t3.2.2.1, t3.2.2.2.1, t3.2.2.2.2.1)) fun r1 => if (List.length t3.2.2.2.2.2 + List.length ([(Go.IntKind.wrap .u8 r1.1)] : List E_u8)) * 1 < 140737488355328 then again (t3.1, (Go.IntKind.wrap .i64 (t3.2.1 + (1 : Int))), r1.2.1, r1.2.2.1, r1.2.2.2, (t3.2.2.2.2.2 ++ ([(Go.IntKind.wrap .u8 r1.1)] : List E_u8))) else none else k0 (t3.2.2.1, t3.2.2.2.1, t3.2.2.2.2.1, t3.2.2.2.2.2)
noncomputable def L_spec_l1Bytes_3 {R : Type} (k0 : (List E_u8 × Int × Int × List E_u8) → Option R) (t : T_spec_l1Bytes_3) : Option R := iter (S_spec_l1Bytes_3 k0) FUEL t
noncomputable def F_spec_l1Bytes (x : List E_u8 × Int × Int × Int) : Option (List E_u8 × List E_u8 × Int × Int) :=
  L_spec_l1Bytes_3 (fun x2 => some (x2.2.2.2, x2.1, x2.2.1, x2.2.2.1)) (x.2.2.2, (0 : Int), x.1, x.2.1, x.2.2.1, ([] : List E_u8))
noncomputable def f167B : Code := match Try.f167.body with
  | some c => c
  | none => .skip
noncomputable def f167K : C.Sem := tab [⟨132, F_spec_l1Byte⟩]
def f167h3_0 : List Sh := [.box 900 0, .v (.int .i64), .dead, .dead, .dead, .own 10000000, .v (.int .i64), .dead, .dead, .dead, .dead, .dead, .dead, .dead, .dead, .dead, .dead, .dead, .dead, .dead]
def f167o3_0 : List (Nat × OSh) := [(900, .box [.v (.sl 5 ts_u8), .v (.int .i64), .v (.int .i64)]), (10000000, .root true 5 ts_u8)]
def f167e3_0 (t : Int × Int × List E_u8 × Int × Int × List E_u8) : St := ⟨[.box 900 0, .val (.int .i64) t.1, .dead, .dead, .dead, .own 10000000, .val (.int .i64) t.2.1, .dead, .dead, .dead, .dead, .dead, .dead, .dead, .dead, .dead, .dead, .dead, .dead, .dead], [(900, .box [.val (.sl 5 ts_u8) t.2.2.1, .val (.int .i64) t.2.2.2.1, .val (.int .i64) t.2.2.2.2.1]), (10000000, .root true 5 ts_u8 t.2.2.2.2.2)]⟩
def f167x3_0 (t : List E_u8 × Int × Int × List E_u8) : St := ⟨[.box 900 0, .dead, .dead, .dead, .dead, .own 10000000, .dead, .dead, .dead, .dead, .dead, .dead, .dead, .dead, .dead, .dead, .dead, .dead, .dead, .dead], [(900, .box [.val (.sl 5 ts_u8) t.1, .val (.int .i64) t.2.1, .val (.int .i64) t.2.2.1]), (10000000, .root true 5 ts_u8 t.2.2.2)]⟩
def f167u3_0 (s : St) : Option (Int × Int × List E_u8 × Int × Int × List E_u8) := (unS f167h3_0 f167o3_0 s).map fun v => (v.1.2.1, v.1.2.2.2.2.2.2.1, v.2.1.1, v.2.1.2.1, v.2.1.2.2.1, v.2.2.1)
theorem f167un3_0 : ∀ (s : St) (t : Int × Int × List E_u8 × Int × Int × List E_u8), f167u3_0 s = some t → f167e3_0 t = s := fun s v h => by
  obtain ⟨u, hu, rfl⟩ := Option.map_eq_some_iff.1 h
  exact (show f167e3_0 (u.1.2.1, u.1.2.2.2.2.2.2.1, u.2.1.1, u.2.1.2.1, u.2.1.2.2.1, u.2.2.1) = mkS f167h3_0 f167o3_0 u by kernel_rfl).trans (mkS_un f167h3_0 f167o3_0 s u hu)
def f167u3 : St → Option (Int × Int × List E_u8 × Int × Int × List E_u8) := f167u3_0
def f167e3 : (Int × Int × List E_u8 × Int × Int × List E_u8) → St := f167e3_0
theorem f167un3 : ∀ (s : St) (t : Int × Int × List E_u8 × Int × Int × List E_u8), f167u3 s = some t → f167e3 t = s := f167un3_0
noncomputable def f167P : Lp := fun i s {_R} κ => bif Nat.beq i 3 then (f167u3 s).bind fun t => L_spec_l1Bytes_3 (fun t => κ (some 0) (f167x3_0 t)) t else none
noncomputable def f167c3 : Code := (loopsOf f167B).getD 0 .skip
theorem f167A3 : C.live 167 (firstRegion f167c3) = some ([0, 1, 5, 6], [0, 5]) := by kernel_rfl
theorem f167B3 {R : Type} (κ : Option Nat → St → Option R) (s : St) : f167P (firstRegion f167c3) s κ = (f167u3 s).bind fun t => iter (S_spec_l1Bytes_3 (fun t => κ (some 0) (f167x3_0 t))) FUEL t := by kernel_rfl
theorem f167C3 {R : Type} (κ : Option Nat → St → Option R) (again : St → Option R) (t : T_spec_l1Bytes_3) : stepL C f167K f167P 167 f167c3 [0, 1, 5, 6] [0, 5] κ again (f167e3 t) = S_spec_l1Bytes_3 (fun t => κ (some 0) (f167x3_0 t)) (fun t => again (f167e3 t)) t := by kernel_rfl
theorem f167ok3 : LoopOk C f167K f167P 167 f167c3 := loop_ok f167A3 f167e3 f167u3 f167un3 (fun {_R} κ => S_spec_l1Bytes_3 (fun t => κ (some 0) (f167x3_0 t))) (fun {_R} κ s => f167B3 κ s) (fun {_R} κ again t => f167C3 κ again t)
theorem k167 : Contract C Try.prog f167K := contract_tab _ (fun p hp => by
    simp only [List.mem_cons, List.mem_nil_iff, or_false] at hp
    rcases hp with rfl
    · exact ok132)
theorem ev167 (x : List E_u8 × Int × Int × Int) : evalB C f167K f167P 167 Try.f167 f167B ⟨[.p none [(.sl 5 ts_u8), (.int .i64), (.int .i64)] [false, false, false], .v false [(.int .i64)] [false]], [⟨false, [(.sl 5 ts_u8)], [true]⟩], false⟩ [(.sl 5 ts_u8), (.int .i64), (.int .i64), (.int .i64)] [(.sl 5 ts_u8), (.sl 5 ts_u8), (.int .i64), (.int .i64)] x = F_spec_l1Bytes x := by kernel_rfl
theorem ok167 : ContractAt C Try.prog 167 F_spec_l1Bytes := fn_sound (lp := f167P) tok mixed k167 (by kernel_rfl) (fn := Try.f167) (c := f167B) (sg := ⟨[.p none [(.sl 5 ts_u8), (.int .i64), (.int .i64)] [false, false, false], .v false [(.int .i64)] [false]], [⟨false, [(.sl 5 ts_u8)], [true]⟩], false⟩) Try.func167 (by decide) (by kernel_rfl) (by kernel_rfl) (by kernel_rfl) (fun c' hc' => by
    rw [show loopsOf f167B = [f167c3] by kernel_rfl] at hc'
    simp only [List.mem_cons, List.mem_nil_iff, or_false] at hc'
    rcases hc' with rfl
    · exact f167ok3) (by decide) (by decide) (fun x y h => (ev167 x).trans h)

/-! ### 178: spec.l2Flush -/
abbrev T_spec_l2Flush_2 : Type := Int × Int × Bool × List E_s_u8 × List E_Wr
noncomputable def S_spec_l2Flush_2 {R : Type} (k0 : (Int × Bool × List E_s_u8 × List E_Wr) → Option R) (again : T_spec_l2Flush_2 → Option R) (t2 : T_spec_l2Flush_2) : Option R :=
  bif (decide (t2.1 < ((List.length t2.2.2.2.2 : Nat) : Int))) then if (0 : Int) ≤ t2.1 then if t2.1 < ((List.length t2.2.2.2.2 : Nat) : Int) then if (0 : Int) ≤ t2.1 then if t2.1 < ((List.length t2.2.2.2.2 : Nat) : Int) then if (0 : Int) ≤ (rd_Wr t2.2.2.2.2 t2.1).1 then if (rd_Wr t2.2.2.2.2 t2.1).1 < ((List.length t2.2.2.2.1 : Nat) : Int) then again ((Go.IntKind.wrap .i64 (t2.1 + (1 : Int))), t2.2.1, t2.2.2.1, (List.set t2.2.2.2.1 (Int.toNat ((rd_Wr t2.2.2.2.2 t2.1).1)) ((rd_Wr t2.2.2.2.2 t2.1).2)), t2.2.2.2.2) else none else none else none else none else none else none else k0 (t2.2.1, t2.2.2.1, t2.2.2.2.1, t2.2.2.2.2)
noncomputable def L_spec_l2Flush_2 {R : Type} (k0 : (Int × Bool × List E_s_u8 × List E_Wr) → Option R) (t : T_spec_l2Flush_2) : Option R := iter (S_spec_l2Flush_2 k0) FUEL t
noncomputable def F_spec_l2Flush (x : List E_s_u8 × List E_Wr × Int × Bool) : Option (List E_s_u8 × List E_Wr × Int × Bool) :=
  bif x.2.2.2 then some (x.1, x.2.1, x.2.2.1, x.2.2.2) else Option.bind (F_spec_l2Op (x.1, x.2.1, x.2.2.1, x.2.2.2)) fun r1 => bif (!r1.1) then some (r1.2.1, r1.2.2.1, r1.2.2.2.1, r1.2.2.2.2) else L_spec_l2Flush_2 (fun x2 => some (x2.2.2.1, ([] : List E_Wr), x2.1, x2.2.1)) ((0 : Int), r1.2.2.2.1, r1.2.2.2.2, r1.2.1, r1.2.2.1)
noncomputable def f178B : Code := match Try.f178.body with
  | some c => c
  | none => .skip
noncomputable def f178K : C.Sem := tab [⟨162, F_spec_l2Op⟩]
def f178h2_0 : List Sh := [.box 900 0, .dead, .v (.int .i64), .dead, .dead, .dead, .dead, .dead, .dead, .dead, .dead, .dead, .dead, .dead, .dead, .dead, .dead, .dead, .dead, .dead, .dead, .dead, .dead, .dead, .dead, .dead, .dead, .dead, .dead, .dead, .dead, .dead, .dead, .dead, .dead, .dead, .dead, .dead, .dead, .dead, .dead, .dead, .dead, .dead, .dead, .dead]
def f178o2_0 : List (Nat × OSh) := [(900, .box [.own 10000000, .own 10000001, .v (.int .i64), .v .bool]), (10000000, .root true 27 ts_s_u8), (10000001, .root true 155 ts_Wr)]
def f178e2_0 (t : Int × Int × Bool × List E_s_u8 × List E_Wr) : St := ⟨[.box 900 0, .dead, .val (.int .i64) t.1, .dead, .dead, .dead, .dead, .dead, .dead, .dead, .dead, .dead, .dead, .dead, .dead, .dead, .dead, .dead, .dead, .dead, .dead, .dead, .dead, .dead, .dead, .dead, .dead, .dead, .dead, .dead, .dead, .dead, .dead, .dead, .dead, .dead, .dead, .dead, .dead, .dead, .dead, .dead, .dead, .dead, .dead, .dead], [(900, .box [.own 10000000, .own 10000001, .val (.int .i64) t.2.1, .val .bool t.2.2.1]), (10000000, .root true 27 ts_s_u8 t.2.2.2.1), (10000001, .root true 155 ts_Wr t.2.2.2.2)]⟩
def f178x2_0 (t : Int × Bool × List E_s_u8 × List E_Wr) : St := ⟨[.box 900 0, .dead, .dead, .dead, .dead, .dead, .dead, .dead, .dead, .dead, .dead, .dead, .dead, .dead, .dead, .dead, .dead, .dead, .dead, .dead, .dead, .dead, .dead, .dead, .dead, .dead, .dead, .dead, .dead, .dead, .dead, .dead, .dead, .dead, .dead, .dead, .dead, .dead, .dead, .dead, .dead, .dead, .dead, .dead, .dead, .dead], [(900, .box [.own 10000000, .own 10000001, .val (.int .i64) t.1, .val .bool t.2.1]), (10000000, .root true 27 ts_s_u8 t.2.2.1), (10000001, .root true 155 ts_Wr t.2.2.2)]⟩
def f178u2_0 (s : St) : Option (Int × Int × Bool × List E_s_u8 × List E_Wr) := (unS f178h2_0 f178o2_0 s).map fun v => (v.1.2.2.1, v.2.1.2.2.1, v.2.1.2.2.2.1, v.2.2.1, v.2.2.2.1)
theorem f178un2_0 : ∀ (s : St) (t : Int × Int × Bool × List E_s_u8 × List E_Wr), f178u2_0 s = some t → f178e2_0 t = s := fun s v h => by
  obtain ⟨u, hu, rfl⟩ := Option.map_eq_some_iff.1 h
  exact (show f178e2_0 (u.1.2.2.1, u.2.1.2.2.1, u.2.1.2.2.2.1, u.2.2.1, u.2.2.2.1) = mkS f178h2_0 f178o2_0 u by kernel_rfl).trans (mkS_un f178h2_0 f178o2_0 s u hu)
def f178u2 : St → Option (Int × Int × Bool × List E_s_u8 × List E_Wr) := f178u2_0
def f178e2 : (Int × Int × Bool × List E_s_u8 × List E_Wr) → St := f178e2_0
theorem f178un2 : ∀ (s : St) (t : Int × Int × Bool × List E_s_u8 × List E_Wr), f178u2 s = some t → f178e2 t = s := f178un2_0
noncomputable def f178P : Lp := fun i s {_R} κ => bif Nat.beq i 2 then (f178u2 s).bind fun t => L_spec_l2Flush_2 (fun t => κ (some 0) (f178x2_0 t)) t else none
noncomputable def f178c2 : Code := (loopsOf f178B).getD 0 .skip
theorem f178A2 : C.live 178 (firstRegion f178c2) = some ([0, 2], [0]) := by kernel_rfl
theorem f178B2 {R : Type} (κ : Option Nat → St → Option R) (s : St) : f178P (firstRegion f178c2) s κ = (f178u2 s).bind fun t => iter (S_spec_l2Flush_2 (fun t => κ (some 0) (f178x2_0 t))) FUEL t := by kernel_rfl
theorem f178C2 {R : Type} (κ : Option Nat → St → Option R) (again : St → Option R) (t : T_spec_l2Flush_2) : stepL C f178K f178P 178 f178c2 [0, 2] [0] κ again (f178e2 t) = S_spec_l2Flush_2 (fun t => κ (some 0) (f178x2_0 t)) (fun t => again (f178e2 t)) t := by kernel_rfl
theorem f178ok2 : LoopOk C f178K f178P 178 f178c2 := loop_ok f178A2 f178e2 f178u2 f178un2 (fun {_R} κ => S_spec_l2Flush_2 (fun t => κ (some 0) (f178x2_0 t))) (fun {_R} κ s => f178B2 κ s) (fun {_R} κ again t => f178C2 κ again t)
theorem k178 : Contract C Try.prog f178K := contract_tab _ (fun p hp => by
    simp only [List.mem_cons, List.mem_nil_iff, or_false] at hp
    rcases hp with rfl
    · exact ok162)
theorem ev178 (x : List E_s_u8 × List E_Wr × Int × Bool) : evalB C f178K f178P 178 Try.f178 f178B ⟨[.p none [(.sl 27 ts_s_u8), (.sl 155 ts_Wr), (.int .i64), .bool] [true, true, false, false]], [], false⟩ [(.sl 27 ts_s_u8), (.sl 155 ts_Wr), (.int .i64), .bool] [(.sl 27 ts_s_u8), (.sl 155 ts_Wr), (.int .i64), .bool] x = F_spec_l2Flush x := by kernel_rfl
theorem ok178 : ContractAt C Try.prog 178 F_spec_l2Flush := fn_sound (lp := f178P) tok mixed k178 (by kernel_rfl) (fn := Try.f178) (c := f178B) (sg := ⟨[.p none [(.sl 27 ts_s_u8), (.sl 155 ts_Wr), (.int .i64), .bool] [true, true, false, false]], [], false⟩) Try.func178 (by decide) (by kernel_rfl) (by kernel_rfl) (by kernel_rfl) (fun c' hc' => by
    rw [show loopsOf f178B = [f178c2] by kernel_rfl] at hc'
    simp only [List.mem_cons, List.mem_nil_iff, or_false] at hc'
    rcases hc' with rfl
    · exact f178ok2) (by decide) (by decide) (fun x y h => (ev178 x).trans h)

/-! ### 166: spec.l2Draw -/
abbrev T_spec_l2Draw_3 : Type := Int × List E_u8 × Int × Int × Int × Bool × Int × Bool × List E_s_u8 × List E_Wr
noncomputable def S_spec_l2Draw_3 {R : Type} (k0 : (List E_u8 × Int × Int × Int × Bool × Int × Bool × List E_s_u8 × List E_Wr) → Option R) (again : T_spec_l2Draw_3 → Option R) (t3 : T_spec_l2Draw_3) : Option R :=
  bif (decide (t3.1 > (0 : Int))) then Option.bind (F_spec_l1Once (t3.2.1, t3.2.2.1, t3.2.2.2.1, (4 : Int))) fun r4 => bif r4.1 then Option.bind (F_spec_l2Flush (t3.2.2.2.2.2.2.2.2.1, t3.2.2.2.2.2.2.2.2.2, t3.2.2.2.2.2.2.1, t3.2.2.2.2.2.2.2.1)) fun r5 => again ((Go.IntKind.wrap .i64 (t3.1 - (1 : Int))), r4.2.1, r4.2.2.1, r4.2.2.2, t3.2.2.2.2.1, t3.2.2.2.2.2.1, r5.2.2.1, r5.2.2.2, r5.1, r5.2.1) else Option.bind (F_spec_l1Below (r4.2.1, r4.2.2.1, r4.2.2.2, ((List.length t3.2.2.2.2.2.2.2.2.1 : Nat) : Int))) fun r6 => Option.bind (F_spec_l1Below (r6.2.1, r6.2.2.1, r6.2.2.2, (4 : Int))) fun r7 => Option.bind (F_spec_l1Bytes (r7.2.1, r7.2.2.1, r7.2.2.2, r7.1)) fun r8 => Option.bind (F_spec_l2Write (t3.2.2.2.2.2.2.2.2.1, t3.2.2.2.2.2.2.2.2.2, t3.2.2.2.2.2.2.1, t3.2.2.2.2.2.2.2.1, r6.1, r8.1)) fun r9 => again ((Go.IntKind.wrap .i64 (t3.1 - (1 : Int))), r8.2.1, r8.2.2.1, r8.2.2.2, t3.2.2.2.2.1, t3.2.2.2.2.2.1, r9.2.2.1, r9.2.2.2, r9.1, r9.2.1) else k0 (t3.2.1, t3.2.2.1, t3.2.2.2.1, t3.2.2.2.2.1, t3.2.2.2.2.2.1, t3.2.2.2.2.2.2.1, t3.2.2.2.2.2.2.2.1, t3.2.2.2.2.2.2.2.2.1, t3.2.2.2.2.2.2.2.2.2)
noncomputable def L_spec_l2Draw_3 {R : Type} (k0 : (List E_u8 × Int × Int × Int × Bool × Int × Bool × List E_s_u8 × List E_Wr) → Option R) (t : T_spec_l2Draw_3) : Option R := iter (S_spec_l2Draw_3 k0) FUEL t
noncomputable def F_spec_l2Draw (x : List E_u8 × Int × Int) : Option (List E_s_u8 × List E_Wr × Int × Bool × List E_u8 × Int × Int) :=
  Option.bind (F_spec_l1Below (x.1, x.2.1, x.2.2, (6 : Int))) fun r1 => Option.bind (F_spec_DevNew (Go.IntKind.wrap .i64 ((2 : Int) + r1.1))) fun r2 => Option.bind (F_spec_l1Below (r1.2.1, r1.2.2.1, r1.2.2.2, (8 : Int))) fun r3 => L_spec_l2Draw_3 (fun x10 => some (x10.2.2.2.2.2.2.2.1, x10.2.2.2.2.2.2.2.2, x10.2.2.2.2.2.1, x10.2.2.2.2.2.2.1, x10.1, x10.2.1, x10.2.2.1)) (r3.1, r3.2.1, r3.2.2.1, r3.2.2.2, (0 : Int), false, r2.2.2.1, r2.2.2.2, r2.1, r2.2.1)
noncomputable def f166B : Code := match Try.f166.body with
  | some c => c
  | none => .skip
noncomputable def f166K : C.Sem := tab [⟨76, F_spec_l1Once⟩, ⟨78, F_spec_l1Below⟩, ⟨125, F_spec_DevNew⟩, ⟨126, F_spec_l2Write⟩, ⟨167, F_spec_l1Bytes⟩, ⟨178, F_spec_l2Flush⟩]
def f166h3_0 : List Sh := [.box 900 0, .dead, .box 2 0, .box 3 0, .v (.int .i64), .dead, .dead, .dead, .dead, .dead, .dead, .dead, .dead, .dead, .dead, .dead, .dead, .dead, .dead, .dead, .dead, .dead, .dead, .dead, .dead, .dead, .dead, .dead, .dead]
def f166o3_0 : List (Nat × OSh) := [(900, .box [.v (.sl 5 ts_u8), .v (.int .i64), .v (.int .i64)]), (2, .box [.nils, .nils, .v (.int .i64), .v .bool]), (3, .box [.own 10000000, .own 10000001, .v (.int .i64), .v .bool]), (10000000, .root true 27 ts_s_u8), (10000001, .root true 155 ts_Wr)]
def f166e3_0 (t : Int × List E_u8 × Int × Int × Int × Bool × Int × Bool × List E_s_u8 × List E_Wr) : St := ⟨[.box 900 0, .dead, .box 2 0, .box 3 0, .val (.int .i64) t.1, .dead, .dead, .dead, .dead, .dead, .dead, .dead, .dead, .dead, .dead, .dead, .dead, .dead, .dead, .dead, .dead, .dead, .dead, .dead, .dead, .dead, .dead, .dead, .dead], [(900, .box [.val (.sl 5 ts_u8) t.2.1, .val (.int .i64) t.2.2.1, .val (.int .i64) t.2.2.2.1]), (2, .box [.nils, .nils, .val (.int .i64) t.2.2.2.2.1, .val .bool t.2.2.2.2.2.1]), (3, .box [.own 10000000, .own 10000001, .val (.int .i64) t.2.2.2.2.2.2.1, .val .bool t.2.2.2.2.2.2.2.1]), (10000000, .root true 27 ts_s_u8 t.2.2.2.2.2.2.2.2.1), (10000001, .root true 155 ts_Wr t.2.2.2.2.2.2.2.2.2)]⟩
def f166x3_0 (t : List E_u8 × Int × Int × Int × Bool × Int × Bool × List E_s_u8 × List E_Wr) : St := ⟨[.box 900 0, .dead, .box 2 0, .box 3 0, .dead, .dead, .dead, .dead, .dead, .dead, .dead, .dead, .dead, .dead, .dead, .dead, .dead, .dead, .dead, .dead, .dead, .dead, .dead, .dead, .dead, .dead, .dead, .dead, .dead], [(900, .box [.val (.sl 5 ts_u8) t.1, .val (.int .i64) t.2.1, .val (.int .i64) t.2.2.1]), (2, .box [.nils, .nils, .val (.int .i64) t.2.2.2.1, .val .bool t.2.2.2.2.1]), (3, .box [.own 10000000, .own 10000001, .val (.int .i64) t.2.2.2.2.2.1, .val .bool t.2.2.2.2.2.2.1]), (10000000, .root true 27 ts_s_u8 t.2.2.2.2.2.2.2.1), (10000001, .root true 155 ts_Wr t.2.2.2.2.2.2.2.2)]⟩
def f166u3_0 (s : St) : Option (Int × List E_u8 × Int × Int × Int × Bool × Int × Bool × List E_s_u8 × List E_Wr) := (unS f166h3_0 f166o3_0 s).map fun v => (v.1.2.2.2.2.1, v.2.1.1, v.2.1.2.1, v.2.1.2.2.1, v.2.2.1.2.2.1, v.2.2.1.2.2.2.1, v.2.2.2.1.2.2.1, v.2.2.2.1.2.2.2.1, v.2.2.2.2.1, v.2.2.2.2.2.1)
theorem f166un3_0 : ∀ (s : St) (t : Int × List E_u8 × Int × Int × Int × Bool × Int × Bool × List E_s_u8 × List E_Wr), f166u3_0 s = some t → f166e3_0 t = s := fun s v h => by
  obtain ⟨u, hu, rfl⟩ := Option.map_eq_some_iff.1 h
  exact (show f166e3_0 (u.1.2.2.2.2.1, u.2.1.1, u.2.1.2.1, u.2.1.2.2.1, u.2.2.1.2.2.1, u.2.2.1.2.2.2.1, u.2.2.2.1.2.2.1, u.2.2.2.1.2.2.2.1, u.2.2.2.2.1, u.2.2.2.2.2.1) = mkS f166h3_0 f166o3_0 u by kernel_rfl).trans (mkS_un f166h3_0 f166o3_0 s u hu)
def f166u3 : St → Option (Int × List E_u8 × Int × Int × Int × Bool × Int × Bool × List E_s_u8 × List E_Wr) := f166u3_0
def f166e3 : (Int × List E_u8 × Int × Int × Int × Bool × Int × Bool × List E_s_u8 × List E_Wr) → St := f166e3_0
theorem f166un3 : ∀ (s : St) (t : Int × List E_u8 × Int × Int × Int × Bool × Int × Bool × List E_s_u8 × List E_Wr), f166u3 s = some t → f166e3 t = s := f166un3_0
noncomputable def f166P : Lp := fun i s {_R} κ => bif Nat.beq i 3 then (f166u3 s).bind fun t => L_spec_l2Draw_3 (fun t => κ (some 0) (f166x3_0 t)) t else none
noncomputable def f166c3 : Code := (loopsOf f166B).getD 0 .skip
theorem f166A3 : C.live 166 (firstRegion f166c3) = some ([0, 2, 3, 4], [0, 2, 3]) := by kernel_rfl
theorem f166B3 {R : Type} (κ : Option Nat → St → Option R) (s : St) : f166P (firstRegion f166c3) s κ = (f166u3 s).bind fun t => iter (S_spec_l2Draw_3 (fun t => κ (some 0) (f166x3_0 t))) FUEL t := by kernel_rfl
theorem f166C3 {R : Type} (κ : Option Nat → St → Option R) (again : St → Option R) (t : T_spec_l2Draw_3) : stepL C f166K f166P 166 f166c3 [0, 2, 3, 4] [0, 2, 3] κ again (f166e3 t) = S_spec_l2Draw_3 (fun t => κ (some 0) (f166x3_0 t)) (fun t => again (f166e3 t)) t := by kernel_rfl
theorem f166ok3 : LoopOk C f166K f166P 166 f166c3 := loop_ok f166A3 f166e3 f166u3 f166un3 (fun {_R} κ => S_spec_l2Draw_3 (fun t => κ (some 0) (f166x3_0 t))) (fun {_R} κ s => f166B3 κ s) (fun {_R} κ again t => f166C3 κ again t)
theorem k166 : Contract C Try.prog f166K := contract_tab _ (fun p hp => by
    simp only [List.mem_cons, List.mem_nil_iff, or_false] at hp
    rcases hp with rfl | rfl | rfl | rfl | rfl | rfl
    · exact ok76
    · exact ok78
    · exact ok125
    · exact ok126
    · exact ok167
    · exact ok178)
theorem ev166 (x : List E_u8 × Int × Int) : evalB C f166K f166P 166 Try.f166 f166B ⟨[.p none [(.sl 5 ts_u8), (.int .i64), (.int .i64)] [false, false, false]], [⟨true, [(.sl 27 ts_s_u8), (.sl 155 ts_Wr), (.int .i64), .bool], [true, true, false, false]⟩], false⟩ [(.sl 5 ts_u8), (.int .i64), (.int .i64)] [(.sl 27 ts_s_u8), (.sl 155 ts_Wr), (.int .i64), .bool, (.sl 5 ts_u8), (.int .i64), (.int .i64)] x = F_spec_l2Draw x := by kernel_rfl
theorem ok166 : ContractAt C Try.prog 166 F_spec_l2Draw := fn_sound (lp := f166P) tok mixed k166 (by kernel_rfl) (fn := Try.f166) (c := f166B) (sg := ⟨[.p none [(.sl 5 ts_u8), (.int .i64), (.int .i64)] [false, false, false]], [⟨true, [(.sl 27 ts_s_u8), (.sl 155 ts_Wr), (.int .i64), .bool], [true, true, false, false]⟩], false⟩) Try.func166 (by decide) (by kernel_rfl) (by kernel_rfl) (by kernel_rfl) (fun c' hc' => by
    rw [show loopsOf f166B = [f166c3] by kernel_rfl] at hc'
    simp only [List.mem_cons, List.mem_nil_iff, or_false] at hc'
    rcases hc' with rfl
    · exact f166ok3) (by decide) (by decide) (fun x y h => (ev166 x).trans h)

/-! ### 128: spec.l2Any -/
abbrev T_spec_l2Any_8 : Type := List E_u8 × Int × Int × Int × Bool × Int × Bool × List E_s_u8 × List E_Wr
noncomputable def S_spec_l2Any_8 {R : Type} (k0 : (List E_u8 × Int × Int × Int × Bool × Int × Bool × List E_s_u8 × List E_Wr) → Option R) (again : T_spec_l2Any_8 → Option R) (t8 : T_spec_l2Any_8) : Option R :=
  Option.bind (F_spec_l1Below (t8.1, t8.2.1, t8.2.2.1, (3 : Int))) fun r6 => bif (decide (((List.length t8.2.2.2.2.2.2.2.2 : Nat) : Int) < (Go.IntKind.wrap .i64 ((59 : Int) + r6.1)))) then if (List.length t8.2.2.2.2.2.2.2.2 + List.length ([((0 : Int), ([] : List E_u8))] : List E_Wr)) * 32 < 140737488355328 then again (r6.2.1, r6.2.2.1, r6.2.2.2, t8.2.2.2.1, t8.2.2.2.2.1, t8.2.2.2.2.2.1, t8.2.2.2.2.2.2.1, t8.2.2.2.2.2.2.2.1, (t8.2.2.2.2.2.2.2.2 ++ ([((0 : Int), ([] : List E_u8))] : List E_Wr))) else none else k0 (r6.2.1, r6.2.2.1, r6.2.2.2, t8.2.2.2.1, t8.2.2.2.2.1, t8.2.2.2.2.2.1, t8.2.2.2.2.2.2.1, t8.2.2.2.2.2.2.2.1, t8.2.2.2.2.2.2.2.2)
noncomputable def L_spec_l2Any_8 {R : Type} (k0 : (List E_u8 × Int × Int × Int × Bool × Int × Bool × List E_s_u8 × List E_Wr) → Option R) (t : T_spec_l2Any_8) : Option R := iter (S_spec_l2Any_8 k0) FUEL t
noncomputable def F_spec_l2Any (x : List E_u8 × Int × Int) : Option (List E_s_u8 × List E_Wr × Int × Bool × List E_u8 × Int × Int) :=
  Option.bind (F_spec_l2Draw (x.1, x.2.1, x.2.2)) fun r1 => Option.bind (F_spec_l1Below (r1.2.2.2.2.1, r1.2.2.2.2.2.1, r1.2.2.2.2.2.2, (12 : Int))) fun r2 => bif (r2.1 == (0 : Int)) then Option.bind (F_spec_l1Below (r2.2.1, r2.2.2.1, r2.2.2.2, (2 : Int))) fun r3 => if (0 : Int) ≤ (Go.IntKind.wrap .i64 ((80 : Int) + r3.1)) then if (Go.IntKind.wrap .i64 ((80 : Int) + r3.1)) ≤ (Go.IntKind.wrap .i64 ((80 : Int) + r3.1)) then if (Go.IntKind.wrap .i64 ((80 : Int) + r3.1)) * ((1 : Nat) : Int) ≤ 140737488351232 then if (0 : Int) ≤ (0 : Int) then if (0 : Int) < ((List.length r1.1 : Nat) : Int) then some ((List.set r1.1 (Int.toNat (0 : Int)) (List.replicate (Int.toNat (Go.IntKind.wrap .i64 ((80 : Int) + r3.1))) z_u8)), r1.2.1, r1.2.2.1, r1.2.2.2.1, r3.2.1, r3.2.2.1, r3.2.2.2) else none else none else none else none else none else bif (r2.1 == (1 : Int)) then Option.bind (F_spec_l1Int (r2.2.1, r2.2.2.1, r2.2.2.2, ([(-1 : Int), (0 : Int), (99 : Int)] : List E_i64))) fun r4 => Option.bind (F_spec_l1Bytes (r4.2.1, r4.2.2.1, r4.2.2.2, (2 : Int))) fun r5 => if (List.length r1.2.1 + List.length ([(r4.1, r5.1)] : List E_Wr)) * 32 < 140737488355328 then some (r1.1, (r1.2.1 ++ ([(r4.1, r5.1)] : List E_Wr)), r1.2.2.1, r1.2.2.2.1, r5.2.1, r5.2.2.1, r5.2.2.2) else none else bif (r2.1 == (2 : Int)) then L_spec_l2Any_8 (fun x7 => some (x7.2.2.2.2.2.2.2.1, x7.2.2.2.2.2.2.2.2, x7.2.2.2.2.2.1, x7.2.2.2.2.2.2.1, x7.1, x7.2.1, x7.2.2.1)) (r2.2.1, r2.2.2.1, r2.2.2.2, (0 : Int), false, r1.2.2.1, r1.2.2.2.1, r1.1, r1.2.1) else bif (r2.1 == (3 : Int)) then Option.bind (F_spec_l1Int (r2.2.1, r2.2.2.1, r2.2.2.2, ([(0 : Int), (1 : Int), (5 : Int), (-2 : Int), (1001 : Int)] : List E_i64))) fun r8 => some (r1.1, r1.2.1, r8.1, r1.2.2.2.1, r8.2.1, r8.2.2.1, r8.2.2.2) else bif (r2.1 == (4 : Int)) then some (r1.1, r1.2.1, r1.2.2.1, true, r2.2.1, r2.2.2.1, r2.2.2.2) else bif (r2.1 == (5 : Int)) then some (r1.1, r1.2.1, (0 : Int), r1.2.2.2.1, r2.2.1, r2.2.2.1, r2.2.2.2) else some (r1.1, r1.2.1, r1.2.2.1, r1.2.2.2.1, r2.2.1, r2.2.2.1, r2.2.2.2)
noncomputable def f128B : Code := match Try.f128.body with
  | some c => c
  | none => .skip
noncomputable def f128K : C.Sem := tab [⟨77, F_spec_l1Int⟩, ⟨78, F_spec_l1Below⟩, ⟨166, F_spec_l2Draw⟩, ⟨167, F_spec_l1Bytes⟩]
def f128h8_0 : List Sh := [.box 900 0, .dead, .box 2 0, .box 3 0, .dead, .dead, .dead, .dead, .dead, .dead, .dead, .dead, .dead, .dead, .dead, .dead, .dead, .dead, .dead, .dead, .dead, .dead, .dead, .dead, .dead, .dead, .dead, .dead, .dead, .dead, .dead, .dead, .dead, .dead, .dead, .dead, .dead, .dead, .dead, .dead, .dead, .dead, .dead, .dead, .dead, .dead, .dead, .dead, .dead, .dead, .dead, .dead, .dead, .dead, .dead, .dead, .dead, .dead]
def f128o8_0 : List (Nat × OSh) := [(900, .box [.v (.sl 5 ts_u8), .v (.int .i64), .v (.int .i64)]), (2, .box [.nils, .nils, .v (.int .i64), .v .bool]), (3, .box [.own 10000000, .own 10000001, .v (.int .i64), .v .bool]), (10000000, .root true 27 ts_s_u8), (10000001, .root true 155 ts_Wr)]
def f128e8_0 (t : List E_u8 × Int × Int × Int × Bool × Int × Bool × List E_s_u8 × List E_Wr) : St := ⟨[.box 900 0, .dead, .box 2 0, .box 3 0, .dead, .dead, .dead, .dead, .dead, .dead, .dead, .dead, .dead, .dead, .dead, .dead, .dead, .dead, .dead, .dead, .dead, .dead, .dead, .dead, .dead, .dead, .dead, .dead, .dead, .dead, .dead, .dead, .dead, .dead, .dead, .dead, .dead, .dead, .dead, .dead, .dead, .dead, .dead, .dead, .dead, .dead, .dead, .dead, .dead, .dead, .dead, .dead, .dead, .dead, .dead, .dead, .dead, .dead], [(900, .box [.val (.sl 5 ts_u8) t.1, .val (.int .i64) t.2.1, .val (.int .i64) t.2.2.1]), (2, .box [.nils, .nils, .val (.int .i64) t.2.2.2.1, .val .bool t.2.2.2.2.1]), (3, .box [.own 10000000, .own 10000001, .val (.int .i64) t.2.2.2.2.2.1, .val .bool t.2.2.2.2.2.2.1]), (10000000, .root true 27 ts_s_u8 t.2.2.2.2.2.2.2.1), (10000001, .root true 155 ts_Wr t.2.2.2.2.2.2.2.2)]⟩
def f128x8_0 (t : List E_u8 × Int × Int × Int × Bool × Int × Bool × List E_s_u8 × List E_Wr) : St := ⟨[.box 900 0, .dead, .box 2 0, .box 3 0, .dead, .dead, .dead, .dead, .dead, .dead, .dead, .dead, .dead, .dead, .dead, .dead, .dead, .dead, .dead, .dead, .dead, .dead, .dead, .dead, .dead, .dead, .dead, .dead, .dead, .dead, .dead, .dead, .dead, .dead, .dead, .dead, .dead, .dead, .dead, .dead, .dead, .dead, .dead, .dead, .dead, .dead, .dead, .dead, .dead, .dead, .dead, .dead, .dead, .dead, .dead, .dead, .dead, .dead], [(900, .box [.val (.sl 5 ts_u8) t.1, .val (.int .i64) t.2.1, .val (.int .i64) t.2.2.1]), (2, .box [.nils, .nils, .val (.int .i64) t.2.2.2.1, .val .bool t.2.2.2.2.1]), (3, .box [.own 10000000, .own 10000001, .val (.int .i64) t.2.2.2.2.2.1, .val .bool t.2.2.2.2.2.2.1]), (10000000, .root true 27 ts_s_u8 t.2.2.2.2.2.2.2.1), (10000001, .root true 155 ts_Wr t.2.2.2.2.2.2.2.2)]⟩
def f128u8_0 (s : St) : Option (List E_u8 × Int × Int × Int × Bool × Int × Bool × List E_s_u8 × List E_Wr) := (unS f128h8_0 f128o8_0 s).map fun v => (v.2.1.1, v.2.1.2.1, v.2.1.2.2.1, v.2.2.1.2.2.1, v.2.2.1.2.2.2.1, v.2.2.2.1.2.2.1, v.2.2.2.1.2.2.2.1, v.2.2.2.2.1, v.2.2.2.2.2.1)
theorem f128un8_0 : ∀ (s : St) (t : List E_u8 × Int × Int × Int × Bool × Int × Bool × List E_s_u8 × List E_Wr), f128u8_0 s = some t → f128e8_0 t = s := fun s v h => by
  obtain ⟨u, hu, rfl⟩ := Option.map_eq_some_iff.1 h
  exact (show f128e8_0 (u.2.1.1, u.2.1.2.1, u.2.1.2.2.1, u.2.2.1.2.2.1, u.2.2.1.2.2.2.1, u.2.2.2.1.2.2.1, u.2.2.2.1.2.2.2.1, u.2.2.2.2.1, u.2.2.2.2.2.1) = mkS f128h8_0 f128o8_0 u by kernel_rfl).trans (mkS_un f128h8_0 f128o8_0 s u hu)
def f128u8 : St → Option (List E_u8 × Int × Int × Int × Bool × Int × Bool × List E_s_u8 × List E_Wr) := f128u8_0
def f128e8 : (List E_u8 × Int × Int × Int × Bool × Int × Bool × List E_s_u8 × List E_Wr) → St := f128e8_0
theorem f128un8 : ∀ (s : St) (t : List E_u8 × Int × Int × Int × Bool × Int × Bool × List E_s_u8 × List E_Wr), f128u8 s = some t → f128e8 t = s := f128un8_0
noncomputable def f128P : Lp := fun i s {_R} κ => bif Nat.beq i 8 then (f128u8 s).bind fun t => L_spec_l2Any_8 (fun t => κ (some 1) (f128x8_0 t)) t else none
noncomputable def f128c8 : Code := (loopsOf f128B).getD 0 .skip
theorem f128A8 : C.live 128 (firstRegion f128c8) = some ([0, 2, 3], [0, 2, 3]) := by kernel_rfl
theorem f128B8 {R : Type} (κ : Option Nat → St → Option R) (s : St) : f128P (firstRegion f128c8) s κ = (f128u8 s).bind fun t => iter (S_spec_l2Any_8 (fun t => κ (some 1) (f128x8_0 t))) FUEL t := by kernel_rfl
theorem f128C8 {R : Type} (κ : Option Nat → St → Option R) (again : St → Option R) (t : T_spec_l2Any_8) : stepL C f128K f128P 128 f128c8 [0, 2, 3] [0, 2, 3] κ again (f128e8 t) = S_spec_l2Any_8 (fun t => κ (some 1) (f128x8_0 t)) (fun t => again (f128e8 t)) t := by kernel_rfl
theorem f128ok8 : LoopOk C f128K f128P 128 f128c8 := loop_ok f128A8 f128e8 f128u8 f128un8 (fun {_R} κ => S_spec_l2Any_8 (fun t => κ (some 1) (f128x8_0 t))) (fun {_R} κ s => f128B8 κ s) (fun {_R} κ again t => f128C8 κ again t)
theorem k128 : Contract C Try.prog f128K := contract_tab _ (fun p hp => by
    simp only [List.mem_cons, List.mem_nil_iff, or_false] at hp
    rcases hp with rfl | rfl | rfl | rfl
    · exact ok77
    · exact ok78
    · exact ok166
    · exact ok167)
theorem ev128 (x : List E_u8 × Int × Int) : evalB C f128K f128P 128 Try.f128 f128B ⟨[.p none [(.sl 5 ts_u8), (.int .i64), (.int .i64)] [false, false, false]], [⟨true, [(.sl 27 ts_s_u8), (.sl 155 ts_Wr), (.int .i64), .bool], [true, true, false, false]⟩], false⟩ [(.sl 5 ts_u8), (.int .i64), (.int .i64)] [(.sl 27 ts_s_u8), (.sl 155 ts_Wr), (.int .i64), .bool, (.sl 5 ts_u8), (.int .i64), (.int .i64)] x = F_spec_l2Any x := by kernel_rfl
theorem ok128 : ContractAt C Try.prog 128 F_spec_l2Any := fn_sound (lp := f128P) tok mixed k128 (by kernel_rfl) (fn := Try.f128) (c := f128B) (sg := ⟨[.p none [(.sl 5 ts_u8), (.int .i64), (.int .i64)] [false, false, false]], [⟨true, [(.sl 27 ts_s_u8), (.sl 155 ts_Wr), (.int .i64), .bool], [true, true, false, false]⟩], false⟩) Try.func128 (by decide) (by kernel_rfl) (by kernel_rfl) (by kernel_rfl) (fun c' hc' => by
    rw [show loopsOf f128B = [f128c8] by kernel_rfl] at hc'
    simp only [List.mem_cons, List.mem_nil_iff, or_false] at hc'
    rcases hc' with rfl
    · exact f128ok8) (by decide) (by decide) (fun x y h => (ev128 x).trans h)

/-! ### 56: spec.DrawTailOf -/
abbrev T_spec_DrawTailOf_5 : Type := Int × Int × Int × Bool × List E_u8 × Int × Int × Int × Bool × List E_s_u8 × List E_Wr
noncomputable def S_spec_DrawTailOf_5 {R : Type} (k0 : (Int × Int × Bool × List E_u8 × Int × Int × Int × Bool × List E_s_u8 × List E_Wr) → Option R) (again : T_spec_DrawTailOf_5 → Option R) (t5 : T_spec_DrawTailOf_5) : Option R :=
  bif (decide (t5.2.1 > (0 : Int))) then Option.bind (F_spec_l1Below (t5.2.2.2.2.1, t5.2.2.2.2.2.1, t5.2.2.2.2.2.2.1, (7 : Int))) fun r5 => Option.bind (F_spec_SlotOf (Go.IntKind.wrap .i64 (t5.1 + r5.1))) fun r6 => Option.bind (F_spec_l15Draw (r5.2.1, r5.2.2.1, r5.2.2.2)) fun r7 => Option.bind (F_spec_PutEnt ((Go.IntKind.wrap .i64 (t5.1 + r5.1)), r7.1, r7.2.1, r7.2.2.1, r7.2.2.2.1, r7.2.2.2.2.1)) fun r8 => Option.bind (F_spec_l2Write (t5.2.2.2.2.2.2.2.2.2.1, t5.2.2.2.2.2.2.2.2.2.2, t5.2.2.2.2.2.2.2.1, t5.2.2.2.2.2.2.2.2.1, r6, r8)) fun r9 => again (t5.1, (Go.IntKind.wrap .i64 (t5.2.1 - (1 : Int))), t5.2.2.1, t5.2.2.2.1, r7.2.2.2.2.2.1, r7.2.2.2.2.2.2.1, r7.2.2.2.2.2.2.2, r9.2.2.1, r9.2.2.2, r9.1, r9.2.1) else k0 (t5.1, t5.2.2.1, t5.2.2.2.1, t5.2.2.2.2.1, t5.2.2.2.2.2.1, t5.2.2.2.2.2.2.1, t5.2.2.2.2.2.2.2.1, t5.2.2.2.2.2.2.2.2.1, t5.2.2.2.2.2.2.2.2.2.1, t5.2.2.2.2.2.2.2.2.2.2)
noncomputable def L_spec_DrawTailOf_5 {R : Type} (k0 : (Int × Int × Bool × List E_u8 × Int × Int × Int × Bool × List E_s_u8 × List E_Wr) → Option R) (t : T_spec_DrawTailOf_5) : Option R := iter (S_spec_DrawTailOf_5 k0) FUEL t
noncomputable def F_spec_DrawTailOf (x : List E_u8) : Option (List E_s_u8 × List E_Wr × Int × Bool × Int) :=
  Option.bind (F_spec_l1New x) fun r1 => Option.bind (F_spec_DevNew (60 : Int)) fun r2 => Option.bind (F_spec_l1Below (r1.1, r1.2.1, r1.2.2, (20 : Int))) fun r3 => Option.bind (F_spec_l1Below (r3.2.1, r3.2.2.1, r3.2.2.2, (8 : Int))) fun r4 => L_spec_DrawTailOf_5 (fun x10 => Option.bind (F_spec_l1Once (x10.2.2.2.1, x10.2.2.2.2.1, x10.2.2.2.2.2.1, (8 : Int))) fun r11 => bif r11.1 then Option.bind (F_spec_l2Any (r11.2.1, r11.2.2.1, r11.2.2.2)) fun r12 => some (r12.1, r12.2.1, r12.2.2.1, r12.2.2.2.1, x10.1) else Option.bind (F_spec_l1Int (r11.2.1, r11.2.2.1, r11.2.2.2, ([x10.1, x10.1, x10.1, (Go.IntKind.wrap .i64 (x10.1 + (1 : Int))), (0 : Int), (-1 : Int), (60000 : Int)] : List E_i64))) fun r13 => some (x10.2.2.2.2.2.2.2.2.1, x10.2.2.2.2.2.2.2.2.2, x10.2.2.2.2.2.2.1, x10.2.2.2.2.2.2.2.1, r13.1)) ((Go.IntKind.wrap .i64 ((1 : Int) + r3.1)), r4.1, (0 : Int), false, r4.2.1, r4.2.2.1, r4.2.2.2, r2.2.2.1, r2.2.2.2, r2.1, r2.2.1)
noncomputable def f56B : Code := match Try.f56.body with
  | some c => c
  | none => .skip
noncomputable def f56K : C.Sem := tab [⟨12, F_spec_PutEnt⟩, ⟨50, F_spec_SlotOf⟩, ⟨71, F_spec_l1New⟩, ⟨76, F_spec_l1Once⟩, ⟨77, F_spec_l1Int⟩, ⟨78, F_spec_l1Below⟩, ⟨125, F_spec_DevNew⟩, ⟨126, F_spec_l2Write⟩, ⟨127, F_spec_l15Draw⟩, ⟨128, F_spec_l2Any⟩]
def f56h5_0 : List Sh := [.dead, .dead, .box 2 0, .dead, .box 11500 0, .box 5 0, .v (.int .i64), .v (.int .i64), .dead, .dead, .dead, .dead, .dead, .dead, .dead, .dead, .dead, .dead, .dead, .dead, .dead, .dead, .dead, .dead, .dead, .dead, .dead, .dead, .dead, .dead, .dead, .dead, .dead, .dead, .dead, .dead, .dead, .dead, .dead, .dead, .dead, .dead, .dead, .dead, .dead, .dead, .dead]
def f56o5_0 : List (Nat × OSh) := [(2, .box [.nils, .nils, .v (.int .i64), .v .bool]), (11500, .box [.v (.sl 5 ts_u8), .v (.int .i64), .v (.int .i64)]), (5, .box [.own 10000000, .own 10000001, .v (.int .i64), .v .bool]), (10000000, .root true 27 ts_s_u8), (10000001, .root true 155 ts_Wr)]
def f56e5_0 (t : Int × Int × Int × Bool × List E_u8 × Int × Int × Int × Bool × List E_s_u8 × List E_Wr) : St := ⟨[.dead, .dead, .box 2 0, .dead, .box 11500 0, .box 5 0, .val (.int .i64) t.1, .val (.int .i64) t.2.1, .dead, .dead, .dead, .dead, .dead, .dead, .dead, .dead, .dead, .dead, .dead, .dead, .dead, .dead, .dead, .dead, .dead, .dead, .dead, .dead, .dead, .dead, .dead, .dead, .dead, .dead, .dead, .dead, .dead, .dead, .dead, .dead, .dead, .dead, .dead, .dead, .dead, .dead, .dead], [(2, .box [.nils, .nils, .val (.int .i64) t.2.2.1, .val .bool t.2.2.2.1]), (11500, .box [.val (.sl 5 ts_u8) t.2.2.2.2.1, .val (.int .i64) t.2.2.2.2.2.1, .val (.int .i64) t.2.2.2.2.2.2.1]), (5, .box [.own 10000000, .own 10000001, .val (.int .i64) t.2.2.2.2.2.2.2.1, .val .bool t.2.2.2.2.2.2.2.2.1]), (10000000, .root true 27 ts_s_u8 t.2.2.2.2.2.2.2.2.2.1), (10000001, .root true 155 ts_Wr t.2.2.2.2.2.2.2.2.2.2)]⟩
def f56x5_0 (t : Int × Int × Bool × List E_u8 × Int × Int × Int × Bool × List E_s_u8 × List E_Wr) : St := ⟨[.dead, .dead, .box 2 0, .dead, .box 11500 0, .box 5 0, .val (.int .i64) t.1, .dead, .dead, .dead, .dead, .dead, .dead, .dead, .dead, .dead, .dead, .dead, .dead, .dead, .dead, .dead, .dead, .dead, .dead, .dead, .dead, .dead, .dead, .dead, .dead, .dead, .dead, .dead, .dead, .dead, .dead, .dead, .dead, .dead, .dead, .dead, .dead, .dead, .dead, .dead, .dead], [(2, .box [.nils, .nils, .val (.int .i64) t.2.1, .val .bool t.2.2.1]), (11500, .box [.val (.sl 5 ts_u8) t.2.2.2.1, .val (.int .i64) t.2.2.2.2.1, .val (.int .i64) t.2.2.2.2.2.1]), (5, .box [.own 10000000, .own 10000001, .val (.int .i64) t.2.2.2.2.2.2.1, .val .bool t.2.2.2.2.2.2.2.1]), (10000000, .root true 27 ts_s_u8 t.2.2.2.2.2.2.2.2.1), (10000001, .root true 155 ts_Wr t.2.2.2.2.2.2.2.2.2)]⟩
def f56u5_0 (s : St) : Option (Int × Int × Int × Bool × List E_u8 × Int × Int × Int × Bool × List E_s_u8 × List E_Wr) := (unS f56h5_0 f56o5_0 s).map fun v => (v.1.2.2.2.2.2.2.1, v.1.2.2.2.2.2.2.2.1, v.2.1.2.2.1, v.2.1.2.2.2.1, v.2.2.1.1, v.2.2.1.2.1, v.2.2.1.2.2.1, v.2.2.2.1.2.2.1, v.2.2.2.1.2.2.2.1, v.2.2.2.2.1, v.2.2.2.2.2.1)
theorem f56un5_0 : ∀ (s : St) (t : Int × Int × Int × Bool × List E_u8 × Int × Int × Int × Bool × List E_s_u8 × List E_Wr), f56u5_0 s = some t → f56e5_0 t = s := fun s v h => by
  obtain ⟨u, hu, rfl⟩ := Option.map_eq_some_iff.1 h
  exact (show f56e5_0 (u.1.2.2.2.2.2.2.1, u.1.2.2.2.2.2.2.2.1, u.2.1.2.2.1, u.2.1.2.2.2.1, u.2.2.1.1, u.2.2.1.2.1, u.2.2.1.2.2.1, u.2.2.2.1.2.2.1, u.2.2.2.1.2.2.2.1, u.2.2.2.2.1, u.2.2.2.2.2.1) = mkS f56h5_0 f56o5_0 u by kernel_rfl).trans (mkS_un f56h5_0 f56o5_0 s u hu)
def f56u5 : St → Option (Int × Int × Int × Bool × List E_u8 × Int × Int × Int × Bool × List E_s_u8 × List E_Wr) := f56u5_0
def f56e5 : (Int × Int × Int × Bool × List E_u8 × Int × Int × Int × Bool × List E_s_u8 × List E_Wr) → St := f56e5_0
theorem f56un5 : ∀ (s : St) (t : Int × Int × Int × Bool × List E_u8 × Int × Int × Int × Bool × List E_s_u8 × List E_Wr), f56u5 s = some t → f56e5 t = s := f56un5_0
noncomputable def f56P : Lp := fun i s {_R} κ => bif Nat.beq i 5 then (f56u5 s).bind fun t => L_spec_DrawTailOf_5 (fun t => κ (some 0) (f56x5_0 t)) t else none
noncomputable def f56c5 : Code := (loopsOf f56B).getD 0 .skip
theorem f56A5 : C.live 56 (firstRegion f56c5) = some ([2, 4, 5, 6, 7], [2, 4, 5, 6]) := by kernel_rfl
theorem f56B5 {R : Type} (κ : Option Nat → St → Option R) (s : St) : f56P (firstRegion f56c5) s κ = (f56u5 s).bind fun t => iter (S_spec_DrawTailOf_5 (fun t => κ (some 0) (f56x5_0 t))) FUEL t := by kernel_rfl
theorem f56C5 {R : Type} (κ : Option Nat → St → Option R) (again : St → Option R) (t : T_spec_DrawTailOf_5) : stepL C f56K f56P 56 f56c5 [2, 4, 5, 6, 7] [2, 4, 5, 6] κ again (f56e5 t) = S_spec_DrawTailOf_5 (fun t => κ (some 0) (f56x5_0 t)) (fun t => again (f56e5 t)) t := by kernel_rfl
theorem f56ok5 : LoopOk C f56K f56P 56 f56c5 := loop_ok f56A5 f56e5 f56u5 f56un5 (fun {_R} κ => S_spec_DrawTailOf_5 (fun t => κ (some 0) (f56x5_0 t))) (fun {_R} κ s => f56B5 κ s) (fun {_R} κ again t => f56C5 κ again t)
theorem k56 : Contract C Try.prog f56K := contract_tab _ (fun p hp => by
    simp only [List.mem_cons, List.mem_nil_iff, or_false] at hp
    rcases hp with rfl | rfl | rfl | rfl | rfl | rfl | rfl | rfl | rfl | rfl
    · exact ok12
    · exact ok50
    · exact ok71
    · exact ok76
    · exact ok77
    · exact ok78
    · exact ok125
    · exact ok126
    · exact ok127
    · exact ok128)
theorem ev56 (x : List E_u8) : evalB C f56K f56P 56 Try.f56 f56B ⟨[.v false [(.sl 5 ts_u8)] [false]], [⟨true, [(.sl 27 ts_s_u8), (.sl 155 ts_Wr), (.int .i64), .bool], [true, true, false, false]⟩, ⟨false, [(.int .i64)], [false]⟩], false⟩ [(.sl 5 ts_u8)] [(.sl 27 ts_s_u8), (.sl 155 ts_Wr), (.int .i64), .bool, (.int .i64)] x = F_spec_DrawTailOf x := by kernel_rfl
theorem ok56 : ContractAt C Try.prog 56 F_spec_DrawTailOf := fn_sound (lp := f56P) tok mixed k56 (by kernel_rfl) (fn := Try.f56) (c := f56B) (sg := ⟨[.v false [(.sl 5 ts_u8)] [false]], [⟨true, [(.sl 27 ts_s_u8), (.sl 155 ts_Wr), (.int .i64), .bool], [true, true, false, false]⟩, ⟨false, [(.int .i64)], [false]⟩], false⟩) Try.func56 (by decide) (by kernel_rfl) (by kernel_rfl) (by kernel_rfl) (fun c' hc' => by
    rw [show loopsOf f56B = [f56c5] by kernel_rfl] at hc'
    simp only [List.mem_cons, List.mem_nil_iff, or_false] at hc'
    rcases hc' with rfl
    · exact f56ok5) (by decide) (by decide) (fun x y h => (ev56 x).trans h)

/-! ### 103: impl.DevOk -/
abbrev T_impl_DevOk_4 : Type := List E_s_u8 × Int × Int × List E_s_u8 × List E_Wr × Int × Bool
noncomputable def S_impl_DevOk_4 {R : Type} (k0 : (Bool × List E_s_u8 × List E_Wr × Int × Bool) → Option R) (k1 : (List E_s_u8 × List E_Wr × Int × Bool) → Option R) (again : T_impl_DevOk_4 → Option R) (t4 : T_impl_DevOk_4) : Option R :=
  bif (decide (t4.2.2.1 < t4.2.1)) then if (0 : Int) ≤ t4.2.2.1 then if t4.2.2.1 < ((List.length t4.1 : Nat) : Int) then bif (decide (((List.length (rd_s_u8 t4.1 t4.2.2.1) : Nat) : Int) > (80 : Int))) then k0 (false, t4.2.2.2.1, t4.2.2.2.2.1, t4.2.2.2.2.2.1, t4.2.2.2.2.2.2) else again (t4.1, t4.2.1, (Go.IntKind.wrap .i64 (t4.2.2.1 + (1 : Int))), t4.2.2.2.1, t4.2.2.2.2.1, t4.2.2.2.2.2.1, t4.2.2.2.2.2.2) else none else none else k1 (t4.2.2.2.1, t4.2.2.2.2.1, t4.2.2.2.2.2.1, t4.2.2.2.2.2.2)
noncomputable def L_impl_DevOk_4 {R : Type} (k0 : (Bool × List E_s_u8 × List E_Wr × Int × Bool) → Option R) (k1 : (List E_s_u8 × List E_Wr × Int × Bool) → Option R) (t : T_impl_DevOk_4) : Option R := iter (S_impl_DevOk_4 k0 k1) FUEL t
abbrev T_impl_DevOk_10 : Type := List E_Wr × Int × Int × List E_s_u8 × List E_Wr × Int × Bool
noncomputable def S_impl_DevOk_10 {R : Type} (k0 : Bool → Option R) (k1 : Unit → Option R) (again : T_impl_DevOk_10 → Option R) (t10 : T_impl_DevOk_10) : Option R :=
  bif (decide (t10.2.2.1 < t10.2.1)) then if (0 : Int) ≤ t10.2.2.1 then if t10.2.2.1 < ((List.length t10.1 : Nat) : Int) then Option.bind (F_impl_within ((rd_Wr t10.1 t10.2.2.1).1, (0 : Int), (Go.IntKind.wrap .i64 (((List.length t10.2.2.2.1 : Nat) : Int) - (1 : Int))))) fun r7 => Option.bind (bif (!r7) then some true else some (decide (((List.length ((rd_Wr t10.1 t10.2.2.1).2) : Nat) : Int) > (80 : Int)))) fun u8 => bif u8 then k0 false else again (t10.1, t10.2.1, (Go.IntKind.wrap .i64 (t10.2.2.1 + (1 : Int))), t10.2.2.2.1, t10.2.2.2.2.1, t10.2.2.2.2.2.1, t10.2.2.2.2.2.2) else none else none else k1 ()
noncomputable def L_impl_DevOk_10 {R : Type} (k0 : Bool → Option R) (k1 : Unit → Option R) (t : T_impl_DevOk_10) : Option R := iter (S_impl_DevOk_10 k0 k1) FUEL t
noncomputable def F_impl_DevOk (x : List E_s_u8 × List E_Wr × Int × Bool) : Option (Bool) :=
  Option.bind (F_impl_within (((List.length x.1 : Nat) : Int), (1 : Int), (60 : Int))) fun r1 => Option.bind (bif (!r1) then some true else some (decide (((List.length x.2.1 : Nat) : Int) > (60 : Int)))) fun u2 => Option.bind (bif u2 then some true else Option.bind (F_impl_within (x.2.2.1, (-1 : Int), (1000 : Int))) fun r4 => some (!r4)) fun u3 => bif u3 then some false else L_impl_DevOk_4 (fun x5 => some x5.1) (fun x6 => L_impl_DevOk_10 (fun x9 => some x9) (fun x10 => some true) (x6.2.1, ((List.length x6.2.1 : Nat) : Int), (0 : Int), x6.1, x6.2.1, x6.2.2.1, x6.2.2.2)) (x.1, ((List.length x.1 : Nat) : Int), (0 : Int), x.1, x.2.1, x.2.2.1, x.2.2.2)
noncomputable def f103B : Code := match Try.f103.body with
  | some c => c
  | none => .skip
noncomputable def f103K : C.Sem := tab [⟨85, F_impl_within⟩]
def f103h4_0 : List Sh := [.dead, .box 1 0, .dead, .dead, .dead, .dead, .dead, .dead, .dead, .dead, .dead, .dead, .dead, .dead, .dead, .dead, .dead, .dead, .dead, .dead, .dead, .dead, .dead, .dead, .dead, .v (.sl 27 ts_s_u8), .v (.int .i64), .v (.int .i64), .dead, .dead, .dead, .dead, .dead, .dead, .dead, .dead, .dead, .dead, .dead, .dead, .dead, .dead, .dead, .dead, .dead, .dead, .dead, .dead, .dead, .dead, .dead, .dead, .dead, .dead, .dead, .dead, .dead]
def f103o4_0 : List (Nat × OSh) := [(1, .box [.v (.sl 27 ts_s_u8), .v (.sl 155 ts_Wr), .v (.int .i64), .v .bool])]
def f103e4_0 (t : List E_s_u8 × Int × Int × List E_s_u8 × List E_Wr × Int × Bool) : St := ⟨[.dead, .box 1 0, .dead, .dead, .dead, .dead, .dead, .dead, .dead, .dead, .dead, .dead, .dead, .dead, .dead, .dead, .dead, .dead, .dead, .dead, .dead, .dead, .dead, .dead, .dead, .val (.sl 27 ts_s_u8) t.1, .val (.int .i64) t.2.1, .val (.int .i64) t.2.2.1, .dead, .dead, .dead, .dead, .dead, .dead, .dead, .dead, .dead, .dead, .dead, .dead, .dead, .dead, .dead, .dead, .dead, .dead, .dead, .dead, .dead, .dead, .dead, .dead, .dead, .dead, .dead, .dead, .dead], [(1, .box [.val (.sl 27 ts_s_u8) t.2.2.2.1, .val (.sl 155 ts_Wr) t.2.2.2.2.1, .val (.int .i64) t.2.2.2.2.2.1, .val .bool t.2.2.2.2.2.2])]⟩
def f103x4_0 (t : Bool × List E_s_u8 × List E_Wr × Int × Bool) : St := ⟨[.dead, .box 1 0, .val .bool t.1, .dead, .dead, .dead, .dead, .dead, .dead, .dead, .dead, .dead, .dead, .dead, .dead, .dead, .dead, .dead, .dead, .dead, .dead, .dead, .dead, .dead, .dead, .dead, .dead, .dead, .dead, .dead, .dead, .dead, .dead, .dead, .dead, .dead, .dead, .dead, .dead, .dead, .dead, .dead, .dead, .dead, .dead, .dead, .dead, .dead, .dead, .dead, .dead, .dead, .dead, .dead, .dead, .dead, .dead], [(1, .box [.val (.sl 27 ts_s_u8) t.2.1, .val (.sl 155 ts_Wr) t.2.2.1, .val (.int .i64) t.2.2.2.1, .val .bool t.2.2.2.2])]⟩
def f103x4_1 (t : List E_s_u8 × List E_Wr × Int × Bool) : St := ⟨[.dead, .box 1 0, .dead, .dead, .dead, .dead, .dead, .dead, .dead, .dead, .dead, .dead, .dead, .dead, .dead, .dead, .dead, .dead, .dead, .dead, .dead, .dead, .dead, .dead, .dead, .dead, .dead, .dead, .dead, .dead, .dead, .dead, .dead, .dead, .dead, .dead, .dead, .dead, .dead, .dead, .dead, .dead, .dead, .dead, .dead, .dead, .dead, .dead, .dead, .dead, .dead, .dead, .dead, .dead, .dead, .dead, .dead], [(1, .box [.val (.sl 27 ts_s_u8) t.1, .val (.sl 155 ts_Wr) t.2.1, .val (.int .i64) t.2.2.1, .val .bool t.2.2.2])]⟩
def f103u4_0 (s : St) : Option (List E_s_u8 × Int × Int × List E_s_u8 × List E_Wr × Int × Bool) := (unS f103h4_0 f103o4_0 s).map fun v => (v.1.2.2.2.2.2.2.2.2.2.2.2.2.2.2.2.2.2.2.2.2.2.2.2.2.2.1, v.1.2.2.2.2.2.2.2.2.2.2.2.2.2.2.2.2.2.2.2.2.2.2.2.2.2.2.1, v.1.2.2.2.2.2.2.2.2.2.2.2.2.2.2.2.2.2.2.2.2.2.2.2.2.2.2.2.1, v.2.1.1, v.2.1.2.1, v.2.1.2.2.1, v.2.1.2.2.2.1)
theorem f103un4_0 : ∀ (s : St) (t : List E_s_u8 × Int × Int × List E_s_u8 × List E_Wr × Int × Bool), f103u4_0 s = some t → f103e4_0 t = s := fun s v h => by
  obtain ⟨u, hu, rfl⟩ := Option.map_eq_some_iff.1 h
  exact (show f103e4_0 (u.1.2.2.2.2.2.2.2.2.2.2.2.2.2.2.2.2.2.2.2.2.2.2.2.2.2.1, u.1.2.2.2.2.2.2.2.2.2.2.2.2.2.2.2.2.2.2.2.2.2.2.2.2.2.2.1, u.1.2.2.2.2.2.2.2.2.2.2.2.2.2.2.2.2.2.2.2.2.2.2.2.2.2.2.2.1, u.2.1.1, u.2.1.2.1, u.2.1.2.2.1, u.2.1.2.2.2.1) = mkS f103h4_0 f103o4_0 u by kernel_rfl).trans (mkS_un f103h4_0 f103o4_0 s u hu)
def f103u4 : St → Option (List E_s_u8 × Int × Int × List E_s_u8 × List E_Wr × Int × Bool) := f103u4_0
def f103e4 : (List E_s_u8 × Int × Int × List E_s_u8 × List E_Wr × Int × Bool) → St := f103e4_0
theorem f103un4 : ∀ (s : St) (t : List E_s_u8 × Int × Int × List E_s_u8 × List E_Wr × Int × Bool), f103u4 s = some t → f103e4 t = s := f103un4_0
def f103h10_0 : List Sh := [.dead, .box 1 0, .dead, .dead, .dead, .dead, .dead, .dead, .dead, .dead, .dead, .dead, .dead, .dead, .dead, .dead, .dead, .dead, .dead, .dead, .dead, .dead, .dead, .dead, .dead, .dead, .dead, .dead, .dead, .dead, .dead, .dead, .dead, .dead, .dead, .dead, .v (.sl 155 ts_Wr), .v (.int .i64), .v (.int .i64), .dead, .dead, .dead, .dead, .dead, .dead, .dead, .dead, .dead, .dead, .dead, .dead, .dead, .dead, .dead, .dead, .dead, .dead]
def f103o10_0 : List (Nat × OSh) := [(1, .box [.v (.sl 27 ts_s_u8), .v (.sl 155 ts_Wr), .v (.int .i64), .v .bool])]
def f103e10_0 (t : List E_Wr × Int × Int × List E_s_u8 × List E_Wr × Int × Bool) : St := ⟨[.dead, .box 1 0, .dead, .dead, .dead, .dead, .dead, .dead, .dead, .dead, .dead, .dead, .dead, .dead, .dead, .dead, .dead, .dead, .dead, .dead, .dead, .dead, .dead, .dead, .dead, .dead, .dead, .dead, .dead, .dead, .dead, .dead, .dead, .dead, .dead, .dead, .val (.sl 155 ts_Wr) t.1, .val (.int .i64) t.2.1, .val (.int .i64) t.2.2.1, .dead, .dead, .dead, .dead, .dead, .dead, .dead, .dead, .dead, .dead, .dead, .dead, .dead, .dead, .dead, .dead, .dead, .dead], [(1, .box [.val (.sl 27 ts_s_u8) t.2.2.2.1, .val (.sl 155 ts_Wr) t.2.2.2.2.1, .val (.int .i64) t.2.2.2.2.2.1, .val .bool t.2.2.2.2.2.2])]⟩
def f103x10_0 (t : Bool) : St := ⟨[.dead, .dead, .val .bool t, .dead, .dead, .dead, .dead, .dead, .dead, .dead, .dead, .dead, .dead, .dead, .dead, .dead, .dead, .dead, .dead, .dead, .dead, .dead, .dead, .dead, .dead, .dead, .dead, .dead, .dead, .dead, .dead, .dead, .dead, .dead, .dead, .dead, .dead, .dead, .dead, .dead, .dead, .dead, .dead, .dead, .dead, .dead, .dead, .dead, .dead, .dead, .dead, .dead, .dead, .dead, .dead, .dead, .dead], []⟩
def f103x10_1 (t : Unit) : St := ⟨[.dead, .dead, .dead, .dead, .dead, .dead, .dead, .dead, .dead, .dead, .dead, .dead, .dead, .dead, .dead, .dead, .dead, .dead, .dead, .dead, .dead, .dead, .dead, .dead, .dead, .dead, .dead, .dead, .dead, .dead, .dead, .dead, .dead, .dead, .dead, .dead, .dead, .dead, .dead, .dead, .dead, .dead, .dead, .dead, .dead, .dead, .dead, .dead, .dead, .dead, .dead, .dead, .dead, .dead, .dead, .dead, .dead], []⟩
def f103u10_0 (s : St) : Option (List E_Wr × Int × Int × List E_s_u8 × List E_Wr × Int × Bool) := (unS f103h10_0 f103o10_0 s).map fun v => (v.1.2.2.2.2.2.2.2.2.2.2.2.2.2.2.2.2.2.2.2.2.2.2.2.2.2.2.2.2.2.2.2.2.2.2.2.2.1, v.1.2.2.2.2.2.2.2.2.2.2.2.2.2.2.2.2.2.2.2.2.2.2.2.2.2.2.2.2.2.2.2.2.2.2.2.2.2.1, v.1.2.2.2.2.2.2.2.2.2.2.2.2.2.2.2.2.2.2.2.2.2.2.2.2.2.2.2.2.2.2.2.2.2.2.2.2.2.2.1, v.2.1.1, v.2.1.2.1, v.2.1.2.2.1, v.2.1.2.2.2.1)
theorem f103un10_0 : ∀ (s : St) (t : List E_Wr × Int × Int × List E_s_u8 × List E_Wr × Int × Bool), f103u10_0 s = some t → f103e10_0 t = s := fun s v h => by
  obtain ⟨u, hu, rfl⟩ := Option.map_eq_some_iff.1 h
  exact (show f103e10_0 (u.1.2.2.2.2.2.2.2.2.2.2.2.2.2.2.2.2.2.2.2.2.2.2.2.2.2.2.2.2.2.2.2.2.2.2.2.2.1, u.1.2.2.2.2.2.2.2.2.2.2.2.2.2.2.2.2.2.2.2.2.2.2.2.2.2.2.2.2.2.2.2.2.2.2.2.2.2.1, u.1.2.2.2.2.2.2.2.2.2.2.2.2.2.2.2.2.2.2.2.2.2.2.2.2.2.2.2.2.2.2.2.2.2.2.2.2.2.2.1, u.2.1.1, u.2.1.2.1, u.2.1.2.2.1, u.2.1.2.2.2.1) = mkS f103h10_0 f103o10_0 u by kernel_rfl).trans (mkS_un f103h10_0 f103o10_0 s u hu)
def f103u10 : St → Option (List E_Wr × Int × Int × List E_s_u8 × List E_Wr × Int × Bool) := f103u10_0
def f103e10 : (List E_Wr × Int × Int × List E_s_u8 × List E_Wr × Int × Bool) → St := f103e10_0
theorem f103un10 : ∀ (s : St) (t : List E_Wr × Int × Int × List E_s_u8 × List E_Wr × Int × Bool), f103u10 s = some t → f103e10 t = s := f103un10_0
noncomputable def f103P : Lp := fun i s {_R} κ => bif Nat.beq i 10 then (f103u10 s).bind fun t => L_impl_DevOk_10 (fun t => κ (none) (f103x10_0 t)) (fun t => κ (some 2) (f103x10_1 t)) t else bif Nat.beq i 4 then (f103u4 s).bind fun t => L_impl_DevOk_4 (fun t => κ (none) (f103x4_0 t)) (fun t => κ (some 0) (f103x4_1 t)) t else none
noncomputable def f103c4 : Code := (loopsOf f103B).getD 0 .skip
theorem f103A4 : C.live 103 (firstRegion f103c4) = some ([1, 25, 26, 27, 51, 52, 53, 54], [1, 2, 51, 52, 53, 54]) := by kernel_rfl
theorem f103B4 {R : Type} (κ : Option Nat → St → Option R) (s : St) : f103P (firstRegion f103c4) s κ = (f103u4 s).bind fun t => iter (S_impl_DevOk_4 (fun t => κ (none) (f103x4_0 t)) (fun t => κ (some 0) (f103x4_1 t))) FUEL t := by kernel_rfl
theorem f103C4 {R : Type} (κ : Option Nat → St → Option R) (again : St → Option R) (t : T_impl_DevOk_4) : stepL C f103K f103P 103 f103c4 [1, 25, 26, 27, 51, 52, 53, 54] [1, 2, 51, 52, 53, 54] κ again (f103e4 t) = S_impl_DevOk_4 (fun t => κ (none) (f103x4_0 t)) (fun t => κ (some 0) (f103x4_1 t)) (fun t => again (f103e4 t)) t := by kernel_rfl
theorem f103ok4 : LoopOk C f103K f103P 103 f103c4 := loop_ok f103A4 f103e4 f103u4 f103un4 (fun {_R} κ => S_impl_DevOk_4 (fun t => κ (none) (f103x4_0 t)) (fun t => κ (some 0) (f103x4_1 t))) (fun {_R} κ s => f103B4 κ s) (fun {_R} κ again t => f103C4 κ again t)
noncomputable def f103c10 : Code := (loopsOf f103B).getD 1 .skip
theorem f103A10 : C.live 103 (firstRegion f103c10) = some ([1, 36, 37, 38, 51, 52, 53, 54], [2]) := by kernel_rfl
theorem f103B10 {R : Type} (κ : Option Nat → St → Option R) (s : St) : f103P (firstRegion f103c10) s κ = (f103u10 s).bind fun t => iter (S_impl_DevOk_10 (fun t => κ (none) (f103x10_0 t)) (fun t => κ (some 2) (f103x10_1 t))) FUEL t := by kernel_rfl
theorem f103C10 {R : Type} (κ : Option Nat → St → Option R) (again : St → Option R) (t : T_impl_DevOk_10) : stepL C f103K f103P 103 f103c10 [1, 36, 37, 38, 51, 52, 53, 54] [2] κ again (f103e10 t) = S_impl_DevOk_10 (fun t => κ (none) (f103x10_0 t)) (fun t => κ (some 2) (f103x10_1 t)) (fun t => again (f103e10 t)) t := by kernel_rfl
theorem f103ok10 : LoopOk C f103K f103P 103 f103c10 := loop_ok f103A10 f103e10 f103u10 f103un10 (fun {_R} κ => S_impl_DevOk_10 (fun t => κ (none) (f103x10_0 t)) (fun t => κ (some 2) (f103x10_1 t))) (fun {_R} κ s => f103B10 κ s) (fun {_R} κ again t => f103C10 κ again t)
theorem k103 : Contract C Try.prog f103K := contract_tab _ (fun p hp => by
    simp only [List.mem_cons, List.mem_nil_iff, or_false] at hp
    rcases hp with rfl
    · exact ok85)
theorem ev103 (x : List E_s_u8 × List E_Wr × Int × Bool) : evalB C f103K f103P 103 Try.f103 f103B ⟨[.v true [(.sl 27 ts_s_u8), (.sl 155 ts_Wr), (.int .i64), .bool] [false, false, false, false]], [⟨false, [.bool], [false]⟩], false⟩ [(.sl 27 ts_s_u8), (.sl 155 ts_Wr), (.int .i64), .bool] [.bool] x = F_impl_DevOk x := by kernel_rfl
theorem ok103 : ContractAt C Try.prog 103 F_impl_DevOk := fn_sound (lp := f103P) tok mixed k103 (by kernel_rfl) (fn := Try.f103) (c := f103B) (sg := ⟨[.v true [(.sl 27 ts_s_u8), (.sl 155 ts_Wr), (.int .i64), .bool] [false, false, false, false]], [⟨false, [.bool], [false]⟩], false⟩) Try.func103 (by decide) (by kernel_rfl) (by kernel_rfl) (by kernel_rfl) (fun c' hc' => by
    rw [show loopsOf f103B = [f103c4, f103c10] by kernel_rfl] at hc'
    simp only [List.mem_cons, List.mem_nil_iff, or_false] at hc'
    rcases hc' with rfl | rfl
    · exact f103ok4
    · exact f103ok10) (by decide) (by decide) (fun x y h => (ev103 x).trans h)

/-! ### 129: impl.joined -/
abbrev T_impl_joined_3 : Type := List E_s_u8 × Int × Int × List E_u8
noncomputable def S_impl_joined_3 {R : Type} (k0 : List E_u8 → Option R) (again : T_impl_joined_3 → Option R) (t3 : T_impl_joined_3) : Option R :=
  bif (decide (t3.2.2.1 < t3.2.1)) then if (0 : Int) ≤ t3.2.2.1 then if t3.2.2.1 < ((List.length t3.1 : Nat) : Int) then if (List.length t3.2.2.2 + List.length (rd_s_u8 t3.1 t3.2.2.1)) * 1 < 140737488355328 then again (t3.1, t3.2.1, (Go.IntKind.wrap .i64 (t3.2.2.1 + (1 : Int))), (t3.2.2.2 ++ (rd_s_u8 t3.1 t3.2.2.1))) else none else none else none else k0 t3.2.2.2
noncomputable def L_impl_joined_3 {R : Type} (k0 : List E_u8 → Option R) (t : T_impl_joined_3) : Option R := iter (S_impl_joined_3 k0) FUEL t
noncomputable def F_impl_joined (x : List E_s_u8) : Option (List E_u8) :=
  L_impl_joined_3 (fun x1 => some x1) (x, ((List.length x : Nat) : Int), (0 : Int), ([] : List E_u8))
noncomputable def f129B : Code := match Try.f129.body with
  | some c => c
  | none => .skip
noncomputable def f129K : C.Sem := tab []
def f129h3_0 : List Sh := [.dead, .dead, .dead, .own 10000000, .dead, .dead, .dead, .v (.sl 27 ts_s_u8), .v (.int .i64), .v (.int .i64), .dead, .dead, .dead, .dead, .dead, .dead, .dead, .dead]
def f129o3_0 : List (Nat × OSh) := [(10000000, .root true 5 ts_u8)]
def f129e3_0 (t : List E_s_u8 × Int × Int × List E_u8) : St := ⟨[.dead, .dead, .dead, .own 10000000, .dead, .dead, .dead, .val (.sl 27 ts_s_u8) t.1, .val (.int .i64) t.2.1, .val (.int .i64) t.2.2.1, .dead, .dead, .dead, .dead, .dead, .dead, .dead, .dead], [(10000000, .root true 5 ts_u8 t.2.2.2)]⟩
def f129x3_0 (t : List E_u8) : St := ⟨[.dead, .dead, .dead, .own 10000000, .dead, .dead, .dead, .dead, .dead, .dead, .dead, .dead, .dead, .dead, .dead, .dead, .dead, .dead], [(10000000, .root true 5 ts_u8 t)]⟩
def f129u3_0 (s : St) : Option (List E_s_u8 × Int × Int × List E_u8) := (unS f129h3_0 f129o3_0 s).map fun v => (v.1.2.2.2.2.2.2.2.1, v.1.2.2.2.2.2.2.2.2.1, v.1.2.2.2.2.2.2.2.2.2.1, v.2.1)
theorem f129un3_0 : ∀ (s : St) (t : List E_s_u8 × Int × Int × List E_u8), f129u3_0 s = some t → f129e3_0 t = s := fun s v h => by
  obtain ⟨u, hu, rfl⟩ := Option.map_eq_some_iff.1 h
  exact (show f129e3_0 (u.1.2.2.2.2.2.2.2.1, u.1.2.2.2.2.2.2.2.2.1, u.1.2.2.2.2.2.2.2.2.2.1, u.2.1) = mkS f129h3_0 f129o3_0 u by kernel_rfl).trans (mkS_un f129h3_0 f129o3_0 s u hu)
def f129u3 : St → Option (List E_s_u8 × Int × Int × List E_u8) := f129u3_0
def f129e3 : (List E_s_u8 × Int × Int × List E_u8) → St := f129e3_0
theorem f129un3 : ∀ (s : St) (t : List E_s_u8 × Int × Int × List E_u8), f129u3 s = some t → f129e3 t = s := f129un3_0
noncomputable def f129P : Lp := fun i s {_R} κ => bif Nat.beq i 3 then (f129u3 s).bind fun t => L_impl_joined_3 (fun t => κ (some 0) (f129x3_0 t)) t else none
noncomputable def f129c3 : Code := (loopsOf f129B).getD 0 .skip
theorem f129A3 : C.live 129 (firstRegion f129c3) = some ([3, 7, 8, 9], [3]) := by kernel_rfl
theorem f129B3 {R : Type} (κ : Option Nat → St → Option R) (s : St) : f129P (firstRegion f129c3) s κ = (f129u3 s).bind fun t => iter (S_impl_joined_3 (fun t => κ (some 0) (f129x3_0 t))) FUEL t := by kernel_rfl
theorem f129C3 {R : Type} (κ : Option Nat → St → Option R) (again : St → Option R) (t : T_impl_joined_3) : stepL C f129K f129P 129 f129c3 [3, 7, 8, 9] [3] κ again (f129e3 t) = S_impl_joined_3 (fun t => κ (some 0) (f129x3_0 t)) (fun t => again (f129e3 t)) t := by kernel_rfl
theorem f129ok3 : LoopOk C f129K f129P 129 f129c3 := loop_ok f129A3 f129e3 f129u3 f129un3 (fun {_R} κ => S_impl_joined_3 (fun t => κ (some 0) (f129x3_0 t))) (fun {_R} κ s => f129B3 κ s) (fun {_R} κ again t => f129C3 κ again t)
theorem k129 : Contract C Try.prog f129K := contract_tab _ (fun p hp => by cases hp)
theorem ev129 (x : List E_s_u8) : evalB C f129K f129P 129 Try.f129 f129B ⟨[.v false [(.sl 27 ts_s_u8)] [false]], [⟨false, [(.sl 5 ts_u8)], [true]⟩], false⟩ [(.sl 27 ts_s_u8)] [(.sl 5 ts_u8)] x = F_impl_joined x := by kernel_rfl
theorem ok129 : ContractAt C Try.prog 129 F_impl_joined := fn_sound (lp := f129P) tok mixed k129 (by kernel_rfl) (fn := Try.f129) (c := f129B) (sg := ⟨[.v false [(.sl 27 ts_s_u8)] [false]], [⟨false, [(.sl 5 ts_u8)], [true]⟩], false⟩) Try.func129 (by decide) (by kernel_rfl) (by kernel_rfl) (by kernel_rfl) (fun c' hc' => by
    rw [show loopsOf f129B = [f129c3] by kernel_rfl] at hc'
    simp only [List.mem_cons, List.mem_nil_iff, or_false] at hc'
    rcases hc' with rfl
    · exact f129ok3) (by decide) (by decide) (fun x y h => (ev129 x).trans h)

/-! ### 58: impl.ReadSec -/
abbrev T_impl_ReadSec_4 : Type := Int × Int × List E_s_u8 × List E_Wr × Int × Bool
noncomputable def S_impl_ReadSec_4 {R : Type} (k0 : (Int × List E_s_u8 × List E_Wr × Int × Bool × List E_u8) → Option R) (k1 : (Int × List E_s_u8 × List E_Wr × Int × Bool) → Option R) (again : T_impl_ReadSec_4 → Option R) (t4 : T_impl_ReadSec_4) : Option R :=
  bif (decide (t4.2.1 ≥ (0 : Int))) then if (0 : Int) ≤ t4.2.1 then if t4.2.1 < ((List.length t4.2.2.2.1 : Nat) : Int) then bif ((rd_Wr t4.2.2.2.1 t4.2.1).1 == t4.1) then if (0 : Int) ≤ t4.2.1 then if t4.2.1 < ((List.length t4.2.2.2.1 : Nat) : Int) then Option.bind (F_impl_joined ([(rd_Wr t4.2.2.2.1 t4.2.1).2] : List E_s_u8)) fun r4 => k0 (t4.1, t4.2.2.1, t4.2.2.2.1, t4.2.2.2.2.1, t4.2.2.2.2.2, r4) else none else none else again (t4.1, (Go.IntKind.wrap .i64 (t4.2.1 - (1 : Int))), t4.2.2.1, t4.2.2.2.1, t4.2.2.2.2.1, t4.2.2.2.2.2) else none else none else k1 (t4.1, t4.2.2.1, t4.2.2.2.1, t4.2.2.2.2.1, t4.2.2.2.2.2)
noncomputable def L_impl_ReadSec_4 {R : Type} (k0 : (Int × List E_s_u8 × List E_Wr × Int × Bool × List E_u8) → Option R) (k1 : (Int × List E_s_u8 × List E_Wr × Int × Bool) → Option R) (t : T_impl_ReadSec_4) : Option R := iter (S_impl_ReadSec_4 k0 k1) FUEL t
noncomputable def F_impl_ReadSec (x : List E_s_u8 × List E_Wr × Int × Bool × Int) : Option (List E_u8) :=
  Option.bind (F_impl_DevOk (x.1, x.2.1, x.2.2.1, x.2.2.2.1)) fun r1 => Option.bind (bif (!r1) then some true else Option.bind (F_impl_within (x.2.2.2.2, (0 : Int), (Go.IntKind.wrap .i64 (((List.length x.1 : Nat) : Int) - (1 : Int))))) fun r3 => some (!r3)) fun u2 => bif u2 then some ([] : List E_u8) else L_impl_ReadSec_4 (fun x5 => some x5.2.2.2.2.2) (fun x6 => if (0 : Int) ≤ x6.1 then if x6.1 < ((List.length x6.2.1 : Nat) : Int) then Option.bind (F_impl_joined ([(rd_s_u8 x6.2.1 x6.1)] : List E_s_u8)) fun r7 => some r7 else none else none) (x.2.2.2.2, (Go.IntKind.wrap .i64 (((List.length x.2.1 : Nat) : Int) - (1 : Int))), x.1, x.2.1, x.2.2.1, x.2.2.2.1)
noncomputable def f58B : Code := match Try.f58.body with
  | some c => c
  | none => .skip
noncomputable def f58K : C.Sem := tab [⟨85, F_impl_within⟩, ⟨103, F_impl_DevOk⟩, ⟨129, F_impl_joined⟩]
def f58h4_0 : List Sh := [.dead, .v (.int .i64), .box 2 0, .dead, .dead, .v (.int .i64), .dead, .dead, .dead, .dead, .dead, .dead, .dead, .dead, .dead, .dead, .dead, .dead, .dead, .dead, .dead, .dead, .dead, .dead, .dead, .dead, .dead, .dead, .dead, .dead, .dead, .dead, .dead, .dead, .dead, .dead, .dead, .dead, .dead, .dead, .dead, .dead, .dead, .dead, .dead, .dead, .dead, .dead, .dead]
def f58o4_0 : List (Nat × OSh) := [(2, .box [.v (.sl 27 ts_s_u8), .v (.sl 155 ts_Wr), .v (.int .i64), .v .bool])]
def f58e4_0 (t : Int × Int × List E_s_u8 × List E_Wr × Int × Bool) : St := ⟨[.dead, .val (.int .i64) t.1, .box 2 0, .dead, .dead, .val (.int .i64) t.2.1, .dead, .dead, .dead, .dead, .dead, .dead, .dead, .dead, .dead, .dead, .dead, .dead, .dead, .dead, .dead, .dead, .dead, .dead, .dead, .dead, .dead, .dead, .dead, .dead, .dead, .dead, .dead, .dead, .dead, .dead, .dead, .dead, .dead, .dead, .dead, .dead, .dead, .dead, .dead, .dead, .dead, .dead, .dead], [(2, .box [.val (.sl 27 ts_s_u8) t.2.2.1, .val (.sl 155 ts_Wr) t.2.2.2.1, .val (.int .i64) t.2.2.2.2.1, .val .bool t.2.2.2.2.2])]⟩
def f58x4_0 (t : Int × List E_s_u8 × List E_Wr × Int × Bool × List E_u8) : St := ⟨[.dead, .val (.int .i64) t.1, .box 2 0, .dead, .own 10000000, .dead, .dead, .dead, .dead, .dead, .dead, .dead, .dead, .dead, .dead, .dead, .dead, .dead, .dead, .dead, .dead, .dead, .dead, .dead, .dead, .dead, .dead, .dead, .dead, .dead, .dead, .dead, .dead, .dead, .dead, .dead, .dead, .dead, .dead, .dead, .dead, .dead, .dead, .dead, .dead, .dead, .dead, .dead, .dead], [(2, .box [.val (.sl 27 ts_s_u8) t.2.1, .val (.sl 155 ts_Wr) t.2.2.1, .val (.int .i64) t.2.2.2.1, .val .bool t.2.2.2.2.1]), (10000000, .root true 5 ts_u8 t.2.2.2.2.2)]⟩
def f58x4_1 (t : Int × List E_s_u8 × List E_Wr × Int × Bool) : St := ⟨[.dead, .val (.int .i64) t.1, .box 2 0, .dead, .dead, .dead, .dead, .dead, .dead, .dead, .dead, .dead, .dead, .dead, .dead, .dead, .dead, .dead, .dead, .dead, .dead, .dead, .dead, .dead, .dead, .dead, .dead, .dead, .dead, .dead, .dead, .dead, .dead, .dead, .dead, .dead, .dead, .dead, .dead, .dead, .dead, .dead, .dead, .dead, .dead, .dead, .dead, .dead, .dead], [(2, .box [.val (.sl 27 ts_s_u8) t.2.1, .val (.sl 155 ts_Wr) t.2.2.1, .val (.int .i64) t.2.2.2.1, .val .bool t.2.2.2.2])]⟩
def f58u4_0 (s : St) : Option (Int × Int × List E_s_u8 × List E_Wr × Int × Bool) := (unS f58h4_0 f58o4_0 s).map fun v => (v.1.2.1, v.1.2.2.2.2.2.1, v.2.1.1, v.2.1.2.1, v.2.1.2.2.1, v.2.1.2.2.2.1)
theorem f58un4_0 : ∀ (s : St) (t : Int × Int × List E_s_u8 × List E_Wr × Int × Bool), f58u4_0 s = some t → f58e4_0 t = s := fun s v h => by
  obtain ⟨u, hu, rfl⟩ := Option.map_eq_some_iff.1 h
  exact (show f58e4_0 (u.1.2.1, u.1.2.2.2.2.2.1, u.2.1.1, u.2.1.2.1, u.2.1.2.2.1, u.2.1.2.2.2.1) = mkS f58h4_0 f58o4_0 u by kernel_rfl).trans (mkS_un f58h4_0 f58o4_0 s u hu)
def f58u4 : St → Option (Int × Int × List E_s_u8 × List E_Wr × Int × Bool) := f58u4_0
def f58e4 : (Int × Int × List E_s_u8 × List E_Wr × Int × Bool) → St := f58e4_0
theorem f58un4 : ∀ (s : St) (t : Int × Int × List E_s_u8 × List E_Wr × Int × Bool), f58u4 s = some t → f58e4 t = s := f58un4_0
noncomputable def f58P : Lp := fun i s {_R} κ => bif Nat.beq i 4 then (f58u4 s).bind fun t => L_impl_ReadSec_4 (fun t => κ (none) (f58x4_0 t)) (fun t => κ (some 0) (f58x4_1 t)) t else none
noncomputable def f58c4 : Code := (loopsOf f58B).getD 0 .skip
theorem f58A4 : C.live 58 (firstRegion f58c4) = some ([1, 2, 5], [1, 2, 4]) := by kernel_rfl
theorem f58B4 {R : Type} (κ : Option Nat → St → Option R) (s : St) : f58P (firstRegion f58c4) s κ = (f58u4 s).bind fun t => iter (S_impl_ReadSec_4 (fun t => κ (none) (f58x4_0 t)) (fun t => κ (some 0) (f58x4_1 t))) FUEL t := by kernel_rfl
theorem f58C4 {R : Type} (κ : Option Nat → St → Option R) (again : St → Option R) (t : T_impl_ReadSec_4) : stepL C f58K f58P 58 f58c4 [1, 2, 5] [1, 2, 4] κ again (f58e4 t) = S_impl_ReadSec_4 (fun t => κ (none) (f58x4_0 t)) (fun t => κ (some 0) (f58x4_1 t)) (fun t => again (f58e4 t)) t := by kernel_rfl
theorem f58ok4 : LoopOk C f58K f58P 58 f58c4 := loop_ok f58A4 f58e4 f58u4 f58un4 (fun {_R} κ => S_impl_ReadSec_4 (fun t => κ (none) (f58x4_0 t)) (fun t => κ (some 0) (f58x4_1 t))) (fun {_R} κ s => f58B4 κ s) (fun {_R} κ again t => f58C4 κ again t)
theorem k58 : Contract C Try.prog f58K := contract_tab _ (fun p hp => by
    simp only [List.mem_cons, List.mem_nil_iff, or_false] at hp
    rcases hp with rfl | rfl | rfl
    · exact ok85
    · exact ok103
    · exact ok129)
theorem ev58 (x : List E_s_u8 × List E_Wr × Int × Bool × Int) : evalB C f58K f58P 58 Try.f58 f58B ⟨[.v true [(.sl 27 ts_s_u8), (.sl 155 ts_Wr), (.int .i64), .bool] [false, false, false, false], .v false [(.int .i64)] [false]], [⟨false, [(.sl 5 ts_u8)], [true]⟩], false⟩ [(.sl 27 ts_s_u8), (.sl 155 ts_Wr), (.int .i64), .bool, (.int .i64)] [(.sl 5 ts_u8)] x = F_impl_ReadSec x := by kernel_rfl
theorem ok58 : ContractAt C Try.prog 58 F_impl_ReadSec := fn_sound (lp := f58P) tok mixed k58 (by kernel_rfl) (fn := Try.f58) (c := f58B) (sg := ⟨[.v true [(.sl 27 ts_s_u8), (.sl 155 ts_Wr), (.int .i64), .bool] [false, false, false, false], .v false [(.int .i64)] [false]], [⟨false, [(.sl 5 ts_u8)], [true]⟩], false⟩) Try.func58 (by decide) (by kernel_rfl) (by kernel_rfl) (by kernel_rfl) (fun c' hc' => by
    rw [show loopsOf f58B = [f58c4] by kernel_rfl] at hc'
    simp only [List.mem_cons, List.mem_nil_iff, or_false] at hc'
    rcases hc' with rfl
    · exact f58ok4) (by decide) (by decide) (fun x y h => (ev58 x).trans h)

/-! ### 57: impl.TailOf -/
abbrev T_impl_TailOf_4 : Type := Int × List E_s_u8 × List E_Wr × Int × Bool × List E_Ent
noncomputable def S_impl_TailOf_4 {R : Type} (k0 : List E_Ent → Option R) (again : T_impl_TailOf_4 → Option R) (t4 : T_impl_TailOf_4) : Option R :=
  bif (decide (((List.length t4.2.2.2.2.2 : Nat) : Int) < (6 : Int))) then Option.bind (F_impl_SlotOf (Go.IntKind.wrap .i64 (t4.1 + ((List.length t4.2.2.2.2.2 : Nat) : Int)))) fun r2 => Option.bind (F_impl_ReadSec (t4.2.1, t4.2.2.1, t4.2.2.2.1, t4.2.2.2.2.1, r2)) fun r3 => Option.bind (F_impl_GetEnt r3) fun r4 => Option.bind (bif (!r4.2.2.2.2.2.2) then some true else some (r4.1 != (Go.IntKind.wrap .i64 (t4.1 + ((List.length t4.2.2.2.2.2 : Nat) : Int))))) fun u5 => bif u5 then k0 t4.2.2.2.2.2 else if (List.length t4.2.2.2.2.2 + List.length ([(r4.1, r4.2.1, r4.2.2.1, r4.2.2.2.1, r4.2.2.2.2.1, r4.2.2.2.2.2.1)] : List E_Ent)) * 64 < 140737488355328 then again (t4.1, t4.2.1, t4.2.2.1, t4.2.2.2.1, t4.2.2.2.2.1, (t4.2.2.2.2.2 ++ ([(r4.1, r4.2.1, r4.2.2.1, r4.2.2.2.1, r4.2.2.2.2.1, r4.2.2.2.2.2.1)] : List E_Ent))) else none else k0 t4.2.2.2.2.2
noncomputable def L_impl_TailOf_4 {R : Type} (k0 : List E_Ent → Option R) (t : T_impl_TailOf_4) : Option R := iter (S_impl_TailOf_4 k0) FUEL t
noncomputable def F_impl_TailOf (x : List E_s_u8 × List E_Wr × Int × Bool × Int) : Option (List E_Ent) :=
  Option.bind (F_impl_within (x.2.2.2.2, (1 : Int), (60000 : Int))) fun r1 => bif (!r1) then some ([] : List E_Ent) else L_impl_TailOf_4 (fun x6 => some x6) (x.2.2.2.2, x.1, x.2.1, x.2.2.1, x.2.2.2.1, ([] : List E_Ent))
noncomputable def f57B : Code := match Try.f57.body with
  | some c => c
  | none => .skip
noncomputable def f57K : C.Sem := tab [⟨32, F_impl_GetEnt⟩, ⟨47, F_impl_SlotOf⟩, ⟨58, F_impl_ReadSec⟩, ⟨85, F_impl_within⟩]
def f57h4_0 : List Sh := [.dead, .v (.int .i64), .box 2 0, .dead, .dead, .own 10000000, .dead, .dead, .dead, .dead, .dead, .dead, .dead, .dead, .dead, .dead, .dead, .dead, .dead, .dead, .dead, .dead, .dead, .dead, .dead, .dead, .dead, .dead, .dead, .dead, .dead, .dead, .dead, .dead, .dead, .dead, .dead, .dead, .dead, .dead, .dead, .dead]
def f57o4_0 : List (Nat × OSh) := [(2, .box [.v (.sl 27 ts_s_u8), .v (.sl 155 ts_Wr), .v (.int .i64), .v .bool]), (10000000, .root true 31 ts_Ent)]
def f57e4_0 (t : Int × List E_s_u8 × List E_Wr × Int × Bool × List E_Ent) : St := ⟨[.dead, .val (.int .i64) t.1, .box 2 0, .dead, .dead, .own 10000000, .dead, .dead, .dead, .dead, .dead, .dead, .dead, .dead, .dead, .dead, .dead, .dead, .dead, .dead, .dead, .dead, .dead, .dead, .dead, .dead, .dead, .dead, .dead, .dead, .dead, .dead, .dead, .dead, .dead, .dead, .dead, .dead, .dead, .dead, .dead, .dead], [(2, .box [.val (.sl 27 ts_s_u8) t.2.1, .val (.sl 155 ts_Wr) t.2.2.1, .val (.int .i64) t.2.2.2.1, .val .bool t.2.2.2.2.1]), (10000000, .root true 31 ts_Ent t.2.2.2.2.2)]⟩
def f57x4_0 (t : List E_Ent) : St := ⟨[.dead, .dead, .dead, .dead, .dead, .own 10000000, .dead, .dead, .dead, .dead, .dead, .dead, .dead, .dead, .dead, .dead, .dead, .dead, .dead, .dead, .dead, .dead, .dead, .dead, .dead, .dead, .dead, .dead, .dead, .dead, .dead, .dead, .dead, .dead, .dead, .dead, .dead, .dead, .dead, .dead, .dead, .dead], [(10000000, .root true 31 ts_Ent t)]⟩
def f57u4_0 (s : St) : Option (Int × List E_s_u8 × List E_Wr × Int × Bool × List E_Ent) := (unS f57h4_0 f57o4_0 s).map fun v => (v.1.2.1, v.2.1.1, v.2.1.2.1, v.2.1.2.2.1, v.2.1.2.2.2.1, v.2.2.1)
theorem f57un4_0 : ∀ (s : St) (t : Int × List E_s_u8 × List E_Wr × Int × Bool × List E_Ent), f57u4_0 s = some t → f57e4_0 t = s := fun s v h => by
  obtain ⟨u, hu, rfl⟩ := Option.map_eq_some_iff.1 h
  exact (show f57e4_0 (u.1.2.1, u.2.1.1, u.2.1.2.1, u.2.1.2.2.1, u.2.1.2.2.2.1, u.2.2.1) = mkS f57h4_0 f57o4_0 u by kernel_rfl).trans (mkS_un f57h4_0 f57o4_0 s u hu)
def f57u4 : St → Option (Int × List E_s_u8 × List E_Wr × Int × Bool × List E_Ent) := f57u4_0
def f57e4 : (Int × List E_s_u8 × List E_Wr × Int × Bool × List E_Ent) → St := f57e4_0
theorem f57un4 : ∀ (s : St) (t : Int × List E_s_u8 × List E_Wr × Int × Bool × List E_Ent), f57u4 s = some t → f57e4 t = s := f57un4_0
noncomputable def f57P : Lp := fun i s {_R} κ => bif Nat.beq i 4 then (f57u4 s).bind fun t => L_impl_TailOf_4 (fun t => κ (some 0) (f57x4_0 t)) t else none
noncomputable def f57c4 : Code := (loopsOf f57B).getD 0 .skip
theorem f57A4 : C.live 57 (firstRegion f57c4) = some ([1, 2, 5, 32, 33, 34, 35], [5]) := by kernel_rfl
theorem f57B4 {R : Type} (κ : Option Nat → St → Option R) (s : St) : f57P (firstRegion f57c4) s κ = (f57u4 s).bind fun t => iter (S_impl_TailOf_4 (fun t => κ (some 0) (f57x4_0 t))) FUEL t := by kernel_rfl
theorem f57C4 {R : Type} (κ : Option Nat → St → Option R) (again : St → Option R) (t : T_impl_TailOf_4) : stepL C f57K f57P 57 f57c4 [1, 2, 5, 32, 33, 34, 35] [5] κ again (f57e4 t) = S_impl_TailOf_4 (fun t => κ (some 0) (f57x4_0 t)) (fun t => again (f57e4 t)) t := by kernel_rfl
theorem f57ok4 : LoopOk C f57K f57P 57 f57c4 := loop_ok f57A4 f57e4 f57u4 f57un4 (fun {_R} κ => S_impl_TailOf_4 (fun t => κ (some 0) (f57x4_0 t))) (fun {_R} κ s => f57B4 κ s) (fun {_R} κ again t => f57C4 κ again t)
theorem k57 : Contract C Try.prog f57K := contract_tab _ (fun p hp => by
    simp only [List.mem_cons, List.mem_nil_iff, or_false] at hp
    rcases hp with rfl | rfl | rfl | rfl
    · exact ok32
    · exact ok47
    · exact ok58
    · exact ok85)
theorem ev57 (x : List E_s_u8 × List E_Wr × Int × Bool × Int) : evalB C f57K f57P 57 Try.f57 f57B ⟨[.v true [(.sl 27 ts_s_u8), (.sl 155 ts_Wr), (.int .i64), .bool] [false, false, false, false], .v false [(.int .i64)] [false]], [⟨false, [(.sl 31 ts_Ent)], [true]⟩], false⟩ [(.sl 27 ts_s_u8), (.sl 155 ts_Wr), (.int .i64), .bool, (.int .i64)] [(.sl 31 ts_Ent)] x = F_impl_TailOf x := by kernel_rfl
theorem ok57 : ContractAt C Try.prog 57 F_impl_TailOf := fn_sound (lp := f57P) tok mixed k57 (by kernel_rfl) (fn := Try.f57) (c := f57B) (sg := ⟨[.v true [(.sl 27 ts_s_u8), (.sl 155 ts_Wr), (.int .i64), .bool] [false, false, false, false], .v false [(.int .i64)] [false]], [⟨false, [(.sl 31 ts_Ent)], [true]⟩], false⟩) Try.func57 (by decide) (by kernel_rfl) (by kernel_rfl) (by kernel_rfl) (fun c' hc' => by
    rw [show loopsOf f57B = [f57c4] by kernel_rfl] at hc'
    simp only [List.mem_cons, List.mem_nil_iff, or_false] at hc'
    rcases hc' with rfl
    · exact f57ok4) (by decide) (by decide) (fun x y h => (ev57 x).trans h)

/-! ### 59: laws.sameEnts -/
abbrev T_laws_sameEnts_4 : Type := List E_Ent × List E_Ent × Int
noncomputable def S_laws_sameEnts_4 {R : Type} (k0 : Bool → Option R) (k1 : Unit → Option R) (again : T_laws_sameEnts_4 → Option R) (t4 : T_laws_sameEnts_4) : Option R :=
  bif (decide (t4.2.2 < ((List.length t4.1 : Nat) : Int))) then if (0 : Int) ≤ t4.2.2 then if t4.2.2 < ((List.length t4.1 : Nat) : Int) then if (0 : Int) ≤ t4.2.2 then if t4.2.2 < ((List.length t4.2.1 : Nat) : Int) then bif (!(((rd_Ent t4.1 t4.2.2).1 == (rd_Ent t4.2.1 t4.2.2).1) && (((rd_Ent t4.1 t4.2.2).2.1 == (rd_Ent t4.2.1 t4.2.2).2.1) && ((ByteArray.toList ((rd_Ent t4.1 t4.2.2).2.2.1) == ByteArray.toList ((rd_Ent t4.2.1 t4.2.2).2.2.1)) && ((ByteArray.toList ((rd_Ent t4.1 t4.2.2).2.2.2.1) == ByteArray.toList ((rd_Ent t4.2.1 t4.2.2).2.2.2.1)) && (((rd_Ent t4.1 t4.2.2).2.2.2.2.1 == (rd_Ent t4.2.1 t4.2.2).2.2.2.2.1) && (((rd_Ent t4.1 t4.2.2).2.2.2.2.2 == (rd_Ent t4.2.1 t4.2.2).2.2.2.2.2) && true))))))) then k0 false else again (t4.1, t4.2.1, (Go.IntKind.wrap .i64 (t4.2.2 + (1 : Int)))) else none else none else none else none else k1 ()
noncomputable def L_laws_sameEnts_4 {R : Type} (k0 : Bool → Option R) (k1 : Unit → Option R) (t : T_laws_sameEnts_4) : Option R := iter (S_laws_sameEnts_4 k0 k1) FUEL t
noncomputable def F_laws_sameEnts (x : List E_Ent × List E_Ent) : Option (Bool) :=
  bif (((List.length x.1 : Nat) : Int) != ((List.length x.2 : Nat) : Int)) then some false else L_laws_sameEnts_4 (fun x1 => some x1) (fun x2 => some true) (x.1, x.2, (0 : Int))
noncomputable def f59B : Code := match Try.f59.body with
  | some c => c
  | none => .skip
noncomputable def f59K : C.Sem := tab []
def f59h4_0 : List Sh := [.v (.sl 31 ts_Ent), .v (.sl 31 ts_Ent), .dead, .dead, .dead, .v (.int .i64), .dead, .dead, .dead, .dead, .dead, .dead, .dead, .dead, .dead, .dead, .dead, .dead, .dead, .dead, .dead, .dead, .dead, .dead, .dead, .dead]
def f59o4_0 : List (Nat × OSh) := []
def f59e4_0 (t : List E_Ent × List E_Ent × Int) : St := ⟨[.val (.sl 31 ts_Ent) t.1, .val (.sl 31 ts_Ent) t.2.1, .dead, .dead, .dead, .val (.int .i64) t.2.2, .dead, .dead, .dead, .dead, .dead, .dead, .dead, .dead, .dead, .dead, .dead, .dead, .dead, .dead, .dead, .dead, .dead, .dead, .dead, .dead], []⟩
def f59x4_0 (t : Bool) : St := ⟨[.dead, .dead, .dead, .dead, .val .bool t, .dead, .dead, .dead, .dead, .dead, .dead, .dead, .dead, .dead, .dead, .dead, .dead, .dead, .dead, .dead, .dead, .dead, .dead, .dead, .dead, .dead], []⟩
def f59x4_1 (t : Unit) : St := ⟨[.dead, .dead, .dead, .dead, .dead, .dead, .dead, .dead, .dead, .dead, .dead, .dead, .dead, .dead, .dead, .dead, .dead, .dead, .dead, .dead, .dead, .dead, .dead, .dead, .dead, .dead], []⟩
def f59u4_0 (s : St) : Option (List E_Ent × List E_Ent × Int) := (unS f59h4_0 f59o4_0 s).map fun v => (v.1.1, v.1.2.1, v.1.2.2.2.2.2.1)
theorem f59un4_0 : ∀ (s : St) (t : List E_Ent × List E_Ent × Int), f59u4_0 s = some t → f59e4_0 t = s := fun s v h => by
  obtain ⟨u, hu, rfl⟩ := Option.map_eq_some_iff.1 h
  exact (show f59e4_0 (u.1.1, u.1.2.1, u.1.2.2.2.2.2.1) = mkS f59h4_0 f59o4_0 u by kernel_rfl).trans (mkS_un f59h4_0 f59o4_0 s u hu)
def f59u4 : St → Option (List E_Ent × List E_Ent × Int) := f59u4_0
def f59e4 : (List E_Ent × List E_Ent × Int) → St := f59e4_0
theorem f59un4 : ∀ (s : St) (t : List E_Ent × List E_Ent × Int), f59u4 s = some t → f59e4 t = s := f59un4_0
noncomputable def f59P : Lp := fun i s {_R} κ => bif Nat.beq i 4 then (f59u4 s).bind fun t => L_laws_sameEnts_4 (fun t => κ (none) (f59x4_0 t)) (fun t => κ (some 0) (f59x4_1 t)) t else none
noncomputable def f59c4 : Code := (loopsOf f59B).getD 0 .skip
theorem f59A4 : C.live 59 (firstRegion f59c4) = some ([0, 1, 5], [4]) := by kernel_rfl
theorem f59B4 {R : Type} (κ : Option Nat → St → Option R) (s : St) : f59P (firstRegion f59c4) s κ = (f59u4 s).bind fun t => iter (S_laws_sameEnts_4 (fun t => κ (none) (f59x4_0 t)) (fun t => κ (some 0) (f59x4_1 t))) FUEL t := by kernel_rfl
theorem f59C4 {R : Type} (κ : Option Nat → St → Option R) (again : St → Option R) (t : T_laws_sameEnts_4) : stepL C f59K f59P 59 f59c4 [0, 1, 5] [4] κ again (f59e4 t) = S_laws_sameEnts_4 (fun t => κ (none) (f59x4_0 t)) (fun t => κ (some 0) (f59x4_1 t)) (fun t => again (f59e4 t)) t := by kernel_rfl
theorem f59ok4 : LoopOk C f59K f59P 59 f59c4 := loop_ok f59A4 f59e4 f59u4 f59un4 (fun {_R} κ => S_laws_sameEnts_4 (fun t => κ (none) (f59x4_0 t)) (fun t => κ (some 0) (f59x4_1 t))) (fun {_R} κ s => f59B4 κ s) (fun {_R} κ again t => f59C4 κ again t)
theorem k59 : Contract C Try.prog f59K := contract_tab _ (fun p hp => by cases hp)
theorem ev59 (x : List E_Ent × List E_Ent) : evalB C f59K f59P 59 Try.f59 f59B ⟨[.v false [(.sl 31 ts_Ent)] [false], .v false [(.sl 31 ts_Ent)] [false]], [⟨false, [.bool], [false]⟩], false⟩ [(.sl 31 ts_Ent), (.sl 31 ts_Ent)] [.bool] x = F_laws_sameEnts x := by kernel_rfl
theorem ok59 : ContractAt C Try.prog 59 F_laws_sameEnts := fn_sound (lp := f59P) tok mixed k59 (by kernel_rfl) (fn := Try.f59) (c := f59B) (sg := ⟨[.v false [(.sl 31 ts_Ent)] [false], .v false [(.sl 31 ts_Ent)] [false]], [⟨false, [.bool], [false]⟩], false⟩) Try.func59 (by decide) (by kernel_rfl) (by kernel_rfl) (by kernel_rfl) (fun c' hc' => by
    rw [show loopsOf f59B = [f59c4] by kernel_rfl] at hc'
    simp only [List.mem_cons, List.mem_nil_iff, or_false] at hc'
    rcases hc' with rfl
    · exact f59ok4) (by decide) (by decide) (fun x y h => (ev59 x).trans h)

/-! ### 83: spec.l17Get -/
noncomputable def F_spec_l17Get (x : List E_u8 × Int) : Option (Int) :=
  if (0 : Int) ≤ x.2 then if x.2 < ((List.length x.1 : Nat) : Int) then if (0 : Int) ≤ (Go.IntKind.wrap .i64 (x.2 + (1 : Int))) then if (Go.IntKind.wrap .i64 (x.2 + (1 : Int))) < ((List.length x.1 : Nat) : Int) then if (0 : Int) ≤ (Go.IntKind.wrap .i64 (x.2 + (2 : Int))) then if (Go.IntKind.wrap .i64 (x.2 + (2 : Int))) < ((List.length x.1 : Nat) : Int) then if (0 : Int) ≤ (Go.IntKind.wrap .i64 (x.2 + (3 : Int))) then if (Go.IntKind.wrap .i64 (x.2 + (3 : Int))) < ((List.length x.1 : Nat) : Int) then some (Go.bits .or .i64 (Go.bits .or .i64 (Go.bits .or .i64 (Go.IntKind.wrap .i64 ((Go.IntKind.wrap .i64 (rd_u8 x.1 x.2)) * 2 ^ (min (Int.toNat (24 : Int)) (Go.IntKind.bits .i64)))) (Go.IntKind.wrap .i64 ((Go.IntKind.wrap .i64 (rd_u8 x.1 (Go.IntKind.wrap .i64 (x.2 + (1 : Int))))) * 2 ^ (min (Int.toNat (16 : Int)) (Go.IntKind.bits .i64))))) (Go.IntKind.wrap .i64 ((Go.IntKind.wrap .i64 (rd_u8 x.1 (Go.IntKind.wrap .i64 (x.2 + (2 : Int))))) * 2 ^ (min (Int.toNat (8 : Int)) (Go.IntKind.bits .i64))))) (Go.IntKind.wrap .i64 (rd_u8 x.1 (Go.IntKind.wrap .i64 (x.2 + (3 : Int)))))) else none else none else none else none else none else none else none else none
noncomputable def f83B : Code := match Try.f83.body with
  | some c => c
  | none => .skip
noncomputable def f83K : C.Sem := tab []
noncomputable def f83P : Lp := fun i s {_R} κ => none
theorem k83 : Contract C Try.prog f83K := contract_tab _ (fun p hp => by cases hp)
theorem ev83 (x : List E_u8 × Int) : evalB C f83K f83P 83 Try.f83 f83B ⟨[.v false [(.sl 5 ts_u8)] [false], .v false [(.int .i64)] [false]], [⟨false, [(.int .i64)], [false]⟩], false⟩ [(.sl 5 ts_u8), (.int .i64)] [(.int .i64)] x = F_spec_l17Get x := by kernel_rfl
theorem ok83 : ContractAt C Try.prog 83 F_spec_l17Get := fn_sound (lp := f83P) tok mixed k83 (by kernel_rfl) (fn := Try.f83) (c := f83B) (sg := ⟨[.v false [(.sl 5 ts_u8)] [false], .v false [(.int .i64)] [false]], [⟨false, [(.int .i64)], [false]⟩], false⟩) Try.func83 (by decide) (by kernel_rfl) (by kernel_rfl) (by kernel_rfl) (fun c' hc' => by
    rw [show loopsOf f83B = [] by kernel_rfl] at hc'
    cases hc') (by decide) (by decide) (fun x y h => (ev83 x).trans h)

/-! ### 84: spec.GetW -/
noncomputable def F_spec_GetW (x : List E_u8 × Int) : Option (Int × Int × Bool) :=
  Option.bind (F_spec_l1In (x.2, (0 : Int), (Go.IntKind.wrap .i64 (((List.length x.1 : Nat) : Int) - (2 : Int))))) fun r1 => bif (!r1) then some ((0 : Int), (0 : Int), false) else if (0 : Int) ≤ x.2 then if x.2 < ((List.length x.1 : Nat) : Int) then if (0 : Int) ≤ (Go.IntKind.wrap .i64 (x.2 + (1 : Int))) then if (Go.IntKind.wrap .i64 (x.2 + (1 : Int))) < ((List.length x.1 : Nat) : Int) then some ((Go.bits .or .i64 (Go.IntKind.wrap .i64 ((Go.IntKind.wrap .i64 (rd_u8 x.1 x.2)) * 2 ^ (min (Int.toNat (8 : Int)) (Go.IntKind.bits .i64)))) (Go.IntKind.wrap .i64 (rd_u8 x.1 (Go.IntKind.wrap .i64 (x.2 + (1 : Int)))))), (Go.IntKind.wrap .i64 (x.2 + (2 : Int))), true) else none else none else none else none
noncomputable def f84B : Code := match Try.f84.body with
  | some c => c
  | none => .skip
noncomputable def f84K : C.Sem := tab [⟨86, F_spec_l1In⟩]
noncomputable def f84P : Lp := fun i s {_R} κ => none
theorem k84 : Contract C Try.prog f84K := contract_tab _ (fun p hp => by
    simp only [List.mem_cons, List.mem_nil_iff, or_false] at hp
    rcases hp with rfl
    · exact ok86)
theorem ev84 (x : List E_u8 × Int) : evalB C f84K f84P 84 Try.f84 f84B ⟨[.v false [(.sl 5 ts_u8)] [false], .v false [(.int .i64)] [false]], [⟨false, [(.int .i64)], [false]⟩, ⟨false, [(.int .i64)], [false]⟩, ⟨false, [.bool], [false]⟩], false⟩ [(.sl 5 ts_u8), (.int .i64)] [(.int .i64), (.int .i64), .bool] x = F_spec_GetW x := by kernel_rfl
theorem ok84 : ContractAt C Try.prog 84 F_spec_GetW := fn_sound (lp := f84P) tok mixed k84 (by kernel_rfl) (fn := Try.f84) (c := f84B) (sg := ⟨[.v false [(.sl 5 ts_u8)] [false], .v false [(.int .i64)] [false]], [⟨false, [(.int .i64)], [false]⟩, ⟨false, [(.int .i64)], [false]⟩, ⟨false, [.bool], [false]⟩], false⟩) Try.func84 (by decide) (by kernel_rfl) (by kernel_rfl) (by kernel_rfl) (fun c' hc' => by
    rw [show loopsOf f84B = [] by kernel_rfl] at hc'
    cases hc') (by decide) (by decide) (fun x y h => (ev84 x).trans h)

/-! ### 134: spec.GetText -/
noncomputable def F_spec_GetText (x : List E_u8 × Int) : Option (ByteArray × Int × Bool) :=
  Option.bind (F_spec_GetW (x.1, x.2)) fun r1 => Option.bind (bif (!r1.2.2) then some true else some (decide (r1.1 > (60 : Int)))) fun u2 => Option.bind (bif u2 then some true else some (decide (r1.1 > (Go.IntKind.wrap .i64 (((List.length x.1 : Nat) : Int) - r1.2.1))))) fun u3 => bif u3 then some ({ data := #[] }, (0 : Int), false) else if (0 : Int) ≤ r1.2.1 then if r1.2.1 ≤ (Go.IntKind.wrap .i64 (r1.2.1 + r1.1)) then if (Go.IntKind.wrap .i64 (r1.2.1 + r1.1)) ≤ ((List.length x.1 : Nat) : Int) then some ((textOf (List.drop (Int.toNat r1.2.1) (List.take (Int.toNat (Go.IntKind.wrap .i64 (r1.2.1 + r1.1))) x.1))), (Go.IntKind.wrap .i64 (r1.2.1 + r1.1)), true) else none else none else none
noncomputable def f134B : Code := match Try.f134.body with
  | some c => c
  | none => .skip
noncomputable def f134K : C.Sem := tab [⟨84, F_spec_GetW⟩]
noncomputable def f134P : Lp := fun i s {_R} κ => none
theorem k134 : Contract C Try.prog f134K := contract_tab _ (fun p hp => by
    simp only [List.mem_cons, List.mem_nil_iff, or_false] at hp
    rcases hp with rfl
    · exact ok84)
theorem ev134 (x : List E_u8 × Int) : evalB C f134K f134P 134 Try.f134 f134B ⟨[.v false [(.sl 5 ts_u8)] [false], .v false [(.int .i64)] [false]], [⟨false, [.str], [false]⟩, ⟨false, [(.int .i64)], [false]⟩, ⟨false, [.bool], [false]⟩], false⟩ [(.sl 5 ts_u8), (.int .i64)] [.str, (.int .i64), .bool] x = F_spec_GetText x := by kernel_rfl
theorem ok134 : ContractAt C Try.prog 134 F_spec_GetText := fn_sound (lp := f134P) tok mixed k134 (by kernel_rfl) (fn := Try.f134) (c := f134B) (sg := ⟨[.v false [(.sl 5 ts_u8)] [false], .v false [(.int .i64)] [false]], [⟨false, [.str], [false]⟩, ⟨false, [(.int .i64)], [false]⟩, ⟨false, [.bool], [false]⟩], false⟩) Try.func134 (by decide) (by kernel_rfl) (by kernel_rfl) (by kernel_rfl) (fun c' hc' => by
    rw [show loopsOf f134B = [] by kernel_rfl] at hc'
    cases hc') (by decide) (by decide) (fun x y h => (ev134 x).trans h)

/-! ### 87: spec.GetOp -/
noncomputable def F_spec_GetOp (x : List E_u8 × Int) : Option (Int × ByteArray × ByteArray × Int × Int × Int × Bool) :=
  Option.bind (F_spec_l1In (x.2, (0 : Int), (Go.IntKind.wrap .i64 (((List.length x.1 : Nat) : Int) - (1 : Int))))) fun r1 => bif (!r1) then some ((0 : Int), (⟨#[]⟩ : ByteArray), (⟨#[]⟩ : ByteArray), (0 : Int), (0 : Int), (0 : Int), false) else if (0 : Int) ≤ x.2 then if x.2 < ((List.length x.1 : Nat) : Int) then Option.bind (F_spec_GetText (x.1, (Go.IntKind.wrap .i64 (x.2 + (1 : Int))))) fun r2 => Option.bind (F_spec_GetText (x.1, r2.2.1)) fun r3 => Option.bind (F_spec_GetW (x.1, r3.2.1)) fun r4 => Option.bind (F_spec_GetW (x.1, r4.2.1)) fun r5 => Option.bind (bif (!r2.2.2) then some true else some (!r3.2.2)) fun u6 => Option.bind (bif u6 then some true else some (!r4.2.2)) fun u7 => Option.bind (bif u7 then some true else some (!r5.2.2)) fun u8 => Option.bind (bif u8 then some true else Option.bind (F_spec_OpOk ((Go.IntKind.wrap .i64 (rd_u8 x.1 x.2)), r2.1, r3.1, r4.1, r5.1)) fun r10 => some (!r10)) fun u9 => bif u9 then some ((0 : Int), (⟨#[]⟩ : ByteArray), (⟨#[]⟩ : ByteArray), (0 : Int), (0 : Int), (0 : Int), false) else some ((Go.IntKind.wrap .i64 (rd_u8 x.1 x.2)), r2.1, r3.1, r4.1, r5.1, r5.2.1, true) else none else none
noncomputable def f87B : Code := match Try.f87.body with
  | some c => c
  | none => .skip
noncomputable def f87K : C.Sem := tab [⟨84, F_spec_GetW⟩, ⟨86, F_spec_l1In⟩, ⟨110, F_spec_OpOk⟩, ⟨134, F_spec_GetText⟩]
noncomputable def f87P : Lp := fun i s {_R} κ => none
theorem k87 : Contract C Try.prog f87K := contract_tab _ (fun p hp => by
    simp only [List.mem_cons, List.mem_nil_iff, or_false] at hp
    rcases hp with rfl | rfl | rfl | rfl
    · exact ok84
    · exact ok86
    · exact ok110
    · exact ok134)
theorem ev87 (x : List E_u8 × Int) : evalB C f87K f87P 87 Try.f87 f87B ⟨[.v false [(.sl 5 ts_u8)] [false], .v false [(.int .i64)] [false]], [⟨true, [(.int .i64), .str, .str, (.int .i64), (.int .i64)], [false, false, false, false, false]⟩, ⟨false, [(.int .i64)], [false]⟩, ⟨false, [.bool], [false]⟩], false⟩ [(.sl 5 ts_u8), (.int .i64)] [(.int .i64), .str, .str, (.int .i64), (.int .i64), (.int .i64), .bool] x = F_spec_GetOp x := by kernel_rfl
theorem ok87 : ContractAt C Try.prog 87 F_spec_GetOp := fn_sound (lp := f87P) tok mixed k87 (by kernel_rfl) (fn := Try.f87) (c := f87B) (sg := ⟨[.v false [(.sl 5 ts_u8)] [false], .v false [(.int .i64)] [false]], [⟨true, [(.int .i64), .str, .str, (.int .i64), (.int .i64)], [false, false, false, false, false]⟩, ⟨false, [(.int .i64)], [false]⟩, ⟨false, [.bool], [false]⟩], false⟩) Try.func87 (by decide) (by kernel_rfl) (by kernel_rfl) (by kernel_rfl) (fun c' hc' => by
    rw [show loopsOf f87B = [] by kernel_rfl] at hc'
    cases hc') (by decide) (by decide) (fun x y h => (ev87 x).trans h)

/-! ### 30: spec.GetEnt -/
noncomputable def F_spec_GetEnt (x : List E_u8) : Option (Int × Int × ByteArray × ByteArray × Int × Int × Bool) :=
  Option.bind (bif (decide ((Go.IntKind.wrap .i64 (((List.length x : Nat) : Int) - (4 : Int))) < (2 : Int))) then some true else Option.bind (F_spec_l17Get (x, (Go.IntKind.wrap .i64 (((List.length x : Nat) : Int) - (4 : Int))))) fun r2 => if (0 : Int) ≤ (0 : Int) then if (0 : Int) ≤ (Go.IntKind.wrap .i64 (((List.length x : Nat) : Int) - (4 : Int))) then if (Go.IntKind.wrap .i64 (((List.length x : Nat) : Int) - (4 : Int))) ≤ ((List.length x : Nat) : Int) then Option.bind (F_spec_Crc (List.drop (Int.toNat (0 : Int)) (List.take (Int.toNat (Go.IntKind.wrap .i64 (((List.length x : Nat) : Int) - (4 : Int)))) x))) fun r3 => some (r2 != r3) else none else none else none) fun u1 => bif u1 then some ((0 : Int), (0 : Int), (⟨#[]⟩ : ByteArray), (⟨#[]⟩ : ByteArray), (0 : Int), (0 : Int), false) else Option.bind (F_spec_GetW (x, (0 : Int))) fun r4 => if (0 : Int) ≤ (0 : Int) then if (0 : Int) ≤ (Go.IntKind.wrap .i64 (((List.length x : Nat) : Int) - (4 : Int))) then if (Go.IntKind.wrap .i64 (((List.length x : Nat) : Int) - (4 : Int))) ≤ ((List.length x : Nat) : Int) then Option.bind (F_spec_GetOp ((List.drop (Int.toNat (0 : Int)) (List.take (Int.toNat (Go.IntKind.wrap .i64 (((List.length x : Nat) : Int) - (4 : Int)))) x)), r4.2.1)) fun r5 => Option.bind (bif (!r5.2.2.2.2.2.2) then some true else some (r5.2.2.2.2.2.1 != (Go.IntKind.wrap .i64 (((List.length x : Nat) : Int) - (4 : Int))))) fun u6 => Option.bind (bif u6 then some true else Option.bind (F_spec_EntOk (r4.1, r5.1, r5.2.1, r5.2.2.1, r5.2.2.2.1, r5.2.2.2.2.1)) fun r8 => some (!r8)) fun u7 => bif u7 then some ((0 : Int), (0 : Int), (⟨#[]⟩ : ByteArray), (⟨#[]⟩ : ByteArray), (0 : Int), (0 : Int), false) else some (r4.1, r5.1, r5.2.1, r5.2.2.1, r5.2.2.2.1, r5.2.2.2.2.1, true) else none else none else none
noncomputable def f30B : Code := match Try.f30.body with
  | some c => c
  | none => .skip
noncomputable def f30K : C.Sem := tab [⟨49, F_spec_EntOk⟩, ⟨65, F_spec_Crc⟩, ⟨83, F_spec_l17Get⟩, ⟨84, F_spec_GetW⟩, ⟨87, F_spec_GetOp⟩]
noncomputable def f30P : Lp := fun i s {_R} κ => none
theorem k30 : Contract C Try.prog f30K := contract_tab _ (fun p hp => by
    simp only [List.mem_cons, List.mem_nil_iff, or_false] at hp
    rcases hp with rfl | rfl | rfl | rfl | rfl
    · exact ok49
    · exact ok65
    · exact ok83
    · exact ok84
    · exact ok87)
theorem ev30 (x : List E_u8) : evalB C f30K f30P 30 Try.f30 f30B ⟨[.v false [(.sl 5 ts_u8)] [false]], [⟨true, [(.int .i64), (.int .i64), .str, .str, (.int .i64), (.int .i64)], [false, false, false, false, false, false]⟩, ⟨false, [.bool], [false]⟩], false⟩ [(.sl 5 ts_u8)] [(.int .i64), (.int .i64), .str, .str, (.int .i64), (.int .i64), .bool] x = F_spec_GetEnt x := by kernel_rfl
theorem ok30 : ContractAt C Try.prog 30 F_spec_GetEnt := fn_sound (lp := f30P) tok mixed k30 (by kernel_rfl) (fn := Try.f30) (c := f30B) (sg := ⟨[.v false [(.sl 5 ts_u8)] [false]], [⟨true, [(.int .i64), (.int .i64), .str, .str, (.int .i64), (.int .i64)], [false, false, false, false, false, false]⟩, ⟨false, [.bool], [false]⟩], false⟩) Try.func30 (by decide) (by kernel_rfl) (by kernel_rfl) (by kernel_rfl) (fun c' hc' => by
    rw [show loopsOf f30B = [] by kernel_rfl] at hc'
    cases hc') (by decide) (by decide) (fun x y h => (ev30 x).trans h)

/-! ### 100: spec.DevOk -/
abbrev T_spec_DevOk_2 : Type := Int × List E_s_u8 × List E_Wr × Int × Bool
noncomputable def S_spec_DevOk_2 {R : Type} (k0 : (Bool × List E_s_u8 × List E_Wr × Int × Bool) → Option R) (k1 : (List E_s_u8 × List E_Wr × Int × Bool) → Option R) (again : T_spec_DevOk_2 → Option R) (t2 : T_spec_DevOk_2) : Option R :=
  bif (decide (t2.1 < ((List.length t2.2.1 : Nat) : Int))) then if (0 : Int) ≤ t2.1 then if t2.1 < ((List.length t2.2.1 : Nat) : Int) then bif (decide (((List.length (rd_s_u8 t2.2.1 t2.1) : Nat) : Int) > (80 : Int))) then k0 (false, t2.2.1, t2.2.2.1, t2.2.2.2.1, t2.2.2.2.2) else again ((Go.IntKind.wrap .i64 (t2.1 + (1 : Int))), t2.2.1, t2.2.2.1, t2.2.2.2.1, t2.2.2.2.2) else none else none else k1 (t2.2.1, t2.2.2.1, t2.2.2.2.1, t2.2.2.2.2)
noncomputable def L_spec_DevOk_2 {R : Type} (k0 : (Bool × List E_s_u8 × List E_Wr × Int × Bool) → Option R) (k1 : (List E_s_u8 × List E_Wr × Int × Bool) → Option R) (t : T_spec_DevOk_2) : Option R := iter (S_spec_DevOk_2 k0 k1) FUEL t
abbrev T_spec_DevOk_7 : Type := Int × List E_s_u8 × List E_Wr × Int × Bool
noncomputable def S_spec_DevOk_7 {R : Type} (k0 : (Bool × List E_s_u8 × List E_Wr × Int × Bool) → Option R) (k1 : (List E_s_u8 × List E_Wr × Int × Bool) → Option R) (again : T_spec_DevOk_7 → Option R) (t7 : T_spec_DevOk_7) : Option R :=
  bif (decide (t7.1 < ((List.length t7.2.2.1 : Nat) : Int))) then if (0 : Int) ≤ t7.1 then if t7.1 < ((List.length t7.2.2.1 : Nat) : Int) then Option.bind (F_spec_l1In ((rd_Wr t7.2.2.1 t7.1).1, (0 : Int), (Go.IntKind.wrap .i64 (((List.length t7.2.1 : Nat) : Int) - (1 : Int))))) fun r3 => Option.bind (bif (!r3) then some true else if (0 : Int) ≤ t7.1 then if t7.1 < ((List.length t7.2.2.1 : Nat) : Int) then some (decide (((List.length ((rd_Wr t7.2.2.1 t7.1).2) : Nat) : Int) > (80 : Int))) else none else none) fun u4 => bif u4 then k0 (false, t7.2.1, t7.2.2.1, t7.2.2.2.1, t7.2.2.2.2) else again ((Go.IntKind.wrap .i64 (t7.1 + (1 : Int))), t7.2.1, t7.2.2.1, t7.2.2.2.1, t7.2.2.2.2) else none else none else k1 (t7.2.1, t7.2.2.1, t7.2.2.2.1, t7.2.2.2.2)
noncomputable def L_spec_DevOk_7 {R : Type} (k0 : (Bool × List E_s_u8 × List E_Wr × Int × Bool) → Option R) (k1 : (List E_s_u8 × List E_Wr × Int × Bool) → Option R) (t : T_spec_DevOk_7) : Option R := iter (S_spec_DevOk_7 k0 k1) FUEL t
noncomputable def F_spec_DevOk (x : List E_s_u8 × List E_Wr × Int × Bool) : Option (Bool) :=
  L_spec_DevOk_2 (fun x1 => some x1.1) (fun x2 => L_spec_DevOk_7 (fun x5 => some x5.1) (fun x6 => Option.bind (F_spec_l1In (((List.length x6.1 : Nat) : Int), (1 : Int), (60 : Int))) fun r7 => Option.bind (bif r7 then some (decide (((List.length x6.2.1 : Nat) : Int) ≤ (60 : Int))) else some false) fun u8 => Option.bind (bif u8 then Option.bind (F_spec_l1In (x6.2.2.1, (-1 : Int), (1000 : Int))) fun r10 => some r10 else some false) fun u9 => some u9) ((0 : Int), x2.1, x2.2.1, x2.2.2.1, x2.2.2.2)) ((0 : Int), x.1, x.2.1, x.2.2.1, x.2.2.2)
noncomputable def f100B : Code := match Try.f100.body with
  | some c => c
  | none => .skip
noncomputable def f100K : C.Sem := tab [⟨86, F_spec_l1In⟩]
def f100h2_0 : List Sh := [.dead, .box 1 0, .dead, .v (.int .i64), .dead, .dead, .dead, .dead, .dead, .dead, .dead, .dead, .dead, .dead, .dead, .dead, .dead, .dead, .dead, .dead, .dead, .dead, .dead, .dead, .dead, .dead, .dead, .dead, .dead, .dead, .dead, .dead, .dead, .dead, .dead, .dead, .dead, .dead, .dead, .dead, .dead, .dead, .dead, .dead, .dead, .dead, .dead, .dead, .dead, .dead, .dead, .dead, .dead, .dead, .dead, .dead, .dead, .dead, .dead, .dead, .dead, .dead, .dead]
def f100o2_0 : List (Nat × OSh) := [(1, .box [.v (.sl 27 ts_s_u8), .v (.sl 155 ts_Wr), .v (.int .i64), .v .bool])]
def f100e2_0 (t : Int × List E_s_u8 × List E_Wr × Int × Bool) : St := ⟨[.dead, .box 1 0, .dead, .val (.int .i64) t.1, .dead, .dead, .dead, .dead, .dead, .dead, .dead, .dead, .dead, .dead, .dead, .dead, .dead, .dead, .dead, .dead, .dead, .dead, .dead, .dead, .dead, .dead, .dead, .dead, .dead, .dead, .dead, .dead, .dead, .dead, .dead, .dead, .dead, .dead, .dead, .dead, .dead, .dead, .dead, .dead, .dead, .dead, .dead, .dead, .dead, .dead, .dead, .dead, .dead, .dead, .dead, .dead, .dead, .dead, .dead, .dead, .dead, .dead, .dead], [(1, .box [.val (.sl 27 ts_s_u8) t.2.1, .val (.sl 155 ts_Wr) t.2.2.1, .val (.int .i64) t.2.2.2.1, .val .bool t.2.2.2.2])]⟩
def f100x2_0 (t : Bool × List E_s_u8 × List E_Wr × Int × Bool) : St := ⟨[.dead, .box 1 0, .val .bool t.1, .dead, .dead, .dead, .dead, .dead, .dead, .dead, .dead, .dead, .dead, .dead, .dead, .dead, .dead, .dead, .dead, .dead, .dead, .dead, .dead, .dead, .dead, .dead, .dead, .dead, .dead, .dead, .dead, .dead, .dead, .dead, .dead, .dead, .dead, .dead, .dead, .dead, .dead, .dead, .dead, .dead, .dead, .dead, .dead, .dead, .dead, .dead, .dead, .dead, .dead, .dead, .dead, .dead, .dead, .dead, .dead, .dead, .dead, .dead, .dead], [(1, .box [.val (.sl 27 ts_s_u8) t.2.1, .val (.sl 155 ts_Wr) t.2.2.1, .val (.int .i64) t.2.2.2.1, .val .bool t.2.2.2.2])]⟩
def f100x2_1 (t : List E_s_u8 × List E_Wr × Int × Bool) : St := ⟨[.dead, .box 1 0, .dead, .dead, .dead, .dead, .dead, .dead, .dead, .dead, .dead, .dead, .dead, .dead, .dead, .dead, .dead, .dead, .dead, .dead, .dead, .dead, .dead, .dead, .dead, .dead, .dead, .dead, .dead, .dead, .dead, .dead, .dead, .dead, .dead, .dead, .dead, .dead, .dead, .dead, .dead, .dead, .dead, .dead, .dead, .dead, .dead, .dead, .dead, .dead, .dead, .dead, .dead, .dead, .dead, .dead, .dead, .dead, .dead, .dead, .dead, .dead, .dead], [(1, .box [.val (.sl 27 ts_s_u8) t.1, .val (.sl 155 ts_Wr) t.2.1, .val (.int .i64) t.2.2.1, .val .bool t.2.2.2])]⟩
def f100u2_0 (s : St) : Option (Int × List E_s_u8 × List E_Wr × Int × Bool) := (unS f100h2_0 f100o2_0 s).map fun v => (v.1.2.2.2.1, v.2.1.1, v.2.1.2.1, v.2.1.2.2.1, v.2.1.2.2.2.1)
theorem f100un2_0 : ∀ (s : St) (t : Int × List E_s_u8 × List E_Wr × Int × Bool), f100u2_0 s = some t → f100e2_0 t = s := fun s v h => by
  obtain ⟨u, hu, rfl⟩ := Option.map_eq_some_iff.1 h
  exact (show f100e2_0 (u.1.2.2.2.1, u.2.1.1, u.2.1.2.1, u.2.1.2.2.1, u.2.1.2.2.2.1) = mkS f100h2_0 f100o2_0 u by kernel_rfl).trans (mkS_un f100h2_0 f100o2_0 s u hu)
def f100u2 : St → Option (Int × List E_s_u8 × List E_Wr × Int × Bool) := f100u2_0
def f100e2 : (Int × List E_s_u8 × List E_Wr × Int × Bool) → St := f100e2_0
theorem f100un2 : ∀ (s : St) (t : Int × List E_s_u8 × List E_Wr × Int × Bool), f100u2 s = some t → f100e2 t = s := f100un2_0
def f100h7_0 : List Sh := [.dead, .box 1 0, .dead, .dead, .v (.int .i64), .dead, .dead, .dead, .dead, .dead, .dead, .dead, .dead, .dead, .dead, .dead, .dead, .dead, .dead, .dead, .dead, .dead, .dead, .dead, .dead, .dead, .dead, .dead, .dead, .dead, .dead, .dead, .dead, .dead, .dead, .dead, .dead, .dead, .dead, .dead, .dead, .dead, .dead, .dead, .dead, .dead, .dead, .dead, .dead, .dead, .dead, .dead, .dead, .dead, .dead, .dead, .dead, .dead, .dead, .dead, .dead, .dead, .dead]
def f100o7_0 : List (Nat × OSh) := [(1, .box [.v (.sl 27 ts_s_u8), .v (.sl 155 ts_Wr), .v (.int .i64), .v .bool])]
def f100e7_0 (t : Int × List E_s_u8 × List E_Wr × Int × Bool) : St := ⟨[.dead, .box 1 0, .dead, .dead, .val (.int .i64) t.1, .dead, .dead, .dead, .dead, .dead, .dead, .dead, .dead, .dead, .dead, .dead, .dead, .dead, .dead, .dead, .dead, .dead, .dead, .dead, .dead, .dead, .dead, .dead, .dead, .dead, .dead, .dead, .dead, .dead, .dead, .dead, .dead, .dead, .dead, .dead, .dead, .dead, .dead, .dead, .dead, .dead, .dead, .dead, .dead, .dead, .dead, .dead, .dead, .dead, .dead, .dead, .dead, .dead, .dead, .dead, .dead, .dead, .dead], [(1, .box [.val (.sl 27 ts_s_u8) t.2.1, .val (.sl 155 ts_Wr) t.2.2.1, .val (.int .i64) t.2.2.2.1, .val .bool t.2.2.2.2])]⟩
def f100x7_0 (t : Bool × List E_s_u8 × List E_Wr × Int × Bool) : St := ⟨[.dead, .box 1 0, .val .bool t.1, .dead, .dead, .dead, .dead, .dead, .dead, .dead, .dead, .dead, .dead, .dead, .dead, .dead, .dead, .dead, .dead, .dead, .dead, .dead, .dead, .dead, .dead, .dead, .dead, .dead, .dead, .dead, .dead, .dead, .dead, .dead, .dead, .dead, .dead, .dead, .dead, .dead, .dead, .dead, .dead, .dead, .dead, .dead, .dead, .dead, .dead, .dead, .dead, .dead, .dead, .dead, .dead, .dead, .dead, .dead, .dead, .dead, .dead, .dead, .dead], [(1, .box [.val (.sl 27 ts_s_u8) t.2.1, .val (.sl 155 ts_Wr) t.2.2.1, .val (.int .i64) t.2.2.2.1, .val .bool t.2.2.2.2])]⟩
def f100x7_1 (t : List E_s_u8 × List E_Wr × Int × Bool) : St := ⟨[.dead, .box 1 0, .dead, .dead, .dead, .dead, .dead, .dead, .dead, .dead, .dead, .dead, .dead, .dead, .dead, .dead, .dead, .dead, .dead, .dead, .dead, .dead, .dead, .dead, .dead, .dead, .dead, .dead, .dead, .dead, .dead, .dead, .dead, .dead, .dead, .dead, .dead, .dead, .dead, .dead, .dead, .dead, .dead, .dead, .dead, .dead, .dead, .dead, .dead, .dead, .dead, .dead, .dead, .dead, .dead, .dead, .dead, .dead, .dead, .dead, .dead, .dead, .dead], [(1, .box [.val (.sl 27 ts_s_u8) t.1, .val (.sl 155 ts_Wr) t.2.1, .val (.int .i64) t.2.2.1, .val .bool t.2.2.2])]⟩
def f100u7_0 (s : St) : Option (Int × List E_s_u8 × List E_Wr × Int × Bool) := (unS f100h7_0 f100o7_0 s).map fun v => (v.1.2.2.2.2.1, v.2.1.1, v.2.1.2.1, v.2.1.2.2.1, v.2.1.2.2.2.1)
theorem f100un7_0 : ∀ (s : St) (t : Int × List E_s_u8 × List E_Wr × Int × Bool), f100u7_0 s = some t → f100e7_0 t = s := fun s v h => by
  obtain ⟨u, hu, rfl⟩ := Option.map_eq_some_iff.1 h
  exact (show f100e7_0 (u.1.2.2.2.2.1, u.2.1.1, u.2.1.2.1, u.2.1.2.2.1, u.2.1.2.2.2.1) = mkS f100h7_0 f100o7_0 u by kernel_rfl).trans (mkS_un f100h7_0 f100o7_0 s u hu)
def f100u7 : St → Option (Int × List E_s_u8 × List E_Wr × Int × Bool) := f100u7_0
def f100e7 : (Int × List E_s_u8 × List E_Wr × Int × Bool) → St := f100e7_0
theorem f100un7 : ∀ (s : St) (t : Int × List E_s_u8 × List E_Wr × Int × Bool), f100u7 s = some t → f100e7 t = s := f100un7_0
noncomputable def f100P : Lp := fun i s {_R} κ => bif Nat.beq i 7 then (f100u7 s).bind fun t => L_spec_DevOk_7 (fun t => κ (none) (f100x7_0 t)) (fun t => κ (some 2) (f100x7_1 t)) t else bif Nat.beq i 2 then (f100u2 s).bind fun t => L_spec_DevOk_2 (fun t => κ (none) (f100x2_0 t)) (fun t => κ (some 0) (f100x2_1 t)) t else none
noncomputable def f100c2 : Code := (loopsOf f100B).getD 0 .skip
theorem f100A2 : C.live 100 (firstRegion f100c2) = some ([1, 3, 39, 40, 41, 42, 43, 44, 45, 46, 53, 54, 55, 56, 59, 60, 61], [1, 2, 39, 40, 41, 42, 43, 44, 45, 46, 53, 54, 55, 56, 59, 60, 61]) := by kernel_rfl
theorem f100B2 {R : Type} (κ : Option Nat → St → Option R) (s : St) : f100P (firstRegion f100c2) s κ = (f100u2 s).bind fun t => iter (S_spec_DevOk_2 (fun t => κ (none) (f100x2_0 t)) (fun t => κ (some 0) (f100x2_1 t))) FUEL t := by kernel_rfl
theorem f100C2 {R : Type} (κ : Option Nat → St → Option R) (again : St → Option R) (t : T_spec_DevOk_2) : stepL C f100K f100P 100 f100c2 [1, 3, 39, 40, 41, 42, 43, 44, 45, 46, 53, 54, 55, 56, 59, 60, 61] [1, 2, 39, 40, 41, 42, 43, 44, 45, 46, 53, 54, 55, 56, 59, 60, 61] κ again (f100e2 t) = S_spec_DevOk_2 (fun t => κ (none) (f100x2_0 t)) (fun t => κ (some 0) (f100x2_1 t)) (fun t => again (f100e2 t)) t := by kernel_rfl
theorem f100ok2 : LoopOk C f100K f100P 100 f100c2 := loop_ok f100A2 f100e2 f100u2 f100un2 (fun {_R} κ => S_spec_DevOk_2 (fun t => κ (none) (f100x2_0 t)) (fun t => κ (some 0) (f100x2_1 t))) (fun {_R} κ s => f100B2 κ s) (fun {_R} κ again t => f100C2 κ again t)
noncomputable def f100c7 : Code := (loopsOf f100B).getD 1 .skip
theorem f100A7 : C.live 100 (firstRegion f100c7) = some ([1, 4, 39, 40, 41, 42, 43, 44, 45, 46, 53, 54, 55, 56, 59, 60, 61], [1, 2, 53, 54, 55, 56, 59, 60, 61]) := by kernel_rfl
theorem f100B7 {R : Type} (κ : Option Nat → St → Option R) (s : St) : f100P (firstRegion f100c7) s κ = (f100u7 s).bind fun t => iter (S_spec_DevOk_7 (fun t => κ (none) (f100x7_0 t)) (fun t => κ (some 2) (f100x7_1 t))) FUEL t := by kernel_rfl
theorem f100C7 {R : Type} (κ : Option Nat → St → Option R) (again : St → Option R) (t : T_spec_DevOk_7) : stepL C f100K f100P 100 f100c7 [1, 4, 39, 40, 41, 42, 43, 44, 45, 46, 53, 54, 55, 56, 59, 60, 61] [1, 2, 53, 54, 55, 56, 59, 60, 61] κ again (f100e7 t) = S_spec_DevOk_7 (fun t => κ (none) (f100x7_0 t)) (fun t => κ (some 2) (f100x7_1 t)) (fun t => again (f100e7 t)) t := by kernel_rfl
theorem f100ok7 : LoopOk C f100K f100P 100 f100c7 := loop_ok f100A7 f100e7 f100u7 f100un7 (fun {_R} κ => S_spec_DevOk_7 (fun t => κ (none) (f100x7_0 t)) (fun t => κ (some 2) (f100x7_1 t))) (fun {_R} κ s => f100B7 κ s) (fun {_R} κ again t => f100C7 κ again t)
theorem k100 : Contract C Try.prog f100K := contract_tab _ (fun p hp => by
    simp only [List.mem_cons, List.mem_nil_iff, or_false] at hp
    rcases hp with rfl
    · exact ok86)
theorem ev100 (x : List E_s_u8 × List E_Wr × Int × Bool) : evalB C f100K f100P 100 Try.f100 f100B ⟨[.v true [(.sl 27 ts_s_u8), (.sl 155 ts_Wr), (.int .i64), .bool] [false, false, false, false]], [⟨false, [.bool], [false]⟩], false⟩ [(.sl 27 ts_s_u8), (.sl 155 ts_Wr), (.int .i64), .bool] [.bool] x = F_spec_DevOk x := by kernel_rfl
theorem ok100 : ContractAt C Try.prog 100 F_spec_DevOk := fn_sound (lp := f100P) tok mixed k100 (by kernel_rfl) (fn := Try.f100) (c := f100B) (sg := ⟨[.v true [(.sl 27 ts_s_u8), (.sl 155 ts_Wr), (.int .i64), .bool] [false, false, false, false]], [⟨false, [.bool], [false]⟩], false⟩) Try.func100 (by decide) (by kernel_rfl) (by kernel_rfl) (by kernel_rfl) (fun c' hc' => by
    rw [show loopsOf f100B = [f100c2, f100c7] by kernel_rfl] at hc'
    simp only [List.mem_cons, List.mem_nil_iff, or_false] at hc'
    rcases hc' with rfl | rfl
    · exact f100ok2
    · exact f100ok7) (by decide) (by decide) (fun x y h => (ev100 x).trans h)

/-! ### 92: spec.ReadSec -/
abbrev T_spec_ReadSec_5 : Type := Int × List E_u8 × Int × List E_s_u8 × List E_Wr × Int × Bool
noncomputable def S_spec_ReadSec_5 {R : Type} (k0 : List E_u8 → Option R) (again : T_spec_ReadSec_5 → Option R) (t5 : T_spec_ReadSec_5) : Option R :=
  bif (decide (t5.2.2.1 < ((List.length t5.2.2.2.2.1 : Nat) : Int))) then if (0 : Int) ≤ t5.2.2.1 then if t5.2.2.1 < ((List.length t5.2.2.2.2.1 : Nat) : Int) then bif ((rd_Wr t5.2.2.2.2.1 t5.2.2.1).1 == t5.1) then if (0 : Int) ≤ t5.2.2.1 then if t5.2.2.1 < ((List.length t5.2.2.2.2.1 : Nat) : Int) then again (t5.1, (rd_Wr t5.2.2.2.2.1 t5.2.2.1).2, (Go.IntKind.wrap .i64 (t5.2.2.1 + (1 : Int))), t5.2.2.2.1, t5.2.2.2.2.1, t5.2.2.2.2.2.1, t5.2.2.2.2.2.2) else none else none else again (t5.1, t5.2.1, (Go.IntKind.wrap .i64 (t5.2.2.1 + (1 : Int))), t5.2.2.2.1, t5.2.2.2.2.1, t5.2.2.2.2.2.1, t5.2.2.2.2.2.2) else none else none else k0 t5.2.1
noncomputable def L_spec_ReadSec_5 {R : Type} (k0 : List E_u8 → Option R) (t : T_spec_ReadSec_5) : Option R := iter (S_spec_ReadSec_5 k0) FUEL t
noncomputable def F_spec_ReadSec (x : List E_s_u8 × List E_Wr × Int × Bool × Int) : Option (List E_u8) :=
  Option.bind (F_spec_DevOk (x.1, x.2.1, x.2.2.1, x.2.2.2.1)) fun r1 => Option.bind (bif (!r1) then some true else Option.bind (F_spec_l1In (x.2.2.2.2, (0 : Int), (Go.IntKind.wrap .i64 (((List.length x.1 : Nat) : Int) - (1 : Int))))) fun r3 => some (!r3)) fun u2 => bif u2 then some ([] : List E_u8) else if (0 : Int) ≤ x.2.2.2.2 then if x.2.2.2.2 < ((List.length x.1 : Nat) : Int) then L_spec_ReadSec_5 (fun x4 => if (List.length ([] : List E_u8) + List.length x4) * 1 < 140737488355328 then some (([] : List E_u8) ++ x4) else none) (x.2.2.2.2, (rd_s_u8 x.1 x.2.2.2.2), (0 : Int), x.1, x.2.1, x.2.2.1, x.2.2.2.1) else none else none
noncomputable def f92B : Code := match Try.f92.body with
  | some c => c
  | none => .skip
noncomputable def f92K : C.Sem := tab [⟨86, F_spec_l1In⟩, ⟨100, F_spec_DevOk⟩]
def f92h5_0 : List Sh := [.dead, .v (.int .i64), .box 2 0, .dead, .dead, .v (.sl 5 ts_u8), .v (.int .i64), .dead, .dead, .dead, .dead, .dead, .dead, .dead, .dead, .dead, .dead, .dead, .dead, .dead, .dead, .dead, .dead, .dead, .dead, .dead, .dead, .dead, .dead, .dead, .dead, .dead, .dead, .dead, .dead, .dead, .dead, .dead, .dead, .dead, .dead, .dead, .dead, .dead, .dead, .dead, .dead, .dead, .dead]
def f92o5_0 : List (Nat × OSh) := [(2, .box [.v (.sl 27 ts_s_u8), .v (.sl 155 ts_Wr), .v (.int .i64), .v .bool])]
def f92e5_0 (t : Int × List E_u8 × Int × List E_s_u8 × List E_Wr × Int × Bool) : St := ⟨[.dead, .val (.int .i64) t.1, .box 2 0, .dead, .dead, .val (.sl 5 ts_u8) t.2.1, .val (.int .i64) t.2.2.1, .dead, .dead, .dead, .dead, .dead, .dead, .dead, .dead, .dead, .dead, .dead, .dead, .dead, .dead, .dead, .dead, .dead, .dead, .dead, .dead, .dead, .dead, .dead, .dead, .dead, .dead, .dead, .dead, .dead, .dead, .dead, .dead, .dead, .dead, .dead, .dead, .dead, .dead, .dead, .dead, .dead, .dead], [(2, .box [.val (.sl 27 ts_s_u8) t.2.2.2.1, .val (.sl 155 ts_Wr) t.2.2.2.2.1, .val (.int .i64) t.2.2.2.2.2.1, .val .bool t.2.2.2.2.2.2])]⟩
def f92x5_0 (t : List E_u8) : St := ⟨[.dead, .dead, .dead, .dead, .dead, .val (.sl 5 ts_u8) t, .dead, .dead, .dead, .dead, .dead, .dead, .dead, .dead, .dead, .dead, .dead, .dead, .dead, .dead, .dead, .dead, .dead, .dead, .dead, .dead, .dead, .dead, .dead, .dead, .dead, .dead, .dead, .dead, .dead, .dead, .dead, .dead, .dead, .dead, .dead, .dead, .dead, .dead, .dead, .dead, .dead, .dead, .dead], []⟩
def f92u5_0 (s : St) : Option (Int × List E_u8 × Int × List E_s_u8 × List E_Wr × Int × Bool) := (unS f92h5_0 f92o5_0 s).map fun v => (v.1.2.1, v.1.2.2.2.2.2.1, v.1.2.2.2.2.2.2.1, v.2.1.1, v.2.1.2.1, v.2.1.2.2.1, v.2.1.2.2.2.1)
theorem f92un5_0 : ∀ (s : St) (t : Int × List E_u8 × Int × List E_s_u8 × List E_Wr × Int × Bool), f92u5_0 s = some t → f92e5_0 t = s := fun s v h => by
  obtain ⟨u, hu, rfl⟩ := Option.map_eq_some_iff.1 h
  exact (show f92e5_0 (u.1.2.1, u.1.2.2.2.2.2.1, u.1.2.2.2.2.2.2.1, u.2.1.1, u.2.1.2.1, u.2.1.2.2.1, u.2.1.2.2.2.1) = mkS f92h5_0 f92o5_0 u by kernel_rfl).trans (mkS_un f92h5_0 f92o5_0 s u hu)
def f92u5 : St → Option (Int × List E_u8 × Int × List E_s_u8 × List E_Wr × Int × Bool) := f92u5_0
def f92e5 : (Int × List E_u8 × Int × List E_s_u8 × List E_Wr × Int × Bool) → St := f92e5_0
theorem f92un5 : ∀ (s : St) (t : Int × List E_u8 × Int × List E_s_u8 × List E_Wr × Int × Bool), f92u5 s = some t → f92e5 t = s := f92un5_0
noncomputable def f92P : Lp := fun i s {_R} κ => bif Nat.beq i 5 then (f92u5 s).bind fun t => L_spec_ReadSec_5 (fun t => κ (some 0) (f92x5_0 t)) t else none
noncomputable def f92c5 : Code := (loopsOf f92B).getD 0 .skip
theorem f92A5 : C.live 92 (firstRegion f92c5) = some ([1, 2, 5, 6], [5]) := by kernel_rfl
theorem f92B5 {R : Type} (κ : Option Nat → St → Option R) (s : St) : f92P (firstRegion f92c5) s κ = (f92u5 s).bind fun t => iter (S_spec_ReadSec_5 (fun t => κ (some 0) (f92x5_0 t))) FUEL t := by kernel_rfl
theorem f92C5 {R : Type} (κ : Option Nat → St → Option R) (again : St → Option R) (t : T_spec_ReadSec_5) : stepL C f92K f92P 92 f92c5 [1, 2, 5, 6] [5] κ again (f92e5 t) = S_spec_ReadSec_5 (fun t => κ (some 0) (f92x5_0 t)) (fun t => again (f92e5 t)) t := by kernel_rfl
theorem f92ok5 : LoopOk C f92K f92P 92 f92c5 := loop_ok f92A5 f92e5 f92u5 f92un5 (fun {_R} κ => S_spec_ReadSec_5 (fun t => κ (some 0) (f92x5_0 t))) (fun {_R} κ s => f92B5 κ s) (fun {_R} κ again t => f92C5 κ again t)
theorem k92 : Contract C Try.prog f92K := contract_tab _ (fun p hp => by
    simp only [List.mem_cons, List.mem_nil_iff, or_false] at hp
    rcases hp with rfl | rfl
    · exact ok86
    · exact ok100)
theorem ev92 (x : List E_s_u8 × List E_Wr × Int × Bool × Int) : evalB C f92K f92P 92 Try.f92 f92B ⟨[.v true [(.sl 27 ts_s_u8), (.sl 155 ts_Wr), (.int .i64), .bool] [false, false, false, false], .v false [(.int .i64)] [false]], [⟨false, [(.sl 5 ts_u8)], [true]⟩], false⟩ [(.sl 27 ts_s_u8), (.sl 155 ts_Wr), (.int .i64), .bool, (.int .i64)] [(.sl 5 ts_u8)] x = F_spec_ReadSec x := by kernel_rfl
theorem ok92 : ContractAt C Try.prog 92 F_spec_ReadSec := fn_sound (lp := f92P) tok mixed k92 (by kernel_rfl) (fn := Try.f92) (c := f92B) (sg := ⟨[.v true [(.sl 27 ts_s_u8), (.sl 155 ts_Wr), (.int .i64), .bool] [false, false, false, false], .v false [(.int .i64)] [false]], [⟨false, [(.sl 5 ts_u8)], [true]⟩], false⟩) Try.func92 (by decide) (by kernel_rfl) (by kernel_rfl) (by kernel_rfl) (fun c' hc' => by
    rw [show loopsOf f92B = [f92c5] by kernel_rfl] at hc'
    simp only [List.mem_cons, List.mem_nil_iff, or_false] at hc'
    rcases hc' with rfl
    · exact f92ok5) (by decide) (by decide) (fun x y h => (ev92 x).trans h)
end Go.Proofs.Ytmanmgafjbnakaa.XV
