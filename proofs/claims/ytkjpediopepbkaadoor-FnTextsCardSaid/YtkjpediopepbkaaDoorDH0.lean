/- What functions compute, and that they do; part 0 of H; by a program (dec.py). No condition. -/
import Derived.Test.YtkjpediopepbkaaDoorXH
set_option linter.all false
namespace Go.Proofs.YtkjpediopepbkaaDoor.XH
open Go.Proofs.YtkjpediopepbkaaDoor.R
set_option maxRecDepth 100000
noncomputable def F_laws_big (x : List E_u8) : Option Bool :=
  some (decide (((List.length x : Nat) : Int) > (1048576 : Int)))
theorem ev4 : EV [] lpN 4 Tryd.f4 sg4 [(.sl 5 ts_u8)] [.bool] F_laws_big := fun x => by kernel_rfl
noncomputable def q4 : QF := ⟨4, F_laws_big, okN (n := 0) Tryd.func4 (by kernel_rfl) (by kernel_rfl) trivial ev4⟩
noncomputable def F_laws_at (x : Qz0) : Option Int :=
  bif (decide (x.2 < ((List.length x.1 : Nat) : Int))) then if (0 : Int) ≤ x.2 then if x.2 < ((List.length x.1 : Nat) : Int) then some (Go.IntKind.wrap .i64 (rd_u8 x.1 x.2)) else none else none else some (Int.tmod (Go.IntKind.wrap .i64 ((Go.IntKind.wrap .i64 (x.2 * (31 : Int))) + (Go.IntKind.wrap .i64 (((List.length x.1 : Nat) : Int) * (7 : Int))))) (256 : Int))
theorem ev5 : EV [] lpN 5 Tryd.f5 sg5 qz0 [(.int .i64)] F_laws_at := fun x => by kernel_rfl
noncomputable def q5 : QF := ⟨5, F_laws_at, okN (n := 0) Tryd.func5 (by kernel_rfl) (by kernel_rfl) trivial ev5⟩
/-- strconv.Itoa: the decimal numeral. -/
def itoaB (n : Int) : ByteArray := ⟨(Lib.itoa n).toArray⟩
def F_strconv_Itoa (n : Int) : Option ByteArray := if -9223372036854775808 ≤ n then if n ≤ 9223372036854775807 then some (itoaB n) else none else none
theorem sig23 : C.sig 23 = some sg23 := by kernel_rfl
theorem ok23 : ContractAt C Tryd.prog 23 F_strconv_Itoa := by
  intro sg x y hs hF w H args vs bs pb hgl hH hc ha hsp hp hx hd
  obtain rfl := Option.some.inj (hs.symm.trans sig23)
  have hF' : F_strconv_Itoa x = some y := hF
  unfold F_strconv_Itoa at hF'
  split at hF'
  · rename_i h0
    split at hF'
    · rename_i h1
      injection hF' with hF'
      refine hand_core (ins := [.int .i64]) (outs := [.str]) (x := x) (y := y) (g := 23) (by kernel_rfl) (by kernel_rfl) Tryd.func23 (by decide) (Option.ne_none_iff_isSome.2 (by kernel_rfl)) hH hc hsp fun hr hl hs' => ?_
      obtain ⟨arg, vs1, args', vs', rfl, rfl, hl1, e1, rfl, rfl, _⟩ := hs'
      obtain rfl : vs1 = [arg] := e1
      obtain ⟨v, hv, hrv⟩ := hr
      obtain rfl : arg = v := by simpa using hv
      obtain rfl : arg = .int .i64 x := hrv
      exact (Tryd.strconv_Itoa x h0 h1 w (And.left (hgl w hH))).mono fun e w' ⟨he, k, os, hw⟩ => ⟨[.string (itoaB x)], he, ⟨[.string (itoaB x)], [], _, [], by rw [← hF']; rfl, rfl, rfl, rfl, rfl, rfl⟩, by rw [hw]; exact Lib.below_grow _ w (Nat.le_refl _) k os⟩
    · cases hF'
  · cases hF'
noncomputable def q23 : QF := ⟨23, F_strconv_Itoa, ok23⟩
noncomputable def F_impl_NumText (x : Int) : Option ByteArray :=
  Option.bind (F_strconv_Itoa x) fun r1 => some r1
theorem ev7 : EV [q23] lpN 7 Tryd.f7 sg7 [(.int .i64)] [.str] F_impl_NumText := fun x => by kernel_rfl
noncomputable def q7 : QF := ⟨7, F_impl_NumText, okN (n := 0) Tryd.func7 (by kernel_rfl) (by kernel_rfl) trivial ev7⟩
noncomputable def F_impl_within (x : Qz1) : Option Bool :=
  Option.bind (bif (decide (x.1 ≥ x.2.1)) then some (decide (x.1 ≤ x.2.2)) else some false) fun u1 => some u1
theorem ev33 : EV [] lpN 33 Tryd.f33 sg33 qz1 [.bool] F_impl_within := fun x => by kernel_rfl
noncomputable def q33 : QF := ⟨33, F_impl_within, okN (n := 0) Tryd.func33 (by kernel_rfl) (by kernel_rfl) trivial ev33⟩
/-- impl.ParseNum: a word's numeral. -/
def parseB (s : ByteArray) : Int × Bool := match Lib.atoiAll s.data.toList with
  | .ok v => if 0 ≤ v ∧ v ≤ 65535 ∧ Lib.itoa v = s.data.toList then (v, true) else (0, false)
  | _ => (0, false)
def F_impl_ParseNum (s : ByteArray) : Option (Int × Bool) := if s.size ≤ 281474976710656 then some (parseB s) else none
open Go.RowKit in
theorem parse_ok (s : ByteArray) (hs : s.size ≤ 281474976710656) (w : World) (hg : ∀ w' : World, Hp.le (heapOf w) (heapOf w') → Lib.TabIs Tryd.prog w' "internal/strconv.uint64pow10" .u64 Lib.pow10Tab) (v : Int) (h : Lib.atoiAll s.data.toList = .ok v) (up : ∀ w' : World, Go.RowKit.Below w.heap.size w w' → Hp.le (heapOf w) (heapOf w'))
   (hb : -9223372036854775808 ≤ v ∧ v ≤ 9223372036854775807) :
    Calls Tryd.prog 6 #[.string s] w fun e w' => e = .returned (.tuple #[.int .i64 (if 0 ≤ v ∧ v ≤ 65535 ∧ Lib.itoa v = s.data.toList then (v, true) else (0, false)).1, .bool (if 0 ≤ v ∧ v ≤ 65535 ∧ Lib.itoa v = s.data.toList then (v, true) else (0, false)).2]) ∧ Go.RowKit.Below w.heap.size w w' := by
  have bel : ∀ W1 : World, (W1 = w ∨ ∃ t, W1 = Lib.bytesWorld w 5 t) → Go.RowKit.Below w.heap.size w W1 := fun W1 h => by
    rcases h with rfl | ⟨t, rfl⟩
    · exact Below.refl _ _
    · exact Lib.bytesWorld_below _ _ _
  have bel := Lib.hid bel
  generalize hr : (if 0 ≤ v ∧ v ≤ 65535 ∧ Lib.itoa v = s.data.toList then (v, true) else ((0 : Int), false)) = r
  have hr' := Lib.hid hr
  clear hr
  go_enter Tryd.func6, Tryd.ntmps6
  go_wp2_with (first
    | (go_at_call 21; refine (Tryd.strconv_Atoi_ok s (by omega) v h _).mono ?_; rintro e w1 ⟨rfl, hw1⟩)
    | (go_at_call 23; refine (Tryd.strconv_Itoa v hb.1 hb.2 _ ?_).mono ?_; rotate_left; rintro e w2 ⟨rfl, k, os, hw2⟩)
    | go_in)
  all_goals have bel := bel.out
  · have hn : r = (0, false) := by
      have hr := hr'.out
      have hc : (!Lib.itoa v == s.toList) = true := by assumption
      rw [Lib.toList_data] at hc
      rw [← hr, if_neg fun h => by simp [h.2.2] at hc]
    subst hn
    go_ret2
    exact ⟨rfl, (bel w1 hw1).trans (Lib.below_grow _ w1 (bel w1 hw1).size k os)⟩
  · have hn : r = (v, true) := by
      have hr := hr'.out
      have hc : (!Lib.itoa v == s.toList) = false := by assumption
      rw [Lib.toList_data] at hc
      rw [← hr, if_pos ⟨by assumption, by assumption, by simpa using hc⟩]
    subst hn
    go_ret2
    exact ⟨rfl, (bel w1 hw1).trans (Lib.below_grow _ w1 (bel w1 hw1).size k os)⟩
  · exact hg w1 (up w1 (bel w1 hw1))
  · have hn : r = (0, false) := by
      have hr := hr'.out
      rw [← hr, if_neg fun h => by omega]
    subst hn
    go_ret2
    exact ⟨rfl, bel w1 hw1⟩
  · have hn : r = (0, false) := by
      have hr := hr'.out
      rw [← hr, if_neg fun h => by omega]
    subst hn
    go_ret2
    exact ⟨rfl, bel w1 hw1⟩
open Go.RowKit in
theorem parse_range (s : ByteArray) (hs : s.size ≤ 281474976710656) (w : World) (tp : TypeId) (p : Value) (hv : w.var? Tryd.prog "strconv.ErrRange" = some #[.iface tp p]) (h : Lib.atoiAll s.data.toList = .range) :
    Calls Tryd.prog 6 #[.string s] w fun e w' => e = .returned (.tuple #[.int .i64 0, .bool false]) ∧ Go.RowKit.Below w.heap.size w w' := by
  go_enter Tryd.func6, Tryd.ntmps6
  go_wp2_with (first
    | (go_at_call 21; refine (Any.strconv_Atoi_range_var Tryd.laysC172 s hs h tp p _ hv).mono ?_)
    | go_in)
  rintro e W1 ⟨N, rfl, -, -, hb⟩
  go_wp2
  go_ret2
  exact ⟨rfl, hb⟩
open Go.RowKit in
theorem parse_syn (s : ByteArray) (hs : s.size ≤ 281474976710656) (w : World) (tp : TypeId) (p : Value) (hv : w.var? Tryd.prog "strconv.ErrSyntax" = some #[.iface tp p]) (h : (∀ v, Lib.atoiAll s.data.toList ≠ .ok v) ∧ Lib.atoiAll s.data.toList ≠ .range) :
    Calls Tryd.prog 6 #[.string s] w fun e w' => e = .returned (.tuple #[.int .i64 0, .bool false]) ∧ Go.RowKit.Below w.heap.size w w' := by
  cases e : Lib.atoiAll s.data.toList
  · rename_i v
    exact absurd e (h.1 v)
  · go_enter Tryd.func6, Tryd.ntmps6
    go_wp2_with (first
      | (go_at_call 21; refine (Any.strconv_Atoi_syntax_var Tryd.laysC172 s hs e tp p _ hv).mono ?_)
      | go_in)
    rintro e1 W1 ⟨N, rfl, -, -, hb⟩
    go_wp2
    go_ret2
    exact ⟨rfl, hb⟩
  · exact absurd e h.2
theorem parse_call (s : ByteArray) (hs : s.size ≤ 281474976710656) (w : World) (hg : ∀ w' : World, Hp.le (heapOf w) (heapOf w') → Lib.TabIs Tryd.prog w' "internal/strconv.uint64pow10" .u64 Lib.pow10Tab) (h1 : ∃ tp p, w.var? Tryd.prog "strconv.ErrSyntax" = some #[.iface tp p]) (h2 : ∃ tp p, w.var? Tryd.prog "strconv.ErrRange" = some #[.iface tp p]) :
    Calls Tryd.prog 6 #[.string s] w fun e w' => e = .returned (.tuple #[.int .i64 (parseB s).1, .bool (parseB s).2]) ∧ Go.RowKit.Below w.heap.size w w' := by
  have up : ∀ w' : World, Go.RowKit.Below w.heap.size w w' → Hp.le (heapOf w) (heapOf w') := fun w' hb k o hk => by
    have hk' : w.heap[k]? = some o := hk
    show w'.heap[k]? = some o
    rw [hb.block k (Array.getElem?_eq_some_iff.1 hk').1]
    exact hk'
  by_cases hr : Lib.atoiAll s.data.toList = .range
  · have e : parseB s = (0, false) := by simp only [parseB, hr]
    rw [e]
    obtain ⟨tp, p, hv⟩ := h2
    exact parse_range s hs w tp p hv hr
  · by_cases hk : ∃ v, Lib.atoiAll s.data.toList = .ok v
    · obtain ⟨v, h⟩ := hk
      have e : parseB s = if 0 ≤ v ∧ v ≤ 65535 ∧ Lib.itoa v = s.data.toList then (v, true) else (0, false) := by simp only [parseB, h]
      rw [e]
      exact parse_ok s hs w hg v h up (Lib.atoiAll_bounds h)
    · have e : parseB s = (0, false) := by
        unfold parseB
        split
        · rename_i v hv
          exact absurd ⟨v, hv⟩ hk
        · rfl
      rw [e]
      obtain ⟨tp, p, hv⟩ := h1
      exact parse_syn s hs w tp p hv ⟨fun v hv => hk ⟨v, hv⟩, hr⟩
theorem sig6 : C.sig 6 = some sg6 := by kernel_rfl
theorem ok6 : ContractAt C Tryd.prog 6 F_impl_ParseNum := by
  intro sg x y hs hF w H args vs bs pb hgl hH hc ha hsp hp hx hd
  obtain rfl := Option.some.inj (hs.symm.trans sig6)
  refine hand_core (ins := [.str]) (outs := [.int .i64, .bool]) (x := x) (y := y) (g := 6) (by kernel_rfl) (by kernel_rfl) Tryd.func6 (by decide) (Option.ne_none_iff_isSome.2 (by kernel_rfl)) hH hc hsp fun hr hl hs' => ?_
  obtain ⟨arg, vs1, args1, vs2, rfl, rfl, hl1, e1, rfl, rfl, _⟩ := hs'
  obtain rfl : vs1 = [arg] := e1
  obtain ⟨v, hv, hrv⟩ := hr
  obtain rfl : arg = v := by simpa using hv
  obtain rfl : arg = .string x := hrv
  have hF' : F_impl_ParseNum x = some y := hF
  unfold F_impl_ParseNum at hF'
  split at hF'
  · rename_i hsz
    injection hF' with hF'
    have hg := hgl w hH
    exact (parse_call x hsz w (fun w' hw => (hgl w' (Hp.le.trans hH hw)).1) hg.2.1 hg.2.2).mono fun e w' ⟨he, hb⟩ => ⟨[.int .i64 (parseB x).1, .bool (parseB x).2], he, ⟨[.int .i64 (parseB x).1], [.bool (parseB x).2], _, [.bool (parseB x).2], by rw [← hF']; rfl, rfl, rfl, rfl, [.bool (parseB x).2], [], _, [], rfl, rfl, rfl, rfl, rfl, rfl⟩, hb⟩
  · cases hF'
noncomputable def q6 : QF := ⟨6, F_impl_ParseNum, ok6⟩
abbrev T_spec_NumText_5 : Type := Qz2
noncomputable def S_spec_NumText_5 {R : Type} (k0 : Qz3 → Option R) (again : T_spec_NumText_5 → Option R) (t5 : T_spec_NumText_5) : Option R :=
  bif (t5.2.2 != (0 : Int)) then bif (decide ((Int.tmod t5.2.2 (10 : Int)) < (0 : Int))) then if ByteArray.size (textOf ([(Go.IntKind.wrap .u8 (Go.IntKind.wrap .i64 ((48 : Int) + (Go.IntKind.wrap .i64 (0 - (Int.tmod t5.2.2 (10 : Int)))))))] : List E_u8)) + ByteArray.size t5.2.1 < 140737488355328 then again (t5.1, (show ByteArray from (show ByteArray from (textOf ([(Go.IntKind.wrap .u8 (Go.IntKind.wrap .i64 ((48 : Int) + (Go.IntKind.wrap .i64 (0 - (Int.tmod t5.2.2 (10 : Int)))))))] : List E_u8))) ++ (show ByteArray from t5.2.1)), (Go.IntKind.wrap .i64 (Int.tdiv t5.2.2 (10 : Int)))) else none else if ByteArray.size (textOf ([(Go.IntKind.wrap .u8 (Go.IntKind.wrap .i64 ((48 : Int) + (Int.tmod t5.2.2 (10 : Int)))))] : List E_u8)) + ByteArray.size t5.2.1 < 140737488355328 then again (t5.1, (show ByteArray from (show ByteArray from (textOf ([(Go.IntKind.wrap .u8 (Go.IntKind.wrap .i64 ((48 : Int) + (Int.tmod t5.2.2 (10 : Int)))))] : List E_u8))) ++ (show ByteArray from t5.2.1)), (Go.IntKind.wrap .i64 (Int.tdiv t5.2.2 (10 : Int)))) else none else k0 (t5.1, t5.2.1)
noncomputable def L_spec_NumText_5 {R : Type} (k0 : Qz3 → Option R) (t : T_spec_NumText_5) : Option R := iter (S_spec_NumText_5 k0) FUEL t
noncomputable def F_spec_NumText (x : Int) : Option ByteArray :=
  bif (x == (0 : Int)) then some ({ data := #[48] }) else L_spec_NumText_5 (fun x1 => bif (decide (x1.1 < (0 : Int))) then if ByteArray.size ({ data := #[45] }) + ByteArray.size x1.2 < 140737488355328 then some (show ByteArray from (show ByteArray from { data := #[45] }) ++ (show ByteArray from x1.2)) else none else some x1.2) (x, { data := #[] }, x)
noncomputable def f20Q : List QF := []
def f20e5_0 (t : Qz2) : St := ⟨vI t.1 :: dd 2 (vS t.2.1 :: vI t.2.2 :: dd 26 []), []⟩
noncomputable def f20g5 : Gk T_spec_NumText_5 := fun κ => S_spec_NumText_5 (fun t => κ (some 0) ⟨vI t.1 :: dd 2 (vS t.2 :: dd 27 []), []⟩)
noncomputable def f20P : Lp := lpC 5 (unG qz2 f20e5_0) @f20g5 lpN
theorem f20C5 : LF f20Q f20P 20 5 Tryd.f20 0 f20e5_0 @f20g5 fun t => t := fun R κ again t => by kernel_rfl
theorem f20k5 : LK f20Q f20P 20 Tryd.f20 0 := loop_okG (u := (unG qz2 f20e5_0)) (by kernel_rfl) (unG_ok fun t => by kernel_rfl) (fun R κ s => by kernel_rfl) f20C5
theorem ev20 : EV f20Q f20P 20 Tryd.f20 sg20 [(.int .i64)] [.str] F_spec_NumText := fun x => by kernel_rfl
noncomputable def q20 : QF := ⟨20, F_spec_NumText, okN (n := 1) Tryd.func20 (by kernel_rfl) (by kernel_rfl) ⟨f20k5, trivial⟩ ev20⟩
abbrev T_spec_l1New_3 : Type := Qz4
noncomputable def S_spec_l1New_3 {R : Type} (k0 : Qz0 → Option R) (again : T_spec_l1New_3 → Option R) (t3 : T_spec_l1New_3) : Option R :=
  Option.bind (bif (decide (t3.2.2 < ((List.length t3.1 : Nat) : Int))) then some (decide (t3.2.2 < (4000 : Int))) else some false) fun u1 => bif u1 then if (0 : Int) ≤ t3.2.2 then if t3.2.2 < ((List.length t3.1 : Nat) : Int) then again (t3.1, (Go.bits .and .i64 (Go.IntKind.wrap .i64 ((Go.IntKind.wrap .i64 ((Go.IntKind.wrap .i64 (t3.2.1 * (137 : Int))) + (Go.IntKind.wrap .i64 (rd_u8 t3.1 t3.2.2)))) + (11 : Int))) (1073741823 : Int)), (Go.IntKind.wrap .i64 (t3.2.2 + (1 : Int)))) else none else none else k0 (t3.1, t3.2.1)
noncomputable def L_spec_l1New_3 {R : Type} (k0 : Qz0 → Option R) (t : T_spec_l1New_3) : Option R := iter (S_spec_l1New_3 k0) FUEL t
noncomputable def F_spec_l1New (x : List E_u8) : Option Qz4 :=
  L_spec_l1New_3 (fun x2 => some (x2.1, (0 : Int), x2.2)) (x, (Go.IntKind.wrap .i64 ((941941 : Int) + ((List.length x : Nat) : Int))), (0 : Int))
noncomputable def f24Q : List QF := []
def f24e3_0 (t : Qz4) : St := ⟨v_u8 t.1 :: dd 2 (vI t.2.1 :: vI t.2.2 :: dd 27 []), []⟩
noncomputable def f24g3 : Gk T_spec_l1New_3 := fun κ => S_spec_l1New_3 (fun t => κ (some 0) ⟨v_u8 t.1 :: dd 2 (vI t.2 :: dd 28 []), []⟩)
noncomputable def f24P : Lp := lpC 3 (unG qz4 f24e3_0) @f24g3 lpN
theorem f24C3 : LF f24Q f24P 24 3 Tryd.f24 0 f24e3_0 @f24g3 fun t => t := fun R κ again t => by kernel_rfl
theorem f24k3 : LK f24Q f24P 24 Tryd.f24 0 := loop_okG (u := (unG qz4 f24e3_0)) (by kernel_rfl) (unG_ok fun t => by kernel_rfl) (fun R κ s => by kernel_rfl) f24C3
theorem ev24 : EV f24Q f24P 24 Tryd.f24 sg24 [(.sl 5 ts_u8)] qz4 F_spec_l1New := fun x => by kernel_rfl
noncomputable def q24 : QF := ⟨24, F_spec_l1New, okN (n := 1) Tryd.func24 (by kernel_rfl) (by kernel_rfl) ⟨f24k3, trivial⟩ ev24⟩
noncomputable def F_spec_l1Byte (x : Qz4) : Option Qz5 :=
  bif (decide (x.2.1 < ((List.length x.1 : Nat) : Int))) then if (0 : Int) ≤ x.2.1 then if x.2.1 < ((List.length x.1 : Nat) : Int) then some ((Go.bits .and .i64 (Go.IntKind.wrap .i64 ((Go.bits .and .i64 (Go.bits .xor .i64 (Int.fdiv (Go.IntKind.wrap .i64 ((Go.IntKind.wrap .i64 (x.2.2 * (6364136223846793005 : Int))) + (1442695040888963407 : Int))) (2 ^ (min (Int.toNat (33 : Int)) (Go.IntKind.bits .i64)))) (Int.fdiv (Go.IntKind.wrap .i64 ((Go.IntKind.wrap .i64 (x.2.2 * (6364136223846793005 : Int))) + (1442695040888963407 : Int))) (2 ^ (min (Int.toNat (47 : Int)) (Go.IntKind.bits .i64))))) (255 : Int)) + (Go.IntKind.wrap .i64 (rd_u8 x.1 x.2.1)))) (255 : Int)), x.1, (Go.IntKind.wrap .i64 (x.2.1 + (1 : Int))), (Go.IntKind.wrap .i64 ((Go.IntKind.wrap .i64 (x.2.2 * (6364136223846793005 : Int))) + (1442695040888963407 : Int)))) else none else none else some ((Go.bits .and .i64 (Go.bits .xor .i64 (Int.fdiv (Go.IntKind.wrap .i64 ((Go.IntKind.wrap .i64 (x.2.2 * (6364136223846793005 : Int))) + (1442695040888963407 : Int))) (2 ^ (min (Int.toNat (33 : Int)) (Go.IntKind.bits .i64)))) (Int.fdiv (Go.IntKind.wrap .i64 ((Go.IntKind.wrap .i64 (x.2.2 * (6364136223846793005 : Int))) + (1442695040888963407 : Int))) (2 ^ (min (Int.toNat (47 : Int)) (Go.IntKind.bits .i64))))) (255 : Int)), x.1, x.2.1, (Go.IntKind.wrap .i64 ((Go.IntKind.wrap .i64 (x.2.2 * (6364136223846793005 : Int))) + (1442695040888963407 : Int))))
theorem ev37 : EV [] lpN 37 Tryd.f37 sg37 qz4 qz5 F_spec_l1Byte := fun x => by kernel_rfl
noncomputable def q37 : QF := ⟨37, F_spec_l1Byte, okN (n := 0) Tryd.func37 (by kernel_rfl) (by kernel_rfl) trivial ev37⟩
noncomputable def F_spec_l1Below (x : Qz6) : Option Qz5 :=
  bif (decide (x.2.2.2 ≤ (0 : Int))) then some ((0 : Int), x.1, x.2.1, x.2.2.1) else bif (decide (x.2.2.2 ≤ (256 : Int))) then Option.bind (F_spec_l1Byte (x.1, x.2.1, x.2.2.1)) fun r1 => if x.2.2.2 = 0 then none else some ((Int.tmod r1.1 x.2.2.2), r1.2.1, r1.2.2.1, r1.2.2.2) else Option.bind (F_spec_l1Byte (x.1, x.2.1, x.2.2.1)) fun r2 => Option.bind (F_spec_l1Byte (r2.2.1, r2.2.2.1, r2.2.2.2)) fun r3 => Option.bind (F_spec_l1Byte (r3.2.1, r3.2.2.1, r3.2.2.2)) fun r4 => if x.2.2.2 = 0 then none else some ((Int.tmod (Go.IntKind.wrap .i64 ((Go.IntKind.wrap .i64 ((Go.IntKind.wrap .i64 (r2.1 * (65536 : Int))) + (Go.IntKind.wrap .i64 (r3.1 * (256 : Int))))) + r4.1)) x.2.2.2), r4.2.1, r4.2.2.1, r4.2.2.2)
theorem ev27 : EV [q37] lpN 27 Tryd.f27 sg27 qz6 qz5 F_spec_l1Below := fun x => by kernel_rfl
noncomputable def q27 : QF := ⟨27, F_spec_l1Below, okN (n := 0) Tryd.func27 (by kernel_rfl) (by kernel_rfl) trivial ev27⟩
noncomputable def F_spec_l1Once (x : Qz6) : Option Qz7 :=
  Option.bind (F_spec_l1Below (x.1, x.2.1, x.2.2.1, x.2.2.2)) fun r1 => some ((r1.1 == (0 : Int)), r1.2.1, r1.2.2.1, r1.2.2.2)
theorem ev25 : EV [q27] lpN 25 Tryd.f25 sg25 qz6 qz7 F_spec_l1Once := fun x => by kernel_rfl
noncomputable def q25 : QF := ⟨25, F_spec_l1Once, okN (n := 0) Tryd.func25 (by kernel_rfl) (by kernel_rfl) trivial ev25⟩
noncomputable def F_spec_l1Str (x : Qz8) : Option Qz9 :=
  Option.bind (F_spec_l1Below (x.1, x.2.1, x.2.2.1, ((List.length x.2.2.2 : Nat) : Int))) fun r1 => if (0 : Int) ≤ r1.1 then if r1.1 < ((List.length x.2.2.2 : Nat) : Int) then some ((rd_string x.2.2.2 r1.1), r1.2.1, r1.2.2.1, r1.2.2.2) else none else none
theorem ev26 : EV [q27] lpN 26 Tryd.f26 sg26 qz8 qz9 F_spec_l1Str := fun x => by kernel_rfl
noncomputable def q26 : QF := ⟨26, F_spec_l1Str, okN (n := 0) Tryd.func26 (by kernel_rfl) (by kernel_rfl) trivial ev26⟩
noncomputable def F_spec_DrawParseNum (x : List E_u8) : Option ByteArray :=
  Option.bind (F_spec_l1New x) fun r1 => Option.bind (F_spec_l1Once (r1.1, r1.2.1, r1.2.2, (3 : Int))) fun r2 => bif r2.1 then Option.bind (F_spec_l1Str (r2.2.1, r2.2.2.1, r2.2.2.2, ([{ data := #[] }, { data := #[48, 48] }, { data := #[48, 49] }, { data := #[120] }, { data := #[45, 49] }, { data := #[54, 53, 53, 51, 53] }, { data := #[54, 53, 53, 51, 54] }, { data := #[49, 48, 48, 48, 48, 48] }, { data := #[49, 32] }] : List E_string))) fun r3 => some r3.1 else Option.bind (F_spec_l1Below (r2.2.1, r2.2.2.1, r2.2.2.2, (70000 : Int))) fun r4 => Option.bind (F_spec_NumText r4.1) fun r5 => some r5
theorem ev8 : EV [q20, q24, q25, q26, q27] lpN 8 Tryd.f8 sg8 [(.sl 5 ts_u8)] [.str] F_spec_DrawParseNum := fun x => by kernel_rfl
noncomputable def q8 : QF := ⟨8, F_spec_DrawParseNum, okN (n := 0) Tryd.func8 (by kernel_rfl) (by kernel_rfl) trivial ev8⟩
noncomputable def F_spec_l1In (x : Qz1) : Option Bool :=
  Option.bind (bif (decide (x.1 ≥ x.2.1)) then some (decide (x.1 ≤ x.2.2)) else some false) fun u1 => some u1
theorem ev28 : EV [] lpN 28 Tryd.f28 sg28 qz1 [.bool] F_spec_l1In := fun x => by kernel_rfl
noncomputable def q28 : QF := ⟨28, F_spec_l1In, okN (n := 0) Tryd.func28 (by kernel_rfl) (by kernel_rfl) trivial ev28⟩
abbrev T_spec_ParseNum_3 : Type := Qz10
noncomputable def S_spec_ParseNum_3 {R : Type} (k0 : Qz11 → Option R) (k1 : Qz12 → Option R) (again : T_spec_ParseNum_3 → Option R) (t3 : T_spec_ParseNum_3) : Option R :=
  Option.bind (bif (decide (t3.2.2 < ((ByteArray.size t3.1 : Nat) : Int))) then some (decide (t3.2.2 < (6 : Int))) else some false) fun u1 => bif u1 then if (0 : Int) ≤ t3.2.2 then if h2 : Int.toNat t3.2.2 < ByteArray.size t3.1 then Option.bind (F_spec_l1In ((Go.IntKind.wrap .i64 ((UInt8.toNat (ByteArray.get t3.1 (Int.toNat t3.2.2) h2) : Nat) : Int)), (48 : Int), (57 : Int))) fun r3 => bif (!r3) then k0 (t3.1, (0 : Int), false, t3.2.1) else if (0 : Int) ≤ t3.2.2 then if h4 : Int.toNat t3.2.2 < ByteArray.size t3.1 then again (t3.1, (Go.IntKind.wrap .i64 ((Go.IntKind.wrap .i64 (t3.2.1 * (10 : Int))) + (Go.IntKind.wrap .i64 (Go.IntKind.wrap .u8 (((UInt8.toNat (ByteArray.get t3.1 (Int.toNat t3.2.2) h4) : Nat) : Int) - (48 : Int)))))), (Go.IntKind.wrap .i64 (t3.2.2 + (1 : Int)))) else none else none else none else none else k1 (t3.1, t3.2.1)
noncomputable def L_spec_ParseNum_3 {R : Type} (k0 : Qz11 → Option R) (k1 : Qz12 → Option R) (t : T_spec_ParseNum_3) : Option R := iter (S_spec_ParseNum_3 k0 k1) FUEL t
noncomputable def F_spec_ParseNum (x : ByteArray) : Option Qz13 :=
  L_spec_ParseNum_3 (fun x5 => some (x5.2.1, x5.2.2.1)) (fun x6 => Option.bind (F_spec_l1In (((ByteArray.size x6.1 : Nat) : Int), (1 : Int), (5 : Int))) fun r7 => Option.bind (bif (!r7) then some true else Option.bind (bif (decide (((ByteArray.size x6.1 : Nat) : Int) > (1 : Int))) then if (0 : Int) ≤ (0 : Int) then if h10 : Int.toNat (0 : Int) < ByteArray.size x6.1 then some (((UInt8.toNat (ByteArray.get x6.1 (Int.toNat (0 : Int)) h10) : Nat) : Int) == (48 : Int)) else none else none else some false) fun u9 => some u9) fun u8 => Option.bind (bif u8 then some true else some (decide (x6.2 > (65535 : Int)))) fun u11 => bif u11 then some ((0 : Int), false) else some (x6.2, true)) (x, (0 : Int), (0 : Int))
noncomputable def f9Q : List QF := [q28]
def f9e3_0 (t : Qz10) : St := ⟨vS t.1 :: dd 3 (vI t.2.1 :: vI t.2.2 :: dd 43 []), []⟩
noncomputable def f9g3 : Gk T_spec_ParseNum_3 := fun κ => S_spec_ParseNum_3 (fun t => κ none ⟨vS t.1 :: .dead :: vI t.2.1 :: vB t.2.2.1 :: vI t.2.2.2 :: dd 44 [], []⟩) (fun t => κ (some 0) ⟨vS t.1 :: dd 3 (vI t.2 :: dd 44 []), []⟩)
noncomputable def f9P : Lp := lpC 3 (unG qz10 f9e3_0) @f9g3 lpN
theorem f9C3 : LF f9Q f9P 9 3 Tryd.f9 0 f9e3_0 @f9g3 fun t => t := fun R κ again t => by kernel_rfl
theorem f9k3 : LK f9Q f9P 9 Tryd.f9 0 := loop_okG (u := (unG qz10 f9e3_0)) (by kernel_rfl) (unG_ok fun t => by kernel_rfl) (fun R κ s => by kernel_rfl) f9C3
theorem ev9 : EV f9Q f9P 9 Tryd.f9 sg9 [.str] qz13 F_spec_ParseNum := fun x => by kernel_rfl
noncomputable def q9 : QF := ⟨9, F_spec_ParseNum, okN (n := 1) Tryd.func9 (by kernel_rfl) (by kernel_rfl) ⟨f9k3, trivial⟩ ev9⟩
noncomputable def F_spec_l1Name (x : Qz4) : Option Qz9 :=
  Option.bind (F_spec_l1Str (x.1, x.2.1, x.2.2, ([{ data := #[97] }, { data := #[98] }, { data := #[99] }, { data := #[100] }, { data := #[101, 53] }] : List E_string))) fun r1 => some (r1.1, r1.2.1, r1.2.2.1, r1.2.2.2)
theorem ev29 : EV [q26] lpN 29 Tryd.f29 sg29 qz4 qz9 F_spec_l1Name := fun x => by kernel_rfl
noncomputable def q29 : QF := ⟨29, F_spec_l1Name, okN (n := 0) Tryd.func29 (by kernel_rfl) (by kernel_rfl) trivial ev29⟩
noncomputable def F_spec_l1Int (x : Qz14) : Option Qz5 :=
  Option.bind (F_spec_l1Below (x.1, x.2.1, x.2.2.1, ((List.length x.2.2.2 : Nat) : Int))) fun r1 => if (0 : Int) ≤ r1.1 then if r1.1 < ((List.length x.2.2.2 : Nat) : Int) then some ((rd_i64 x.2.2.2 r1.1), r1.2.1, r1.2.2.1, r1.2.2.2) else none else none
theorem ev38 : EV [q27] lpN 38 Tryd.f38 sg38 qz14 qz5 F_spec_l1Int := fun x => by kernel_rfl
noncomputable def q38 : QF := ⟨38, F_spec_l1Int, okN (n := 0) Tryd.func38 (by kernel_rfl) (by kernel_rfl) trivial ev38⟩
noncomputable def F_spec_l1Num (x : Qz4) : Option Qz5 :=
  Option.bind (F_spec_l1Int (x.1, x.2.1, x.2.2, ([(0 : Int), (1 : Int), (7 : Int), (255 : Int), (256 : Int), (4660 : Int), (65535 : Int), (65536 : Int), (-1 : Int), (9223372036854775807 : Int), (-9223372036854775808 : Int)] : List E_i64))) fun r1 => some (r1.1, r1.2.1, r1.2.2.1, r1.2.2.2)
theorem ev30 : EV [q38] lpN 30 Tryd.f30 sg30 qz4 qz5 F_spec_l1Num := fun x => by kernel_rfl
noncomputable def q30 : QF := ⟨30, F_spec_l1Num, okN (n := 0) Tryd.func30 (by kernel_rfl) (by kernel_rfl) trivial ev30⟩
abbrev T_spec_DrawMapText_4 : Type := Qz15 ⊕ Qz16
noncomputable def S_spec_DrawMapText_4 {R : Type} (k0 : Qz17 → Option R) (k1 : Qz18 → Option R) (again : T_spec_DrawMapText_4 → Option R) : T_spec_DrawMapText_4 → Option R
  | .inl t4 => bif (decide (t4.1 > (0 : Int))) then Option.bind (F_spec_l1Num (t4.2.2.2.1, t4.2.2.2.2.1, t4.2.2.2.2.2.1)) fun r5 => if List.length ([r5.1] : List E_i64) * 8 < 140737488355328 then again (Sum.inr ((Go.IntKind.wrap .i64 (t4.1 - (1 : Int))), t4.2.1, t4.2.2.1, r5.2.1, r5.2.2.1, r5.2.2.2, t4.2.2.2.2.2.2.1, t4.2.2.2.2.2.2.2, ([r5.1] : List E_i64))) else none else k0 (t4.2.1, t4.2.2.1, t4.2.2.2.2.2.2.1, t4.2.2.2.2.2.2.2)
  | .inr t4 => bif (decide (t4.1 > (0 : Int))) then Option.bind (F_spec_l1Num (t4.2.2.2.1, t4.2.2.2.2.1, t4.2.2.2.2.2.1)) fun r6 => if (List.length t4.2.2.2.2.2.2.2.2 + List.length ([r6.1] : List E_i64)) * 8 < 140737488355328 then again (Sum.inr ((Go.IntKind.wrap .i64 (t4.1 - (1 : Int))), t4.2.1, t4.2.2.1, r6.2.1, r6.2.2.1, r6.2.2.2, t4.2.2.2.2.2.2.1, t4.2.2.2.2.2.2.2.1, (t4.2.2.2.2.2.2.2.2 ++ ([r6.1] : List E_i64)))) else none else k1 (t4.2.1, t4.2.2.1, t4.2.2.2.2.2.2.1, t4.2.2.2.2.2.2.2.1, t4.2.2.2.2.2.2.2.2)
noncomputable def L_spec_DrawMapText_4 {R : Type} (k0 : Qz17 → Option R) (k1 : Qz18 → Option R) (t : T_spec_DrawMapText_4) : Option R := iter (S_spec_DrawMapText_4 k0 k1) FUEL t
noncomputable def F_spec_DrawMapText (x : List E_u8) : Option Qz19 :=
  Option.bind (F_spec_l1New x) fun r1 => Option.bind (F_spec_l1Name (r1.1, r1.2.1, r1.2.2)) fun r2 => Option.bind (F_spec_l1Once (r2.2.1, r2.2.2.1, r2.2.2.2, (2 : Int))) fun r3 => Option.bind (F_spec_l1Below (r3.2.1, r3.2.2.1, r3.2.2.2, (5 : Int))) fun r4 => L_spec_DrawMapText_4 (fun x7 => some (x7.2.2.1, x7.2.2.2, ([] : List E_i64))) (fun x8 => some (x8.2.2.1, x8.2.2.2.1, x8.2.2.2.2)) (Sum.inl (r4.1, (⟨#[]⟩ : ByteArray), false, r4.2.1, r4.2.2.1, r4.2.2.2, r2.1, r3.1))
noncomputable def f10Q : List QF := [q24, q25, q27, q29, q30]
def f10e4_0 (t : Qz15) : St := ⟨dd 2 (.box 2 0 :: .box 8500 0 :: .box 4 0 :: vI t.1 :: dd 21 []), [(2, .box [vS t.2.1, vB t.2.2.1, .nils]), (8500, .box [v_u8 t.2.2.2.1, vI t.2.2.2.2.1, vI t.2.2.2.2.2.1]), (4, .box [vS t.2.2.2.2.2.2.1, vB t.2.2.2.2.2.2.2, .nils])]⟩
theorem f10v4_0 : ∀ s t, unG qz15 f10e4_0 s = some t → f10e4_0 t = s := unG_ok fun t => by kernel_rfl
def f10e4_1 (t : Qz16) : St := ⟨dd 2 (.box 2 0 :: .box 8500 0 :: .box 4 0 :: vI t.1 :: dd 21 []), [(2, .box [vS t.2.1, vB t.2.2.1, .nils]), (8500, .box [v_u8 t.2.2.2.1, vI t.2.2.2.2.1, vI t.2.2.2.2.2.1]), (4, .box [vS t.2.2.2.2.2.2.1, vB t.2.2.2.2.2.2.2.1, .own 10000000]), (10000000, .root true 3 ts_i64 t.2.2.2.2.2.2.2.2)]⟩
theorem f10v4_1 : ∀ s t, unG qz16 f10e4_1 s = some t → f10e4_1 t = s := unG_ok fun t => by kernel_rfl
def f10e4r0 : (Qz15 ⊕ Qz16) → St := Sum.elim f10e4_0 f10e4_1
def f10u4r0 (s : St) : Option (Qz15 ⊕ Qz16) := ((unG qz15 f10e4_0 s).map Sum.inl).or (((unG qz16 f10e4_1) s).map Sum.inr)
theorem f10v4r0 : ∀ s t, f10u4r0 s = some t → f10e4r0 t = s := or_un f10v4_0 f10v4_1
noncomputable def f10g4 : Gk T_spec_DrawMapText_4 := fun κ => S_spec_DrawMapText_4 (fun t => κ (some 0) ⟨dd 2 (.box 2 0 :: .dead :: .box 4 0 :: dd 22 []), [(2, .box [vS t.1, vB t.2.1, .nils]), (4, .box [vS t.2.2.1, vB t.2.2.2, .nils])]⟩) (fun t => κ (some 0) ⟨dd 2 (.box 2 0 :: .dead :: .box 4 0 :: dd 22 []), [(2, .box [vS t.1, vB t.2.1, .nils]), (4, .box [vS t.2.2.1, vB t.2.2.2.1, .own 10000000]), (10000000, .root true 3 ts_i64 t.2.2.2.2)]⟩)
noncomputable def f10P : Lp := lpC 4 f10u4r0 @f10g4 lpN
theorem f10C4_0 : LF f10Q f10P 10 4 Tryd.f10 0 f10e4r0 @f10g4 fun v : Qz15 => .inl v := fun R κ again v => by kernel_rfl
theorem f10C4_1 : LF f10Q f10P 10 4 Tryd.f10 0 f10e4r0 @f10g4 fun v : Qz16 => .inr v := fun R κ again v => by kernel_rfl
theorem f10C4 : LF f10Q f10P 10 4 Tryd.f10 0 f10e4r0 @f10g4 fun t => t := (LC.sum f10C4_0 f10C4_1)
theorem f10k4 : LK f10Q f10P 10 Tryd.f10 0 := loop_okG (u := f10u4r0) (by kernel_rfl) f10v4r0 (fun R κ s => by kernel_rfl) f10C4
theorem ev10 : EV f10Q f10P 10 Tryd.f10 sg10 [(.sl 5 ts_u8)] qz19 F_spec_DrawMapText := fun x => by kernel_rfl
noncomputable def q10 : QF := ⟨10, F_spec_DrawMapText, okN (n := 1) Tryd.func10 (by kernel_rfl) (by kernel_rfl) ⟨f10k4, trivial⟩ ev10⟩
noncomputable def F_spec_l3Draw (x : Qz4) : Option Qz20 :=
  Option.bind (F_spec_l1Below (x.1, x.2.1, x.2.2, (4 : Int))) fun r1 => Option.bind (F_spec_l1Below (r1.2.1, r1.2.2.1, r1.2.2.2, (5 : Int))) fun r2 => Option.bind (F_spec_l1Int (r2.2.1, r2.2.2.1, r2.2.2.2, ([(0 : Int), (1 : Int), (1 : Int), (1 : Int), (2 : Int)] : List E_i64))) fun r3 => bif (r3.1 == (1 : Int)) then Option.bind (F_spec_l1Below (r3.2.1, r3.2.2.1, r3.2.2.2, (24 : Int))) fun r4 => Option.bind (F_spec_l1Int (r4.2.1, r4.2.2.1, r4.2.2.2, ([(0 : Int), (1 : Int), (256 : Int), (999 : Int)] : List E_i64))) fun r5 => some (r1.1, (Go.IntKind.wrap .i64 ((1 : Int) + r2.1)), r3.1, r4.1, r5.1, r5.2.1, r5.2.2.1, r5.2.2.2) else some (r1.1, (Go.IntKind.wrap .i64 ((1 : Int) + r2.1)), r3.1, (0 : Int), (0 : Int), r3.2.1, r3.2.2.1, r3.2.2.2)
theorem ev39 : EV [q27, q38] lpN 39 Tryd.f39 sg39 qz4 qz20 F_spec_l3Draw := fun x => by kernel_rfl
noncomputable def q39 : QF := ⟨39, F_spec_l3Draw, okN (n := 0) Tryd.func39 (by kernel_rfl) (by kernel_rfl) trivial ev39⟩
noncomputable def F_spec_l3Any (x : Qz4) : Option Qz20 :=
  Option.bind (F_spec_l3Draw (x.1, x.2.1, x.2.2)) fun r1 => Option.bind (F_spec_l1Below (r1.2.2.2.2.2.1, r1.2.2.2.2.2.2.1, r1.2.2.2.2.2.2.2, (12 : Int))) fun r2 => bif (r2.1 == (0 : Int)) then Option.bind (F_spec_l1Int (r2.2.1, r2.2.2.1, r2.2.2.2, ([(-1 : Int), (15 : Int), (16 : Int)] : List E_i64))) fun r3 => some (r3.1, r1.2.1, r1.2.2.1, r1.2.2.2.1, r1.2.2.2.2.1, r3.2.1, r3.2.2.1, r3.2.2.2) else bif (r2.1 == (1 : Int)) then Option.bind (F_spec_l1Int (r2.2.1, r2.2.2.1, r2.2.2.2, ([(0 : Int), (60 : Int), (61 : Int)] : List E_i64))) fun r4 => some (r1.1, r4.1, r1.2.2.1, r1.2.2.2.1, r1.2.2.2.2.1, r4.2.1, r4.2.2.1, r4.2.2.2) else bif (r2.1 == (2 : Int)) then Option.bind (F_spec_l1Int (r2.2.1, r2.2.2.1, r2.2.2.2, ([(-1 : Int), (3 : Int)] : List E_i64))) fun r5 => some (r1.1, r1.2.1, r5.1, r1.2.2.2.1, r1.2.2.2.2.1, r5.2.1, r5.2.2.1, r5.2.2.2) else bif (r2.1 == (3 : Int)) then Option.bind (F_spec_l1Int (r2.2.1, r2.2.2.1, r2.2.2.2, ([(-1 : Int), (1 : Int), (23 : Int), (24 : Int)] : List E_i64))) fun r6 => some (r1.1, r1.2.1, r1.2.2.1, r6.1, r1.2.2.2.2.1, r6.2.1, r6.2.2.1, r6.2.2.2) else bif (r2.1 == (4 : Int)) then Option.bind (F_spec_l1Int (r2.2.1, r2.2.2.1, r2.2.2.2, ([(-1 : Int), (1 : Int), (999 : Int), (1000 : Int)] : List E_i64))) fun r7 => some (r1.1, r1.2.1, r1.2.2.1, r1.2.2.2.1, r7.1, r7.2.1, r7.2.2.1, r7.2.2.2) else some (r1.1, r1.2.1, r1.2.2.1, r1.2.2.2.1, r1.2.2.2.2.1, r2.2.1, r2.2.2.1, r2.2.2.2)
theorem ev31 : EV [q27, q38, q39] lpN 31 Tryd.f31 sg31 qz4 qz20 F_spec_l3Any := fun x => by kernel_rfl
noncomputable def q31 : QF := ⟨31, F_spec_l3Any, okN (n := 0) Tryd.func31 (by kernel_rfl) (by kernel_rfl) trivial ev31⟩
noncomputable def F_spec_DrawKeyText (x : List E_u8) : Option Qz21 :=
  Option.bind (F_spec_l1New x) fun r1 => Option.bind (F_spec_l3Any (r1.1, r1.2.1, r1.2.2)) fun r2 => some (r2.1, r2.2.1, r2.2.2.1, r2.2.2.2.1, r2.2.2.2.2.1)
theorem ev11 : EV [q24, q31] lpN 11 Tryd.f11 sg11 [(.sl 5 ts_u8)] qz21 F_spec_DrawKeyText := fun x => by kernel_rfl
noncomputable def q11 : QF := ⟨11, F_spec_DrawKeyText, okN (n := 0) Tryd.func11 (by kernel_rfl) (by kernel_rfl) trivial ev11⟩
noncomputable def F_spec_DrawCodeText (x : List E_u8) : Option Int :=
  Option.bind (F_spec_l1New x) fun r1 => Option.bind (F_spec_l1Below (r1.1, r1.2.1, r1.2.2, (10 : Int))) fun r2 => some (Go.IntKind.wrap .i64 (r2.1 - (1 : Int)))
theorem ev12 : EV [q24, q27] lpN 12 Tryd.f12 sg12 [(.sl 5 ts_u8)] [(.int .i64)] F_spec_DrawCodeText := fun x => by kernel_rfl
noncomputable def q12 : QF := ⟨12, F_spec_DrawCodeText, okN (n := 0) Tryd.func12 (by kernel_rfl) (by kernel_rfl) trivial ev12⟩
noncomputable def F_spec_DrawNumText (x : List E_u8) : Option Int :=
  Option.bind (F_spec_l1New x) fun r1 => Option.bind (F_spec_l1Num (r1.1, r1.2.1, r1.2.2)) fun r2 => some r2.1
theorem ev13 : EV [q24, q30] lpN 13 Tryd.f13 sg13 [(.sl 5 ts_u8)] [(.int .i64)] F_spec_DrawNumText := fun x => by kernel_rfl
noncomputable def q13 : QF := ⟨13, F_spec_DrawNumText, okN (n := 0) Tryd.func13 (by kernel_rfl) (by kernel_rfl) trivial ev13⟩
/-- strings.Join. -/
def joinB (xs : List ByteArray) (sep : ByteArray) : ByteArray := ⟨(Lib.join (xs.map (·.data.toList)) sep.data.toList).toArray⟩
def F_strings_Join (x : List ByteArray × ByteArray) : Option ByteArray := if x.1.length = 0 then some ⟨#[]⟩ else if x.1.length ≤ 140737488355328 then if (joinB x.1 x.2).size ≤ 140737488355328 then some (joinB x.1 x.2) else none else none
theorem join_call (xs : List ByteArray) (sep y : ByteArray) (hF : F_strings_Join (xs, sep) = some y) (w : World) (H : Hp) (hH : H.le (heapOf w)) (A : Option Addr) (c : Nat) (hcap : xs.length ≤ c) (hrd : 0 < xs.length → ∃ ad, A = some ad ∧ ∀ (j : Nat) (x : ByteArray), xs[j]? = some x → RdE H [.str] x (fun i => cellH H (ad.add (j * 1 + i)))) :
    Calls Tryd.prog 32 #[.slice A xs.length c, .string sep] w fun e w' => e = .returned (.string y) ∧ Go.RowKit.Below w.heap.size w w' := by
  unfold F_strings_Join at hF
  simp only at hF
  by_cases h0 : xs.length = 0
  · rw [if_pos h0] at hF
    injection hF with hF
    subst hF
    rw [h0]
    exact (Tryd.strings_Join_none A c sep w).mono fun e w' ⟨he, hw⟩ => ⟨he, by rw [hw]; exact Go.RowKit.Below.refl _ w⟩
  · rw [if_neg h0] at hF
    split at hF
    · rename_i h1
      split at hF
      · rename_i h2
        injection hF with hF
        subst hF
        obtain ⟨ad, rfl, hcell⟩ := hrd (by omega)
        have hcell' : ∀ (j : Nat) (z : ByteArray), xs[j]? = some z → cellH H (ad.add j) = some (.string z) := fun j z hz => by
          obtain ⟨v, hv, hr⟩ := hcell j z hz
          have hr' : v = .string z := hr
          subst hr'
          simpa using hv
        obtain ⟨b, o, sp⟩ := ad
        cases sp with
        | some q =>
          have := hcell' 0 (xs[0]'(by omega)) (List.getElem?_eq_getElem (by omega))
          have e : (⟨b, o, some q⟩ : Addr).add 0 = ⟨b, o, some q⟩ := by simp [Addr.add]
          rw [e] at this
          unfold cellH at this
          split at this <;> simp at this
        | none =>
          have hw : ∀ (j : Nat) (z : ByteArray), xs[j]? = some z → w.cell? ⟨b, o + j, none⟩ = some (.string z) := fun j z hz => by
            have := cellH_le hH (hcell' j z hz)
            rw [cellH_heap, add_at] at this
            exact this
          have hb : b < w.heap.size := by
            have hc0 := hw 0 (xs[0]'(by omega)) (List.getElem?_eq_getElem (by omega))
            cases hk : w.heap[b]? with
            | none => simp [World.cell?, hk] at hc0
            | some ob => exact (Array.getElem?_eq_some_iff.1 hk).1
          have hz : (joinB xs sep).size = (Lib.join (xs.map (·.data.toList)) sep.data.toList).length := by simp [joinB, ByteArray.size]
          exact Tryd.strings_Join b o c xs sep w hw hb h1 hcap (by omega)
      · cases hF
    · cases hF
theorem sig32 : C.sig 32 = some sg32 := by kernel_rfl
theorem ok32 : ContractAt C Tryd.prog 32 F_strings_Join := by
  intro sg x y hs hF w H args vs bs pb hgl hH hc ha hsp hp hx hd
  obtain rfl := Option.some.inj (hs.symm.trans sig32)
  refine hand_core (ins := [.sl 9 ts_string, .str]) (outs := [.str]) (x := x) (y := y) (g := 32) (by kernel_rfl) (by kernel_rfl) Tryd.func32 (by decide) (Option.ne_none_iff_isSome.2 (by kernel_rfl)) hH hc hsp fun hr hl hs' => ?_
  obtain ⟨arg, vs1, args1, vs2, rfl, rfl, hl1, e1, hs1⟩ := hs'
  obtain ⟨arg2, vs3, args3, vs4, rfl, rfl, hl3, e3, rfl, rfl, _⟩ := hs1
  obtain rfl : vs1 = [arg] := e1
  obtain rfl : vs3 = [arg2] := e3
  obtain ⟨⟨v, hv, hrv⟩, u, hu, hru⟩ := hr
  obtain rfl : arg = v := by simpa using hv
  obtain rfl : arg2 = u := by simpa using hu
  obtain rfl : arg2 = .string x.2 := hru
  obtain ⟨A, c, rfl, hcap, hlen, hrd⟩ := hrv
  exact (join_call x.1 x.2 y hF w H hH A c hcap hrd).mono fun e w' ⟨he, hb⟩ => ⟨[.string y], he, ⟨[.string y], [], _, [], rfl, rfl, rfl, rfl, rfl, rfl⟩, hb⟩
noncomputable def q32 : QF := ⟨32, F_strings_Join, ok32⟩
abbrev T_impl_MapText_6 : Type := Qz22
noncomputable def S_impl_MapText_6 {R : Type} (k0 : Qz23 → Option R) (again : T_impl_MapText_6 → Option R) (t6 : T_impl_MapText_6) : Option R :=
  bif (decide (t6.2.2.2.1 < t6.2.2.1)) then if (0 : Int) ≤ t6.2.2.2.1 then if t6.2.2.2.1 < ((List.length t6.2.1 : Nat) : Int) then Option.bind (F_impl_NumText (rd_i64 t6.2.1 t6.2.2.2.1)) fun r4 => if (List.length t6.2.2.2.2 + List.length ([r4] : List E_string)) * 16 < 140737488355328 then again (t6.1, t6.2.1, t6.2.2.1, (Go.IntKind.wrap .i64 (t6.2.2.2.1 + (1 : Int))), (t6.2.2.2.2 ++ ([r4] : List E_string))) else none else none else none else k0 (t6.1, t6.2.2.2.2)
noncomputable def L_impl_MapText_6 {R : Type} (k0 : Qz23 → Option R) (t : T_impl_MapText_6) : Option R := iter (S_impl_MapText_6 k0) FUEL t
noncomputable def F_impl_MapText (x : Qz19) : Option ByteArray :=
  bif x.2.1 then if ByteArray.size x.1 + ByteArray.size ({ data := #[33] }) < 140737488355328 then L_impl_MapText_6 (fun x2 => if ByteArray.size x2.1 + ByteArray.size ({ data := #[58] }) < 140737488355328 then Option.bind (F_strings_Join (x2.2, { data := #[44] })) fun r3 => if ByteArray.size (show ByteArray from (show ByteArray from x2.1) ++ (show ByteArray from { data := #[58] })) + ByteArray.size r3 < 140737488355328 then some (show ByteArray from (show ByteArray from (show ByteArray from (show ByteArray from x2.1) ++ (show ByteArray from { data := #[58] }))) ++ (show ByteArray from r3)) else none else none) ((show ByteArray from (show ByteArray from x.1) ++ (show ByteArray from { data := #[33] })), x.2.2, ((List.length x.2.2 : Nat) : Int), (0 : Int), ([] : List E_string)) else none else L_impl_MapText_6 (fun x5 => if ByteArray.size x5.1 + ByteArray.size ({ data := #[58] }) < 140737488355328 then Option.bind (F_strings_Join (x5.2, { data := #[44] })) fun r6 => if ByteArray.size (show ByteArray from (show ByteArray from x5.1) ++ (show ByteArray from { data := #[58] })) + ByteArray.size r6 < 140737488355328 then some (show ByteArray from (show ByteArray from (show ByteArray from (show ByteArray from x5.1) ++ (show ByteArray from { data := #[58] }))) ++ (show ByteArray from r6)) else none else none) (x.1, x.2.2, ((List.length x.2.2 : Nat) : Int), (0 : Int), ([] : List E_string))
noncomputable def f14Q : List QF := [q7, q32]
def f14e6_0 (t : Qz22) : St := ⟨dd 3 (vS t.1 :: .own 10000000 :: dd 10 (v_i64 t.2.1 :: vI t.2.2.1 :: vI t.2.2.2.1 :: dd 14 [])), [(10000000, .root true 9 ts_string t.2.2.2.2)]⟩
noncomputable def f14g6 : Gk T_impl_MapText_6 := fun κ => S_impl_MapText_6 (fun t => κ (some 0) ⟨dd 3 (vS t.1 :: .own 10000000 :: dd 27 []), [(10000000, .root true 9 ts_string t.2)]⟩)
noncomputable def f14P : Lp := lpC 6 (unG qz22 f14e6_0) @f14g6 lpN
theorem f14C6 : LF f14Q f14P 14 6 Tryd.f14 0 f14e6_0 @f14g6 fun t => t := fun R κ again t => by kernel_rfl
theorem f14k6 : LK f14Q f14P 14 Tryd.f14 0 := loop_okG (u := (unG qz22 f14e6_0)) (by kernel_rfl) (unG_ok fun t => by kernel_rfl) (fun R κ s => by kernel_rfl) f14C6
theorem ev14 : EV f14Q f14P 14 Tryd.f14 sg14 qz19 [.str] F_impl_MapText := fun x => by kernel_rfl
noncomputable def q14 : QF := ⟨14, F_impl_MapText, okN (n := 1) Tryd.func14 (by kernel_rfl) (by kernel_rfl) ⟨f14k6, trivial⟩ ev14⟩
abbrev T_spec_MapText_6 : Type := Qz24
noncomputable def S_spec_MapText_6 {R : Type} (k0 : ByteArray → Option R) (again : T_spec_MapText_6 → Option R) (t6 : T_spec_MapText_6) : Option R :=
  bif (decide (t6.2.1 < ((List.length t6.2.2.2.2 : Nat) : Int))) then bif (decide (t6.2.1 > (0 : Int))) then if ByteArray.size t6.1 + ByteArray.size ({ data := #[44] }) < 140737488355328 then if (0 : Int) ≤ t6.2.1 then if t6.2.1 < ((List.length t6.2.2.2.2 : Nat) : Int) then Option.bind (F_spec_NumText (rd_i64 t6.2.2.2.2 t6.2.1)) fun r4 => if ByteArray.size (show ByteArray from (show ByteArray from t6.1) ++ (show ByteArray from { data := #[44] })) + ByteArray.size r4 < 140737488355328 then again ((show ByteArray from (show ByteArray from (show ByteArray from (show ByteArray from t6.1) ++ (show ByteArray from { data := #[44] }))) ++ (show ByteArray from r4)), (Go.IntKind.wrap .i64 (t6.2.1 + (1 : Int))), t6.2.2.1, t6.2.2.2.1, t6.2.2.2.2) else none else none else none else none else if (0 : Int) ≤ t6.2.1 then if t6.2.1 < ((List.length t6.2.2.2.2 : Nat) : Int) then Option.bind (F_spec_NumText (rd_i64 t6.2.2.2.2 t6.2.1)) fun r5 => if ByteArray.size t6.1 + ByteArray.size r5 < 140737488355328 then again ((show ByteArray from (show ByteArray from t6.1) ++ (show ByteArray from r5)), (Go.IntKind.wrap .i64 (t6.2.1 + (1 : Int))), t6.2.2.1, t6.2.2.2.1, t6.2.2.2.2) else none else none else none else k0 t6.1
noncomputable def L_spec_MapText_6 {R : Type} (k0 : ByteArray → Option R) (t : T_spec_MapText_6) : Option R := iter (S_spec_MapText_6 k0) FUEL t
noncomputable def F_spec_MapText (x : Qz19) : Option ByteArray :=
  bif x.2.1 then if ByteArray.size x.1 + ByteArray.size ({ data := #[33] }) < 140737488355328 then if ByteArray.size (show ByteArray from (show ByteArray from x.1) ++ (show ByteArray from { data := #[33] })) + ByteArray.size ({ data := #[58] }) < 140737488355328 then L_spec_MapText_6 (fun x3 => some x3) ((show ByteArray from (show ByteArray from (show ByteArray from (show ByteArray from x.1) ++ (show ByteArray from { data := #[33] }))) ++ (show ByteArray from { data := #[58] })), (0 : Int), x.1, x.2.1, x.2.2) else none else none else if ByteArray.size x.1 + ByteArray.size ({ data := #[58] }) < 140737488355328 then L_spec_MapText_6 (fun x6 => some x6) ((show ByteArray from (show ByteArray from x.1) ++ (show ByteArray from { data := #[58] })), (0 : Int), x.1, x.2.1, x.2.2) else none
noncomputable def f15Q : List QF := [q20]
def f15e6_0 (t : Qz24) : St := ⟨.dead :: .box 1 0 :: .dead :: vS t.1 :: vI t.2.1 :: dd 28 [], [(1, .box [vS t.2.2.1, vB t.2.2.2.1, v_i64 t.2.2.2.2])]⟩
noncomputable def f15g6 : Gk T_spec_MapText_6 := fun κ => S_spec_MapText_6 (fun t => κ (some 0) ⟨dd 3 (vS t :: dd 29 []), []⟩)
noncomputable def f15P : Lp := lpC 6 (unG qz24 f15e6_0) @f15g6 lpN
theorem f15C6 : LF f15Q f15P 15 6 Tryd.f15 0 f15e6_0 @f15g6 fun t => t := fun R κ again t => by kernel_rfl
theorem f15k6 : LK f15Q f15P 15 Tryd.f15 0 := loop_okG (u := (unG qz24 f15e6_0)) (by kernel_rfl) (unG_ok fun t => by kernel_rfl) (fun R κ s => by kernel_rfl) f15C6
theorem ev15 : EV f15Q f15P 15 Tryd.f15 sg15 qz19 [.str] F_spec_MapText := fun x => by kernel_rfl
noncomputable def q15 : QF := ⟨15, F_spec_MapText, okN (n := 1) Tryd.func15 (by kernel_rfl) (by kernel_rfl) ⟨f15k6, trivial⟩ ev15⟩
noncomputable def F_impl_KeyText (x : Qz21) : Option ByteArray :=
  Option.bind (F_impl_NumText x.1) fun r1 => if ByteArray.size r1 + ByteArray.size ({ data := #[46] }) < 140737488355328 then Option.bind (F_impl_NumText x.2.1) fun r2 => if ByteArray.size (show ByteArray from (show ByteArray from r1) ++ (show ByteArray from { data := #[46] })) + ByteArray.size r2 < 140737488355328 then bif (x.2.2.1 == (1 : Int)) then if ByteArray.size (show ByteArray from (show ByteArray from (show ByteArray from (show ByteArray from r1) ++ (show ByteArray from { data := #[46] }))) ++ (show ByteArray from r2)) + ByteArray.size ({ data := #[61] }) < 140737488355328 then Option.bind (F_impl_NumText x.2.2.2.1) fun r3 => if ByteArray.size (show ByteArray from (show ByteArray from (show ByteArray from (show ByteArray from (show ByteArray from (show ByteArray from r1) ++ (show ByteArray from { data := #[46] }))) ++ (show ByteArray from r2))) ++ (show ByteArray from { data := #[61] })) + ByteArray.size r3 < 140737488355328 then some (show ByteArray from (show ByteArray from (show ByteArray from (show ByteArray from (show ByteArray from (show ByteArray from (show ByteArray from (show ByteArray from r1) ++ (show ByteArray from { data := #[46] }))) ++ (show ByteArray from r2))) ++ (show ByteArray from { data := #[61] }))) ++ (show ByteArray from r3)) else none else none else bif (x.2.2.1 == (2 : Int)) then if ByteArray.size (show ByteArray from (show ByteArray from (show ByteArray from (show ByteArray from r1) ++ (show ByteArray from { data := #[46] }))) ++ (show ByteArray from r2)) + ByteArray.size ({ data := #[45] }) < 140737488355328 then some (show ByteArray from (show ByteArray from (show ByteArray from (show ByteArray from (show ByteArray from (show ByteArray from r1) ++ (show ByteArray from { data := #[46] }))) ++ (show ByteArray from r2))) ++ (show ByteArray from { data := #[45] })) else none else if ByteArray.size (show ByteArray from (show ByteArray from (show ByteArray from (show ByteArray from r1) ++ (show ByteArray from { data := #[46] }))) ++ (show ByteArray from r2)) + ByteArray.size ({ data := #[63] }) < 140737488355328 then some (show ByteArray from (show ByteArray from (show ByteArray from (show ByteArray from (show ByteArray from (show ByteArray from r1) ++ (show ByteArray from { data := #[46] }))) ++ (show ByteArray from r2))) ++ (show ByteArray from { data := #[63] })) else none else none else none
theorem ev16 : EV [q7] lpN 16 Tryd.f16 sg16 qz21 [.str] F_impl_KeyText := fun x => by kernel_rfl
noncomputable def q16 : QF := ⟨16, F_impl_KeyText, okN (n := 0) Tryd.func16 (by kernel_rfl) (by kernel_rfl) trivial ev16⟩
noncomputable def F_spec_KeyText (x : Qz21) : Option ByteArray :=
  Option.bind (F_spec_NumText x.1) fun r1 => if ByteArray.size r1 + ByteArray.size ({ data := #[46] }) < 140737488355328 then Option.bind (F_spec_NumText x.2.1) fun r2 => if ByteArray.size (show ByteArray from (show ByteArray from r1) ++ (show ByteArray from { data := #[46] })) + ByteArray.size r2 < 140737488355328 then bif (x.2.2.1 == (1 : Int)) then if ByteArray.size (show ByteArray from (show ByteArray from (show ByteArray from (show ByteArray from r1) ++ (show ByteArray from { data := #[46] }))) ++ (show ByteArray from r2)) + ByteArray.size ({ data := #[61] }) < 140737488355328 then Option.bind (F_spec_NumText x.2.2.2.1) fun r3 => if ByteArray.size (show ByteArray from (show ByteArray from (show ByteArray from (show ByteArray from (show ByteArray from (show ByteArray from r1) ++ (show ByteArray from { data := #[46] }))) ++ (show ByteArray from r2))) ++ (show ByteArray from { data := #[61] })) + ByteArray.size r3 < 140737488355328 then some (show ByteArray from (show ByteArray from (show ByteArray from (show ByteArray from (show ByteArray from (show ByteArray from (show ByteArray from (show ByteArray from r1) ++ (show ByteArray from { data := #[46] }))) ++ (show ByteArray from r2))) ++ (show ByteArray from { data := #[61] }))) ++ (show ByteArray from r3)) else none else none else bif (x.2.2.1 == (2 : Int)) then if ByteArray.size (show ByteArray from (show ByteArray from (show ByteArray from (show ByteArray from r1) ++ (show ByteArray from { data := #[46] }))) ++ (show ByteArray from r2)) + ByteArray.size ({ data := #[45] }) < 140737488355328 then some (show ByteArray from (show ByteArray from (show ByteArray from (show ByteArray from (show ByteArray from (show ByteArray from r1) ++ (show ByteArray from { data := #[46] }))) ++ (show ByteArray from r2))) ++ (show ByteArray from { data := #[45] })) else none else if ByteArray.size (show ByteArray from (show ByteArray from (show ByteArray from (show ByteArray from r1) ++ (show ByteArray from { data := #[46] }))) ++ (show ByteArray from r2)) + ByteArray.size ({ data := #[63] }) < 140737488355328 then some (show ByteArray from (show ByteArray from (show ByteArray from (show ByteArray from (show ByteArray from (show ByteArray from r1) ++ (show ByteArray from { data := #[46] }))) ++ (show ByteArray from r2))) ++ (show ByteArray from { data := #[63] })) else none else none else none
theorem ev17 : EV [q20] lpN 17 Tryd.f17 sg17 qz21 [.str] F_spec_KeyText := fun x => by kernel_rfl
noncomputable def q17 : QF := ⟨17, F_spec_KeyText, okN (n := 0) Tryd.func17 (by kernel_rfl) (by kernel_rfl) trivial ev17⟩
noncomputable def F_impl_CodeText (x : Int) : Option ByteArray :=
  Option.bind (F_impl_within (x, (0 : Int), (6 : Int))) fun r1 => bif (!r1) then some ({ data := #[] }) else if (0 : Int) ≤ x then if x < ((List.length ([{ data := #[103, 111, 111, 100] }, { data := #[102, 111, 114, 109] }, { data := #[110, 111, 110, 101] }, { data := #[116, 104, 101, 114, 101] }, { data := #[114, 97, 110, 103, 101] }, { data := #[102, 105, 120, 101, 100] }, { data := #[102, 117, 108, 108] }] : List E_string) : Nat) : Int) then some (rd_string ([{ data := #[103, 111, 111, 100] }, { data := #[102, 111, 114, 109] }, { data := #[110, 111, 110, 101] }, { data := #[116, 104, 101, 114, 101] }, { data := #[114, 97, 110, 103, 101] }, { data := #[102, 105, 120, 101, 100] }, { data := #[102, 117, 108, 108] }] : List E_string) x) else none else none
theorem ev18 : EV [q33] lpN 18 Tryd.f18 sg18 [(.int .i64)] [.str] F_impl_CodeText := fun x => by kernel_rfl
noncomputable def q18 : QF := ⟨18, F_impl_CodeText, okN (n := 0) Tryd.func18 (by kernel_rfl) (by kernel_rfl) trivial ev18⟩
noncomputable def F_spec_CodeText (x : Int) : Option ByteArray :=
  Option.bind (F_spec_l1In (x, (0 : Int), (6 : Int))) fun r1 => bif (!r1) then some ({ data := #[] }) else if (0 : Int) ≤ x then if x < ((List.length ([{ data := #[103, 111, 111, 100] }, { data := #[102, 111, 114, 109] }, { data := #[110, 111, 110, 101] }, { data := #[116, 104, 101, 114, 101] }, { data := #[114, 97, 110, 103, 101] }, { data := #[102, 105, 120, 101, 100] }, { data := #[102, 117, 108, 108] }] : List E_string) : Nat) : Int) then some (rd_string ([{ data := #[103, 111, 111, 100] }, { data := #[102, 111, 114, 109] }, { data := #[110, 111, 110, 101] }, { data := #[116, 104, 101, 114, 101] }, { data := #[114, 97, 110, 103, 101] }, { data := #[102, 105, 120, 101, 100] }, { data := #[102, 117, 108, 108] }] : List E_string) x) else none else none
theorem ev19 : EV [q28] lpN 19 Tryd.f19 sg19 [(.int .i64)] [.str] F_spec_CodeText := fun x => by kernel_rfl
noncomputable def q19 : QF := ⟨19, F_spec_CodeText, okN (n := 0) Tryd.func19 (by kernel_rfl) (by kernel_rfl) trivial ev19⟩
noncomputable def F_laws_FnTexts (x : List E_u8) : Option Bool :=
  Option.bind (F_laws_big x) fun r1 => bif r1 then some true else Option.bind (F_laws_at (x, (2 : Int))) fun r2 => Option.bind (F_laws_at (x, (3 : Int))) fun r3 => Option.bind (F_impl_NumText (Go.IntKind.wrap .i64 ((Go.IntKind.wrap .i64 (r2 * (256 : Int))) + r3))) fun r4 => Option.bind (F_impl_ParseNum r4) fun r5 => Option.bind (F_spec_DrawParseNum x) fun r6 => Option.bind (F_impl_ParseNum r6) fun r7 => Option.bind (F_spec_ParseNum r6) fun r8 => Option.bind (F_spec_DrawMapText x) fun r9 => Option.bind (F_spec_DrawKeyText x) fun r10 => Option.bind (F_spec_DrawCodeText x) fun r11 => Option.bind (F_spec_DrawNumText x) fun r12 => Option.bind (bif r5.2 then some (r5.1 == (Go.IntKind.wrap .i64 ((Go.IntKind.wrap .i64 (r2 * (256 : Int))) + r3))) else some false) fun u13 => Option.bind (bif u13 then some (r7.2 == r8.2) else some false) fun u14 => Option.bind (bif u14 then Option.bind (bif (!r7.2) then some true else Option.bind (F_impl_NumText r7.1) fun r17 => some ((ByteArray.toList r17) == (ByteArray.toList r6))) fun u16 => some u16 else some false) fun u15 => Option.bind (bif u15 then Option.bind (F_impl_MapText (r9.1, r9.2.1, r9.2.2)) fun r19 => Option.bind (F_spec_MapText (r9.1, r9.2.1, r9.2.2)) fun r20 => some ((ByteArray.toList r19) == (ByteArray.toList r20)) else some false) fun u18 => Option.bind (bif u18 then Option.bind (F_impl_KeyText (r10.1, r10.2.1, r10.2.2.1, r10.2.2.2.1, r10.2.2.2.2)) fun r22 => Option.bind (F_spec_KeyText (r10.1, r10.2.1, r10.2.2.1, r10.2.2.2.1, r10.2.2.2.2)) fun r23 => some ((ByteArray.toList r22) == (ByteArray.toList r23)) else some false) fun u21 => Option.bind (bif u21 then Option.bind (F_impl_CodeText r11) fun r25 => Option.bind (F_spec_CodeText r11) fun r26 => some ((ByteArray.toList r25) == (ByteArray.toList r26)) else some false) fun u24 => Option.bind (bif u24 then Option.bind (F_impl_NumText r12) fun r28 => Option.bind (F_spec_NumText r12) fun r29 => some ((ByteArray.toList r28) == (ByteArray.toList r29)) else some false) fun u27 => some u27
theorem ev3 : EV [q4, q5, q6, q7, q8, q9, q10, q11, q12, q13, q14, q15, q16, q17, q18, q19, q20] lpN 3 Tryd.f3 sg3 [(.sl 5 ts_u8)] [.bool] F_laws_FnTexts := fun x => by kernel_rfl
noncomputable def q3 : QF := ⟨3, F_laws_FnTexts, okN (n := 0) Tryd.func3 (by kernel_rfl) (by kernel_rfl) trivial ev3⟩
end Go.Proofs.YtkjpediopepbkaaDoor.XH
