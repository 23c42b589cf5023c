/- What functions compute, and that they do; part 0 of P; by a program (dec.py). No condition. -/
import Derived.Test.YtmanmgafjbnakaaDoorXP
set_option linter.all false
namespace Go.Proofs.YtmanmgafjbnakaaDoor.XP
open Go.Proofs.YtmanmgafjbnakaaDoor.R
set_option maxRecDepth 100000
noncomputable def F_spec_l1In (x : Qz0) : Option Bool :=
  Option.bind (bif (decide (x.1 ≥ x.2.1)) then some (decide (x.1 ≤ x.2.2)) else some false) fun u1 => some u1
theorem ev24 : EV [] lpN 24 Tryd.f24 sg24 qz0 [.bool] F_spec_l1In := fun x => by kernel_rfl
noncomputable def q24 : QF := ⟨24, F_spec_l1In, okN (n := 0) Tryd.func24 (by kernel_rfl) (by kernel_rfl) trivial ev24⟩
abbrev T_spec_ParseNum_3 : Type := Qz1
noncomputable def S_spec_ParseNum_3 {R : Type} (k0 : Qz2 → Option R) (k1 : Qz3 → Option R) (again : T_spec_ParseNum_3 → Option R) (t3 : T_spec_ParseNum_3) : Option R :=
  Option.bind (bif (decide (t3.2.2 < ((ByteArray.size t3.1 : Nat) : Int))) then some (decide (t3.2.2 < (6 : Int))) else some false) fun u1 => bif u1 then if (0 : Int) ≤ t3.2.2 then if h2 : Int.toNat t3.2.2 < ByteArray.size t3.1 then Option.bind (F_spec_l1In ((Go.IntKind.wrap .i64 ((UInt8.toNat (ByteArray.get t3.1 (Int.toNat t3.2.2) h2) : Nat) : Int)), (48 : Int), (57 : Int))) fun r3 => bif (!r3) then k0 (t3.1, (0 : Int), false, t3.2.1) else if (0 : Int) ≤ t3.2.2 then if h4 : Int.toNat t3.2.2 < ByteArray.size t3.1 then again (t3.1, (Go.IntKind.wrap .i64 ((Go.IntKind.wrap .i64 (t3.2.1 * (10 : Int))) + (Go.IntKind.wrap .i64 (Go.IntKind.wrap .u8 (((UInt8.toNat (ByteArray.get t3.1 (Int.toNat t3.2.2) h4) : Nat) : Int) - (48 : Int)))))), (Go.IntKind.wrap .i64 (t3.2.2 + (1 : Int)))) else none else none else none else none else k1 (t3.1, t3.2.1)
noncomputable def L_spec_ParseNum_3 {R : Type} (k0 : Qz2 → Option R) (k1 : Qz3 → Option R) (t : T_spec_ParseNum_3) : Option R := iter (S_spec_ParseNum_3 k0 k1) FUEL t
noncomputable def F_spec_ParseNum (x : ByteArray) : Option Qz4 :=
  L_spec_ParseNum_3 (fun x5 => some (x5.2.1, x5.2.2.1)) (fun x6 => Option.bind (F_spec_l1In (((ByteArray.size x6.1 : Nat) : Int), (1 : Int), (5 : Int))) fun r7 => Option.bind (bif (!r7) then some true else Option.bind (bif (decide (((ByteArray.size x6.1 : Nat) : Int) > (1 : Int))) then if (0 : Int) ≤ (0 : Int) then if h10 : Int.toNat (0 : Int) < ByteArray.size x6.1 then some (((UInt8.toNat (ByteArray.get x6.1 (Int.toNat (0 : Int)) h10) : Nat) : Int) == (48 : Int)) else none else none else some false) fun u9 => some u9) fun u8 => Option.bind (bif u8 then some true else some (decide (x6.2 > (65535 : Int)))) fun u11 => bif u11 then some ((0 : Int), false) else some (x6.2, true)) (x, (0 : Int), (0 : Int))
noncomputable def f17Q : List QF := [q24]
def f17e3_0 (t : Qz1) : St := ⟨vS t.1 :: dd 3 (vI t.2.1 :: vI t.2.2 :: dd 43 []), []⟩
noncomputable def f17g3 : Gk T_spec_ParseNum_3 := fun κ => S_spec_ParseNum_3 (fun t => κ none ⟨vS t.1 :: .dead :: vI t.2.1 :: vB t.2.2.1 :: vI t.2.2.2 :: dd 44 [], []⟩) (fun t => κ (some 0) ⟨vS t.1 :: dd 3 (vI t.2 :: dd 44 []), []⟩)
noncomputable def f17P : Lp := lpC 3 (unG qz1 f17e3_0) @f17g3 lpN
theorem f17C3 : LF f17Q f17P 17 3 Tryd.f17 0 f17e3_0 @f17g3 fun t => t := fun R κ again t => by kernel_rfl
theorem f17k3 : LK f17Q f17P 17 Tryd.f17 0 := loop_okG (u := (unG qz1 f17e3_0)) (by kernel_rfl) (unG_ok fun t => by kernel_rfl) (fun R κ s => by kernel_rfl) f17C3
theorem ev17 : EV f17Q f17P 17 Tryd.f17 sg17 [.str] qz4 F_spec_ParseNum := fun x => by kernel_rfl
noncomputable def q17 : QF := ⟨17, F_spec_ParseNum, okN (n := 1) Tryd.func17 (by kernel_rfl) (by kernel_rfl) ⟨f17k3, trivial⟩ ev17⟩
/-- impl.ParseNum: a word's numeral. -/
def parseB (s : ByteArray) : Int × Bool := match Lib.atoiAll s.data.toList with
  | .ok v => if 0 ≤ v ∧ v ≤ 65535 ∧ Lib.itoa v = s.data.toList then (v, true) else (0, false)
  | _ => (0, false)
def F_impl_ParseNum (s : ByteArray) : Option (Int × Bool) := if s.size ≤ 281474976710656 then some (parseB s) else none
open Go.RowKit in
theorem parse_ok (s : ByteArray) (hs : s.size ≤ 281474976710656) (w : World) (hg : ∀ w' : World, Hp.le (heapOf w) (heapOf w') → Lib.TabIs Tryd.prog w' "internal/strconv.uint64pow10" .u64 Lib.pow10Tab) (v : Int) (h : Lib.atoiAll s.data.toList = .ok v) (up : ∀ w' : World, Go.RowKit.Below w.heap.size w w' → Hp.le (heapOf w) (heapOf w'))
   (hb : -9223372036854775808 ≤ v ∧ v ≤ 9223372036854775807) :
    Calls Tryd.prog 18 #[.string s] w fun e w' => e = .returned (.tuple #[.int .i64 (if 0 ≤ v ∧ v ≤ 65535 ∧ Lib.itoa v = s.data.toList then (v, true) else (0, false)).1, .bool (if 0 ≤ v ∧ v ≤ 65535 ∧ Lib.itoa v = s.data.toList then (v, true) else (0, false)).2]) ∧ Go.RowKit.Below w.heap.size w w' := by
  have bel : ∀ W1 : World, (W1 = w ∨ ∃ t, W1 = Lib.bytesWorld w 5 t) → Go.RowKit.Below w.heap.size w W1 := fun W1 h => by
    rcases h with rfl | ⟨t, rfl⟩
    · exact Below.refl _ _
    · exact Lib.bytesWorld_below _ _ _
  have bel := Lib.hid bel
  generalize hr : (if 0 ≤ v ∧ v ≤ 65535 ∧ Lib.itoa v = s.data.toList then (v, true) else ((0 : Int), false)) = r
  have hr' := Lib.hid hr
  clear hr
  go_enter Tryd.func18, Tryd.ntmps18
  go_wp2_with (first
    | (go_at_call 25; refine (Tryd.strconv_Atoi_ok s (by omega) v h _).mono ?_; rintro e w1 ⟨rfl, hw1⟩)
    | (go_at_call 19; refine (Tryd.strconv_Itoa v hb.1 hb.2 _ ?_).mono ?_; rotate_left; rintro e w2 ⟨rfl, k, os, hw2⟩)
    | go_in)
  all_goals have bel := bel.out
  · have hn : r = (0, false) := by
      have hr := hr'.out
      have hc : (!Lib.itoa v == s.toList) = true := by assumption
      rw [Lib.toList_data] at hc
      rw [← hr, if_neg fun h => by simp [h.2.2] at hc]
    subst hn
    go_ret2
    exact ⟨rfl, (bel w1 hw1).trans (Lib.below_grow _ w1 (bel w1 hw1).size k os)⟩
  · have hn : r = (v, true) := by
      have hr := hr'.out
      have hc : (!Lib.itoa v == s.toList) = false := by assumption
      rw [Lib.toList_data] at hc
      rw [← hr, if_pos ⟨by assumption, by assumption, by simpa using hc⟩]
    subst hn
    go_ret2
    exact ⟨rfl, (bel w1 hw1).trans (Lib.below_grow _ w1 (bel w1 hw1).size k os)⟩
  · exact hg w1 (up w1 (bel w1 hw1))
  · have hn : r = (0, false) := by
      have hr := hr'.out
      rw [← hr, if_neg fun h => by omega]
    subst hn
    go_ret2
    exact ⟨rfl, bel w1 hw1⟩
  · have hn : r = (0, false) := by
      have hr := hr'.out
      rw [← hr, if_neg fun h => by omega]
    subst hn
    go_ret2
    exact ⟨rfl, bel w1 hw1⟩
open Go.RowKit in
theorem parse_range (s : ByteArray) (hs : s.size ≤ 281474976710656) (w : World) (tp : TypeId) (p : Value) (hv : w.var? Tryd.prog "strconv.ErrRange" = some #[.iface tp p]) (h : Lib.atoiAll s.data.toList = .range) :
    Calls Tryd.prog 18 #[.string s] w fun e w' => e = .returned (.tuple #[.int .i64 0, .bool false]) ∧ Go.RowKit.Below w.heap.size w w' := by
  go_enter Tryd.func18, Tryd.ntmps18
  go_wp2_with (first
    | (go_at_call 25; refine (Any.strconv_Atoi_range_var Tryd.laysC172 s hs h tp p _ hv).mono ?_)
    | go_in)
  rintro e W1 ⟨N, rfl, -, -, hb⟩
  go_wp2
  go_ret2
  exact ⟨rfl, hb⟩
open Go.RowKit in
theorem parse_syn (s : ByteArray) (hs : s.size ≤ 281474976710656) (w : World) (tp : TypeId) (p : Value) (hv : w.var? Tryd.prog "strconv.ErrSyntax" = some #[.iface tp p]) (h : (∀ v, Lib.atoiAll s.data.toList ≠ .ok v) ∧ Lib.atoiAll s.data.toList ≠ .range) :
    Calls Tryd.prog 18 #[.string s] w fun e w' => e = .returned (.tuple #[.int .i64 0, .bool false]) ∧ Go.RowKit.Below w.heap.size w w' := by
  cases e : Lib.atoiAll s.data.toList
  · rename_i v
    exact absurd e (h.1 v)
  · go_enter Tryd.func18, Tryd.ntmps18
    go_wp2_with (first
      | (go_at_call 25; refine (Any.strconv_Atoi_syntax_var Tryd.laysC172 s hs e tp p _ hv).mono ?_)
      | go_in)
    rintro e1 W1 ⟨N, rfl, -, -, hb⟩
    go_wp2
    go_ret2
    exact ⟨rfl, hb⟩
  · exact absurd e h.2
theorem parse_call (s : ByteArray) (hs : s.size ≤ 281474976710656) (w : World) (hg : ∀ w' : World, Hp.le (heapOf w) (heapOf w') → Lib.TabIs Tryd.prog w' "internal/strconv.uint64pow10" .u64 Lib.pow10Tab) (h1 : ∃ tp p, w.var? Tryd.prog "strconv.ErrSyntax" = some #[.iface tp p]) (h2 : ∃ tp p, w.var? Tryd.prog "strconv.ErrRange" = some #[.iface tp p]) :
    Calls Tryd.prog 18 #[.string s] w fun e w' => e = .returned (.tuple #[.int .i64 (parseB s).1, .bool (parseB s).2]) ∧ Go.RowKit.Below w.heap.size w w' := by
  have up : ∀ w' : World, Go.RowKit.Below w.heap.size w w' → Hp.le (heapOf w) (heapOf w') := fun w' hb k o hk => by
    have hk' : w.heap[k]? = some o := hk
    show w'.heap[k]? = some o
    rw [hb.block k (Array.getElem?_eq_some_iff.1 hk').1]
    exact hk'
  by_cases hr : Lib.atoiAll s.data.toList = .range
  · have e : parseB s = (0, false) := by simp only [parseB, hr]
    rw [e]
    obtain ⟨tp, p, hv⟩ := h2
    exact parse_range s hs w tp p hv hr
  · by_cases hk : ∃ v, Lib.atoiAll s.data.toList = .ok v
    · obtain ⟨v, h⟩ := hk
      have e : parseB s = if 0 ≤ v ∧ v ≤ 65535 ∧ Lib.itoa v = s.data.toList then (v, true) else (0, false) := by simp only [parseB, h]
      rw [e]
      exact parse_ok s hs w hg v h up (Lib.atoiAll_bounds h)
    · have e : parseB s = (0, false) := by
        unfold parseB
        split
        · rename_i v hv
          exact absurd ⟨v, hv⟩ hk
        · rfl
      rw [e]
      obtain ⟨tp, p, hv⟩ := h1
      exact parse_syn s hs w tp p hv ⟨fun v hv => hk ⟨v, hv⟩, hr⟩
theorem sig18 : C.sig 18 = some sg18 := by kernel_rfl
theorem ok18 : ContractAt C Tryd.prog 18 F_impl_ParseNum := by
  intro sg x y hs hF w H args vs bs pb hgl hH hc ha hsp hp hx hd
  obtain rfl := Option.some.inj (hs.symm.trans sig18)
  refine hand_core (ins := [.str]) (outs := [.int .i64, .bool]) (x := x) (y := y) (g := 18) (by kernel_rfl) (by kernel_rfl) Tryd.func18 (by decide) (Option.ne_none_iff_isSome.2 (by kernel_rfl)) hH hc hsp fun hr hl hs' => ?_
  obtain ⟨arg, vs1, args1, vs2, rfl, rfl, hl1, e1, rfl, rfl, _⟩ := hs'
  obtain rfl : vs1 = [arg] := e1
  obtain ⟨v, hv, hrv⟩ := hr
  obtain rfl : arg = v := by simpa using hv
  obtain rfl : arg = .string x := hrv
  have hF' : F_impl_ParseNum x = some y := hF
  unfold F_impl_ParseNum at hF'
  split at hF'
  · rename_i hsz
    injection hF' with hF'
    have hg := hgl w hH
    exact (parse_call x hsz w (fun w' hw => (hgl w' (Hp.le.trans hH hw)).1) hg.2.1 hg.2.2).mono fun e w' ⟨he, hb⟩ => ⟨[.int .i64 (parseB x).1, .bool (parseB x).2], he, ⟨[.int .i64 (parseB x).1], [.bool (parseB x).2], _, [.bool (parseB x).2], by rw [← hF']; rfl, rfl, rfl, rfl, [.bool (parseB x).2], [], _, [], rfl, rfl, rfl, rfl, rfl, rfl⟩, hb⟩
  · cases hF'
noncomputable def q18 : QF := ⟨18, F_impl_ParseNum, ok18⟩
noncomputable def F_laws_FnExactParseNum (x : ByteArray) : Option Bool :=
  bif (decide (((ByteArray.size x : Nat) : Int) > (1048576 : Int))) then some true else Option.bind (F_spec_ParseNum x) fun r1 => Option.bind (F_impl_ParseNum x) fun r2 => Option.bind (bif (r2.1 != r1.1) then some true else some (!(r2.2 == r1.2))) fun u3 => bif u3 then some false else some true
theorem ev6 : EV [q17, q18] lpN 6 Tryd.f6 sg6 [.str] [.bool] F_laws_FnExactParseNum := fun x => by kernel_rfl
noncomputable def q6 : QF := ⟨6, F_laws_FnExactParseNum, okN (n := 0) Tryd.func6 (by kernel_rfl) (by kernel_rfl) trivial ev6⟩
end Go.Proofs.YtmanmgafjbnakaaDoor.XP
