/- More operations. Conditions: the types lie as the context says. -/
import Derived.Test.YtmofdkmggfdciaaGreatRPut
set_option linter.all false
namespace Go.Proofs.YtmofdkmggfdciaaGreat.R
open Go.RowKit
variable {P : Program} {C : Ctx} {w0 : World} {lent : Nat → Prop} {H0 : Base} {s : St} {a : Act} {w : World} {G : Gh} {o : Oper} {K : Act → World → Prop} {Q : Exit → Act → World → Prop} {R : Type} {k : Eff → Option R} {r : R} {lk : Lk} {call : C.Sem}
theorem lo_ok (h : Rel P w0 lent H0 s a w G) {lo : Option Operand} {kk : IntKind} {l : Int} (hl : loA s.opd lo = .val (.int kk) l) : loOk (lo.map a.eval) l := by
  cases lo with
  | none =>
    simp only [loA, hiA] at hl
    injection hl with h1 h2
    injection h1 with h1
    subst h1
    exact .inl ⟨rfl, h2.symm⟩
  | some x =>
    have hx := h.opd x
    have hl' : s.opd x = .val (.int kk) l := hl
    rw [hl'] at hx
    exact .inr ⟨kk, by rw [Option.map_some, show a.eval x = .int kk l from hx]⟩
theorem hi_ok (h : Rel P w0 lent H0 s a w G) {hi : Option Operand} {kk : IntKind} {m : Int} {n : Int} {len : Nat} (hn : n = len) (hl : hiA s.opd hi n = .val (.int kk) m) : hiOk (hi.map a.eval) m len := by
  cases hi with
  | none =>
    simp only [loA, hiA] at hl
    injection hl with h1 h2
    injection h1 with h1
    subst h1
    exact .inl ⟨rfl, by rw [← hn]; exact h2.symm⟩
  | some x =>
    have hx := h.opd x
    have hl' : s.opd x = .val (.int kk) m := hl
    rw [hl'] at hx
    exact .inr ⟨kk, by rw [Option.map_some, show a.eval x = .int kk m from hx]⟩
theorem op_slice (hT : TOk C P) (h : Rel P w0 lent H0 s a w G) (hK : Next P w0 lent H0 s o k r K) (hlk : Sees lk s) {t : Nat} {x : Operand} {lo hi : Option Operand} (hop : o.op = .slice t x lo hi none) (he : effK C call o s.opd lk k = some r) : o.wp P a w K Q := by
  have hx := h.opd x
  simp only [effK, hop] at he
  split at he
  · rename_i l0 k1 l hlo
    have hlo' := lo_ok h hlo
    split at he
    · rename_i n hn
      split at he
      · rename_i k2 m hhi
        split at he
        · rename_i h0
          split at he
          · rename_i h1
            split at he
            · rename_i h2
              split at he
              ·
                rename_i b xv ht hxa
                rw [hxa] at hx hn
                have hnn : n = (ByteArray.size xv : Nat) := by
                  have := hn
                  simp only [lenA, Option.some.injEq] at this
                  exact this.symm
                subst hnn
                have hhi' := hi_ok h rfl hhi
                refine quiet h hK he (v := .string (ByteArray.extract xv (Int.toNat l) (Int.toNat m))) ?_ rfl
                simp only [execOp, hop, Option.map_none]
                rw [show a.eval x = .string xv from hx, Sem.run_bind, slice_str hT ht xv hlo' hhi' h0 h1 h2]
                rfl
              ·
                rename_i e2 us b e ts xs ht hxa
                rw [hxa] at hx hn
                have hnn : n = (List.length xs : Nat) := by
                  have := hn
                  simp only [lenA, rowL, Option.some.injEq] at this
                  exact this.symm
                subst hnn
                have hhi' := hi_ok h rfl hhi
                cases hb : Nat.beq us.length ts.length with
                | false => simp [hb] at he
                | true =>
                  simp only [hb, cond_true] at he
                  have hx' : RdT G.H (.sl e ts) xs (a.eval x) := hx
                  obtain ⟨A, c, hv, hc, hm, hrd⟩ := id hx'
                  rw [hv] at hx'
                  have hcut := rd_cut hx' (l := Int.toNat l) (h := Int.toNat m) (by omega) (by omega)
                  refine quiet h hK he ?_ hcut
                  simp only [execOp, hop, Option.map_none]
                  rw [hv, Sem.run_bind, slice_row hT ht A _ c hlo' hhi' h0 h1 h2 hc, Nat.eq_of_beq_eq_true hb]
                  rfl
              ·
                rename_i e2 us b q ht hxa
                rw [hxa] at hx hn
                cases hq : lk q with
                | none => simp [hq] at he
                | some ob =>
                  cases ob with
                  | root own e ts xs =>
                    simp only [hq] at he
                    have hnn : n = (List.length xs : Nat) := by
                      have := hn
                      simp only [lenA, rowL, hq, Option.some.injEq] at this
                      exact this.symm
                    subst hnn
                    have hhi' := hi_ok h rfl hhi
                    cases hb : Nat.beq us.length ts.length with
                    | false => simp [hb] at he
                    | true =>
                      simp only [hb, cond_true] at he
                      obtain ⟨_, _, ⟨A, c, hsv, hc, hm, _⟩, _⟩ := root_row h (hlk q _ hq)
                      obtain ⟨G1, hg1, hr1, hrd⟩ := h.settle (hlk q _ hq)
                      rw [hg1.sv, hsv] at hrd
                      have hcut := rd_cut hrd (l := Int.toNat l) (h := Int.toNat m) (by omega) (by omega)
                      refine wp_value (v := .slice (if c = Int.toNat l then A else A.map (·.add (Int.toNat l * ts.length))) (Int.toNat m - Int.toNat l) (c - Int.toNat l)) (w' := w) ?_ (hK _ _ _ G1 he ?_)
                      · simp only [execOp, hop, Option.map_none]
                        rw [hx.1, hsv, Sem.run_bind, slice_row hT ht A _ c hlo' hhi' h0 h1 h2 hc, Nat.eq_of_beq_eq_true hb]
                        rfl
                      · have := hr1.put o.dst (x := .val (.sl e ts) ((xs.take (Int.toNat m)).drop (Int.toNat l))) hcut
                        simpa [St.apply, St.makeAll, St.setAll] using this
                  | _ => simp [hq] at he
              · cases he
            · cases he
          · cases he
        · cases he
      · cases he
    · cases he
  · cases he
theorem op_min (h : Rel P w0 lent H0 s a w G) (hK : Next P w0 lent H0 s o k r K) {c : Call} {x y : Operand} (hop : o.op = .call c) (hc : c.callee = .builtin .min) (hx : c.args.toList = [x, y]) (he : effK C call o s.opd lk k = some r) : o.wp P a w K Q := by
  have h1 := h.opd x
  have h2 := h.opd y
  simp only [effK, hop, hc, hx] at he
  split at he
  · rename_i k1 n k2 m hxa hya
    rw [hxa] at h1
    rw [hya] at h2
    split at he
    · rename_i hk
      subst hk
      refine quiet h hK he (v := .int k1 (if (show Int from m) < (show Int from n) then m else n)) ?_ rfl
      have e1 : c.args = #[x, y] := by rw [← Array.toArray_toList (xs := c.args), hx]
      simp [execOp, hop, resolve, hc, invoke, builtin, e1, Builtin.min_, Builtin.min2, show a.eval x = .int k1 n from h1, show a.eval y = .int k1 m from h2]
    · cases he
  · cases he
end Go.Proofs.YtmofdkmggfdciaaGreat.R
