/- What a call is asked and what it answers. No condition. -/
import Derived.Test.YtgediecndaheiaaGreatREnter
set_option linter.all false
namespace Go.Proofs.YtgediecndaheiaaGreat.R
open Go.RowKit
def Qq : List RK → List Value → List Value → List Value → Prop
 | [], vs, cs, rest => cs = [] ∧ rest = vs
 | r :: rs, vs, cs, rest => ∃ vs1 vs' c cs', vs = vs1 ++ vs' ∧ vs1.length = r.ts.length ∧ cs = c :: cs' ∧ (if r.agg then c = .agg vs1.toArray else vs1 = [c]) ∧ Qq rs vs' cs' rest
def y0C (w : World) : List PK → List (Nat × Nat) → List Value → Prop
 | [], pb, vs => pb = [] ∧ vs = []
 | .v _ _ _ :: ps, pb, vs => y0C w ps pb vs
 | .k _ :: ps, pb, vs => y0C w ps pb vs
 | .p _ ts _ :: ps, pb, vs => ∃ b off pb' vs1 vs', pb = (b, off) :: pb' ∧ vs = vs1 ++ vs' ∧ vs1.length = ts.length ∧ y3U w b off vs1 ∧ y0C w ps pb' vs'
def y2B : List Value → Value
 | [c] => c
 | cs => .tuple cs.toArray
def ycU (w : World) (sg : Sig) (vs cs rest : List Value) (v : Value) (nb : Option Nat) : Prop :=
 if sg.ptr then ∃ r rs b off vs1 vs2 c2, nb = some b ∧ sg.rs = r :: rs ∧ vs = vs1 ++ vs2 ∧ vs1.length = r.ts.length ∧ Qq rs vs2 c2 rest ∧ v = y2B (.pointer (some ⟨b, off, none⟩) :: c2) ∧ y3U w b off vs1
 else nb = none ∧ Qq sg.rs vs cs rest ∧ v = y2B cs
structure Left (w : World) (lent : Nat → Prop) (H : Hp) (sg : Sig) (ts : List Ty) (y : z8 ts) (pb : List (Nat × Nat)) (v : Value) (w' : World) (H' : Hp) (vs cs rest : List Value) (bs : List (Nat → Prop)) : Prop where
 os : w'.os = w.os
 tape : w'.tape = w.tape
 output : w'.output = w.output
 size : w.heap.size ≤ w'.heap.size
 old : ∀ k, k < w.heap.size → ¬ lent k → w'.heap[k]? = w.heap[k]?
 inH : H'.le (ZQ w')
 hnew : ∀ k ob, H' k = some ob → H k = some ob ∨ w.heap.size ≤ k ∨ lent k
 cells : vm H' w' ts sg.owns y vs bs
 apart : y4Y bs
 away : ∀ k, In bs k → H' k = none ∧ (w.heap.size ≤ k ∨ lent k) ∧ ∀ p ∈ pb, p.1 ≠ k
 ptrs : ∀ p ∈ pb, H' p.1 = none
 res : ∃ nb, ycU w' sg vs cs rest v nb ∧ ∀ k, nb = some k → H' k = none ∧ (w.heap.size ≤ k ∨ lent k) ∧ ¬ In bs k ∧ ∀ p ∈ pb, p.1 ≠ k
 back : y0C w' sg.ps pb rest
def ycV (P : Program) (f : FuncId) (args : Array Value) (w : World) (R : Value → World → Prop) : Prop :=
 match (callFunc f args).run P w with
 | .ok (.enter g as) w' => Calls P g as w' fun e w'' => ∃ v, e = .returned v ∧ R v w''
 | .ok (.value v) w' => R v w'
 | _ => False
theorem y1u {P : Program} {f : FuncId} {fn : Func} {args : Array Value} {w : World} {R : Value → World → Prop} (hf : P.funcs[f]? = some fn) (hn : fn.name ≠ "runtime.NumGoroutine") (hb : fn.body ≠ none)
  (h : Calls P f args w fun e w' => ∃ v, e = .returned v ∧ R v w') : ycV P f args w R := by
 have he : (callFunc f args).run P w = .ok (.enter f args) w := by simp [callFunc, hf, hn, hb]
 unfold ycV
 rw [he]
 exact h
theorem ycV.mono {P : Program} {f : FuncId} {args : Array Value} {w : World} {R R' : Value → World → Prop} (h : ycV P f args w R) (hr : ∀ v w', R v w' → R' v w') : ycV P f args w R' := by
 unfold ycV at *
 split at h
 ·rename_i he
  exact Calls.mono h fun e w'' hv => by
   obtain ⟨v, rfl, hv⟩ := hv
   exact ⟨v, rfl, hr _ _ hv⟩
 ·exact hr _ _ h
 ·exact h.elim
theorem yji {P : Program} {o : Oper} {a : Act} {w : World} {K : Act → World → Prop} {Q : Exit → Act → World → Prop} {c : Call} {f : Operand} {g : FuncId} {caps : Array Value} (hop : o.op = .call c) (hc : c.callee = .value f) (hf : a.eval f = .func (.func g) #[] caps)
  (h : ycV P g (c.args.map a.eval ++ caps) w fun v w' => K (a.put o.dst v) w') : o.wp P a w K Q := by
 have he : execOp a.eval o = callFunc g (#[] ++ c.args.map a.eval ++ caps) := by
  simp only [execOp, hop, resolve, hc, hf]
  rfl
 unfold Oper.wp
 rw [he]
 simp only [Array.empty_append]
 unfold ycV at h
 split at h
 ·rename_i he
  rw [he]
  exact Calls.mono h fun e w'' hv => by
   obtain ⟨v, rfl, hv⟩ := hv
   exact hv
 ·rename_i he
  rw [he]
  exact h
 ·exact h.elim
def y5x (B : Hp → Prop) (C : Ctx) (P : Program) (f : Nat) (F : z8 (C.ins f) → Option (z8 (C.outs f))) : Prop :=
 ∀ (sg : Sig) (x : z8 (C.ins f)) (y : z8 (C.outs f)), C.sig f = some sg → F x = some y →
  ∀ (w : World) (H : Hp) (args vs : List Value) (bs : List (Nat → Prop)) (pb : List (Nat × Nat)), B H → H.le (ZQ w) → vm H w (C.ins f) (sg.ps.flatMap PK.ownsIn) x vs bs → y4Y bs → VY w sg.ps args vs pb → pb.Pairwise (fun p q => p.1 ≠ q.1) →
   (∀ k, qy bs pb k → H k = none) → (∀ p ∈ pb, ¬ In bs p.1) →
   ycV P (C.fid f) args.toArray w fun v w' => ∃ H' vs' cs rest bs', Left w (qy (W4 sg bs) pb) H sg (C.outs f) y pb v w' H' vs' cs rest bs'
def jY (C : Ctx) (P : Program) (f : Nat) (F : z8 (C.ins f) → Option (z8 (C.outs f))) : Prop := y5x C.gl C P f F
def v8 (H0 : Base) (C : Ctx) (P : Program) (call : C.Sem) : Prop := ∀ f, y5x (fun H => H0.H.le H) C P f (call f)
def qG (C : Ctx) (P : Program) (call : C.Sem) : Prop := ∀ f, jY C P f (call f)
theorem qG.from {C : Ctx} {P : Program} {call : C.Sem} (h : qG C P call) {H0 : Base} (hg : C.gl H0.H) : v8 H0 C P call :=
 fun f sg x y hs hF w H args vs bs pb hB => h f sg x y hs hF w H args vs bs pb (C.glm _ _ hB hg)
theorem y2C {C : Ctx} {P : Program} : ∀ (l : List (Sigma fun f : Nat => z8 (C.ins f) → Option (z8 (C.outs f)))), (∀ p ∈ l, jY C P p.1 p.2) → qG C P (tab l)
 | [], _, f => fun sg x y _ hF => by cases hF
 | ⟨g, F⟩ :: r, h, f => by
  by_cases hf : g = f
  ·subst hf
   have := h ⟨g, F⟩ (by simp)
   intro sg x y hs hF
   exact this sg x y hs (by simpa [tab] using hF)
  ·intro sg x y hs hF
   exact y2C r (fun p hp => h p (by simp [hp])) f sg x y hs (by simpa [tab, hf] using hF)
end Go.Proofs.YtgediecndaheiaaGreat.R
