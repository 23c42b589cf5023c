/- Contracts that are proved by hand: functions with plain results that change nothing. No condition. -/
import Derived.Test.YtkjpediopepbkaaDoorRRow
namespace Go.Proofs.YtkjpediopepbkaaDoor.R
open Go.RowKit
set_option linter.unusedVariables false
set_option linter.unusedSimpArgs false
variable {P : Program} {C : Ctx}

def valV : (t : Ty) → El t → Value
  | .int k, n => .int k n
  | .bool, b => .bool b
  | .str, s => .string s
  | .sl _ _, _ => .slice none 0 0
/-- Plain values, one behind the other. -/
def flatV : (ts : List Ty) → Elts ts → List Value
  | [], _ => []
  | t :: [], x => [valV t x]
  | t :: u :: r, x => valV t x.1 :: flatV (u :: r) x.2
theorem cellR_flat {H : Hp} {w : World} {t : Ty} (hf : t.flat = true) (own : Bool) (x : El t) : CellR H w t own x (valV t x) none := by
  cases t with
  | sl e ts => simp [Ty.flat] at hf
  | int k => cases own <;> exact ⟨rfl, rfl⟩
  | bool => cases own <;> exact ⟨rfl, rfl⟩
  | str => cases own <;> exact ⟨rfl, rfl⟩
theorem cellsR_flat {H : Hp} {w : World} : ∀ (ts : List Ty) (os : List Bool) (x : Elts ts), flats ts = true → ∃ bs, CellsR H w ts os x (flatV ts x) bs ∧ ∀ b ∈ bs, b = none := by
  intro ts
  induction ts with
  | nil => intro os x _; exact ⟨[], ⟨rfl, rfl⟩, by simp⟩
  | cons t ts ih =>
    intro os x hf
    simp only [flats, Bool.and_eq_true] at hf
    cases ts with
    | nil => exact ⟨[none], ⟨_, none, rfl, rfl, cellR_flat hf.1 _ x⟩, by simp⟩
    | cons u r =>
      obtain ⟨bs, h1, h2⟩ := ih os.tail x.2 hf.2
      exact ⟨none :: bs, ⟨_, none, _, bs, rfl, rfl, cellR_flat hf.1 _ x.1, h1⟩, by simpa using h2⟩
theorem headD_false {os : List Bool} (h : ∀ b ∈ os, b = false) : os.headD false = false := by
  cases os with
  | nil => rfl
  | cons b os => exact h b (by simp)
/-- What is handed in and is not given away reads as it is told. -/
theorem cellsR_read {H : Hp} {w : World} : ∀ (ts : List Ty) (os : List Bool) (x : Elts ts) (vs : List Value) (bs : List (Option Nat)), (∀ b ∈ os, b = false) → CellsR H w ts os x vs bs → RdE H ts x (fun i => vs[i]?) ∧ vs.length = ts.length ∧ ∀ b ∈ bs, b = none := by
  have one : ∀ {t : Ty} {x : El t} {v : Value} {b : Option Nat}, CellR H w t false x v b → RdT H t x v ∧ b = none := by
    intro t x v b h
    cases t <;> exact ⟨h.2, h.1⟩
  intro ts
  induction ts with
  | nil =>
    intro os x vs bs _ h
    obtain ⟨rfl, rfl⟩ := h
    exact ⟨trivial, rfl, by simp⟩
  | cons t ts ih =>
    intro os x vs bs ho h
    cases ts with
    | nil =>
      obtain ⟨v, b, rfl, rfl, hc⟩ := h
      rw [headD_false ho] at hc
      obtain ⟨h1, rfl⟩ := one hc
      exact ⟨⟨v, rfl, h1⟩, rfl, by simp⟩
    | cons u r =>
      obtain ⟨v, b, vs', bs', rfl, rfl, hc, hcs⟩ := h
      rw [headD_false ho] at hc
      obtain ⟨h1, rfl⟩ := one hc
      obtain ⟨i1, i2, i3⟩ := ih os.tail x.2 vs' bs' (fun b hb => ho b (List.mem_of_mem_tail hb)) hcs
      exact ⟨⟨⟨v, rfl, h1⟩, i1⟩, by simp [i2], by simpa using i3⟩
/-- Parameters by value that keep what is theirs. -/
def handP (ps : List PK) : Bool := ps.all fun p => !p.isP && p.ownsIn.all fun b => !b
theorem spread_noP {w : World} : ∀ (ps : List PK) (args vs : List Value) (pb : List (Nat × Nat)), (∀ p ∈ ps, p.isP = false) → Spread w ps args vs pb → pb = [] := by
  intro ps
  induction ps with
  | nil => intro args vs pb _ h; exact h.2.2
  | cons p ps ih =>
    intro args vs pb hp h
    cases p with
    | v agg ts os =>
      obtain ⟨arg, vs1, args', vs', _, _, _, _, hs⟩ := h
      exact ih args' vs' pb (fun q hq => hp q (by simp [hq])) hs
    | k f =>
      obtain ⟨args', _, hs⟩ := h
      exact ih args' vs pb (fun q hq => hp q (by simp [hq])) hs
    | p wr ts os => exact absurd (hp (.p wr ts os) (by simp)) (by simp [PK.isP])
theorem back_noP {w : World} : ∀ (ps : List PK), (∀ p ∈ ps, p.isP = false) → BackAt w ps [] [] := by
  intro ps
  induction ps with
  | nil => intro _; exact ⟨rfl, rfl⟩
  | cons p ps ih =>
    intro hp
    cases p with
    | v agg ts os => exact ih (fun q hq => hp q (by simp [hq]))
    | k f => exact ih (fun q hq => hp q (by simp [hq]))
    | p wr ts os => exact absurd (hp (.p wr ts os) (by simp)) (by simp [PK.isP])
theorem hand_core {ps : List PK} {rs : List RK} {ins outs : List Ty} {x : Elts ins} {y : Elts outs} {g : Nat} {fn : Func} (hps : handP ps = true) (hfl : flats outs = true) (hfn : P.funcs[g]? = some fn) (hn : fn.name ≠ "runtime.NumGoroutine") (hb : fn.body ≠ none)
    {w : World} {H : Hp} {args vs : List Value} {bs : List (Option Nat)} {pb : List (Nat × Nat)} (hH : H.le (heapOf w)) (hc : CellsR H w ins (ps.flatMap PK.ownsIn) x vs bs) (hs : Spread w ps args vs pb)
    (hcall : RdE H ins x (fun i => vs[i]?) → vs.length = ins.length → Spread w ps args vs [] → Calls P g args.toArray w fun e w' => ∃ cs, e = .returned (resVal cs) ∧ SpreadR rs (flatV outs y) cs [] ∧ Below w.heap.size w w') :
    Goes P g args.toArray w fun v w' => ∃ H' vs' cs rest bs', Left w (Lent bs pb) H ⟨ps, rs, false⟩ outs y pb v w' H' vs' cs rest bs' := by
  have hall : ∀ p ∈ ps, p.isP = false ∧ ∀ b ∈ p.ownsIn, b = false := fun p hp => by
    have := List.all_eq_true.1 hps p hp
    simp only [Bool.and_eq_true, Bool.not_eq_true'] at this
    exact ⟨this.1, fun b hb => by simpa using List.all_eq_true.1 this.2 b hb⟩
  obtain ⟨hr, hl, hbs⟩ := cellsR_read ins _ x vs bs (fun b hb => by
    obtain ⟨p, hp, hb⟩ := List.mem_flatMap.1 hb
    exact (hall p hp).2 b hb) hc
  have hpb := spread_noP ps args vs pb (fun p hp => (hall p hp).1) hs
  subst hpb
  have hnl : ∀ k, ¬ Lent bs [] k := fun k hk => by
    rcases hk with hk | ⟨p, hp, _⟩
    · cases hbs _ hk
    · simp at hp
  refine goes_of_calls hfn hn hb ((hcall hr hl hs).mono fun e w' ⟨cs, he, hsp, hbel⟩ => ⟨_, he, H, flatV outs y, cs, [], ?_⟩)
  obtain ⟨bs', c1, c2⟩ := cellsR_flat (H := H) (w := w') outs (Sig.owns ⟨ps, rs, false⟩) y hfl
  refine ⟨bs', hbel.os, hbel.tape, hbel.output, hbel.size, fun k hk _ => hbel.block k hk, fun k o hk => ?_, fun k o hk => .inl hk, c1, ?_, fun k hk => absurd (c2 _ hk) (by simp), by simp, ⟨none, ⟨rfl, hsp, rfl⟩, fun k hk => by cases hk⟩, back_noP ps fun p hp => (hall p hp).1⟩
  · have h1 := hH k o hk
    have h2 : k < w.heap.size := (Array.getElem?_eq_some_iff.1 h1).1
    show w'.heap[k]? = _
    rw [hbel.block k h2]
    exact h1
  · unfold Apart
    exact List.Pairwise.imp_of_mem (R := fun _ _ => True) (fun {b c} hb _ _ k hk => by cases (c2 _ hb).symm.trans hk) (List.pairwise_of_forall (fun _ _ => trivial))
/-- A package's variable holds what it held. -/
theorem var_up {W w : World} {n : String} {cs : Array Value} (h : W.var? P n = some cs) (hle : Hp.le (heapOf W) (heapOf w)) : w.var? P n = some cs := by
  unfold World.var? at h ⊢
  cases hg : P.globalNamed n with
  | none => simp [hg] at h
  | some g =>
    simp only [hg, Option.bind_some] at h ⊢
    cases ho : W.heap[g]? with
    | none => simp [ho] at h
    | some o =>
      rw [show w.heap[g]? = some o from hle g o ho]
      rw [ho] at h
      exact h
/-- A table's cells. -/
def cellsD : DataW Unit → Array Value
  | .agg l => (l.map fun d => match d with
    | .lit (.int k n) => Value.int k n
    | _ => undef).toArray
  | _ => #[]
/-- A package's variable is set. -/
def setVar (w : World) (g : Nat) (cs : Array Value) : World := { w with heap := w.heap.modify g fun o => match o with
  | .cells _ t frozen => .cells cs t frozen
  | o => o }
end Go.Proofs.YtkjpediopepbkaaDoor.R
