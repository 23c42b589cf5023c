/- Slice literals and made slices. Conditions: the types lie as the context says. -/
import Derived.Test.YtmapoakbdgpamaaGreatRBuild
set_option linter.all false
namespace Go.Proofs.YtmapoakbdgpamaaGreat.R
open Go.RowKit
variable {P : Program} {C : Ctx} {w0 : World} {lent : Nat → Prop} {H0 : Base} {s : St} {a : Act} {w : World} {G : Gh} {o : Oper} {K : Act → World → Prop} {Q : Exit → Act → World → Prop} {R : Type} {k : Eff → Option R} {r : R} {lk : Lk} {call : C.Sem} {ct wn : Bool}
theorem yas {H : Hp} : ∀ (ts : List Ty) (f : Nat → Option Value), (∀ k, k < ts.length → f k = (ts.map Ku)[k]?) → RdE H ts (jV ts) f
 | [], _, _ => trivial
 | t :: [], f, h => ⟨Ku t, by rw [h 0 (by simp)]; rfl, y9r t⟩
 | t :: u :: r, f, h => ⟨⟨Ku t, by rw [h 0 (by simp)]; rfl, y9r t⟩, yas (u :: r) _ (fun k hk => by
   rw [h (k + 1) (by simpa using hk)]
   rfl)⟩
theorem y5e {ts : List Ty} {z : Value} (hz : z.cells.toList = ts.map Ku) (hpos : 0 < ts.length) (n i : Nat) (hi : i < n * ts.length) : ∃ t, ts[i % ts.length]? = some t ∧ (madeCells z.cells (n * ts.length))[i]? = some (Ku t) := by
 have hlt : i % ts.length < ts.length := Nat.mod_lt _ hpos
 have hsz : z.cells.size = ts.length := by rw [← Array.length_toList, hz]; simp
 refine ⟨_, List.getElem?_eq_getElem hlt, ?_⟩
 have hz2 : z.cells[i % ts.length]? = some (Ku ts[i % ts.length]) := by
  rw [← Array.getElem?_toList, hz, List.getElem?_map, List.getElem?_eq_getElem hlt]
  rfl
 have hb : z.cells[i % ts.length]! = Ku ts[i % ts.length] := by
  rw [Array.getElem!_eq_getD, Array.getD_eq_getD_getElem?, hz2]
  rfl
 simp [madeCells, hi, hsz, hb]
theorem ycE {H : Hp} {ts : List Ty} {z : Value} (hz : z.cells.toList = ts.map Ku) (hpos : 0 < ts.length) (n j : Nat) (hj : j < n) : RdE H ts (jV ts) (fun k => (madeCells z.cells (n * ts.length))[j * ts.length + k]?) := by
 refine yas ts _ fun k hk => ?_
 have hj1 : (j + 1) * ts.length ≤ n * ts.length := Nat.mul_le_mul_right _ hj
 rw [Nat.add_mul, Nat.one_mul] at hj1
 obtain ⟨t, ht, h⟩ := y5e hz hpos n (j * ts.length + k) (by omega)
 have hm : (j * ts.length + k) % ts.length = k := by rw [Nat.mul_comm, Nat.mul_add_mod, Nat.mod_eq_of_lt hk]
 rw [hm] at ht
 rw [h, List.getElem?_map, ht]
 rfl
theorem y5f {ts : List Ty} {z : Value} (hz : z.cells.toList = ts.map Ku) (hpos : 0 < ts.length) (n : Nat) : ∀ u ∈ (madeCells z.cells (n * ts.length)).toList, u.oneCell' = true := by
 intro u hu
 obtain ⟨i, hi⟩ := List.mem_iff_getElem?.1 hu
 have hlt := (List.getElem?_eq_some_iff.1 hi).1
 rw [Array.length_toList, size_madeCells] at hlt
 obtain ⟨t, _, h⟩ := y5e hz hpos n i hlt
 rw [Array.getElem?_toList, h] at hi
 injection hi with hi
 subst hi
 cases t <;> rfl
theorem yeF {w : World} : ∀ (ts : List Ty) (f : Nat → Option Value), y1b ts = true → (∀ k, k < ts.length → f k = (ts.map Ku)[k]?) → DpE w ts (fun _ _ => False) (jV ts) f := by
 have one : ∀ (t : Ty) (r : List Ty), y1b (t :: r) = true → DpT w t (fun _ => False) (y19 t) (Ku t) ∧ y1b r = true := by
  intro t r hp
  cases t with
  | sl e us =>
   simp only [y1b, Bool.and_eq_true] at hp
   exact ⟨DpT.nil (jn hp.1), hp.2⟩
  | int _ => exact ⟨rfl, hp⟩
  | bool => exact ⟨rfl, hp⟩
  | str => exact ⟨rfl, hp⟩
 intro ts
 induction ts with
 | nil => intro f _ _; trivial
 | cons t ts ih =>
  intro f hp h
  obtain ⟨h1, h2⟩ := one t ts hp
  cases ts with
  | nil => exact ⟨Ku t, by rw [h 0 (by simp)]; rfl, h1⟩
  | cons u r =>
   exact ⟨⟨Ku t, by rw [h 0 (by simp)]; rfl, h1⟩, ih _ h2 (fun k hk => by
    rw [h (k + 1) (by simpa using hk)]
    rfl)⟩
theorem yhM {w : World} {ts : List Ty} {z : Value} (hz : z.cells.toList = ts.map Ku) (hpos : 0 < ts.length) (hp : y1b ts = true) (n j : Nat) (hj : j < n) : DpE w ts (fun _ _ => False) (jV ts) (fun k => (madeCells z.cells (n * ts.length))[j * ts.length + k]?) := by
 refine yeF ts _ hp fun k hk => ?_
 have hj1 : (j + 1) * ts.length ≤ n * ts.length := Nat.mul_le_mul_right _ hj
 rw [Nat.add_mul, Nat.one_mul] at hj1
 obtain ⟨t, ht, h⟩ := y5e hz hpos n (j * ts.length + k) (by omega)
 have hm : (j * ts.length + k) % ts.length = k := by rw [Nat.mul_comm, Nat.mul_add_mod, Nat.mod_eq_of_lt hk]
 rw [hm] at ht
 rw [h, List.getElem?_map, ht]
 rfl
theorem yat (w : World) {e : Nat} {ts : List Ty} {z : Value} (hz : z.cells.toList = ts.map Ku) (hpos : 0 < ts.length) (hp : y1b ts = true) {n m : Nat} (hle : n ≤ m) (hm : m ≤ maxLen) :
  DpR (w.alloc (.cells (madeCells z.cells (m * ts.length)) e)) (fun k => k = w.heap.size) e ts (List.replicate n (jV ts)) (.slice (some ⟨w.heap.size, 0, none⟩) n m) ((madeCells z.cells (m * ts.length)).toList.take (n * ts.length)) (fun _ _ => False) := by
 have hnm : n * ts.length ≤ m * ts.length := Nat.mul_le_mul_right _ hle
 have hcells : ∀ i', i' < n * ts.length → ((madeCells z.cells (m * ts.length)).toList.take (n * ts.length))[i']? = (madeCells z.cells (m * ts.length))[i']? := by
  intro i' hi'
  rw [List.getElem?_take, if_pos hi', Array.getElem?_toList]
 refine ⟨hpos, ⟨by rw [List.length_take, show (madeCells z.cells (m * ts.length)).toList.length = m * ts.length from (Array.length_toList).trans (size_madeCells _ _), List.length_replicate]; omega, .inr ⟨w.heap.size, m, madeCells z.cells (m * ts.length), by simp, Nat.zero_le _, heap_alloc_new w _, by simpa using hle, hm, size_madeCells _ _, by simp⟩⟩, fun u hu => y5f hz hpos _ u (List.mem_of_mem_take hu), fun k hk => ?_, fun _ _ h => h.elim, fun _ _ _ h => h.elim, fun j x hx => ?_⟩
 ·have : w.heap.size = k := by simpa [Value.ownBlock] using hk
  exact this.symm
 ·have hj : j < n := by
   have := (List.getElem?_eq_some_iff.1 hx).1
   rwa [List.length_replicate] at this
  have hxz : jV ts = x := by
   rw [List.getElem?_replicate, if_pos hj] at hx
   injection hx
  subst hxz
  have hj1 : (j + 1) * ts.length ≤ n * ts.length := Nat.mul_le_mul_right _ hj
  rw [Nat.add_mul, Nat.one_mul] at hj1
  refine (wk ts _ _ _).2 fun c y hc => ?_
  have hcl := y2o ts _ _ _ hc
  obtain ⟨v, h1, h2⟩ := (wk ts _ _ _).1 (yhM (w := w.alloc (.cells (madeCells z.cells (m * ts.length)) e)) hz hpos hp m j (by omega)) c y hc
  exact ⟨v, by rw [hcells _ (by omega)]; exact h1, h2⟩
theorem y2b (hT : TOk C P) (h : Rel P w0 lent H0 s a w G) {t e b d : Nat} (hpin : H0.pin d = none) {ts : List Ty} {te : TI} {n m : Int} (ht : C.info t = some (.c (.sl e ts) b)) (hte : C.info e = some te) (hp : y1b ts = true) (h0 : 0 ≤ n) (h1 : n ≤ m) (h2 : m * te.bytes ≤ 140737488351232) :
  ∃ w' G', (Instr.makeSlice t (.int .i64 n) (.int .i64 m)).run P w = .ok (.slice (some ⟨w.heap.size, 0, none⟩) n.toNat m.toNat) w' ∧ Rel P w0 lent H0 (s.make d (.deep false 0 e ts (List.replicate n.toNat (jV ts)))) a w' G' ∧ RA G' (.own d) (.slice (some ⟨w.heap.size, 0, none⟩) n.toNat m.toNat) := by
 obtain ⟨D, hD, rfl, te', hte', hts⟩ := hT.und t _ ht
 rw [hte] at hte'
 injection hte' with hte'
 subst hte'
 subst hts
 obtain ⟨i, z, hi, hs, hby, hz, hzc, hpos, hb0⟩ := hT.info e te hte
 have hmn : (0 : Int) ≤ m := Int.le_trans h0 h1
 have hmb : (m : Int) ≤ m * te.bytes := by
  have : (1 : Int) ≤ te.bytes := by omega
  have := Int.mul_le_mul_of_nonneg_left this hmn
  rwa [Int.mul_one] at this
 have h2' : (i.bytes : Int) * m ≤ 281474976710656 := by
  rw [hby, Int.mul_comm]
  omega
 have hmx : (m : Int) ≤ 140737488351232 := Int.le_trans hmb h2
 have hrun := run_make (P := P) w t e i z hD hi hz .i64 .i64 n m h0 h1 h2' (by omega)
 rw [hs] at hrun
 obtain ⟨G', _, hrel, hra⟩ := h.newDeep' d hpin (tag := 0) (w' := w.alloc (.cells (madeCells z.cells (m.toNat * te.ts.length)) e)) rfl rfl rfl (by simp [World.alloc, -World.alloc_eq]) (fun k hk => .inl (YH w _ hk)) (yat w hzc hpos hp (n := n.toNat) (m := m.toNat) (by omega) (by simp only [maxLen]; omega)) (by simp) (fun k hk => by
  subst hk
  simp [World.alloc, -World.alloc_eq]) (fun k hk => h.free_new (by omega))
 exact ⟨_, G', hrun, hrel, hra⟩
theorem y32 (hT : TOk C P) (h : Rel P w0 lent H0 s a w G) {t e b d : Nat} (hpin : H0.pin d = none) {ts : List Ty} {te : TI} {n m : Int} (ht : C.info t = some (.c (.sl e ts) b)) (hte : C.info e = some te) (h0 : 0 ≤ n) (h1 : n ≤ m) (h2 : m * te.bytes ≤ 140737488351232) :
  ∃ w' G', (Instr.makeSlice t (.int .i64 n) (.int .i64 m)).run P w = .ok (.slice (some ⟨w.heap.size, 0, none⟩) n.toNat m.toNat) w' ∧ Rel P w0 lent H0 (s.make d (.root true e ts (List.replicate n.toNat (jV ts)))) a w' G' ∧ RA G' (.own d) (.slice (some ⟨w.heap.size, 0, none⟩) n.toNat m.toNat) := by
 obtain ⟨D, hD, rfl, te', hte', hts⟩ := hT.und t _ ht
 rw [hte] at hte'
 injection hte' with hte'
 subst hte'
 subst hts
 obtain ⟨i, z, hi, hs, hby, hz, hzc, hpos, hb0⟩ := hT.info e te hte
 have hmn : (0 : Int) ≤ m := Int.le_trans h0 h1
 have hmb : (m : Int) ≤ m * te.bytes := by
  have : (1 : Int) ≤ te.bytes := by omega
  have := Int.mul_le_mul_of_nonneg_left this hmn
  rwa [Int.mul_one] at this
 have h2' : (i.bytes : Int) * m ≤ 281474976710656 := by
  rw [hby, Int.mul_comm]
  omega
 have hmx : (m : Int) ≤ 140737488351232 := Int.le_trans hmb h2
 have hrun := run_make (P := P) w t e i z hD hi hz .i64 .i64 n m h0 h1 h2' (by omega)
 rw [hs] at hrun
 have hle : n.toNat ≤ m.toNat := by omega
 have hnm : n.toNat * te.ts.length ≤ m.toNat * te.ts.length := Nat.mul_le_mul_right _ hle
 have hcells : ∀ i', i' < n.toNat * te.ts.length → ((madeCells z.cells (m.toNat * te.ts.length)).toList.take (n.toNat * te.ts.length))[i']? = (madeCells z.cells (m.toNat * te.ts.length))[i']? := by
  intro i' hi'
  rw [List.getElem?_take, if_pos hi', Array.getElem?_toList]
 obtain ⟨G', _, hrel, hra⟩ := h.newRoot d hpin (e := e) (ts := te.ts) (xs := List.replicate n.toNat (jV te.ts)) (v := .slice (some ⟨w.heap.size, 0, none⟩) n.toNat m.toNat) (w' := w.alloc (.cells (madeCells z.cells (m.toNat * te.ts.length)) e))
  (cells := (madeCells z.cells (m.toNat * te.ts.length)).toList.take (n.toNat * te.ts.length)) rfl rfl rfl (by simp [World.alloc, -World.alloc_eq]) (fun k hk => .inl (YH w _ hk)) hpos
  ⟨by rw [List.length_take, show (madeCells z.cells (m.toNat * te.ts.length)).toList.length = m.toNat * te.ts.length from (Array.length_toList).trans (size_madeCells _ _), List.length_replicate]; omega, .inr ⟨w.heap.size, m.toNat, madeCells z.cells (m.toNat * te.ts.length), by simp, Nat.zero_le _, heap_alloc_new w _, by simpa using hle, by simp only [maxLen]; omega, size_madeCells _ _, by simp⟩⟩
  (fun u hu => y5f hzc hpos _ u (List.mem_of_mem_take hu)) (fun k hk => by
   have : w.heap.size = k := by simpa [Value.ownBlock] using hk
   exact h.free_new (by omega)) (fun j x hx => by
   have hj : j < n.toNat := by
    have := (List.getElem?_eq_some_iff.1 hx).1
    rwa [List.length_replicate] at this
   have hxz : jV te.ts = x := by
    rw [List.getElem?_replicate, if_pos hj] at hx
    injection hx
   subst hxz
   have hj1 : (j + 1) * te.ts.length ≤ n.toNat * te.ts.length := Nat.mul_le_mul_right _ hj
   rw [Nat.add_mul, Nat.one_mul] at hj1
   refine RdE.ext te.ts _ _ _ (fun k v hk hv => ?_) (ycE (H := G.H) hzc hpos m.toNat j (by omega))
   rw [hcells _ (by omega)]
   exact hv)
 exact ⟨_, G', hrun, hrel, hra⟩
theorem y7q (hT : TOk C P) (h : Rel P w0 lent H0 s a w G) (hK : y1j P w0 lent H0 s o k r K) (hout : Out o) {t : Nat} {l c : Operand} (hop : o.op = .makeSlice t l c) (he : Zn C call ct wn o s.opd lk k = some r) : o.wp P a w K Q := by
 have hl := h.opd l
 have hc := h.opd c
 simp only [Zn, hop] at he
 split at he
 ·rename_i e ts b d ht hd
  split at he
  ·rename_i te n m hte hla hca
   rw [hla] at hl
   rw [hca] at hc
   split at he
   ·rename_i h0
    split at he
    ·rename_i h1
     split at he
     ·rename_i h2
      cases ct with
      | true =>
       cases hpt : y1b ts with
       | false => simp [hpt] at he
       | true =>
        simp only [hpt, Bool.not_true, Bool.and_false, cond_false, cond_true] at he
        obtain ⟨w', G', hrun, hrel, hra⟩ := y2b (d := d) (n := n) (m := m) hT h (H0.none (hout d hd)) ht hte hpt h0 h1 h2
        refine Yk (v := .slice (some ⟨w.heap.size, 0, none⟩) (Int.toNat n) (Int.toNat m)) (w' := w') ?_ (hK _ _ _ G' he ?_)
        ·simp only [execOp, hop]
         rw [show a.eval l = .int .i64 n from hl, show a.eval c = .int .i64 m from hc, Sem.run_bind, hrun]
         rfl
        ·have := hrel.put o.dst hra
         simpa [St.apply, St.makeAll, St.setAll] using this
      | false =>
      simp only [Bool.false_and, cond_false] at he
      obtain ⟨w', G', hrun, hrel, hra⟩ := y32 (d := d) (n := n) (m := m) hT h (H0.none (hout d hd)) ht hte h0 h1 h2
      refine Yk (v := .slice (some ⟨w.heap.size, 0, none⟩) (Int.toNat n) (Int.toNat m)) (w' := w') ?_ (hK _ _ _ G' he ?_)
      ·simp only [execOp, hop]
       rw [show a.eval l = .int .i64 n from hl, show a.eval c = .int .i64 m from hc, Sem.run_bind, hrun]
       rfl
      ·have := hrel.put o.dst hra
       simpa [St.apply, St.makeAll, St.setAll] using this
     ·cases he
    ·cases he
   ·cases he
  ·cases he
 ·cases he
theorem yhN : ∀ (ts : List Ty) (l : List A) (p : yB ts × List Nat), toE lk ts l = some p → Jk l = true := by
 intro ts
 induction ts with
 | nil =>
  intro l p h
  cases l with
  | nil => rfl
  | cons x l => exact absurd h (by rw [show toE lk [] (x :: l) = none from rfl]; exact fun h => by cases h)
 | cons t ts ih =>
  intro l p h
  cases ts with
  | nil =>
   cases l with
   | nil => rfl
   | cons x l =>
    cases l with
    | nil =>
     have h' : toT lk t x = some p := h
     simp [Jk, y9t h']
    | cons x2 l => exact absurd h (by rw [show toE lk [t] (x :: x2 :: l) = none from rfl]; exact fun h => by cases h)
  | cons u r =>
   cases l with
   | nil => rfl
   | cons x l =>
    have h' : (match toT lk t x with
     | some (x, is) => match toE lk (u :: r) l with
      | some (y, js) => some (((x, y) : yB (t :: u :: r)), is ++ js)
      | none => none
     | none => none) = some p := h
    cases hx : toT lk t x with
    | none =>
     rw [hx] at h'
     cases h'
    | some p1 =>
     rw [hx] at h'
     cases hl : toE lk (u :: r) l with
     | none =>
      rw [hl] at h'
      cases h'
     | some q => simp [Jk, y9t hx, ih l q hl]
theorem ycF (ρ : Operand → A) (ts : List Ty) : ∀ (parts : List (Nat × Operand)) (xs xs' : List (yB ts)) (is is' : List Nat), ybk lk ρ ts parts xs is = some (xs', is') → ∀ i ∈ is, i ∈ is'
 | [], xs, xs', is, is', h, i, hi => by
  simp only [ybk, Option.some.injEq, Prod.mk.injEq] at h
  rw [← h.2]
  exact hi
 | (n, x) :: parts, xs, xs', is, is', h, i, hi => by
  simp only [ybk] at h
  cases hx : toE lk ts (ρ x).cells with
  | none => simp [hx] at h
  | some p =>
   simp only [hx] at h
   cases hb : Nat.blt n xs.length with
   | false => simp [hb] at h
   | true =>
    simp only [hb, cond_true] at h
    exact ycF ρ ts parts _ xs' _ is' h i (by simp [hi])
def yhO (H : Hp) (ts : List Ty) (xs : List (yB ts)) (arr : Array Value) : Prop :=
 arr.size = xs.length * ts.length ∧ (∀ u ∈ arr.toList, u.oneCell' = true) ∧ ∀ (j : Nat) (x : yB ts), xs[j]? = some x → RdE H ts x (fun k => arr[j * ts.length + k]?)
theorem y7r (h : Rel P w0 lent H0 s a w G) {G1 : Gh} (hg : Grown G G1) (ts : List Ty) : ∀ (parts : List (Nat × Operand)) (xs xs' : List (yB ts)) (is is' : List Nat) (arr : Array Value), ybk lk s.opd ts parts xs is = some (xs', is') → Zr lk G1 is' → yhO G1.H ts xs arr →
  ∃ arr', Instr.fill (fun i => some (i * ts.length, ts.length)) arr (parts.map fun (i, x) => (i, a.eval x)) = some arr' ∧ yhO G1.H ts xs' arr' ∧ xs'.length = xs.length
 | [], xs, xs', is, is', arr, hp, hs, hr => by
  simp only [ybk, Option.some.injEq, Prod.mk.injEq] at hp
  rw [← hp.1]
  exact ⟨arr, rfl, hr, rfl⟩
 | (n, x) :: parts, xs, xs', is, is', arr, hp, hs, hr => by
  simp only [ybk] at hp
  cases hx : toE lk ts (s.opd x).cells with
  | none => simp [hx] at hp
  | some p =>
   obtain ⟨y, js⟩ := p
   simp only [hx] at hp
   cases hb : Nat.blt n xs.length with
   | false => simp [hb] at hp
   | true =>
    simp only [hb, cond_true] at hp
    have hn : n < xs.length := by
     have := jn hb
     omega
    have h1 := yhN ts _ _ hx
    have hlr := Kw h1 (h.opd x)
    have hone := Kv h1 hlr
    have hsj : Zr lk G1 js := fun i hi => hs i (ycF s.opd ts parts _ xs' _ is' hp i (by simp [hi]))
    obtain ⟨hrd, hvl⟩ := ycB ts _ y js hx hsj _ (hlr.grown hg)
    obtain ⟨hsz, hall, hrow⟩ := hr
    have hj1 : (n + 1) * ts.length ≤ xs.length * ts.length := Nat.mul_le_mul_right _ hn
    rw [Nat.add_mul, Nat.one_mul] at hj1
    have hfit : n * ts.length + (a.eval x).cells.toList.length ≤ arr.size := by omega
    have hget := fun j => JZ (a.eval x).cells.toList arr (n * ts.length) j hfit
    have hrow2 : yhO G1.H ts (xs.set n y) (zB arr (n * ts.length) (a.eval x).cells.toList) := by
     refine ⟨by rw [zG, List.length_set]; exact hsz, fun u hu => ?_, fun j z hz => ?_⟩
     ·obtain ⟨m, hm⟩ := List.mem_iff_getElem?.1 hu
      rw [Array.getElem?_toList, hget m] at hm
      split at hm
      ·exact hone u (List.mem_of_getElem? hm)
      ·exact hall u (by rw [← Array.getElem?_toList] at hm; exact List.mem_of_getElem? hm)
     ·have hjl : j < xs.length := by
       have := (List.getElem?_eq_some_iff.1 hz).1
       rwa [List.length_set] at this
      by_cases hjn : j = n
      ·subst hjn
       rw [List.getElem?_set_self hn] at hz
       injection hz with hz
       subst hz
       refine RdE.ext ts y _ _ (fun k v hk hv => ?_) hrd
       rw [hget, if_pos (by omega), show j * ts.length + k - j * ts.length = k by omega]
       exact hv
      ·rw [List.getElem?_set_ne (fun e => hjn e.symm)] at hz
       refine RdE.ext ts z _ _ (fun k v hk hv => ?_) (hrow j z hz)
       rw [hget, if_neg ?_]
       ·exact hv
       ·intro hc
        rcases Nat.lt_or_gt_of_ne hjn with hlt | hlt
        ·have : (j + 1) * ts.length ≤ n * ts.length := Nat.mul_le_mul_right _ hlt
         rw [Nat.add_mul, Nat.one_mul] at this
         omega
        ·have : (n + 1) * ts.length ≤ j * ts.length := Nat.mul_le_mul_right _ hlt
         rw [Nat.add_mul, Nat.one_mul] at this
         omega
    obtain ⟨arr', e1, e2, e3⟩ := y7r h hg ts parts (xs.set n y) xs' (is ++ js) is' (zB arr (n * ts.length) (a.eval x).cells.toList) hp hs hrow2
    refine ⟨arr', ?_, e2, by rw [e3, List.length_set]⟩
    rw [List.map_cons, y30 _ _ n _ _ _ _ rfl (by rw [← Array.length_toList]; exact hvl) (by omega)]
    exact e1
theorem y33 {i d : Nat} (hne : i ≠ d) {own : Bool} {e : Nat} {ts : List Ty} {xs : List (yB ts)} : ∀ l : List (Nat × Ob), zV d (kY l i (.root own e ts xs)) = kY (zV d l) i (.root own e ts xs)
 | [] => rfl
 | (j, x) :: l => by
  have ih := y33 hne (own := own) (e := e) (xs := xs) l
  by_cases hj : j = i
  ·subst hj
   simp [kY, zV, yl, yt hne, Ob.forget]
  ·by_cases hd : j = d
   ·subst hd
    simp [kY, zV, yl, yt hj, ih]
   ·simp [kY, zV, yt hj, yt hd, ih]
theorem y0L (s : St) {q d : Nat} (hne : q ≠ d) (ob : Ob) {own : Bool} {e : Nat} {ts : List Ty} {xs : List (yB ts)} : (s.set q (.root own e ts xs)).make d ob = (s.make d ob).set q (.root own e ts xs) := by
 simp [St.set, St.make, y33 hne, kY, yt (fun e : d = q => hne e.symm)]
theorem y9v (s : St) (d : Nat) (ob : Ob) : ∀ is : List Nat, Ki is d = false → (s.setAll (settles lk is)).make d ob = (s.make d ob).setAll (settles lk is) := by
 intro is
 induction is generalizing s with
 | nil => exact fun _ => rfl
 | cons i is ih =>
  intro h
  simp only [Ki, Bool.or_eq_false_iff] at h
  have hne : i ≠ d := fun e => by
   subst e
   rw [yl] at h
   exact absurd h.1 (by simp)
  unfold settles
  split
  ·simp only [St.setAll]
   rw [ih _ h.2, y0L s hne]
  ·simp only [St.setAll]
   rw [ih _ h.2, y0L s hne]
  ·exact ih s h.2
theorem DpS.frame {w w' : World} : ∀ {ys : List (Sigma El)} {bs : List (Nat → Prop)} {vs : List Value}, (∀ k, In bs k → w'.heap[k]? = w.heap[k]?) → DpS w ys bs vs → DpS w' ys bs vs
 | [], [], [], _, _ => trivial
 | y :: ys, b :: bs, v :: vs, hf, h => ⟨DpT.frame _ _ _ _ _ (fun k hk => hf k (In.cons.2 (.inl hk))) (fun _ hk => hk) h.1, DpS.frame (fun k hk => hf k (In.cons.2 (.inr hk))) h.2⟩
theorem yau (ρ : Operand → A) (ts : List Ty) : ∀ (parts : List (Nat × Operand)) (xs xs' : List (yB ts)) (is is' : List Nat), ybj lk ρ ts parts xs is = some (xs', is') → ∃ js, is' = is ++ js
 | [], xs, xs', is, is', h => by
  simp only [ybj, Option.some.injEq, Prod.mk.injEq] at h
  exact ⟨[], by simp [h.2]⟩
 | (n, x) :: parts, xs, xs', is, is', h => by
  simp only [ybj] at h
  cases hx : Kp lk ts 0 (ρ x).cells with
  | none => simp [hx] at h
  | some p =>
   simp only [hx] at h
   cases hse : qy ts (xs.getD n (jV ts)) 0 p.1 with
   | none =>
    rw [hse] at h
    cases h
   | some y =>
    simp only [hse] at h
    cases hb : Nat.blt n xs.length && Nat.beq (ρ x).cells.length ts.length with
    | false => simp [hb] at h
    | true =>
     simp only [hb, cond_true] at h
     obtain ⟨js, hj⟩ := yau ρ ts parts _ xs' _ is' h
     exact ⟨p.2 ++ js, by rw [hj, List.append_assoc]⟩
theorem y4r (h : Rel P w0 lent H0 s a w G) (hlk : y1H lk s) {e N : Nat} (ts : List Ty) (hN : N ≤ maxLen) : ∀ (parts : List (Nat × Operand)) (xs xs' : List (yB ts)) (is is' : List Nat) (arr : Array Value) (B : Nat → Prop) (cells : List Value) (Bs : Nat → Nat → Prop), ybj lk s.opd ts parts xs is = some (xs', is') → is'.Nodup → xs.length = N → arr.size = N * ts.length →
  DpR (w.alloc (.cells arr e)) B e ts xs (.slice (some ⟨w.heap.size, 0, none⟩) N N) cells Bs → (∀ k, B k → k = w.heap.size ∨ ∃ q ∈ is, ∃ ob, yq s.o q = some ob ∧ yL G q ob k) →
  ∃ arr' B' cells' Bs', Instr.fill (fun i => some (i * ts.length, ts.length)) arr (parts.map fun (i, x) => (i, a.eval x)) = some arr' ∧ arr'.size = N * ts.length ∧ xs'.length = N ∧
   DpR (w.alloc (.cells arr' e)) B' e ts xs' (.slice (some ⟨w.heap.size, 0, none⟩) N N) cells' Bs' ∧ (∀ k, B' k → k = w.heap.size ∨ ∃ q ∈ is', ∃ ob, yq s.o q = some ob ∧ yL G q ob k)
 | [], xs, xs', is, is', arr, B, cells, Bs, hp, hn, hxl, hal, hd, hB => by
  simp only [ybj, Option.some.injEq, Prod.mk.injEq] at hp
  obtain ⟨rfl, rfl⟩ := hp
  exact ⟨arr, B, cells, Bs, rfl, hal, hxl, hd, hB⟩
 | (n, x) :: parts, xs, xs', is, is', arr, B, cells, Bs, hp, hn, hxl, hal, hd, hB => by
  simp only [ybj] at hp
  cases hx : Kp lk ts 0 (s.opd x).cells with
  | none => simp [hx] at hp
  | some p =>
   obtain ⟨ys, js⟩ := p
   simp only [hx] at hp
   cases hse : qy ts (xs.getD n (jV ts)) 0 ys with
   | none =>
    rw [hse] at hp
    cases hp
   | some y =>
    simp only [hse] at hp
    cases hb : Nat.blt n xs.length && Nat.beq (s.opd x).cells.length ts.length with
    | false => simp [hb] at hp
    | true =>
     simp only [hb, cond_true] at hp
     simp only [Bool.and_eq_true] at hb
     have hnl : n < xs.length := jn hb.1
     have hcl := Nat.eq_of_beq_eq_true hb.2
     obtain ⟨ks, hks⟩ := yau s.opd ts parts _ xs' _ is' hp
     have hn2 : (is ++ js).Nodup := by
      rw [hks] at hn
      exact (List.nodup_append.1 hn).1
     obtain ⟨n1, n2, n3⟩ := List.nodup_append.1 hn2
     have h1 : Jk (s.opd x).cells = true := yaq ts 0 _ ys js hx
     have hlr := Kw h1 (h.opd x)
     have hone := Kv h1 hlr
     have hvl : (a.eval x).cells.toList.length = ts.length := by rw [← hlr.length]; exact hcl
     obtain ⟨bs, c1, c2, c3, c4⟩ := y1J h hlk ts 0 _ ys js hx n2 _ hlr
     have hold : ∀ k, k < w.heap.size → (w.alloc (.cells arr e)).heap[k]? = w.heap[k]? := fun k hk => YH w _ hk
     obtain ⟨g, cap, cur, hv, hh, hcap, hmax, hcs, htk⟩ : ∃ g cap cur, (.slice (some ⟨w.heap.size, 0, none⟩) N N : Value) = .slice (some ⟨g, 0, none⟩) xs.length cap ∧ (w.alloc (.cells arr e)).heap[g]? = some (.cells cur e (0, 0)) ∧ xs.length ≤ cap ∧ cap ≤ maxLen ∧ cur.size = cap * ts.length ∧ cur.toList.take (xs.length * ts.length) = cells := by
      rcases hd.row.2 with ⟨hv, _⟩ | ⟨g, cap, cur, hv, _, hh, hcap, hmax, hcs, htk⟩
      ·cases hv
      ·exact ⟨g, cap, cur, hv, hh, hcap, hmax, hcs, htk⟩
     have hge : g = w.heap.size := by
      injection hv with hv
      injection hv with hv
      injection hv with hv
      exact hv.symm
     subst hge
     have hcur : cur = arr := by
      rw [heap_alloc_new] at hh
      injection hh with hh
      injection hh with hh
      exact hh.symm
     subst hcur
     have hgd : ∀ k, In bs k → ¬ B k := fun k hk hbk => by
      rcases hB k hbk with h6 | ⟨q, hq, ob, hl, hbq⟩
      ·have := c4 k hk
       omega
      ·obtain ⟨q', hq', ob', hl', hbq'⟩ := c2 k hk
       have := h.apart q q' _ _ k hl hl' hbq hbq'
       subst this
       exact n3 q hq q hq' rfl
     obtain ⟨cells', Bs', hd', _⟩ := hd.store hv hh hcap hmax hcs htk (i := n) (c := 0) hnl (x := xs.getD n (jV ts)) (by rw [List.getD_eq_getElem?_getD, List.getElem?_eq_getElem hnl]; rfl) hse (DpS.frame (fun k hk => hold k (c4 k hk)) c1) c3 hgd hone (by omega)
     have hj1 : (n + 1) * ts.length ≤ N * ts.length := Nat.mul_le_mul_right _ (by omega)
     rw [Nat.add_mul, Nat.one_mul] at hj1
     have hd2 : DpR (w.alloc (.cells (zB cur (n * ts.length) (a.eval x).cells.toList) e)) (fun k => B k ∨ In bs k) e ts (xs.set n y) (.slice (some ⟨w.heap.size, 0, none⟩) N N) cells' Bs' := by
      refine hd'.frame (fun k _ => ?_) (fun _ hk => hk)
      by_cases hk : k = w.heap.size
      ·subst hk
       rw [heap_alloc_new, Nat.add_zero, jW w.heap.size _ _ _ cur hh]
      ·rw [Nat.add_zero, Yn _ _ _ _ _ hk]
       by_cases hlt : k < w.heap.size
       ·rw [YH w _ hlt, YH w _ hlt]
       ·rw [Array.getElem?_eq_none (by simp [World.alloc, -World.alloc_eq]; omega), Array.getElem?_eq_none (by simp [World.alloc, -World.alloc_eq]; omega)]
     obtain ⟨arr', B', cells2, Bs2, e1, e2, e3, e4, e5⟩ := y4r h hlk ts hN parts _ xs' _ is' _ _ cells' Bs' hp hn (by rw [List.length_set]; exact hxl) (by rw [zG]; exact hal) hd2 (fun k hk => by
      rcases hk with hk | hk
      ·rcases hB k hk with h6 | ⟨q, hq, r⟩
       ·exact .inl h6
       ·exact .inr ⟨q, by simp [hq], r⟩
      ·obtain ⟨q, hq, r⟩ := c2 k hk
       exact .inr ⟨q, by simp [hq], r⟩)
     refine ⟨arr', B', cells2, Bs2, ?_, e2, e3, e4, e5⟩
     rw [List.map_cons, y30 _ _ _ _ _ _ _ rfl (by rw [← Array.length_toList]; exact hvl) (by omega)]
     exact e1
theorem y34 (d : Nat) (ob : Ob) : ∀ (gs : List Nat) (s : St), d ∉ gs → (s.setAll (zE gs)).make d ob = (s.make d ob).setAll (zE gs)
 | [], _, _ => rfl
 | g :: gs, s, h => by
  simp only [List.mem_cons, not_or] at h
  rw [zE, St.setAll, St.setAll, y34 d ob gs _ h.2, Zt s (fun e => h.1 e.symm)]
theorem y41 {t n e : Nat} {te : TI} {i : TypeInfo} {z : Value} {parts : Array (Nat × Operand)} {arr : Array Value} (hD : P.underlying t = some (.slice e)) (hi : P.info? e = some i) (hz : i.zero = some z) (hs : i.size = te.ts.length) (hzc : z.cells.toList = te.ts.map Ku) (hpos : 0 < te.ts.length) (hsz : arr.size = n * te.ts.length)
  (hbig : n * te.ts.length ≤ 16777216) (hp0 : n = 0 → parts.toList = []) (e1 : Instr.fill (fun i => some (i * te.ts.length, te.ts.length)) (madeCells z.cells (n * te.ts.length)) (parts.toList.map fun (i, x) => (i, a.eval x)) = some arr) :
  (Instr.buildSlice t n (parts.map fun (i, x) => (i, a.eval x))).run P w = .ok (.slice (some ⟨w.heap.size, 0, none⟩) n n) (w.alloc (.cells arr e)) := by
 have e1' : Instr.fill (fun i_1 => some (i_1 * i.size, i.size)) ((Array.range (n * i.size)).map (z.cells[· % z.cells.size]!)) (parts.map fun (i, x) => (i, a.eval x)).toList = some arr := by
  rw [hs, Array.toList_map]
  exact e1
 by_cases h0 : n * i.size = 0
 ·have hn0 : n = 0 := by
   rw [hs] at h0
   rcases Nat.mul_eq_zero.1 h0 with h0 | h0
   ·exact h0
   ·omega
  subst hn0
  have ha : arr = #[] := by
   have : arr.size = 0 := by rw [hsz, Nat.zero_mul]
   exact Array.eq_empty_of_size_eq_zero this
  have hp0 : parts = #[] := by rw [← Array.toArray_toList (xs := parts), hp0 rfl]
  subst ha hp0
  have hr0 : (Array.range 0).map (fun _ => (default : Value)) = #[] := Array.eq_empty_of_size_eq_zero (by simp)
  simp [Instr.buildSlice, run_underlying hD, sizeOf, typeInfo, hi, newRow, Instr.fill, hr0]
 ·exact run_buildSlice w t e n _ arr i z hD hi hz (by rw [hs]; omega) h0 e1'
theorem y42 (hT : TOk C P) (h : Rel P w0 lent H0 s a w G) (hK : y1j P w0 lent H0 s o k r K) (hout : Out o) (hlk : y1H lk s) {t n : Nat} {parts : Array (Nat × Operand)} (hop : o.op = .buildSlice t n parts) (he : Zn C call true wn o s.opd lk k = some r) : o.wp P a w K Q := by
 simp only [Zn, hop, cond_true] at he
 split at he
 ·rename_i e ts b d ht hd
  cases hl : ybj lk s.opd ts parts.toList (List.replicate n (jV ts)) [] with
  | none => simp [hl] at he
  | some p =>
   obtain ⟨xs, gs⟩ := p
   simp only [hl] at he
   cases hb : Ki gs d || !Vh gs || !Nat.ble (n * ts.length) 16777216 || !y1b ts with
   | true => simp [hb] at he
   | false =>
    simp only [hb, cond_false] at he
    simp only [Bool.or_eq_false_iff, Bool.not_eq_false'] at hb
    obtain ⟨D, hD, rfl, te, hte, hts⟩ := hT.und t _ ht
    subst hts
    obtain ⟨i, z, hi, hs, hby, hz, hzc, hpos, hb0⟩ := hT.info e te hte
    have hbig := jn hb.1.2
    have hn1 : n ≤ n * te.ts.length := Nat.le_mul_of_pos_right n hpos
    have hnm : n ≤ maxLen := by simp only [maxLen]; omega
    have hdg : d ∉ gs := fun hd => by
     rw [Zs.2 hd] at hb
     exact absurd hb.1.1.1 (by simp)
    obtain ⟨arr, B', cells', Bs', e1, e2, e3, e4, e5⟩ := y4r (e := e) h hlk te.ts hnm parts.toList _ xs [] gs (madeCells z.cells (n * te.ts.length)) _ _ _ hl (Km hb.1.1.2) (by rw [List.length_replicate]) (size_madeCells _ _) (yat w hzc hpos hb.2 (Nat.le_refl n) hnm) (fun k hk => .inl hk)
    have hrun := y41 (P := P) (a := a) (w := w) hD hi hz hs hzc hpos e2 hbig (fun hn => by
     subst hn
     cases hpl : parts.toList with
     | nil => rfl
     | cons p ps =>
      obtain ⟨pi, px⟩ := p
      rw [hpl] at hl
      simp only [ybj, List.replicate_zero, List.length_nil] at hl
      split at hl
      ·split at hl
       ·simp [show Nat.blt pi 0 = false from rfl] at hl
       ·cases hl
      ·cases hl) e1
    have hgone := Rel.gones gs h
    obtain ⟨G', _, hrel, hra⟩ := hgone.newDeep' d (H0.none (hout d hd)) (tag := 0) (w' := w.alloc (.cells arr e)) rfl rfl rfl (by simp [World.alloc, -World.alloc_eq]) (fun k hk => .inl (YH w _ hk)) e4 (by simp) (fun k hk => by
     rcases e5 k hk with h6 | ⟨q, hq, ob, hl, hbq⟩
     ·subst h6
      simp [World.alloc, -World.alloc_eq]
     ·have := (h.objs q ob hl).blk hbq
      simp [World.alloc, -World.alloc_eq]
      omega) (fun k hk => by
     rcases e5 k hk with h6 | ⟨q, hq, ob, hl, hbq⟩
     ·exact hgone.free_new (by omega)
     ·obtain ⟨a1, a2⟩ := h.away q ob k hl hbq
      refine ⟨a1, a2, fun j oj hj hbj => ?_⟩
      rw [w6] at hj
      split at hj
      ·obtain ⟨_, _, rfl⟩ := Option.map_eq_some_iff.1 hj
       exact hbj
      ·rename_i hjg
       have := h.apart j q _ _ k hj hl hbj hbq
       subst this
       exact hjg hq)
    refine Yk (v := .slice (some ⟨w.heap.size, 0, none⟩) n n) (w' := w.alloc (.cells arr e)) ?_ (hK _ _ _ G' he ?_)
    ·simp only [execOp, hop]
     rw [Sem.run_bind, hrun]
     rfl
    ·have := hrel.put o.dst hra
     rw [y34 d _ gs s hdg] at this
     exact this
 ·cases he
theorem y5g (hT : TOk C P) (h : Rel P w0 lent H0 s a w G) (hK : y1j P w0 lent H0 s o k r K) (hout : Out o) (hlk : y1H lk s) {t n : Nat} {parts : Array (Nat × Operand)} (hop : o.op = .buildSlice t n parts) (he : Zn C call ct wn o s.opd lk k = some r) : o.wp P a w K Q := by
 cases ct with
 | true => exact y42 hT h hK hout hlk hop he
 | false =>
 simp only [Zn, hop, cond_false] at he
 split at he
 ·rename_i e ts b d ht hd
  cases hl : ybk lk s.opd ts parts.toList (List.replicate n (jV ts)) [] with
  | none => simp [hl] at he
  | some p =>
   obtain ⟨xs, is⟩ := p
   simp only [hl] at he
   cases hb : Ki is d || !Nat.ble (n * ts.length) 16777216 with
   | true => simp [hb] at he
   | false =>
    simp only [hb, cond_false] at he
    simp only [Bool.or_eq_false_iff, Bool.not_eq_false'] at hb
    obtain ⟨D, hD, rfl, te, hte, hts⟩ := hT.und t _ ht
    subst hts
    obtain ⟨i, z, hi, hs, hby, hz, hzc, hpos, hb0⟩ := hT.info e te hte
    obtain ⟨G1, hg1, hr1, hset⟩ := h.settles hlk.rows is
    have hbig := jn hb.2
    obtain ⟨arr, e1, ⟨e2, e3, e4⟩, e5⟩ := y7r h hg1 te.ts parts.toList _ xs [] is (madeCells z.cells (n * te.ts.length)) hl hset ⟨by rw [size_madeCells, List.length_replicate], y5f hzc hpos n, fun j x hx => by
     have hj : j < n := by
      have := (List.getElem?_eq_some_iff.1 hx).1
      rwa [List.length_replicate] at this
     have hxz : jV te.ts = x := by
      rw [List.getElem?_replicate, if_pos hj] at hx
      injection hx
     subst hxz
     exact ycE hzc hpos n j hj⟩
    rw [List.length_replicate] at e5
    have hn1 : n ≤ n * te.ts.length := Nat.le_mul_of_pos_right n hpos
    have hrun : (Instr.buildSlice t n (parts.map fun (i, x) => (i, a.eval x))).run P w = .ok (.slice (some ⟨w.heap.size, 0, none⟩) n n) (w.alloc (.cells arr e)) := by
     have e1' : Instr.fill (fun i_1 => some (i_1 * i.size, i.size)) ((Array.range (n * i.size)).map (z.cells[· % z.cells.size]!)) (parts.map fun (i, x) => (i, a.eval x)).toList = some arr := by
      rw [hs, Array.toList_map]
      exact e1
     by_cases h0 : n * i.size = 0
     ·have hn0 : n = 0 := by
       rw [hs] at h0
       rcases Nat.mul_eq_zero.1 h0 with h0 | h0
       ·exact h0
       ·omega
      subst hn0
      have ha : arr = #[] := by
       have : arr.size = 0 := by rw [e2, e5, Nat.zero_mul]
       exact Array.eq_empty_of_size_eq_zero this
      have hp0 : parts = #[] := by
       cases hpl : parts.toList with
       | nil => rw [← Array.toArray_toList (xs := parts), hpl]
       | cons p ps =>
        obtain ⟨pi, px⟩ := p
        rw [hpl] at hl
        simp only [ybk, List.replicate_zero, List.length_nil] at hl
        split at hl
        ·simp [show Nat.blt pi 0 = false from rfl] at hl
        ·cases hl
      subst ha hp0
      have hr0 : (Array.range 0).map (fun _ => (default : Value)) = #[] := Array.eq_empty_of_size_eq_zero (by simp)
      simp [Instr.buildSlice, run_underlying hD, sizeOf, typeInfo, hi, newRow, Instr.fill, hr0]
     ·exact run_buildSlice w t e n _ arr i z hD hi hz (by rw [hs]; omega) h0 e1'
    obtain ⟨G', _, hrel, hra⟩ := hr1.newRoot d (H0.none (hout d hd)) (e := e) (ts := te.ts) (xs := xs) (v := .slice (some ⟨w.heap.size, 0, none⟩) n n) (w' := w.alloc (.cells arr e)) (cells := arr.toList) rfl rfl rfl (by simp [World.alloc, -World.alloc_eq]) (fun k hk => .inl (YH w _ hk)) hpos
     (by
      rw [e5]
      exact World.ownsRow_lit w arr n (Nat.zero_le _) (by simp only [maxLen]; omega) (by rw [e2, e5]))
     e3 (fun k hk => by
      have : w.heap.size = k := by simpa [Value.ownBlock] using hk
      exact hr1.free_new (by omega)) (fun j x hx => RdE.mono (Hp.le.refl _) te.ts x _ _ (fun k v hv => by rw [Array.getElem?_toList]; exact hv) (e4 j x hx))
    refine Yk (v := .slice (some ⟨w.heap.size, 0, none⟩) n n) (w' := w.alloc (.cells arr e)) ?_ (hK _ _ _ G' he ?_)
    ·simp only [execOp, hop]
     rw [Sem.run_bind, hrun]
     rfl
    ·have := hrel.put o.dst hra
     rw [y9v s d _ is hb.1] at this
     exact this
 ·cases he
end Go.Proofs.YtmapoakbdgpamaaGreat.R
