/- Slice literals and made slices. Conditions: the types lie as the context says. -/
import Derived.Test.YtgediecndaheiaaGreatRBuild
set_option linter.all false
namespace Go.Proofs.YtgediecndaheiaaGreat.R
open Go.RowKit
variable {P : Program} {C : Ctx} {w0 : World} {lent : Nat → Prop} {H0 : Base} {s : St} {a : Act} {w : World} {G : Gh} {o : Oper} {K : Act → World → Prop} {Q : Exit → Act → World → Prop} {R : Type} {k : Eff → Option R} {r : R} {lk : Lk} {call : C.Sem} {ct wn : Bool}
theorem ybm {H : Hp} : ∀ (ts : List Ty) (f : Nat → Option Value), (∀ k, k < ts.length → f k = (ts.map y0B)[k]?) → RdE H ts (Vz ts) f
 | [], _, _ => trivial
 | t :: [], f, h => ⟨y0B t, by rw [h 0 (by simp)]; rfl, y9N t⟩
 | t :: u :: r, f, h => ⟨⟨y0B t, by rw [h 0 (by simp)]; rfl, y9N t⟩, ybm (u :: r) _ (fun k hk => by
   rw [h (k + 1) (by simpa using hk)]
   rfl)⟩
theorem ybn {ts : List Ty} {z : Value} (hz : z.cells.toList = ts.map y0B) (hpos : 0 < ts.length) (n i : Nat) (hi : i < n * ts.length) : ∃ t, ts[i % ts.length]? = some t ∧ (madeCells z.cells (n * ts.length))[i]? = some (y0B t) := by
 have hlt : i % ts.length < ts.length := Nat.mod_lt _ hpos
 have hsz : z.cells.size = ts.length := by rw [← Array.length_toList, hz]; simp
 refine ⟨_, List.getElem?_eq_getElem hlt, ?_⟩
 have hz2 : z.cells[i % ts.length]? = some (y0B ts[i % ts.length]) := by
  rw [← Array.getElem?_toList, hz, List.getElem?_map, List.getElem?_eq_getElem hlt]
  rfl
 have hb : z.cells[i % ts.length]! = y0B ts[i % ts.length] := by
  rw [Array.getElem!_eq_getD, Array.getD_eq_getD_getElem?, hz2]
  rfl
 simp [madeCells, hi, hsz, hb]
theorem ydW {H : Hp} {ts : List Ty} {z : Value} (hz : z.cells.toList = ts.map y0B) (hpos : 0 < ts.length) (n j : Nat) (hj : j < n) : RdE H ts (Vz ts) (fun k => (madeCells z.cells (n * ts.length))[j * ts.length + k]?) := by
 refine ybm ts _ fun k hk => ?_
 have hj1 : (j + 1) * ts.length ≤ n * ts.length := Nat.mul_le_mul_right _ hj
 rw [Nat.add_mul, Nat.one_mul] at hj1
 obtain ⟨t, ht, h⟩ := ybn hz hpos n (j * ts.length + k) (by omega)
 have hm : (j * ts.length + k) % ts.length = k := by rw [Nat.mul_comm, Nat.mul_add_mod, Nat.mod_eq_of_lt hk]
 rw [hm] at ht
 rw [h, List.getElem?_map, ht]
 rfl
theorem ybo {ts : List Ty} {z : Value} (hz : z.cells.toList = ts.map y0B) (hpos : 0 < ts.length) (n : Nat) : ∀ u ∈ (madeCells z.cells (n * ts.length)).toList, u.oneCell' = true := by
 intro u hu
 obtain ⟨i, hi⟩ := List.mem_iff_getElem?.1 hu
 have hlt := (List.getElem?_eq_some_iff.1 hi).1
 rw [Array.length_toList, size_madeCells] at hlt
 obtain ⟨t, _, h⟩ := ybn hz hpos n i hlt
 rw [Array.getElem?_toList, h] at hi
 injection hi with hi
 subst hi
 cases t <;> rfl
theorem y3O (hT : TOk C P) (h : Rel P w0 lent H0 s a w G) {t e b d : Nat} (hpin : H0.pin d = none) {ts : List Ty} {te : TI} {n m : Int} (ht : C.info t = some (.c (.sl e ts) b)) (hte : C.info e = some te) (h0 : 0 ≤ n) (h1 : n ≤ m) (h2 : m * te.bytes ≤ 140737488351232) :
  ∃ w' G', (Instr.makeSlice t (.int .i64 n) (.int .i64 m)).run P w = .ok (.slice (some ⟨w.heap.size, 0, none⟩) n.toNat m.toNat) w' ∧ Rel P w0 lent H0 (s.make d (.root true e ts (List.replicate n.toNat (Vz ts)))) a w' G' ∧ RA G' (.own d) (.slice (some ⟨w.heap.size, 0, none⟩) n.toNat m.toNat) := by
 obtain ⟨D, hD, rfl, te', hte', hts⟩ := hT.und t _ ht
 rw [hte] at hte'
 injection hte' with hte'
 subst hte'
 subst hts
 obtain ⟨i, z, hi, hs, hby, hz, hzc, hpos, hb0⟩ := hT.info e te hte
 have hmn : (0 : Int) ≤ m := Int.le_trans h0 h1
 have hmb : (m : Int) ≤ m * te.bytes := by
  have : (1 : Int) ≤ te.bytes := by omega
  have := Int.mul_le_mul_of_nonneg_left this hmn
  rwa [Int.mul_one] at this
 have h2' : (i.bytes : Int) * m ≤ 281474976710656 := by
  rw [hby, Int.mul_comm]
  omega
 have hmx : (m : Int) ≤ 140737488351232 := Int.le_trans hmb h2
 have hrun := run_make (P := P) w t e i z hD hi hz .i64 .i64 n m h0 h1 h2' (by omega)
 rw [hs] at hrun
 have hle : n.toNat ≤ m.toNat := by omega
 have hnm : n.toNat * te.ts.length ≤ m.toNat * te.ts.length := Nat.mul_le_mul_right _ hle
 have hcells : ∀ i', i' < n.toNat * te.ts.length → ((madeCells z.cells (m.toNat * te.ts.length)).toList.take (n.toNat * te.ts.length))[i']? = (madeCells z.cells (m.toNat * te.ts.length))[i']? := by
  intro i' hi'
  rw [List.getElem?_take, if_pos hi', Array.getElem?_toList]
 obtain ⟨G', _, hrel, hra⟩ := h.newRoot d hpin (e := e) (ts := te.ts) (xs := List.replicate n.toNat (Vz te.ts)) (v := .slice (some ⟨w.heap.size, 0, none⟩) n.toNat m.toNat) (w' := w.alloc (.cells (madeCells z.cells (m.toNat * te.ts.length)) e))
  (cells := (madeCells z.cells (m.toNat * te.ts.length)).toList.take (n.toNat * te.ts.length)) rfl rfl rfl (by simp [World.alloc, -World.alloc_eq]) (fun k hk => .inl (qF w _ hk)) hpos
  ⟨by rw [List.length_take, show (madeCells z.cells (m.toNat * te.ts.length)).toList.length = m.toNat * te.ts.length from (Array.length_toList).trans (size_madeCells _ _), List.length_replicate]; omega, .inr ⟨w.heap.size, m.toNat, madeCells z.cells (m.toNat * te.ts.length), by simp, Nat.zero_le _, heap_alloc_new w _, by simpa using hle, by simp only [maxLen]; omega, size_madeCells _ _, by simp⟩⟩
  (fun u hu => ybo hzc hpos _ u (List.mem_of_mem_take hu)) (fun k hk => by
   have : w.heap.size = k := by simpa [Value.ownBlock] using hk
   exact h.free_new (by omega)) (fun j x hx => by
   have hj : j < n.toNat := by
    have := (List.getElem?_eq_some_iff.1 hx).1
    rwa [List.length_replicate] at this
   have hxz : Vz te.ts = x := by
    rw [List.getElem?_replicate, if_pos hj] at hx
    injection hx
   subst hxz
   have hj1 : (j + 1) * te.ts.length ≤ n.toNat * te.ts.length := Nat.mul_le_mul_right _ hj
   rw [Nat.add_mul, Nat.one_mul] at hj1
   refine RdE.ext te.ts _ _ _ (fun k v hk hv => ?_) (ydW (H := G.H) hzc hpos m.toNat j (by omega))
   rw [hcells _ (by omega)]
   exact hv)
 exact ⟨_, G', hrun, hrel, hra⟩
theorem y8b (hT : TOk C P) (h : Rel P w0 lent H0 s a w G) (hK : y2y P w0 lent H0 s o k r K) (hout : Out o) {t : Nat} {l c : Operand} (hop : o.op = .makeSlice t l c) (he : jG C call ct wn o s.opd lk k = some r) : o.wp P a w K Q := by
 have hl := h.opd l
 have hc := h.opd c
 simp only [jG, hop] at he
 split at he
 ·rename_i e ts b d ht hd
  split at he
  ·rename_i te n m hte hla hca
   rw [hla] at hl
   rw [hca] at hc
   split at he
   ·rename_i h0
    split at he
    ·rename_i h1
     split at he
     ·rename_i h2
      obtain ⟨w', G', hrun, hrel, hra⟩ := y3O (d := d) (n := n) (m := m) hT h (H0.none (hout d hd)) ht hte h0 h1 h2
      refine jo (v := .slice (some ⟨w.heap.size, 0, none⟩) (Int.toNat n) (Int.toNat m)) (w' := w') ?_ (hK _ _ _ G' he ?_)
      ·simp only [execOp, hop]
       rw [show a.eval l = .int .i64 n from hl, show a.eval c = .int .i64 m from hc, Sem.run_bind, hrun]
       rfl
      ·have := hrel.put o.dst hra
       simpa [St.apply, St.makeAll, St.setAll] using this
     ·cases he
    ·cases he
   ·cases he
  ·cases he
 ·cases he
theorem yjf : ∀ (ts : List Ty) (l : List A) (p : z8 ts × List Nat), toE lk ts l = some p → Ku l = true := by
 intro ts
 induction ts with
 | nil =>
  intro l p h
  cases l with
  | nil => rfl
  | cons x l => exact absurd h (by rw [show toE lk [] (x :: l) = none from rfl]; exact fun h => by cases h)
 | cons t ts ih =>
  intro l p h
  cases ts with
  | nil =>
   cases l with
   | nil => rfl
   | cons x l =>
    cases l with
    | nil =>
     have h' : toT lk t x = some p := h
     simp [Ku, y9Q h']
    | cons x2 l => exact absurd h (by rw [show toE lk [t] (x :: x2 :: l) = none from rfl]; exact fun h => by cases h)
  | cons u r =>
   cases l with
   | nil => rfl
   | cons x l =>
    have h' : (match toT lk t x with
     | some (x, is) => match toE lk (u :: r) l with
      | some (y, js) => some (((x, y) : z8 (t :: u :: r)), is ++ js)
      | none => none
     | none => none) = some p := h
    cases hx : toT lk t x with
    | none =>
     rw [hx] at h'
     cases h'
    | some p1 =>
     rw [hx] at h'
     cases hl : toE lk (u :: r) l with
     | none =>
      rw [hl] at h'
      cases h'
     | some q => simp [Ku, y9Q hx, ih l q hl]
theorem ydX (ρ : Operand → A) (ts : List Ty) : ∀ (parts : List (Nat × Operand)) (xs xs' : List (z8 ts)) (is is' : List Nat), ycA lk ρ ts parts xs is = some (xs', is') → ∀ i ∈ is, i ∈ is'
 | [], xs, xs', is, is', h, i, hi => by
  simp only [ycA, Option.some.injEq, Prod.mk.injEq] at h
  rw [← h.2]
  exact hi
 | (n, x) :: parts, xs, xs', is, is', h, i, hi => by
  simp only [ycA] at h
  cases hx : toE lk ts (ρ x).cells with
  | none => simp [hx] at h
  | some p =>
   simp only [hx] at h
   cases hb : Nat.blt n xs.length with
   | false => simp [hb] at h
   | true =>
    simp only [hb, cond_true] at h
    exact ydX ρ ts parts _ xs' _ is' h i (by simp [hi])
def yjg (H : Hp) (ts : List Ty) (xs : List (z8 ts)) (arr : Array Value) : Prop :=
 arr.size = xs.length * ts.length ∧ (∀ u ∈ arr.toList, u.oneCell' = true) ∧ ∀ (j : Nat) (x : z8 ts), xs[j]? = some x → RdE H ts x (fun k => arr[j * ts.length + k]?)
theorem y8c (h : Rel P w0 lent H0 s a w G) {G1 : Gh} (hg : Grown G G1) (ts : List Ty) : ∀ (parts : List (Nat × Operand)) (xs xs' : List (z8 ts)) (is is' : List Nat) (arr : Array Value), ycA lk s.opd ts parts xs is = some (xs', is') → jr lk G1 is' → yjg G1.H ts xs arr →
  ∃ arr', Instr.fill (fun i => some (i * ts.length, ts.length)) arr (parts.map fun (i, x) => (i, a.eval x)) = some arr' ∧ yjg G1.H ts xs' arr' ∧ xs'.length = xs.length
 | [], xs, xs', is, is', arr, hp, hs, hr => by
  simp only [ycA, Option.some.injEq, Prod.mk.injEq] at hp
  rw [← hp.1]
  exact ⟨arr, rfl, hr, rfl⟩
 | (n, x) :: parts, xs, xs', is, is', arr, hp, hs, hr => by
  simp only [ycA] at hp
  cases hx : toE lk ts (s.opd x).cells with
  | none => simp [hx] at hp
  | some p =>
   obtain ⟨y, js⟩ := p
   simp only [hx] at hp
   cases hb : Nat.blt n xs.length with
   | false => simp [hb] at hp
   | true =>
    simp only [hb, cond_true] at hp
    have hn : n < xs.length := by
     have := kD hb
     omega
    have h1 := yjf ts _ _ hx
    have hlr := Qn h1 (h.opd x)
    have hone := Qm h1 hlr
    have hsj : jr lk G1 js := fun i hi => hs i (ydX s.opd ts parts _ xs' _ is' hp i (by simp [hi]))
    obtain ⟨hrd, hvl⟩ := ydT ts _ y js hx hsj _ (hlr.grown hg)
    obtain ⟨hsz, hall, hrow⟩ := hr
    have hj1 : (n + 1) * ts.length ≤ xs.length * ts.length := Nat.mul_le_mul_right _ hn
    rw [Nat.add_mul, Nat.one_mul] at hj1
    have hfit : n * ts.length + (a.eval x).cells.toList.length ≤ arr.size := by omega
    have hget := fun j => jp (a.eval x).cells.toList arr (n * ts.length) j hfit
    have hrow2 : yjg G1.H ts (xs.set n y) (J5 arr (n * ts.length) (a.eval x).cells.toList) := by
     refine ⟨by rw [Yc, List.length_set]; exact hsz, fun u hu => ?_, fun j z hz => ?_⟩
     ·obtain ⟨m, hm⟩ := List.mem_iff_getElem?.1 hu
      rw [Array.getElem?_toList, hget m] at hm
      split at hm
      ·exact hone u (List.mem_of_getElem? hm)
      ·exact hall u (by rw [← Array.getElem?_toList] at hm; exact List.mem_of_getElem? hm)
     ·have hjl : j < xs.length := by
       have := (List.getElem?_eq_some_iff.1 hz).1
       rwa [List.length_set] at this
      by_cases hjn : j = n
      ·subst hjn
       rw [List.getElem?_set_self hn] at hz
       injection hz with hz
       subst hz
       refine RdE.ext ts y _ _ (fun k v hk hv => ?_) hrd
       rw [hget, if_pos (by omega), show j * ts.length + k - j * ts.length = k by omega]
       exact hv
      ·rw [List.getElem?_set_ne (fun e => hjn e.symm)] at hz
       refine RdE.ext ts z _ _ (fun k v hk hv => ?_) (hrow j z hz)
       rw [hget, if_neg ?_]
       ·exact hv
       ·intro hc
        rcases Nat.lt_or_gt_of_ne hjn with hlt | hlt
        ·have : (j + 1) * ts.length ≤ n * ts.length := Nat.mul_le_mul_right _ hlt
         rw [Nat.add_mul, Nat.one_mul] at this
         omega
        ·have : (n + 1) * ts.length ≤ j * ts.length := Nat.mul_le_mul_right _ hlt
         rw [Nat.add_mul, Nat.one_mul] at this
         omega
    obtain ⟨arr', e1, e2, e3⟩ := y8c h hg ts parts (xs.set n y) xs' (is ++ js) is' (J5 arr (n * ts.length) (a.eval x).cells.toList) hp hs hrow2
    refine ⟨arr', ?_, e2, by rw [e3, List.length_set]⟩
    rw [List.map_cons, y8a _ _ n _ _ _ _ rfl (by rw [← Array.length_toList]; exact hvl) (by omega)]
    exact e1
theorem y3P {i d : Nat} (hne : i ≠ d) {own : Bool} {e : Nat} {ts : List Ty} {xs : List (z8 ts)} : ∀ l : List (Nat × Ob), Yk d (qW l i (.root own e ts xs)) = qW (Yk d l) i (.root own e ts xs)
 | [] => rfl
 | (j, x) :: l => by
  have ih := y3P hne (own := own) (e := e) (xs := xs) l
  by_cases hj : j = i
  ·subst hj
   simp [qW, Yk, yw, yF hne, Ob.forget]
  ·by_cases hd : j = d
   ·subst hd
    simp [qW, Yk, yw, yF hj, ih]
   ·simp [qW, Yk, yF hj, yF hd, ih]
theorem y6d (s : St) {q d : Nat} (hne : q ≠ d) (ob : Ob) {own : Bool} {e : Nat} {ts : List Ty} {xs : List (z8 ts)} : (s.set q (.root own e ts xs)).make d ob = (s.make d ob).set q (.root own e ts xs) := by
 simp [St.set, St.make, y3P hne, qW, yF (fun e : d = q => hne e.symm)]
theorem y9T (s : St) (d : Nat) (ob : Ob) : ∀ is : List Nat, Vi is d = false → (s.setAll (settles lk is)).make d ob = (s.make d ob).setAll (settles lk is) := by
 intro is
 induction is generalizing s with
 | nil => exact fun _ => rfl
 | cons i is ih =>
  intro h
  simp only [Vi, Bool.or_eq_false_iff] at h
  have hne : i ≠ d := fun e => by
   subst e
   rw [yw] at h
   exact absurd h.1 (by simp)
  unfold settles
  split
  ·simp only [St.setAll]
   rw [ih _ h.2, y6d s hne]
  ·exact ih s h.2
theorem y6e (hT : TOk C P) (h : Rel P w0 lent H0 s a w G) (hK : y2y P w0 lent H0 s o k r K) (hout : Out o) (hlk : y4T lk s) {t n : Nat} {parts : Array (Nat × Operand)} (hop : o.op = .buildSlice t n parts) (he : jG C call ct wn o s.opd lk k = some r) : o.wp P a w K Q := by
 simp only [jG, hop] at he
 split at he
 ·rename_i e ts b d ht hd
  cases hl : ycA lk s.opd ts parts.toList (List.replicate n (Vz ts)) [] with
  | none => simp [hl] at he
  | some p =>
   obtain ⟨xs, is⟩ := p
   simp only [hl] at he
   cases hb : Vi is d || !Nat.ble (n * ts.length) 16777216 with
   | true => simp [hb] at he
   | false =>
    simp only [hb, cond_false] at he
    simp only [Bool.or_eq_false_iff, Bool.not_eq_false'] at hb
    obtain ⟨D, hD, rfl, te, hte, hts⟩ := hT.und t _ ht
    subst hts
    obtain ⟨i, z, hi, hs, hby, hz, hzc, hpos, hb0⟩ := hT.info e te hte
    obtain ⟨G1, hg1, hr1, hset⟩ := h.settles hlk.rows is
    have hbig := kD hb.2
    obtain ⟨arr, e1, ⟨e2, e3, e4⟩, e5⟩ := y8c h hg1 te.ts parts.toList _ xs [] is (madeCells z.cells (n * te.ts.length)) hl hset ⟨by rw [size_madeCells, List.length_replicate], ybo hzc hpos n, fun j x hx => by
     have hj : j < n := by
      have := (List.getElem?_eq_some_iff.1 hx).1
      rwa [List.length_replicate] at this
     have hxz : Vz te.ts = x := by
      rw [List.getElem?_replicate, if_pos hj] at hx
      injection hx
     subst hxz
     exact ydW hzc hpos n j hj⟩
    rw [List.length_replicate] at e5
    have hn1 : n ≤ n * te.ts.length := Nat.le_mul_of_pos_right n hpos
    have hrun : (Instr.buildSlice t n (parts.map fun (i, x) => (i, a.eval x))).run P w = .ok (.slice (some ⟨w.heap.size, 0, none⟩) n n) (w.alloc (.cells arr e)) := by
     have e1' : Instr.fill (fun i_1 => some (i_1 * i.size, i.size)) ((Array.range (n * i.size)).map (z.cells[· % z.cells.size]!)) (parts.map fun (i, x) => (i, a.eval x)).toList = some arr := by
      rw [hs, Array.toList_map]
      exact e1
     by_cases h0 : n * i.size = 0
     ·have hn0 : n = 0 := by
       rw [hs] at h0
       rcases Nat.mul_eq_zero.1 h0 with h0 | h0
       ·exact h0
       ·omega
      subst hn0
      have ha : arr = #[] := by
       have : arr.size = 0 := by rw [e2, e5, Nat.zero_mul]
       exact Array.eq_empty_of_size_eq_zero this
      have hp0 : parts = #[] := by
       cases hpl : parts.toList with
       | nil => rw [← Array.toArray_toList (xs := parts), hpl]
       | cons p ps =>
        obtain ⟨pi, px⟩ := p
        rw [hpl] at hl
        simp only [ycA, List.replicate_zero, List.length_nil] at hl
        split at hl
        ·simp [show Nat.blt pi 0 = false from rfl] at hl
        ·cases hl
      subst ha hp0
      have hr0 : (Array.range 0).map (fun _ => (default : Value)) = #[] := Array.eq_empty_of_size_eq_zero (by simp)
      simp [Instr.buildSlice, run_underlying hD, sizeOf, typeInfo, hi, newRow, Instr.fill, hr0]
     ·exact run_buildSlice w t e n _ arr i z hD hi hz (by rw [hs]; omega) h0 e1'
    obtain ⟨G', _, hrel, hra⟩ := hr1.newRoot d (H0.none (hout d hd)) (e := e) (ts := te.ts) (xs := xs) (v := .slice (some ⟨w.heap.size, 0, none⟩) n n) (w' := w.alloc (.cells arr e)) (cells := arr.toList) rfl rfl rfl (by simp [World.alloc, -World.alloc_eq]) (fun k hk => .inl (qF w _ hk)) hpos
     (by
      rw [e5]
      exact World.ownsRow_lit w arr n (Nat.zero_le _) (by simp only [maxLen]; omega) (by rw [e2, e5]))
     e3 (fun k hk => by
      have : w.heap.size = k := by simpa [Value.ownBlock] using hk
      exact hr1.free_new (by omega)) (fun j x hx => RdE.mono (Hp.le.refl _) te.ts x _ _ (fun k v hv => by rw [Array.getElem?_toList]; exact hv) (e4 j x hx))
    refine jo (v := .slice (some ⟨w.heap.size, 0, none⟩) n n) (w' := w.alloc (.cells arr e)) ?_ (hK _ _ _ G' he ?_)
    ·simp only [execOp, hop]
     rw [Sem.run_bind, hrun]
     rfl
    ·have := hrel.put o.dst hra
     rw [y9T s d _ is hb.1] at this
     exact this
 ·cases he
end Go.Proofs.YtgediecndaheiaaGreat.R
