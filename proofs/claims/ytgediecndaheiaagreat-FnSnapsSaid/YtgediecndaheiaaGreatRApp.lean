/- Appending to a row of one's own. Conditions: the types lie as the context says. -/
import Derived.Lib.AppendStr
import Derived.Test.YtgediecndaheiaaGreatROp2
set_option linter.all false
namespace Go.Proofs.YtgediecndaheiaaGreat.R
open Go.RowKit
variable {P : Program} {C : Ctx} {w0 : World} {lent : Nat → Prop} {H0 : Base} {s : St} {a : Act} {w : World} {G : Gh} {o : Oper} {K : Act → World → Prop} {Q : Exit → Act → World → Prop} {R : Type} {k : Eff → Option R} {r : R} {lk : Lk} {call : C.Sem} {ct wn : Bool}
theorem y0l {ts ts' : List Ty} {xs : List (z8 ts)} {ys : List (z8 ts')} (h : y4V ts ts' xs = some ys) : ∃ e : ts = ts', ys = e ▸ xs := by
 unfold y4V at h
 split at h
 ·rename_i he
  exact ⟨Ty.eqbs_eq ts ts' he, by injection h with h; exact h.symm⟩
 ·cases h
theorem yfY {H : Hp} : ∀ (ts : List Ty) (x : z8 ts) (f : Nat → Option Value), RdE H ts x f → ∀ k, k < ts.length → ∃ v, f k = some v ∧ v.oneCell' = true := by
 intro ts x f h k hk
 have hk' : k < (qX ts x).length := by rw [v5]; exact hk
 obtain ⟨v, hv, h1, _⟩ := y6c ts x f h k _ (List.getElem?_eq_getElem hk')
 exact ⟨v, hv, h1⟩
theorem y1q (h : Rel P w0 lent H0 s a w G) (hlk : y4T lk s) {ts : List Ty} {x : A} {ys : List (z8 ts)} (hx : y1g lk ts x = some ys) {u : Value} (hu : RA G x u) :
  ∃ A c, u = .slice A ys.length c ∧ ys.length ≤ 9223372036854775807 ∧ (0 < ys.length → ∃ ad : Addr, A = some ad ∧ ∀ (j : Nat) (y : z8 ts), ys[j]? = some y → RdE G.H ts y (fun k => if k < ts.length then w.cell? (ad.add (j * ts.length + k)) else none)) := by
 cases x with
 | nils =>
  have : ([] : List (z8 ts)) = ys := by simpa [y1g] using hx
  subst this
  exact ⟨none, 0, hu, by simp, fun h => absurd h (by simp)⟩
 | val t xv =>
  cases t with
  | sl e ts' =>
   have hx' : y4V ts' ts xv = some ys := by simpa [y1g, y9x] using hx
   obtain ⟨e1, rfl⟩ := y0l hx'
   subst e1
   obtain ⟨A, c, hv, hc, hm, hr⟩ := hu
   refine ⟨A, c, hv, hm, fun hp => ?_⟩
   obtain ⟨ad, ea, hrd⟩ := hr hp
   exact ⟨ad, ea, fun j y hy => RdE.ext ts' y _ _ (fun k v hk hv => by rw [if_pos hk]; exact qB h.inH hv) (hrd j y hy)⟩
  | _ => simp [y1g, y9x] at hx
 | top e ts' xv =>
  have hx' : y4V ts' ts xv = some ys := by simpa [y1g, y9x] using hx
  obtain ⟨e1, rfl⟩ := y0l hx'
  subst e1
  obtain ⟨A, c, hv, hc, hm, hr⟩ := hu
  refine ⟨A, c, hv, hm, fun hp => ?_⟩
  obtain ⟨ad, ea, hrd⟩ := hr hp
  exact ⟨ad, ea, fun j y hy => RdE.ext ts' y _ _ (fun k v hk hv => by
   rw [if_pos hk]
   refine qB (H' := ZQ w) (fun b ob hb => ?_) hv
   rw [h.pv] at hb
   obtain ⟨t1, t2, t3⟩ := h.top b ob hb
   exact (h.old b t1 t2).trans t3) (hrd j y hy)⟩
 | own q =>
  cases hq : lk q with
  | none => simp [y1g, y9x, hq] at hx
  | some ob =>
   cases ob with
   | root own e ts' xs =>
    have hx' : y4V ts' ts xs = some ys := by simpa [y1g, y9x, hq] using hx
    obtain ⟨e1, rfl⟩ := y0l hx'
    subst e1
    obtain ⟨_, _, ⟨A, c, hsv, hc, hm, hA⟩, hrd⟩ := qE h (hlk q _ hq)
    refine ⟨A, c, hu.1.trans hsv, hm, fun hp => ⟨_, hA hp, fun j y hy => ?_⟩⟩
    have := hrd j y hy
    simp only [Kw]
    exact this
   | _ => simp [y1g, y9x, hq] at hx
 | _ => simp [y1g, y9x] at hx
theorem ycL {H : Hp} {ts : List Ty} {ys : List (z8 ts)} {f : Nat → Option Value} (hpos : 0 < ts.length) (hr : ∀ (j : Nat) (y : z8 ts), ys[j]? = some y → RdE H ts y (fun k => if k < ts.length then f (j * ts.length + k) else none)) :
  ∃ news : List Value, news.length = ys.length * ts.length ∧ (∀ j u, news[j]? = some u → f j = some u) ∧ (∀ u ∈ news, u.oneCell' = true) ∧ ∀ (j : Nat) (y : z8 ts), ys[j]? = some y → RdE H ts y (fun k => news[j * ts.length + k]?) := by
 have hcell : ∀ i, i < ys.length * ts.length → ∃ v, f i = some v ∧ v.oneCell' = true := by
  intro i hi
  have hj : i / ts.length < ys.length := Nat.div_lt_of_lt_mul (by rw [Nat.mul_comm]; exact hi)
  obtain ⟨v, hv, h1⟩ := yfY ts _ _ (hr (i / ts.length) _ (List.getElem?_eq_getElem hj)) (i % ts.length) (Nat.mod_lt _ hpos)
  rw [if_pos (Nat.mod_lt _ hpos), show i / ts.length * ts.length + i % ts.length = i by rw [Nat.mul_comm]; exact Nat.div_add_mod i ts.length] at hv
  exact ⟨v, hv, h1⟩
 refine ⟨(List.range (ys.length * ts.length)).map fun i => (f i).getD undef, by simp, fun j u hu => ?_, fun u hu => ?_, fun j y hy => ?_⟩
 ·rw [List.getElem?_map] at hu
  obtain ⟨i, hi, rfl⟩ := Option.map_eq_some_iff.1 hu
  have hlt := (List.getElem?_eq_some_iff.1 hi).1
  have : j = i := by simpa [List.getElem?_range (by simpa using hlt)] using hi
  subst this
  obtain ⟨v, hv, _⟩ := hcell j (by simpa using hlt)
  rw [hv]
  rfl
 ·obtain ⟨i, hi, rfl⟩ := List.mem_map.1 hu
  obtain ⟨v, hv, h1⟩ := hcell i (by simpa using hi)
  rw [hv]
  exact h1
 ·have hjl := (List.getElem?_eq_some_iff.1 hy).1
  have hj1 : (j + 1) * ts.length ≤ ys.length * ts.length := Nat.mul_le_mul_right _ hjl
  rw [Nat.add_mul, Nat.one_mul] at hj1
  refine RdE.ext ts y _ _ (fun k v hk hv => ?_) (hr j y hy)
  rw [if_pos hk] at hv
  rw [List.getElem?_map, List.getElem?_range (by omega), Option.map_some, hv]
  rfl
theorem y9R (t ty e : TypeId) (i : TypeInfo) (size c : Nat) (ht : P.underlying t = some (.slice e)) (hi : P.info? e = some i)
  (v : Value) (n : Nat) (xs : List Value) (hown : w.ownsRow 0 e size v n xs) :
  (Builtin.append_ #[t, t] ty #[v, .slice none 0 c]).run P w = .ok v w := by
 rcases hown.2 with ⟨rfl, rfl⟩ | ⟨g, cap, cur, rfl, _, _, hnc, _⟩
 ·simp [Builtin.append_, run_underlying ht, sizeOf, typeInfo, hi, Builtin.lenOf, Builtin.firstCells]
 ·simp [Builtin.append_, run_underlying ht, sizeOf, typeInfo, hi, Builtin.lenOf, Builtin.firstCells, hnc, storeCells]
theorem Qp (hT : TOk C P) {t e b ty : Nat} {ts : List Ty} (ht : C.info t = some (.c (.sl e ts) b)) {te : TI} (hte : C.info e = some te) {xs ys : List (z8 ts)} {H : Hp} (hpos : 0 < ts.length) {v u : Value} {cells : List Value} (hown : w.ownsRow 0 e ts.length v xs.length cells)
  (hone : ∀ u ∈ cells, u.oneCell' = true) (hrd : ∀ (j : Nat) (x : z8 ts), xs[j]? = some x → RdE H ts x (fun k => cells[j * ts.length + k]?))
  {A : Option Addr} {c : Nat} (hu : u = .slice A ys.length c) (hy : 0 < ys.length → ∃ ad : Addr, A = some ad ∧ ∀ (j : Nat) (y : z8 ts), ys[j]? = some y → RdE H ts y (fun k => if k < ts.length then w.cell? (ad.add (j * ts.length + k)) else none))
  (hsize : (xs.length + ys.length) * te.bytes < 140737488355328) :
  ∃ v' w' cells', (Builtin.append_ #[t, t] ty #[v, u]).run P w = .ok v' w' ∧ w'.ownsRow 0 e ts.length v' (xs ++ ys).length cells' ∧ w.grownBy w' v.ownBlock ∧ (v'.ownBlock = v.ownBlock ∨ v'.ownBlock = some w.heap.size) ∧
   (∀ u ∈ cells', u.oneCell' = true) ∧ ∀ (j : Nat) (x : z8 ts), (xs ++ ys)[j]? = some x → RdE H ts x (fun k => cells'[j * ts.length + k]?) := by
 obtain ⟨D, hD, rfl, te', hte', hts⟩ := hT.und t _ ht
 rw [hte] at hte'
 injection hte' with hte'
 subst hte'
 subst hts
 obtain ⟨i, z, hi, hs, hby, hz, hzc, hp, hb0⟩ := hT.info e te hte
 subst hu
 by_cases h0 : ys.length = 0
 ·have hys : ys = [] := List.length_eq_zero_iff.1 h0
  subst hys
  cases A with
  | none =>
   exact ⟨v, w, cells, y9R t ty e i te.ts.length c hD hi v xs.length cells hown, by simpa using hown, ⟨rfl, rfl, rfl, Nat.le_refl _, fun _ _ _ => rfl⟩, .inl rfl, hone, by simpa using hrd⟩
  | some ad =>
   obtain ⟨v', w', h1, h2, h3, _, h5⟩ := run_append_own_at (P := P) w 0 t ty e i z te.ts.length te.bytes hD hi hz hs hby (by rw [← Array.length_toList, hzc]; simp) hpos v xs.length cells hown ad 0 c [] (by simp) (by simp) (by simp)
    (by simp only [maxLen]; simp only [List.length_nil, Nat.add_zero] at hsize; have := Nat.le_mul_of_pos_right xs.length hb0; omega) (by simpa using Nat.le_of_lt hsize) (Nat.zero_le _)
   exact ⟨v', w', cells, h1, by simpa using h2, h3, h5, hone, by simpa using hrd⟩
 ·obtain ⟨ad, rfl, hyr⟩ := hy (by omega)
  obtain ⟨news, hnl, hnc, hn1, hnr⟩ := ycL (f := fun i => w.cell? (ad.add i)) hpos hyr
  have hsz2 := Nat.le_mul_of_pos_right (xs.length + ys.length) hb0
  obtain ⟨v', w', h1, h2, h3, _, h5⟩ := run_append_own_at (P := P) w 0 t ty e i z te.ts.length te.bytes hD hi hz hs hby (by rw [← Array.length_toList, hzc]; simp) hpos v xs.length cells hown ad ys.length c news hnl hnc hn1
   (by simp only [maxLen]; omega) (Nat.le_of_lt hsize) (Nat.zero_le _)
  refine ⟨v', w', cells ++ news, h1, by simpa using h2, h3, h5, fun u hu => ?_, fun j x hx => ?_⟩
  ·rcases List.mem_append.1 hu with hu | hu
   ·exact hone u hu
   ·exact hn1 u hu
  ·have hcl : cells.length = xs.length * te.ts.length := hown.1
   by_cases hj : j < xs.length
   ·rw [List.getElem?_append_left hj] at hx
    refine RdE.ext te.ts x _ _ (fun k v hk hv => ?_) (hrd j x hx)
    rw [List.getElem?_append_left (by exact (List.getElem?_eq_some_iff.1 hv).1)]
    exact hv
   ·rw [List.getElem?_append_right (by omega)] at hx
    have hm : xs.length * te.ts.length ≤ j * te.ts.length := Nat.mul_le_mul_right _ (by omega)
    refine RdE.ext te.ts x _ _ (fun k v hk hv => ?_) (hnr _ x hx)
    rw [List.getElem?_append_right (by omega), hcl, show j * te.ts.length + k - xs.length * te.ts.length = (j - xs.length) * te.ts.length + k by rw [Nat.sub_mul]; omega]
    exact hv
theorem ycM {t u ty e : TypeId} {i : TypeInfo} {z : Value} (ht : P.underlying t = some (.slice e)) (hu : P.underlying u = some .string) (hi : P.info? e = some i) (hz : i.zero = some z) (hs1 : i.size = 1) (hb1 : i.bytes = 1) (hz1 : z.cells.size = 1)
  {v : Value} {n : Nat} {xs : List Value} (hown : w.ownsRow 0 e 1 v n xs) (s : ByteArray) (hsize : n + s.size < 140737488355328) :
  ∃ v' w', (Builtin.append_ #[t, u] ty #[v, .string s]).run P w = .ok v' w' ∧ w'.ownsRow 0 e 1 v' (n + s.size) (xs ++ Lib.strCells s) ∧ w.grownBy w' v.ownBlock ∧ (v'.ownBlock = v.ownBlock ∨ v'.ownBlock = some w.heap.size) := by
 have hxl : xs.length = n := by simpa using hown.1
 have hsl := Lib.strCells_length s
 have hlen : (xs ++ Lib.strCells s).length = (n + s.size) * 1 := by rw [List.length_append, hxl, hsl, Nat.mul_one]
 have h63 : n + s.size ≤ maxLen := by simp only [maxLen]; omega
 have fresh : ∀ (old : Nat) (cur : Array Value), old < n + s.size → cur.toList = xs ++ (Lib.strCells s ++ (Builtin.zeroCells z.cells (grownCap w (n + s.size) old e - (n + s.size))).toList) → ∀ (row : Option Nat),
   (w.drew.alloc (.cells cur e)).ownsRow 0 e 1 (.slice (some ⟨w.heap.size, 0, none⟩) (n + s.size) (grownCap w (n + s.size) old e)) (n + s.size) (xs ++ Lib.strCells s) ∧ w.grownBy (w.drew.alloc (.cells cur e)) row := by
  intro old cur ho hc row
  have hge := grownCap_ge w (n + s.size) old e
  have hcm : grownCap w (n + s.size) old e ≤ maxLen := grownCap_le_maxLen w (n + s.size) old e h63
  refine ⟨⟨hlen, .inr ⟨w.heap.size, _, _, rfl, Nat.zero_le _, heap_alloc_new w.drew _, hge, hcm, ?_, ?_⟩⟩, ⟨rfl, rfl, rfl, by simp, fun k hk _ => heap_alloc_old w.drew _ k hk⟩⟩
  ·rw [← Array.length_toList, hc]
   simp only [List.length_append, Array.length_toList, size_zeroCells, hz1, hxl, hsl]
   omega
  ·rw [hc, ← List.append_assoc, ← hlen]
   exact List.take_left
 rcases hown.2 with ⟨rfl, rfl⟩ | ⟨g, cap, cur, rfl, hbg, hg, hnc, hcm, hcs, htake⟩
 ·have hx : xs = [] := List.eq_nil_of_length_eq_zero hxl
  subst hx
  by_cases hm : s.size = 0
  ·have hn : Lib.strCells s = [] := List.eq_nil_of_length_eq_zero (by rw [hsl]; exact hm)
   refine ⟨.slice none 0 0, w, ?_, by rw [hm, hn]; exact World.ownsRow_nil w 0 e 1, ⟨rfl, rfl, rfl, Nat.le_refl _, fun _ _ _ => rfl⟩, .inl rfl⟩
   have hf := Lib.run_firstCells_string (P := P) w 1 s
   rw [hm] at hf
   simp [Builtin.append_, run_underlying ht, run_underlying hu, sizeOf, typeInfo, hi, hs1, Builtin.lenOf, hm, hf]
  ·have hr := run_append_nil_string (P := P) w t u ty e i z ht hu hi hz s (by omega) (by omega) (by rw [hb1]; omega)
   have hgr := fresh 0 (s.data.map (fun b => Value.int .u8 b.toNat) ++ Builtin.zeroCells z.cells (grownCap w s.size 0 e - s.size)) (by omega) (by simp [Lib.strCells]) (Value.ownBlock (.slice none 0 0))
   simp only [Nat.zero_add] at hgr ⊢
   exact ⟨_, _, hr, hgr.1, hgr.2, .inr rfl⟩
 ·by_cases hroom : n + s.size ≤ cap
  ·have hcs' : cur.size = cap := by simpa using hcs
   have hr := Lib.run_append_room_string (P := P) w t u ty e i ht hu hi hs1 g n cap cur hg s hroom (by omega)
   refine ⟨_, _, hr, ⟨hlen, .inr ⟨g, cap, _, rfl, hbg, setRow_heap w g cur _ e _ hg, hroom, hcm, ?_, ?_⟩⟩, ⟨rfl, rfl, rfl, by simp, fun k _ hk => setRow_other w g k _ (fun e => hk (by simp [Value.ownBlock, e]))⟩, .inl rfl⟩
   ·simp only [List.size_toArray, List.length_append, List.length_take, List.length_drop, Array.length_toList, hsl]
    omega
   ·have ht' : cur.toList.take n = xs := by simpa using htake
    rw [ht', ← hlen]
    exact List.take_left
  ·have hr := Lib.run_append_grow_string (P := P) w t u ty e i z ht hu hi hz ⟨g, 0, none⟩ n cap xs (by rw [hs1]; simpa using hxl) (hown.cells (g := g) rfl) s (by omega) (by omega) (by rw [hb1]; exact growslice_fits (by omega) (by omega))
   have hgr := fresh cap (xs.toArray ++ (Lib.strCells s).toArray ++ Builtin.zeroCells z.cells (grownCap w (n + s.size) cap e - (n + s.size))) (by omega) (by simp) (Value.ownBlock (.slice (some ⟨g, 0, none⟩) n cap))
   exact ⟨_, _, hr, hgr.1, hgr.2, .inr rfl⟩
def y5r (s : ByteArray) : List (z8 [.int .u8]) := Vj s
theorem v7 (x : ByteArray) : (y5r x).length = x.size := by
 show (Vj x).length = x.size
 unfold Vj
 rw [List.length_map, Array.length_toList]
 rfl
theorem y3M (hT : TOk C P) {t e b b1 b2 t2 ty : Nat} (ht : C.info t = some (.c (.sl e [.int .u8]) b)) (hte : C.info e = some (.c (.int .u8) b1)) (hb : b1 = 1) (ht2 : C.info t2 = some (.c .str b2)) {xs : List (z8 [.int .u8])} {H : Hp} {v : Value} {cells : List Value} (hown : w.ownsRow 0 e 1 v xs.length cells)
  (hone : ∀ u ∈ cells, u.oneCell' = true) (hrd : ∀ (j : Nat) (x : z8 [.int .u8]), xs[j]? = some x → RdE H [.int .u8] x (fun k => cells[j * 1 + k]?)) (s : ByteArray) (hsize : xs.length + s.size < 140737488355328) :
  ∃ v' w' cells', (Builtin.append_ #[t, t2] ty #[v, .string s]).run P w = .ok v' w' ∧ w'.ownsRow 0 e 1 v' (xs.length + s.size) cells' ∧ w.grownBy w' v.ownBlock ∧ (v'.ownBlock = v.ownBlock ∨ v'.ownBlock = some w.heap.size) ∧
   (∀ u ∈ cells', u.oneCell' = true) ∧ ∀ (j : Nat) (x : z8 [.int .u8]), (xs ++ y5r s)[j]? = some x → RdE H [.int .u8] x (fun k => cells'[j * 1 + k]?) := by
 obtain ⟨D, hD, rfl, te', hte', hts⟩ := hT.und t _ ht
 obtain ⟨D2, hD2, hd2⟩ := hT.und t2 _ ht2
 obtain ⟨i, z, hi, hs, hby, hz, hzc, hp, hb0⟩ := hT.info e _ hte
 have hs1 : i.size = 1 := hs
 have hb1 : i.bytes = 1 := by rw [hby]; exact hb
 have hz1 : z.cells.size = 1 := by rw [← Array.length_toList, hzc]; rfl
 have hd2' : D2 = .string := by simpa [y85] using hd2
 subst hd2'
 obtain ⟨v', w', h1, h2, h3, h4⟩ := ycM (P := P) (ty := ty) hD hD2 hi hz hs1 hb1 hz1 hown s hsize
 have hcl : cells.length = xs.length := by simpa using hown.1
 refine ⟨v', w', _, h1, h2, h3, h4, fun u hu => (List.mem_append.1 hu).elim (hone u) (Lib.strCells_oneCell s u), fun j x hx => ?_⟩
 by_cases hj : j < xs.length
 ·rw [List.getElem?_append_left hj] at hx
  refine RdE.ext _ x _ _ (fun k v hk hv => ?_) (hrd j x hx)
  rw [List.getElem?_append_left (by exact (List.getElem?_eq_some_iff.1 hv).1)]
  exact hv
 ·rw [List.getElem?_append_right (by omega)] at hx
  refine ⟨.int .u8 x, ?_, rfl⟩
  show (cells ++ Lib.strCells s)[j * 1 + 0]? = _
  rw [List.getElem?_append_right (by omega), show j * 1 + 0 - cells.length = j - xs.length by omega]
  have hx' : (Vj s)[j - xs.length]? = some x := hx
  rw [Vj, List.getElem?_map] at hx'
  obtain ⟨b', hb', he⟩ := Option.map_eq_some_iff.1 hx'
  rw [Lib.strCells, List.getElem?_map, hb']
  exact congrArg (fun n => some (Value.int .u8 n)) he
theorem yfZ {te : TI} {u : Option TI} {ts : List Ty} {y : A} : ycy lk true te u ts y = y1g lk ts y := by
 unfold ycy
 split <;> rfl
theorem yg0 {te : TI} {u : Option TI} {ts : List Ty} {y : A} {ys : List (z8 ts)} (h : ycy lk false te u ts y = some ys) :
  ∃ (x : ByteArray) (b2 : Nat) (e : ts = [.int .u8]), te = .c (.int .u8) 1 ∧ u = some (.c .str b2) ∧ y = .val .str x ∧ ys = e ▸ y5r x := by
 unfold ycy at h
 split at h
 ·simp only [cond_false] at h
  split at h
  ·injection h with h
   exact ⟨_, _, rfl, rfl, rfl, rfl, h.symm⟩
  ·cases h
 ·cases h
theorem ydU {same : Bool} {e q : Nat} {ts : List Ty} {x y : A} {xs ys : List (z8 ts)} (h : ydB lk same e ts x y = some (q, xs, ys)) : same = true ∧ ∃ m l zs, x = .win q m ∧ y = .tl q l ∧ lk q = some (.root true e ts zs) ∧ xs = zs.take (Int.toNat m) ∧ ys = zs.drop (Int.toNat l) := by
 unfold ydB at h
 split at h
 ·rename_i r m r2 l
  split at h
  ·rename_i e1 ts1 zs hq
   split at h
   ·rename_i zs' hcr
    obtain ⟨ee, rfl⟩ := y0l hcr
    subst ee
    cases hb : same && Nat.beq r r2 && Nat.beq e1 e with
    | false => simp [hb] at h
    | true =>
     simp only [hb, cond_true, Option.some.injEq, Prod.mk.injEq] at h
     simp only [Bool.and_eq_true] at hb
     have e2 := Nat.eq_of_beq_eq_true hb.1.2
     have e3 := Nat.eq_of_beq_eq_true hb.2
     subst e2 e3
     obtain ⟨rfl, rfl, rfl⟩ := h
     exact ⟨hb.1.1, m, l, _, rfl, rfl, hq, rfl, rfl⟩
   ·cases h
  ·cases h
 ·cases h
theorem ycN (hT : TOk C P) (h : Rel P w0 lent H0 s a w G) (hK : y2y P w0 lent H0 s o k r K) (hout : Out o) (hlk : y4T lk s) {c : Call} {x y : Operand} {t t2 : Nat} (hop : o.op = .call c) (hc : c.callee = .builtin .append) (hargs : c.args.toList = [x, y]) (htys : c.argTypes.toList = [t, t2]) {d e b q : Nat} {ts : List Ty} (hd : o.dst = some d)
  (ht : C.info t = some (.c (.sl e ts) b)) {te : TI} (hte : C.info e = some te) {xs ys : List (z8 ts)} (hcut : ydB lk (Nat.beq t t2) e ts (s.opd x) (s.opd y) = some (q, xs, ys))
  (he : (bif Nat.beq q d then none else if (xs.length + ys.length) * te.bytes < 140737488355328 then k ⟨[(q, .gone)], [(d, .root true e ts (xs ++ ys))], .own d⟩ else none) = some r) : o.wp P a w K Q := by
 obtain ⟨hbt, m, l, zs, hxa, hya, hq, rfl, rfl⟩ := ydU hcut
 have htt := Nat.eq_of_beq_eq_true hbt
 subst htt
 have hx := h.opd x
 have hy := h.opd y
 rw [hxa] at hx
 rw [hya] at hy
 cases hqd0 : Nat.beq q d with
 | true => simp [hqd0] at he
 | false =>
  simp only [hqd0, cond_false] at he
  have hqd : q ≠ d := fun e => by
   subst e
   rw [yw] at hqd0
   cases hqd0
  split at he
  ·rename_i hsize
   have e1 : c.args = #[x, y] := by rw [← Array.toArray_toList (xs := c.args), hargs]
   have e2 : c.argTypes = #[t, t] := by rw [← Array.toArray_toList (xs := c.argTypes), htys]
   have hexec : ∀ (v : Value) (w' : World), (Builtin.append_ #[t, t] o.type #[a.eval x, a.eval y]).run P w = .ok v w' → (execOp a.eval o).run P w = .ok (.value v) w' := by
    intro v w' hr
    simp [execOp, hop, resolve, hc, invoke, builtin, e1, e2, hr]
   have hlq := hlk q _ hq
   obtain ⟨hsz, hpos, cells, hown, hone, hblk, hrd⟩ := h.objs q _ hlq
   obtain ⟨A1, n1, c1, s1, hxv, hm1⟩ := hx
   obtain ⟨A2, n2, c2, s2, hl2, hyv⟩ := hy
   rw [s1] at s2
   injection s2 with s2 s3 s4
   subst s2 s3 s4
   have hn : n1 = zs.length := by
    rcases hown.2 with ⟨hv, hn0⟩ | ⟨g, cap, cur, hv, _⟩
    ·rw [s1] at hv
     injection hv with _ hv _
     rw [hv, hn0]
    ·rw [s1] at hv
     injection hv
   subst hn
   have hlen : (zs.take (Int.toNat m)).length = Int.toNat m := by rw [List.length_take]; omega
   have hcl := hown.1
   have hmm : Int.toNat m * ts.length ≤ zs.length * ts.length := Nat.mul_le_mul_right _ hm1
   have hrow : w.ownsRow 0 e ts.length (.slice A1 (Int.toNat m) c1) (zs.take (Int.toNat m)).length (cells.take (Int.toNat m * ts.length)) := by
    rw [hlen]
    rcases hown.2 with ⟨hv, hn0⟩ | ⟨g, cap, cur, hv, hb0, hg, hnc, hcm, hcs, htk⟩
    ·rw [s1] at hv
     injection hv with hA _ hc0
     subst hA hc0
     have hm0 : Int.toNat m = 0 := by omega
     rw [hm0]
     exact ⟨by simp, .inl ⟨rfl, rfl⟩⟩
    ·rw [s1] at hv
     injection hv with hA _ hc0
     subst hA hc0
     refine ⟨by rw [List.length_take]; omega, .inr ⟨g, c1, cur, rfl, hb0, hg, by omega, hcm, hcs, ?_⟩⟩
     rw [← htk, List.take_take, Nat.min_eq_left hmm]
   obtain ⟨v', w', cells', h1, h2, h3, h4, h5, h6⟩ := Qp (P := P) (ty := o.type) (H := G.H) (xs := zs.take (Int.toNat m)) (ys := zs.drop (Int.toNat l)) (u := a.eval y) (A := if c1 = Int.toNat l then A1 else A1.map (·.add (Int.toNat l * (G.sz q).1))) (c := c1 - Int.toNat l) hT ht hte hpos hrow (fun u hu => hone u (List.mem_of_mem_take hu)) (fun j z hz => by
    rw [List.getElem?_take] at hz
    split at hz
    ·rename_i hj
     refine RdE.ext ts z _ _ (fun k v hk hv => ?_) (hrd j z hz)
     have : j * ts.length + k < Int.toNat m * ts.length := by
      have := Nat.mul_le_mul_right ts.length (show j + 1 ≤ Int.toNat m by omega)
      rw [Nat.succ_mul] at this
      omega
     rw [List.getElem?_take, if_pos this]
     exact hv
    ·cases hz) (by rw [List.length_drop]; exact hyv) (fun hp => by
    rw [List.length_drop] at hp
    rcases hown.2 with ⟨hv, hn0⟩ | ⟨g, cap, cur, hv, hb0, hg, hnc, hcm, hcs, htk⟩
    ·omega
    ·rw [s1] at hv
     injection hv with hA _ hc0
     subst hA hc0
     refine ⟨⟨g, Int.toNat l * ts.length, none⟩, ?_, fun j z hz => ?_⟩
     ·rw [if_neg (by omega), hsz]
      show some ((⟨g, 0, none⟩ : Addr).add _) = _
      rw [Addr.add_lit, Nat.zero_add]
     ·rw [List.getElem?_drop] at hz
      have hj : Int.toNat l + j < zs.length := (List.getElem?_eq_some_iff.1 hz).1
      refine RdE.ext ts z _ _ (fun k v hk hv => ?_) (hrd _ z hz)
      rw [if_pos hk, Addr.add_lit]
      have hlt : (Int.toNat l + j) * ts.length + k < zs.length * ts.length := by
       have := Nat.mul_le_mul_right ts.length (show Int.toNat l + j + 1 ≤ zs.length by omega)
       rw [Nat.succ_mul] at this
       omega
      have hv' : (cur.toList.take (zs.length * ts.length))[(Int.toNat l + j) * ts.length + k]? = some v := by rw [htk]; exact hv
      rw [List.getElem?_take, if_pos hlt, Array.getElem?_toList] at hv'
      unfold World.cell?
      simp only [hg]
      rw [show Int.toNat l * ts.length + (j * ts.length + k) = (Int.toNat l + j) * ts.length + k by rw [Nat.add_mul, Nat.add_assoc]]
      simpa using hv') hsize
   have hob : (Value.slice A1 (Int.toNat m) c1).ownBlock = (G.sv q).ownBlock := by
    rw [s1]
    cases A1 <;> rfl
   rw [hob] at h3 h4
   have hgone := h.gone q
   have hfree : ∀ k, (G.sv q).ownBlock = some k → VQ w0 lent (s.set q .gone) G k := fun k hk => Kx h hlq hk
   obtain ⟨G', _, hrel, hra⟩ := hgone.newRoot d (H0.none (hout d hd)) (v := v') (w' := w') (cells := cells') h3.os h3.tape h3.output h3.size (fun k hk => by
    by_cases hkb : some k = (G.sv q).ownBlock
    ·exact .inr (hfree k hkb.symm)
    ·exact .inl (h3.block k hk hkb)) hpos h2 h5
    (fun k hk => by
     rcases h4 with h4 | h4
     ·rw [h4] at hk
      exact hfree k hk
     ·rw [h4] at hk
      injection hk with hk
      subst hk
      exact hgone.free_new (Nat.le_refl _)) h6
   refine jo (hexec v' w' (by rw [hxv]; exact h1)) (hK _ _ _ G' he ?_)
   have := hrel.put o.dst hra
   rw [v6 s hqd, hd] at this
   simpa [St.apply, St.makeAll, St.setAll, hd] using this
  ·cases he
theorem ydV (hT : TOk C P) (h : Rel P w0 lent H0 s a w G) (hK : y2y P w0 lent H0 s o k r K) (hout : Out o) (hlk : y4T lk s) {c : Call} {x y : Operand} {t t2 : Nat} (hop : o.op = .call c) (hc : c.callee = .builtin .append) (hargs : c.args.toList = [x, y]) (htys : c.argTypes.toList = [t, t2]) (he : jG C call ct wn o s.opd lk k = some r) : o.wp P a w K Q := by
 have hx := h.opd x
 have hy := h.opd y
 simp only [jG, hop, hc, hargs, htys] at he
 split at he
 ·rename_i e ts b d ht hd
  cases hte : C.info e with
  | none => simp [hte] at he
  | some te =>
   simp only [hte] at he
   cases hcut : ydB lk (Nat.beq t t2) e ts (s.opd x) (s.opd y) with
   | some z =>
    obtain ⟨q, xs, ys⟩ := z
    simp only [hcut] at he
    exact ycN hT h hK hout hlk hop hc hargs htys hd ht hte hcut he
   | none =>
   simp only [hcut] at he
   cases hbt : Nat.beq t t2 with
   | false =>
    simp only [hbt] at he
    cases hsrc : ycy lk false te (C.info t2) ts (s.opd y) with
    | none =>
     rw [hsrc] at he
     split at he <;> simp_all
    | some ys =>
     obtain ⟨xs2, b2, rfl, rfl, ht2, hyv, rfl⟩ := yg0 hsrc
     rw [hsrc] at he
     rw [hyv] at hy
     have hyv' : a.eval y = .string xs2 := hy
     have e1 : c.args = #[x, y] := by rw [← Array.toArray_toList (xs := c.args), hargs]
     have e2 : c.argTypes = #[t, t2] := by rw [← Array.toArray_toList (xs := c.argTypes), htys]
     have hexec : ∀ (v : Value) (w' : World), (Builtin.append_ #[t, t2] o.type #[a.eval x, a.eval y]).run P w = .ok v w' → (execOp a.eval o).run P w = .ok (.value v) w' := by
      intro v w' hr
      simp [execOp, hop, resolve, hc, invoke, builtin, e1, e2, hr]
     split at he
     ·
      rename_i ys' hxa hya
      injection hya with hya
      subst hya
      rw [hxa] at hx
      split at he
      ·rename_i hsize
       have hsz : xs2.size < 140737488355328 := by
        rw [show List.length _ = xs2.size from v7 xs2] at hsize
        simpa [TI.bytes] using hsize
       obtain ⟨v', w', cells', h1, h2, h3, h4, h5, h6⟩ := y3M (P := P) (ty := o.type) (xs := ([] : List (z8 [.int .u8]))) (H := G.H) hT ht hte rfl ht2 (World.ownsRow_nil w 0 e 1) (by simp) (by simp) xs2 (by simpa using hsz)
       have hnone : (Value.slice none 0 0).ownBlock = none := rfl
       rw [hnone] at h3 h4
       obtain ⟨G', _, hrel, hra⟩ := h.newRoot d (H0.none (hout d hd)) (e := e) (ts := [.int .u8]) (xs := (y5r xs2)) (v := v') (w' := w') (cells := cells') h3.os h3.tape h3.output h3.size (fun k hk => .inl (h3.block k hk (by simp))) (by simp) (by rw [v7]; simpa using h2) h5
        (fun k hk => by
         rcases h4 with h4 | h4
         ·rw [h4] at hk
          cases hk
         ·rw [h4] at hk
          injection hk with hk
          subst hk
          exact h.free_new (Nat.le_refl _)) (by simpa using h6)
       refine jo (hexec v' w' (by rw [show a.eval x = .slice none 0 0 from hx, hyv']; exact h1)) (hK _ _ _ G' he ?_)
       have := hrel.put o.dst hra
       simpa [St.apply, St.makeAll, St.setAll] using this
      ·cases he
     ·
      rename_i q ys' hxa hya
      injection hya with hya
      subst hya
      rw [hxa] at hx
      cases hq : lk q with
      | none => simp [hq] at he
      | some ob =>
       cases ob with
       | root own e1' ts1 xs =>
        cases own with
        | false => simp [hq] at he
        | true =>
         simp only [hq] at he
         cases hcr : y4V ts1 [.int .u8] xs with
         | none => simp [hcr] at he
         | some xs' =>
          simp only [hcr] at he
          obtain ⟨ee, rfl⟩ := y0l hcr
          subst ee
          cases hbb : Nat.beq q d || !Nat.beq e1' e with
          | true => simp [hbb] at he
          | false =>
           simp only [hbb, cond_false] at he
           simp only [Bool.or_eq_false_iff, Bool.not_eq_false'] at hbb
           have hee := Nat.eq_of_beq_eq_true hbb.2
           subst hee
           have hqd : q ≠ d := fun e => by
            subst e
            rw [yw] at hbb
            exact absurd hbb.1 (by simp)
           split at he
           ·rename_i hsize
            have hsz : xs.length + xs2.size < 140737488355328 := by
             rw [show List.length (y5r xs2) = xs2.size from v7 xs2] at hsize
             simpa [TI.bytes] using hsize
            have hlq := hlk q _ hq
            obtain ⟨_, _, cells, hown, hone, hblk, hrd⟩ := h.objs q _ hlq
            obtain ⟨v', w', cells', h1, h2, h3, h4, h5, h6⟩ := y3M (P := P) (ty := o.type) hT ht hte rfl ht2 hown hone hrd xs2 hsz
            have hgone := h.gone q
            have hfree : ∀ k, (G.sv q).ownBlock = some k → VQ w0 lent (s.set q .gone) G k := fun k hk => Kx h hlq hk
            obtain ⟨G', _, hrel, hra⟩ := hgone.newRoot d (H0.none (hout d hd)) (e := e1') (ts := [.int .u8]) (xs := xs ++ (y5r xs2)) (v := v') (w' := w') (cells := cells') h3.os h3.tape h3.output h3.size (fun k hk => by
             by_cases hkb : some k = (G.sv q).ownBlock
             ·exact .inr (hfree k hkb.symm)
             ·exact .inl (h3.block k hk hkb)) (by simp) (by rw [List.length_append, v7]; exact h2) h5
             (fun k hk => by
              rcases h4 with h4 | h4
              ·rw [h4] at hk
               exact hfree k hk
              ·rw [h4] at hk
               injection hk with hk
               subst hk
               exact hgone.free_new (Nat.le_refl _)) h6
            refine jo (hexec v' w' (by rw [hx.1, hyv']; exact h1)) (hK _ _ _ G' he ?_)
            have := hrel.put o.dst hra
            rw [v6 s hqd] at this
            simpa [St.apply, St.makeAll, St.setAll] using this
           ·cases he
       | _ => simp [hq] at he
     ·cases he
   | true =>
    simp only [hbt, yfZ] at he
    have htt := Nat.eq_of_beq_eq_true hbt
    subst htt
    have e1 : c.args = #[x, y] := by rw [← Array.toArray_toList (xs := c.args), hargs]
    have e2 : c.argTypes = #[t, t] := by rw [← Array.toArray_toList (xs := c.argTypes), htys]
    have hexec : ∀ (v : Value) (w' : World), (Builtin.append_ #[t, t] o.type #[a.eval x, a.eval y]).run P w = .ok v w' → (execOp a.eval o).run P w = .ok (.value v) w' := by
     intro v w' hr
     simp [execOp, hop, resolve, hc, invoke, builtin, e1, e2, hr]
    have hpos : 0 < ts.length := by
     obtain ⟨D, hD, rfl, te', hte', hts⟩ := hT.und t _ ht
     rw [hte] at hte'
     injection hte' with hte'
     subst hte'
     obtain ⟨_, _, _, _, _, _, _, hp, _⟩ := hT.info e te hte
     rw [← hts]
     exact hp
    split at he
    ·
     rename_i ys hxa hya
     rw [hxa] at hx
     obtain ⟨A, cc, hu, hm, hsrc⟩ := y1q h hlk hya hy
     split at he
     ·rename_i hsize
      obtain ⟨v', w', cells', h1, h2, h3, h4, h5, h6⟩ := Qp (P := P) (ty := o.type) (xs := ([] : List (z8 ts))) (ys := ys) (H := G.H) hT ht hte hpos (World.ownsRow_nil w 0 e ts.length) (by simp) (by simp) hu hsrc (by simpa using hsize)
      have hnone : (Value.slice none 0 0).ownBlock = none := rfl
      rw [hnone] at h3 h4
      obtain ⟨G', _, hrel, hra⟩ := h.newRoot d (H0.none (hout d hd)) (xs := ys) (v := v') (w' := w') (cells := cells') h3.os h3.tape h3.output h3.size (fun k hk => .inl (h3.block k hk (by simp))) hpos (by simpa using h2) h5
       (fun k hk => by
        rcases h4 with h4 | h4
        ·rw [h4] at hk
         cases hk
        ·rw [h4] at hk
         injection hk with hk
         subst hk
         exact h.free_new (Nat.le_refl _)) (by simpa using h6)
      refine jo (hexec v' w' (by rw [show a.eval x = .slice none 0 0 from hx]; exact h1)) (hK _ _ _ G' he ?_)
      have := hrel.put o.dst hra
      simpa [St.apply, St.makeAll, St.setAll] using this
     ·cases he
    ·
     rename_i q ys hxa hya
     rw [hxa] at hx
     obtain ⟨A, cc, hu, hm, hsrc⟩ := y1q h hlk hya hy
     cases hq : lk q with
     | none => simp [hq] at he
     | some ob =>
      cases ob with
      | root own e1' ts1 xs =>
       cases own with
       | false => simp [hq] at he
       | true =>
        simp only [hq] at he
        cases hcr : y4V ts1 ts xs with
        | none => simp [hcr] at he
        | some xs' =>
         simp only [hcr] at he
         obtain ⟨ee, rfl⟩ := y0l hcr
         subst ee
         cases hbb : Nat.beq q d || !Nat.beq e1' e with
         | true => simp [hbb] at he
         | false =>
          simp only [hbb, cond_false] at he
          simp only [Bool.or_eq_false_iff, Bool.not_eq_false'] at hbb
          have hee := Nat.eq_of_beq_eq_true hbb.2
          subst hee
          have hqd : q ≠ d := fun e => by
           subst e
           rw [yw] at hbb
           exact absurd hbb.1 (by simp)
          split at he
          ·rename_i hsize
           have hlq := hlk q _ hq
           obtain ⟨hsz, _, cells, hown, hone, hblk, hrd⟩ := h.objs q _ hlq
           obtain ⟨v', w', cells', h1, h2, h3, h4, h5, h6⟩ := Qp (P := P) (ty := o.type) hT ht hte hpos hown hone hrd hu hsrc hsize
           have hgone := h.gone q
           have hfree : ∀ k, (G.sv q).ownBlock = some k → VQ w0 lent (s.set q .gone) G k := fun k hk => Kx h hlq hk
           obtain ⟨G', _, hrel, hra⟩ := hgone.newRoot d (H0.none (hout d hd)) (v := v') (w' := w') (cells := cells') h3.os h3.tape h3.output h3.size (fun k hk => by
            by_cases hkb : some k = (G.sv q).ownBlock
            ·exact .inr (hfree k hkb.symm)
            ·exact .inl (h3.block k hk hkb)) hpos h2 h5
            (fun k hk => by
             rcases h4 with h4 | h4
             ·rw [h4] at hk
              exact hfree k hk
             ·rw [h4] at hk
              injection hk with hk
              subst hk
              exact hgone.free_new (Nat.le_refl _)) h6
           refine jo (hexec v' w' (by rw [hx.1]; exact h1)) (hK _ _ _ G' he ?_)
           have := hrel.put o.dst hra
           rw [v6 s hqd] at this
           simpa [St.apply, St.makeAll, St.setAll] using this
          ·cases he
      | _ => simp [hq] at he
    ·cases he
 ·cases he
end Go.Proofs.YtgediecndaheiaaGreat.R
