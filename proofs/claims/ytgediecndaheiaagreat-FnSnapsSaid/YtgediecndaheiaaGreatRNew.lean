/- New objects. No condition. -/
import Derived.Test.YtgediecndaheiaaGreatROps2
import Derived.Lib.ConvBytes
set_option linter.all false
namespace Go.Proofs.YtgediecndaheiaaGreat.R
open Go.RowKit
variable {P : Program} {C : Ctx} {w0 : World} {lent : Nat → Prop} {H0 : Base} {s : St} {a : Act} {w : World} {G : Gh} {o : Oper} {K : Act → World → Prop} {Q : Exit → Act → World → Prop}
def Gh.upd (G : Gh) (d : Nat) (gg : Nat × Nat) (v : Value) (z : Nat × Nat) : Gh :=
 { H := G.H, g := fun j => if j = d then gg else G.g j, sv := fun j => if j = d then v else G.sv j, sz := fun j => if j = d then z else G.sz j, pv := G.pv }
theorem Gh.upd_agree (G : Gh) (d : Nat) (gg : Nat × Nat) (v : Value) (z : Nat × Nat) : Agree G (G.upd d gg v z) d :=
 ⟨Hp.le.refl _, fun j hj => by simp [Gh.upd, hj], fun j hj => by simp [Gh.upd, hj], fun j hj => by simp [Gh.upd, hj], rfl⟩
theorem VQ.forget {k d : Nat} (hf : VQ w0 lent s G k) {G' : Gh} (hag : Agree G G' d) (hH : G'.H = G.H) : VQ w0 lent (s.forget d) G' k := by
 refine ⟨by rw [hH]; exact hf.1, hf.2.1, fun j oj hj hb => ?_⟩
 have hj' : z4 (Yk d s.o) j = some oj := hj
 rw [kF] at hj'
 by_cases hjd : j = d
 ·simp [hjd] at hj'
 ·simp only [hjd, if_false] at hj'
  obtain ⟨o1, h1, rfl⟩ := Option.map_eq_some_iff.1 hj'
  rw [Vl hag hjd] at hb
  exact hf.2.2 j o1 h1 hb
theorem qZ (s : St) (d : Nat) : z4 (s.forget d).o d = none := by
 show z4 (Yk d s.o) d = none
 rw [kF]
 simp
theorem Rel.makeA (h : Rel P w0 lent H0 s a w G) {d : Nat} {ob : Ob} {w' : World} {G' : Gh} (hag : Agree G G' d) (hH : G'.H = G.H) (hos : w'.os = w.os) (htape : w'.tape = w.tape) (hout : w'.output = w.output) (hsz : w.heap.size ≤ w'.heap.size)
  (hk : ∀ k, k < w.heap.size → w'.heap[k]? = w.heap[k]? ∨ VQ w0 lent s G k) (hro : RO G' w' d ob) (hb : ∀ k, zR G' d ob k → VQ w0 lent s G k) (hp : ∀ b, H0.pin d = some b → G'.g d = b) :
  Rel P w0 lent H0 (s.make d ob) a w' G' := by
 have h1 := (h.heap hos htape hout hsz hk).forget hag hH
 exact h1.add (qZ s d) hro (fun k hk' => (hb k hk').forget hag hH) hp
theorem Rel.make (h : Rel P w0 lent H0 s a w G) {d : Nat} {ob : Ob} {w' : World} {gg : Nat × Nat} {v : Value} {z : Nat × Nat} (hos : w'.os = w.os) (htape : w'.tape = w.tape) (hout : w'.output = w.output) (hsz : w.heap.size ≤ w'.heap.size)
  (hk : ∀ k, k < w.heap.size → w'.heap[k]? = w.heap[k]? ∨ VQ w0 lent s G k) (hro : RO (G.upd d gg v z) w' d ob) (hb : ∀ k, zR (G.upd d gg v z) d ob k → VQ w0 lent s G k) (hp : ∀ b, H0.pin d = some b → gg = b) :
  Rel P w0 lent H0 (s.make d ob) a w' (G.upd d gg v z) := by
 have h1 := (h.heap hos htape hout hsz hk).forget (G.upd_agree d gg v z) rfl
 exact h1.add (qZ s d) hro (fun k hk' => (hb k hk').forget (G.upd_agree d gg v z) rfl) fun b hb' => by
  show (if d = d then gg else G.g d) = b
  rw [if_pos rfl]
  exact hp b hb'
theorem yfO (w : World) (cs : Array Value) (t j : Nat) : (w.alloc (.cells cs t)).cell? ⟨w.heap.size, j, none⟩ = cs[j]? := by
 simp [World.cell?, World.alloc, -World.alloc_eq]
theorem ycH (w : World) (cs : Array Value) (t j : Nat) : (w.alloc (.cells cs t)).frozen? ⟨w.heap.size, j, none⟩ = false := by
 simp [World.frozen?, World.alloc, -World.alloc_eq]
theorem qF (w : World) (ob : Obj) {k : Nat} (hk : k < w.heap.size) : (w.alloc ob).heap[k]? = w.heap[k]? := heap_alloc_old w ob k hk
theorem Rel.newBox (h : Rel P w0 lent H0 s a w G) (d t : Nat) (hd : H0.pin d = none) {l : List A} {cs : List Value} (hl : RL G l cs) (h1 : ∀ v ∈ cs, v.oneCell' = true) :
  ∃ G', G'.H = G.H ∧ Rel P w0 lent H0 (s.make d (.box (za d l))) a (w.alloc (.cells cs.toArray t)) G' ∧ RA G' (.box d 0) (.pointer (some ⟨w.heap.size, 0, none⟩)) := by
 refine ⟨G.upd d (w.heap.size, 0) undef (0, 0), rfl, h.make rfl rfl rfl (by simp [World.alloc, -World.alloc_eq]) (fun k hk => .inl (qF w _ hk)) ⟨by simp [Gh.upd, World.alloc, -World.alloc_eq], fun j x hx => ?_⟩ (fun k hk => ?_) (fun b hb => by rw [hd] at hb; cases hb), by simp [RA, Gh.upd]⟩
 ·rw [kG] at hx
  obtain ⟨y, hy, rfl⟩ := Option.map_eq_some_iff.1 hx
  obtain ⟨v, hv, hr⟩ := hl.get j y hy
  simp only [Gh.upd, if_true, Nat.zero_add]
  refine ⟨ycH w _ _ _, v, by rw [yfO]; simpa using hv, h1 v (List.mem_of_getElem? hv), ?_⟩
  exact RA.forget (G.upd_agree d (w.heap.size, 0) undef (0, 0)) y v hr
 ·have : w.heap.size = k := by simpa [zR, Gh.upd] using hk
  exact h.free_new (by omega)
theorem Rel.newRoot' (h : Rel P w0 lent H0 s a w G) (d : Nat) (hd : H0.pin d = none) {e : Nat} {ts : List Ty} {xs : List (z8 ts)} {v : Value} {w' : World} {cells : List Value} (hos : w'.os = w.os) (htape : w'.tape = w.tape) (hout : w'.output = w.output) (hsz : w.heap.size ≤ w'.heap.size)
  (hk : ∀ k, k < w.heap.size → w'.heap[k]? = w.heap[k]? ∨ VQ w0 lent s G k) (hpos : 0 < ts.length) (hown : w'.ownsRow 0 e ts.length v xs.length cells) (hone : ∀ u ∈ cells, u.oneCell' = true)
  (hb : ∀ k, v.ownBlock = some k → VQ w0 lent s G k) (hrd : ∀ (j : Nat) (x : z8 ts), xs[j]? = some x → RdE G.H ts x (fun k => cells[j * ts.length + k]?)) :
  Rel P w0 lent H0 (s.make d (.root true e ts xs)) a w' (G.upd d ((v.ownBlock).getD 0, 0) v (ts.length, xs.length)) ∧ RA (G.upd d ((v.ownBlock).getD 0, 0) v (ts.length, xs.length)) (.own d) v := by
 refine ⟨h.make hos htape hout hsz hk ⟨by simp [Gh.upd], hpos, cells, by simpa [Gh.upd] using hown, hone, fun k hk' => ?_, fun j x hx => hrd j x hx⟩ (fun k hk' => hb k (by simpa [zR, Gh.upd] using hk')) (fun b hb => by rw [hd] at hb; cases hb), ?_⟩
 ·have hk2 : v.ownBlock = some k := by simpa [Gh.upd] using hk'
  simp [Gh.upd, hk2]
 ·refine ⟨by simp [Gh.upd], ?_⟩
  rcases hown.2 with ⟨rfl, _⟩ | ⟨g, cap, cur, rfl, _⟩
  ·exact ⟨_, _, _, rfl⟩
  ·exact ⟨_, _, _, rfl⟩
theorem Rel.newRoot (h : Rel P w0 lent H0 s a w G) (d : Nat) (hd : H0.pin d = none) {e : Nat} {ts : List Ty} {xs : List (z8 ts)} {v : Value} {w' : World} {cells : List Value} (hos : w'.os = w.os) (htape : w'.tape = w.tape) (hout : w'.output = w.output) (hsz : w.heap.size ≤ w'.heap.size)
  (hk : ∀ k, k < w.heap.size → w'.heap[k]? = w.heap[k]? ∨ VQ w0 lent s G k) (hpos : 0 < ts.length) (hown : w'.ownsRow 0 e ts.length v xs.length cells) (hone : ∀ u ∈ cells, u.oneCell' = true)
  (hb : ∀ k, v.ownBlock = some k → VQ w0 lent s G k) (hrd : ∀ (j : Nat) (x : z8 ts), xs[j]? = some x → RdE G.H ts x (fun k => cells[j * ts.length + k]?)) :
  ∃ G', G'.H = G.H ∧ Rel P w0 lent H0 (s.make d (.root true e ts xs)) a w' G' ∧ RA G' (.own d) v :=
 ⟨G.upd d ((v.ownBlock).getD 0, 0) v (ts.length, xs.length), rfl, h.newRoot' d hd hos htape hout hsz hk hpos hown hone hb hrd⟩
theorem Rel.newH (h : Rel P w0 lent H0 s a w G) {w' : World} (hos : w'.os = w.os) (htape : w'.tape = w.tape) (hout : w'.output = w.output) (hsz : w.heap.size ≤ w'.heap.size)
  (hk : ∀ k, k < w.heap.size → w'.heap[k]? = w.heap[k]?) : ∃ G', Rel P w0 lent H0 s a w' G' ∧ G.H.le G'.H ∧ ∀ k, w.heap.size ≤ k → G'.H k = w'.heap[k]? := by
 have h1 := h.heap hos htape hout hsz fun k hk' => .inl (hk k hk')
 have hlt : ∀ k ob, G.H k = some ob → k < w.heap.size := fun k ob hH => (Array.getElem?_eq_some_iff.1 (h.inH k ob hH)).1
 refine ⟨_, h1.grow (H' := fun k => if w.heap.size ≤ k then w'.heap[k]? else G.H k) (fun k ob hH => ?_) (fun k ob hH => ?_) (fun j oj k hj hbk => ?_) (fun k ob hH => ?_), fun k ob hH => ?_, fun k hk' => ?_⟩
 ·show (if w.heap.size ≤ k then w'.heap[k]? else G.H k) = some ob
  rw [if_neg (by have := hlt k ob hH; omega)]
  exact hH
 ·have hH' : (if w.heap.size ≤ k then w'.heap[k]? else G.H k) = some ob := hH
  by_cases hle : w.heap.size ≤ k
  ·rw [if_pos hle] at hH'
   exact hH'
  ·rw [if_neg hle] at hH'
   exact h1.inH k ob hH'
 ·have := (h.objs j oj hj).blk hbk
  show (if w.heap.size ≤ k then w'.heap[k]? else G.H k) = none
  rw [if_neg (by omega)]
  exact (h.away j oj k hj hbk).1
 ·have hH' : (if w.heap.size ≤ k then w'.heap[k]? else G.H k) = some ob := hH
  split at hH'
  ·rename_i hle
   exact .inr (.inl (Nat.le_trans h.size hle))
  ·exact .inl hH'
 ·show (if w.heap.size ≤ k then w'.heap[k]? else G.H k) = some ob
  rw [if_neg (by have := hlt k ob hH; omega)]
  exact hH
 ·show (if w.heap.size ≤ k then w'.heap[k]? else G.H k) = _
  rw [if_pos hk']
structure Grown (G G' : Gh) : Prop where
 H : G.H.le G'.H
 g : G'.g = G.g
 sv : G'.sv = G.sv
 sz : G'.sz = G.sz
 pv : G'.pv = G.pv
theorem Grown.refl (G : Gh) : Grown G G := ⟨Hp.le.refl _, rfl, rfl, rfl, rfl⟩
theorem Grown.trans {G G' G'' : Gh} (h : Grown G G') (h' : Grown G' G'') : Grown G G'' := ⟨h.H.trans h'.H, h'.g.trans h.g, h'.sv.trans h.sv, h'.sz.trans h.sz, h'.pv.trans h.pv⟩
theorem RA.grown {G G' : Gh} (h : Grown G G') {x : A} {v : Value} (hr : RA G x v) : RA G' x v := RA.mono h.H h.g h.sv h.sz h.pv x v hr
theorem RL.grown {G G' : Gh} (h : Grown G G') {x : List A} {v : List Value} (hr : RL G x v) : RL G' x v := RL.mono h.H h.g h.sv h.sz h.pv x v hr
def Rw (ob : Ob) (e : Nat) (ts : List Ty) (xs : List (z8 ts)) : Prop := (∃ own, ob = .root own e ts xs) ∨ False
theorem Rw.same {ob : Ob} {e e' : Nat} {ts ts' : List Ty} {xs : List (z8 ts)} {xs' : List (z8 ts')} (h : Rw ob e ts xs) (h' : Rw ob e' ts' xs') : ∃ he : e = e', ∃ ht : ts = ts', ht ▸ xs = xs' := by
 rcases h with ⟨own, rfl⟩ | ⟨fin, tag, rfl⟩ <;> rcases h' with ⟨own', h'⟩ | ⟨fin', tag', h'⟩
 ·injection h' with _ h3 h4 h5
  subst h3 h4
  exact ⟨rfl, rfl, eq_of_heq h5⟩
theorem Rel.settle (h : Rel P w0 lent H0 s a w G) {i e : Nat} {own : Bool} {ts : List Ty} {xs : List (z8 ts)} (hi : z4 s.o i = some (.root own e ts xs)) :
  ∃ G', Grown G G' ∧ Rel P w0 lent H0 (s.set i (.root false e ts xs)) a w G' ∧ RdT G'.H (.sl e ts) xs (G'.sv i) := by
 obtain ⟨hsz, hpos, ⟨A, c, hsv, hc, hm, hA⟩, hrow⟩ := qE h hi
 have hro := h.objs i _ hi
 cases own with
 | false => exact ⟨G, Grown.refl G, h.set hro (fun k hk => by simp [zR] at hk), hro.2.2.1⟩
 | true =>
  obtain ⟨_, _, cells, hown, hone, hg, hcells⟩ := hro
  have hgone := h.gone i
  let H' : Hp := fun k => if (G.sv i).ownBlock = some k then w.heap[k]? else G.H k
  have hle : G.H.le H' := fun k ob hH => by
   show (if (G.sv i).ownBlock = some k then w.heap[k]? else G.H k) = some ob
   split
   ·exact h.inH k ob hH
   ·exact hH
  have hin : H'.le (ZQ w) := fun k ob hH => by
   have hH' : (if (G.sv i).ownBlock = some k then w.heap[k]? else G.H k) = some ob := hH
   split at hH'
   ·exact hH'
   ·exact h.inH k ob hH'
  have h2 := hgone.grow hle hin (fun j oj k hj hb => by
   have hj' : z4 (qW s.o i .gone) j = some oj := hj
   rw [wM] at hj'
   by_cases hji : j = i
   ·simp only [hji, if_true] at hj'
    obtain ⟨_, _, rfl⟩ := Option.map_eq_some_iff.1 hj'
    simp [zR] at hb
   ·simp only [hji, if_false] at hj'
    have hne : (G.sv i).ownBlock ≠ some k := fun he => hji (h.apart j i oj _ k hj' hi hb he)
    show (if (G.sv i).ownBlock = some k then w.heap[k]? else G.H k) = none
    rw [if_neg hne]
    exact (h.away j oj k hj' hb).1) (fun k ob hH => by
   have hH' : (if (G.sv i).ownBlock = some k then w.heap[k]? else G.H k) = some ob := hH
   split at hH'
   ·rename_i he
    exact .inr (h.away i _ k hi he).2
   ·exact .inl hH')
  have hrd : RdT H' (.sl e ts) xs (G.sv i) := by
   refine ⟨A, c, hsv, hc, hm, fun hp => ⟨_, hA hp, fun j x hx => ?_⟩⟩
   have hb : (G.sv i).ownBlock = some (G.g i).1 := by rw [hsv, hA hp]; rfl
   refine RdE.ext ts x _ _ (fun k v hk hv => ?_) (RdE.mono hle ts x _ _ (fun _ _ hv => hv) (hrow j x hx))
   rw [if_pos hk] at hv
   rw [Kw]
   show y0X H' _ = _
   unfold y0X
   have : H' (G.g i).1 = w.heap[(G.g i).1]? := by
    show (if (G.sv i).ownBlock = some (G.g i).1 then _ else _) = _
    rw [if_pos hb]
   rw [this]
   exact hv
  have h3 := h2.set (i := i) (ob := .root false e ts xs) ⟨hsz, hpos, hrd, fun hp => ⟨c, by rw [← hA hp]; exact hsv⟩⟩ (fun k hk => by simp [zR] at hk)
  rw [St.set_set] at h3
  exact ⟨{ G with H := H' }, ⟨hle, rfl, rfl, rfl, rfl⟩, h3, hrd⟩
theorem Rel.settleW (h : Rel P w0 lent H0 s a w G) {i e : Nat} {ob : Ob} {ts : List Ty} {xs : List (z8 ts)} (hi : z4 s.o i = some ob) (hw : Rw ob e ts xs) :
  ∃ G', Grown G G' ∧ Rel P w0 lent H0 (s.set i (.root false e ts xs)) a w G' ∧ RdT G'.H (.sl e ts) xs (G'.sv i) := by
 rcases hw with ⟨own, rfl⟩ | ⟨fin, tag, rfl⟩
 ·exact h.settle hi
end Go.Proofs.YtgediecndaheiaaGreat.R
