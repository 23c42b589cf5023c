/- Conversions. Conditions: the types lie as the context says. -/
import Derived.Test.YtgediecndaheiaaGreatRLit
import Derived.Laws.BytesString
set_option linter.all false
namespace Go.Proofs.YtgediecndaheiaaGreat.R
open Go.RowKit
variable {P : Program} {C : Ctx} {w0 : World} {lent : Nat → Prop} {H0 : Base} {s : St} {a : Act} {w : World} {G : Gh} {o : Oper} {K : Act → World → Prop} {Q : Exit → Act → World → Prop} {R : Type} {k : Eff → Option R} {r : R} {lk : Lk} {call : C.Sem} {ct wn : Bool}
theorem y8d : ∀ (l : List Int) (b : ByteArray), l.foldl (fun r n => r.push (UInt8.ofNat n.toNat)) b = ⟨b.data ++ (l.map fun n => UInt8.ofNat n.toNat).toArray⟩
 | [], b => by simp
 | n :: l, b => by
  rw [List.foldl_cons, y8d l]
  congr 1
  apply Array.ext'
  simp [ByteArray.push]
theorem ycO (h : Rel P w0 lent H0 s a w G) (hlk : y4T lk s) {x : A} {l : List (z8 [.int .u8])} (hx : y1g lk [.int .u8] x = some l) {u : Value} (hu : RA G x u) : (Conv.bytesToString u).run P w = .ok (.string (ybe l)) w := by
 obtain ⟨A, c, rfl, hm, hr⟩ := y1q h hlk hx hu
 cases A with
 | none =>
  have h0 : l.length = 0 := by
   rcases Nat.eq_zero_or_pos l.length with h0 | h0
   ·exact h0
   ·obtain ⟨ad, ea, _⟩ := hr h0
    cases ea
  have : l = [] := List.length_eq_zero_iff.1 h0
  subst this
  rfl
 | some ad =>
  have hl : (loadCells ad l.length).run P w = .ok ((show List Int from l).map (Value.int .u8)).toArray w := by
   have := run_loadCells_list (P := P) w ad ((show List Int from l).map (Value.int .u8)) (fun j v hv => by
    rw [List.getElem?_map] at hv
    obtain ⟨n, hn, rfl⟩ := Option.map_eq_some_iff.1 hv
    have hp : 0 < l.length := by
     have := (List.getElem?_eq_some_iff.1 hn).1
     have h2 : j < l.length := this
     omega
    obtain ⟨ad', ea, hrd⟩ := hr hp
    injection ea with ea
    subst ea
    obtain ⟨v, hv, hvv⟩ := hrd j n hn
    have hv' : w.cell? (ad.add (j * 1 + 0)) = some v := hv
    rw [show v = .int .u8 n from hvv, show j * 1 + 0 = j by omega] at hv'
    exact hv')
   rw [List.length_map] at this
   exact this
  rw [run_bytesToString w ad l.length c _ hl, y8d]
  congr 2
  unfold ybe
  congr 1
  simp [ByteArray.empty, ByteArray.emptyWithCapacity]
  rfl
theorem yg1 {H : Hp} {e : Nat} {ts : List Ty} (xs : List (z8 ts)) (A : Option Addr) (n c : Nat) (hn : xs.length = n) (hc : n ≤ c) (hm : n ≤ 9223372036854775807)
  (h : 0 < n → ∃ ad, A = some ad ∧ ∀ (j : Nat) (x : z8 ts), xs[j]? = some x → RdE H ts x (fun i => y0X H (ad.add (j * ts.length + i)))) : RdT H (.sl e ts) xs (.slice A n c) := by
 subst hn
 exact ⟨A, c, rfl, hc, hm, h⟩
theorem ycP (h : Rel P w0 lent H0 s a w G) (src dst e : Nat) (xv : ByteArray) (hsz : xv.size < 140737488351232) {D : TypeDesc} (hD : P.underlying src = some D) (hEi : P.underlying dst = some (.slice e)) (hFi : P.underlying e = some (.int .u8)) :
  ∃ w' v G', (convert src dst (.string xv)).run P w = .ok v w' ∧ Rel P w0 lent H0 s a w' G' ∧ RdT G'.H (.sl e [.int .u8]) (Vj xv) v := by
 have hrun := Lib.run_convert_string_bytes (P := P) w src dst e xv hD hEi hFi
 obtain ⟨G', hrel, hle, hnew⟩ := h.newH (w' := Lib.bytesWorld w e xv) (by simp [Lib.bytesWorld, World.freeze, World.alloc, World.drew, -World.alloc_eq, -World.drew_eq]) (by simp [Lib.bytesWorld, World.freeze, World.alloc, World.drew, -World.alloc_eq, -World.drew_eq]) (by simp [Lib.bytesWorld, World.freeze, World.alloc, World.drew, -World.alloc_eq, -World.drew_eq])
  (by rw [Lib.bytesWorld_size]; omega) (fun k hk => Lib.bytesWorld_at_old w e xv k hk)
 have hlen : (Vj xv).length = xv.size := by
  unfold Vj
  rw [List.length_map, Array.length_toList]
  rfl
 refine ⟨_, _, G', hrun, hrel, yg1 (ts := [.int .u8]) (Vj xv) _ xv.size _ hlen (grownCap_ge w xv.size 0 e) (by omega) (fun _ => ⟨_, rfl, fun j y hy => ?_⟩)⟩
 have hy' : (Vj xv)[j]? = some y := hy
 have hj : j < xv.size := by
  have := (List.getElem?_eq_some_iff.1 hy').1
  rwa [hlen] at this
 refine ⟨.int .u8 y, ?_, rfl⟩
 show y0X G'.H ((⟨w.heap.size, 0, none⟩ : Addr).add (j * 1 + 0)) = _
 rw [Kw, show j * 1 + 0 = j by omega]
 have hc := Lib.bytesWorld_cell w e xv j hj
 have hval : ((xv.data.toList.getD j 0).toNat : Int) = y := by
  unfold Vj at hy'
  rw [List.getElem?_map] at hy'
  obtain ⟨u, hu, he2⟩ := Option.map_eq_some_iff.1 hy'
  rw [List.getD_eq_getElem?_getD, hu]
  exact he2
 rw [hval] at hc
 rw [← hc]
 show y0X G'.H _ = y0X (ZQ (Lib.bytesWorld w e xv)) _
 unfold y0X
 rw [show G'.H w.heap.size = ZQ (Lib.bytesWorld w e xv) w.heap.size from hnew _ (Nat.le_refl _)]
theorem ycQ (hT : TOk C P) (h : Rel P w0 lent H0 s a w G) (hK : y2y P w0 lent H0 s o k r K) (hlk : y4T lk s) {src dst : Nat} {x : Operand} (hop : o.op = .convert src dst x) (he : jG C call ct wn o s.opd lk k = some r) : o.wp P a w K Q := by
 have hx := h.opd x
 simp only [jG, hop] at he
 split at he
 ·
  rename_i ti k2 b k1 n hs hd hxa
  rw [hxa] at hx
  obtain ⟨D, hD, _⟩ := hT.und src _ hs
  obtain ⟨E, hE, hEE⟩ := hT.und dst _ hd
  have hEi : P.underlying dst = some (.int k2) := by rw [hE, show E = .int k2 from hEE]
  refine Wm h hK he (v := .int k2 (k2.wrap n)) ?_ rfl
  simp only [execOp, hop]
  rw [show a.eval x = .int k1 n from hx, Sem.run_bind]
  have : (convert src dst (.int k1 n)).run P w = .ok (.int k2 (k2.wrap n)) w := by
   cases D <;> simp [convert, run_underlying hD, run_underlying hEi, Conv.intToInt]
  rw [this]
  rfl
 ·
  rename_i ti b xv hs hd hxa
  rw [hxa] at hx
  obtain ⟨D, hD, _⟩ := hT.und src _ hs
  obtain ⟨E, hE, hEE⟩ := hT.und dst _ hd
  have hEi : P.underlying dst = some .string := by rw [hE, show E = .string from hEE]
  refine Wm h hK he (v := .string xv) ?_ rfl
  simp only [execOp, hop]
  rw [show a.eval x = .string xv from hx, Sem.run_bind]
  have : (convert src dst (.string xv)).run P w = .ok (.string xv) w := by
   cases D <;> simp [convert, run_underlying hD, run_underlying hEi]
  rw [this]
  rfl
 ·
  rename_i b1 e b2 xv hs hd hxa
  rw [hxa] at hx
  split at he
  ·rename_i b3 hte
   split at he
   ·rename_i hsz
    obtain ⟨D, hD, _⟩ := hT.und src _ hs
    obtain ⟨E, hE, hEE, _⟩ := hT.und dst _ hd
    obtain ⟨F, hF, hFF⟩ := hT.und e _ hte
    have hEi : P.underlying dst = some (.slice e) := by rw [hE, hEE]
    have hFi : P.underlying e = some (.int .u8) := by rw [hF, show F = .int .u8 from hFF]
    obtain ⟨w', v, G', hrun, hrel, hrd⟩ := ycP h src dst e xv hsz hD hEi hFi
    refine jo (v := v) (w' := w') ?_ (hK _ _ _ G' he (hrel.put o.dst hrd))
    simp only [execOp, hop]
    rw [show a.eval x = .string xv from hx, Sem.run_bind, hrun]
    rfl
   ·cases he
  ·cases he
 ·
  rename_i e b1 b2 hs hd hneg
  split at he
  ·rename_i b3 l hte hl
   obtain ⟨D, hD, hDD, _⟩ := hT.und src _ hs
   obtain ⟨E, hE, hEE⟩ := hT.und dst _ hd
   obtain ⟨F, hF, hFF⟩ := hT.und e _ hte
   have hDi : P.underlying src = some (.slice e) := by rw [hD, hDD]
   have hEi : P.underlying dst = some .string := by rw [hE, show E = .string from hEE]
   have hFi : P.underlying e = some (.int .u8) := by rw [hF, show F = .int .u8 from hFF]
   have ht := ycO (P := P) h hlk hl hx
   obtain ⟨A, c, hv, _⟩ := y1q h hlk hl hx
   refine Wm h hK he (v := .string (ybe l)) ?_ rfl
   simp only [execOp, hop]
   rw [hv] at ht
   rw [hv, Sem.run_bind, run_convert_bytes_string w src dst e A _ c hDi hFi hEi, ht]
   rfl
  ·cases he
 ·cases he
end Go.Proofs.YtgediecndaheiaaGreat.R
