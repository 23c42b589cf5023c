/- A call does what the evaluator says. Conditions: functions do what the evaluator says. -/
import Derived.Test.YtkjpediopepbkaaDoorRCall
namespace Go.Proofs.YtkjpediopepbkaaDoor.R
open Go.RowKit
set_option linter.unusedVariables false
set_option linter.unusedSimpArgs false
variable {P : Program} {C : Ctx} {w0 : World} {lent : Nat → Prop} {H0 : Base} {s : St} {a : Act} {w : World} {G : Gh} {o : Oper} {K : Act → World → Prop} {Q : Exit → Act → World → Prop} {R : Type} {k : Eff → Option R} {r : R} {lk : Lk} {call : C.Sem} {ct : Bool}

theorem settles_root (lk : Lk) : ∀ (is : List Nat) (i : Nat), i ∈ fsts (settles lk is) → ∃ own e ts xs, lk i = some (.root own e ts xs)
  | [], i, h => by simp [settles, fsts] at h
  | j :: is, i, h => by
    unfold settles at h
    split at h
    · rename_i own e ts xs hj
      simp only [fsts, List.mem_cons] at h
      rcases h with rfl | h
      · exact ⟨own, e, ts, xs, hj⟩
      · exact settles_root lk is i h
    · exact settles_root lk is i h
theorem rl_map (h : Rel P w0 lent H0 s a w G) : ∀ l : List Operand, RL G (l.map s.opd) (l.map a.eval)
  | [] => trivial
  | x :: l => ⟨h.opd x, rl_map h l⟩
theorem disjN_iff : ∀ {l l' : List Nat}, disjN l l' = true → ∀ i ∈ l, i ∉ l'
  | [], _, _, i, hi => by simp at hi
  | j :: l, l', h, i, hi => by
    simp only [disjN, Bool.and_eq_true, Bool.not_eq_true'] at h
    rcases List.mem_cons.1 hi with rfl | hi
    · intro hm
      rw [memN_iff.2 hm] at h
      exact absurd h.1 (by simp)
    · exact disjN_iff h.2 i hi
theorem afterCall_inv {sg : Sig} {bs : List (Nat × Nat)} {is gs : List Nat} {d : Nat} {ts : List Ty} {y : Elts ts} {e : Eff} (h : afterCall lk sg bs is gs d ts y = some e) :
    ∃ ex x rest, backVal sg d (scatter ts sg.owns y (1000 * (d + 1))).1 = some (ex, x, rest) ∧ disjN (fsts ((scatter ts sg.owns y (1000 * (d + 1))).2 ++ ex)) (is ++ (gs ++ fsts bs)) = true ∧ (isNil ex || Nat.ble ts.length 500) = true ∧
      e = ⟨settles lk is ++ (goners gs ++ backA bs rest), (scatter ts sg.owns y (1000 * (d + 1))).2 ++ ex, x⟩ := by
  unfold afterCall at h
  split at h
  rename_i l obs hsc
  split at h
  · rename_i ex x rest hsh
    cases hd : disjN (fsts (obs ++ ex)) (is ++ (gs ++ fsts bs)) && (isNil ex || Nat.ble ts.length 500) with
    | false => simp [hd] at h
    | true =>
      simp only [hd, cond_true, Option.some.injEq] at h
      subst h
      simp only [Bool.and_eq_true] at hd
      exact ⟨ex, x, rest, by rw [hsc]; exact hsh, by rw [hsc]; exact hd.1, hd.2, by rw [hsc]⟩
  · cases h
theorem op_call (hC : Contract H0 C P call) (h : Rel P w0 lent H0 s a w G) (hK : Next P w0 lent H0 s o k r K) (hlk : Sees lk s) {c : Call} {f : Operand} (hop : o.op = .call c) (hc : c.callee = .value f) (he : effK C call ct o s.opd lk k = some r) : o.wp P a w K Q := by
  simp only [effK, hop, hc] at he
  have hfv := h.opd f
  cases hf : calleeA (s.opd f) with
  | none => simp [hf] at he
  | some gx =>
    obtain ⟨g0, exA⟩ := gx
    simp only [hf, callK] at he
    obtain ⟨exv, hexr, hfv⟩ := callee_rel hf hfv
    generalize hkey : C.key g0 (fnsA (c.args.toList.map s.opd)) = g at he
    cases hsg : C.sig g with
    | none => simp [hsg] at he
    | some sg =>
      simp only [hsg] at he
      cases hga : gather lk sg.ps (c.args.toList.map s.opd ++ exA) with
      | none => simp [hga] at he
      | some q =>
        obtain ⟨l, bs⟩ := q
        simp only [hga] at he
        cases htk : takeE lk (C.ins g) (sg.ps.flatMap PK.ownsIn) l with
        | none => simp [htk] at he
        | some q =>
          obtain ⟨xs, is, gs⟩ := q
          simp only [htk] at he
          cases hd : o.dst with
          | none => simp [hd] at he
          | some d =>
            simp only [hd] at he
            cases hb : nodupN (fsts bs) && nodupN gs && disjN gs is && Nat.beq (C.fid g) g0 with
            | false => simp [hb] at he
            | true =>
              simp only [hb, cond_true] at he
              simp only [Bool.and_eq_true] at hb
              cases hy : call g xs with
              | none => simp [hy] at he
              | some y =>
                simp only [hy, Option.bind_some] at he
                cases hac : afterCall lk sg bs (bif sg.hfree then [] else is) gs d (C.outs g) y with
                | none => simp [hac] at he
                | some e =>
                  simp only [hac] at he
                  obtain ⟨exB, xr, restA, hbv, hdj, hex, rfl⟩ := afterCall_inv hac
                  have hnb := nodupN_iff hb.1.1.1
                  have hng := nodupN_iff hb.1.1.2
                  have hgi := disjN_iff hb.1.2
                  have hfid := Nat.eq_of_beq_eq_true hb.2
                  have hpin5 : H0.pin (1000 * (d + 1) + 500) = none := H0.none (by omega)
                  obtain ⟨vs, g1, g2, g3⟩ := gather_sound h hlk sg.ps _ _ l bs hga (RL.append (rl_map h c.args.toList) hexr)
                  obtain ⟨G1, hgr, h1, hset⟩ := Rel.settles hlk.rows h is
                  obtain ⟨bsx, t1, t2, t3⟩ := take_sound h hlk hgr (C.ins g) _ l xs is gs htk hset hng vs g1
                  have hbx : ∀ p ∈ bs, ∃ cs, look s.o p.1 = some (.box cs) := fun p hp => by
                    obtain ⟨cs, hl, _⟩ := g3 p hp
                    exact ⟨cs, hl⟩
                  have hroot : ∀ i ∈ fsts (Go.Proofs.YtkjpediopepbkaaDoor.R.settles lk is), ∃ own e ts xs, look s.o i = some (.root own e ts xs) := fun i hi => by
                    obtain ⟨own, e, ts, xs, hl⟩ := settles_root lk is i hi
                    exact ⟨own, e, ts, xs, hlk i _ hl⟩
                  have hmem : ∀ {i : Nat} {X : List Nat}, memN X i = false → i ∉ X := fun hm hi => by
                    rw [memN_iff.2 hi] at hm
                    cases hm
                  have hmem' : ∀ {i : Nat} {X : List Nat}, i ∉ X → memN X i = false := fun {i X} hi => by
                    cases hm : memN X i with
                    | false => rfl
                    | true => exact absurd (memN_iff.1 hm) hi
                  have hbx1 : ∀ p ∈ bs, ∃ cs, look (s.setAll (Go.Proofs.YtkjpediopepbkaaDoor.R.settles lk is)).o p.1 = some (.box cs) := fun p hp => by
                    obtain ⟨cs, hl⟩ := hbx p hp
                    refine ⟨cs, ?_⟩
                    rw [look_setAll_ne _ _ (hmem' fun hi => ?_)]
                    · exact hl
                    · obtain ⟨own, e, ts, xs, hr⟩ := hroot _ hi
                      rw [hl] at hr
                      cases hr
                  have hgs1 : Given (s.setAll (Go.Proofs.YtkjpediopepbkaaDoor.R.settles lk is)) G1 gs bsx := fun k hk => by
                    obtain ⟨q, hq, e, ts, xs, hl, hbq⟩ := t2 k hk
                    refine ⟨q, hq, e, ts, xs, ?_, by rw [hgr.sv]; exact hbq⟩
                    rw [look_setAll_ne _ _ (hmem' fun hi => ?_)]
                    · exact hl
                    · exact hgi q hq (fsts_settles lk is q hi)
                  have hpw : bs.Pairwise (fun p q => p.1 ≠ q.1) := by
                    rw [fsts_map] at hnb
                    exact List.pairwise_map.1 hnb
                  have hpb : (bs.map fun p => G.g p.1).Pairwise (fun p q => p.1 ≠ q.1) := by
                    rw [List.pairwise_map]
                    exact hpw.imp_of_mem fun {p q} hp hq hne he => by
                      obtain ⟨c1, l1⟩ := hbx p hp
                      obtain ⟨c2, l2⟩ := hbx q hq
                      exact hne (h.apart p.1 q.1 _ _ (G.g p.1).1 l1 l2 rfl (by rw [he]; rfl))
                  have hL1 : ∀ k, Lent bsx (bs.map fun p => G.g p.1) k → G1.H k = none := by
                    rintro k (hk | ⟨p, hp, rfl⟩)
                    · obtain ⟨q, hq, e, ts, xs, hl, hbq⟩ := hgs1 k hk
                      exact (h1.away q _ k hl hbq).1
                    · obtain ⟨q, hq, rfl⟩ := List.mem_map.1 hp
                      obtain ⟨cs, hl⟩ := hbx1 q hq
                      exact (h1.away q.1 _ _ hl (by rw [← hgr.g]; rfl)).1
                  have hpd : ∀ p ∈ bs.map (fun p => G.g p.1), some p.1 ∉ bsx := fun p hp hk => by
                    obtain ⟨q, hq, rfl⟩ := List.mem_map.1 hp
                    obtain ⟨cs, hl⟩ := hbx q hq
                    obtain ⟨q2, hq2, e, ts, xs, hl2, hbq⟩ := t2 _ hk
                    have := h.apart q.1 q2 _ _ (G.g q.1).1 hl hl2 rfl hbq
                    rw [this, hl2] at hl
                    cases hl
                  have hLt : ∀ k, Lent bsx (bs.map fun p => G.g p.1) k → G.H k = none := fun k hk => by
                    cases hH : G.H k with
                    | none => rfl
                    | some ob =>
                      have := hgr.H k ob hH
                      rw [hL1 k hk] at this
                      cases this
                  refine wp_call hop hc hfv ?_
                  have hargs : (c.args.toList.map a.eval ++ exv).toArray = c.args.map a.eval ++ exv.toArray := by
                    rw [← Array.toList_map, ← List.append_toArray, Array.toArray_toList]
                  rw [← hargs, ← hfid]
                  refine (hC g sg xs y hsg hy w G1.H _ vs bsx _ h1.base h1.inH t1 t3 g2 hpb hL1 hpd).mono fun v w' hleft => ?_
                  obtain ⟨H', vs', cs, rest, bs', hl⟩ := hleft
                  have hx := disjN_iff hdj
                  have hlens := gather_lens sg.ps _ l bs hga
                  obtain ⟨nb, hres, hnew⟩ := hl.res
                  cases hfr : sg.hfree with
                  | true =>
                    rw [hfr] at he hx
                    have hx : ∀ i ∈ fsts ((scatter (C.outs g) sg.owns y (1000 * (d + 1))).2 ++ exB), i ∉ gs ++ fsts bs := hx
                    have hfr' : hfreeL (C.outs g) sg.owns = true := by
                      rw [show C.outs g = sg.outs by simp [Ctx.outs, hsg]]
                      exact hfr
                    have hnH : ∀ k, (w.heap.size ≤ k ∨ Lent bsx (bs.map fun p => G.g p.1) k) → G.H k = none := fun k ha2 => by
                      rcases ha2 with ha2 | ha2
                      · cases hH : G.H k with
                        | none => rfl
                        | some ob => exact absurd (Array.getElem?_eq_some_iff.1 (h.inH k ob hH)).1 (Nat.not_lt.2 ha2)
                      · exact hLt k ha2
                    have hcb := call_back h (d := d) (sg := sg) (nb := nb) t2 hbx hnb hl.os hl.tape hl.output hl.size hl.old (H2 := G.H) (Hp.le.refl _) (fun k ob hH => by
                      have hw := h.inH k ob hH
                      have hlt := (Array.getElem?_eq_some_iff.1 hw).1
                      have hnl : ¬ Lent bsx (bs.map fun p => G.g p.1) k := fun hk => by
                        rw [hLt k hk] at hH
                        cases hH
                      show w'.heap[k]? = _
                      rw [hl.old k hlt hnl]
                      exact hw) (fun k ob hH => .inl hH) (cellsR_free _ _ _ _ _ hfr' hl.cells) hl.apart (fun k hk => by
                      obtain ⟨_, ha2, _⟩ := hl.away k hk
                      exact ⟨hnH k ha2, ha2⟩) (fun p hp => ⟨hLt _ (.inr ⟨_, List.mem_map_of_mem hp, rfl⟩), fun hk => (hl.away _ hk).2.2 _ (List.mem_map_of_mem hp) rfl⟩) (fun k hk => by
                      obtain ⟨_, m2, m3, m4⟩ := hnew k hk
                      exact ⟨hnH k m2, m2, m3, m4⟩) hbv hex hres (fun j hj => by
                      have := hx j hj
                      rw [List.mem_append, not_or] at this
                      exact this) hpin5 hl.back hlens
                    obtain ⟨G5, r1, r2⟩ := hcb
                    refine hK _ _ _ G5 he ?_
                    have := r1.put o.dst r2
                    exact this
                  | false =>
                    rw [hfr] at he hx
                    simp only [cond_false] at hx
                    classical
                    let L := Lent bsx (bs.map fun p => G.g p.1)
                    let H2 : Hp := fun k => if w.heap.size ≤ k ∨ L k then H' k else G1.H k
                    have hin1 : ∀ k ob, G1.H k = some ob → ¬ (w.heap.size ≤ k ∨ L k) := fun k ob hH hk => by
                      rcases hk with hk | hk
                      · exact absurd (Array.getElem?_eq_some_iff.1 (h1.inH k ob hH)).1 (Nat.not_lt.2 hk)
                      · rw [hL1 k hk] at hH
                        cases hH
                    have hle2 : G1.H.le H2 := fun k ob hH => by
                      show (if w.heap.size ≤ k ∨ L k then H' k else G1.H k) = some ob
                      rw [if_neg (hin1 k ob hH)]
                      exact hH
                    have hin2 : H2.le (heapOf w') := fun k ob hH => by
                      have hH' : (if w.heap.size ≤ k ∨ L k then H' k else G1.H k) = some ob := hH
                      split at hH'
                      · exact hl.inH k ob hH'
                      · rename_i hk
                        rw [not_or] at hk
                        show w'.heap[k]? = _
                        rw [hl.old k (Nat.lt_of_not_le hk.1) hk.2]
                        exact h1.inH k ob hH'
                    have hle' : H'.le H2 := fun k ob hH => by
                      show (if w.heap.size ≤ k ∨ L k then H' k else G1.H k) = some ob
                      split
                      · exact hH
                      · rename_i hk
                        rcases hl.hnew k ob hH with h6 | h6
                        · exact h6
                        · exact absurd h6 hk
                    have hnew2 : ∀ k ob, H2 k = some ob → G1.H k = some ob ∨ w.heap.size ≤ k ∨ Lent bsx (bs.map fun p => G1.g p.1) k := fun k ob hH => by
                      have hH' : (if w.heap.size ≤ k ∨ L k then H' k else G1.H k) = some ob := hH
                      split at hH'
                      · rename_i hk
                        rw [hgr.g]
                        exact .inr hk
                      · exact .inl hH'
                    have hno2 : ∀ k, H' k = none → (w.heap.size ≤ k ∨ L k) → H2 k = none := fun k hn hk => by
                      show (if w.heap.size ≤ k ∨ L k then H' k else G1.H k) = none
                      rw [if_pos hk]
                      exact hn
                    have hcb := call_back h1 (d := d) (sg := sg) (nb := nb) (ps := sg.ps) (H2 := H2) hgs1 hbx1 hnb hl.os hl.tape hl.output hl.size (by rw [hgr.g]; exact hl.old) hle2 hin2 hnew2 (cellsR_mono hle' _ _ _ _ _ hl.cells) hl.apart (fun k hk => by
                      obtain ⟨ha1, ha2, _⟩ := hl.away k hk
                      rw [hgr.g]
                      exact ⟨hno2 k ha1 ha2, ha2⟩) (fun p hp => by
                      rw [hgr.g]
                      have hlp : L (G.g p.1).1 := .inr ⟨_, List.mem_map_of_mem hp, rfl⟩
                      exact ⟨hno2 _ (hl.ptrs _ (List.mem_map_of_mem hp)) (.inr hlp), fun hk => (hl.away _ hk).2.2 _ (List.mem_map_of_mem hp) rfl⟩) (fun k hk => by
                      obtain ⟨m1, m2, m3, m4⟩ := hnew k hk
                      rw [hgr.g]
                      exact ⟨hno2 k m1 m2, m2, m3, m4⟩) hbv hex hres (fun j hj => by
                      have := hx j hj
                      simp only [List.mem_append, not_or] at this
                      exact this.2) hpin5 (by rw [hgr.g]; exact hl.back) hlens
                    obtain ⟨G5, r1, r2⟩ := hcb
                    refine hK _ _ _ G5 he ?_
                    rw [setAll_makeAll _ (mute_settles lk is) _ _ (fun d hd hi => by
                      have := hx d hd
                      simp only [List.mem_append, not_or] at this
                      exact this.1 (fsts_settles lk is d hi)), ← St.setAll_append] at r1
                    have := r1.put o.dst r2
                    exact this
end Go.Proofs.YtkjpediopepbkaaDoor.R
