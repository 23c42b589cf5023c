/- An evaluator of the model's code over typed plain values: no memory, no addresses. No condition. -/
import Derived.Below
import Derived.Maps.AppendAt
import Derived.Orders
import Derived.LoopN
import Derived.RowKit
import Derived.Laws.Entries
set_option linter.all false
namespace Go.Proofs.YtmapoakbdgpamaaGreat.R
open Go.RowKit
inductive Ty where
 | int (k : IntKind)
 | bool
 | str
 | sl (e : Nat) (ts : List Ty)
mutual
def El : Ty → Type
 | .int _ => Int
 | .bool => Bool
 | .str => ByteArray
 | .sl _ ts => List (yE ts)
def yE : List Ty → Type
 | [] => Unit
 | t :: [] => El t
 | t :: u :: r => El t × yE (u :: r)
end
mutual
def Ty.eqb : Ty → Ty → Bool
 | .int k, .int k' => decide (k = k')
 | .bool, .bool => true
 | .str, .str => true
 | .sl e ts, .sl e' ts' => Nat.beq e e' && Ty.eqbs ts ts'
 | _, _ => false
def Ty.eqbs : List Ty → List Ty → Bool
 | [], [] => true
 | t :: ts, u :: us => Ty.eqb t u && Ty.eqbs ts us
 | _, _ => false
end
mutual
theorem Ty.eqb_eq : ∀ (a b : Ty), Ty.eqb a b = true → a = b
 | .int k, .int k', h => by simpa [Ty.eqb] using h
 | .bool, .bool, _ => rfl
 | .str, .str, _ => rfl
 | .sl e ts, .sl e' ts', h => by
  simp only [Ty.eqb, Bool.and_eq_true] at h
  rw [Nat.eq_of_beq_eq_true h.1, Ty.eqbs_eq ts ts' h.2]
 | .int _, .bool, h | .int _, .str, h | .int _, .sl _ _, h | .bool, .int _, h | .bool, .str, h | .bool, .sl _ _, h | .str, .int _, h | .str, .bool, h | .str, .sl _ _, h | .sl _ _, .int _, h | .sl _ _, .bool, h | .sl _ _, .str, h => by simp [Ty.eqb] at h
theorem Ty.eqbs_eq : ∀ (a b : List Ty), Ty.eqbs a b = true → a = b
 | [], [], _ => rfl
 | t :: ts, u :: us, h => by
  simp only [Ty.eqbs, Bool.and_eq_true] at h
  rw [Ty.eqb_eq t u h.1, Ty.eqbs_eq ts us h.2]
 | [], _ :: _, h | _ :: _, [], h => by simp [Ty.eqbs] at h
end
def Zh (t t' : Ty) (x : El t) : Option (El t') := if h : Ty.eqb t t' = true then some ((Ty.eqb_eq t t' h) ▸ x) else none
def y7M (ts ts' : List Ty) (xs : List (yE ts)) : Option (List (yE ts')) := if h : Ty.eqbs ts ts' = true then some ((Ty.eqbs_eq ts ts' h) ▸ xs) else none
mutual
def y18 : (t : Ty) → El t
 | .int _ => (0 : Int)
 | .bool => false
 | .str => (⟨#[]⟩ : ByteArray)
 | .sl _ ts => ([] : List (yE ts))
def J2 : (ts : List Ty) → yE ts
 | [] => ()
 | t :: [] => y18 t
 | t :: u :: r => (y18 t, J2 (u :: r))
end
inductive A where
 | dead
 | und
 | val (t : Ty) (x : El t)
 | nils
 | nilp
 | own (o : Nat)
 | agg (l : List A)
 | tup (l : List A)
 | box (b off : Nat)
 | elp (e : Nat) (ts : List Ty) (xs : List (yE ts)) (i : Int) (c : Nat)
 | rtp (o : Nat) (i : Int) (c : Nat)
 | fn (f : Nat)
 | clo (f b : Nat)
 | bor (o : Nat) (i : Int) (c : Nat)
 | win (o : Nat) (h : Int)
inductive Ob where
 | box (cells : List A)
 | root (own : Bool) (e : Nat) (ts : List Ty) (xs : List (yE ts))
 | deep (fin : Bool) (tag : Nat) (e : Nat) (ts : List Ty) (xs : List (yE ts))
 | gone
structure St where
 t : List A
 o : List (Nat × Ob)
structure Eff where
 sets : List (Nat × Ob)
 adds : List (Nat × Ob)
 a : A
inductive TI where
 | c (t : Ty) (bytes : Nat)
 | s (fs : List (Nat × Nat)) (ts : List Ty) (bytes : Nat)
def TI.ts : TI → List Ty
 | .c t _ => [t]
 | .s _ ts _ => ts
def TI.isAgg : TI → Bool
 | .c _ _ => false
 | .s _ _ _ => true
def TI.bytes : TI → Nat
 | .c _ b => b
 | .s _ _ b => b
inductive PK where
 | v (agg : Bool) (ts : List Ty) (own : List Bool)
 | p (wr : Option Nat) (ts : List Ty) (own : List Bool)
 | k (f : Nat)
structure RK where
 agg : Bool
 ts : List Ty
 own : List Bool
structure Sig where
 ps : List PK
 rs : List RK
 ptr : Bool
 deep : Bool
 back : Bool
def PK.ins : PK → List Ty
 | .v _ ts _ => ts
 | .p _ ts _ => ts
 | .k _ => []
def PK.outs : PK → List Ty
 | .v _ _ _ => []
 | .p _ ts _ => ts
 | .k _ => []
def PK.owns : PK → List Bool
 | .v _ _ _ => []
 | .p _ _ os => os
 | .k _ => []
def PK.ownsIn : PK → List Bool
 | .v _ _ os => os
 | .p _ _ os => os
 | .k _ => []
def PK.isP : PK → Bool
 | .v _ _ _ => false
 | .p _ _ _ => true
 | .k _ => true
def PK.back : PK → Option Nat
 | .p _ ts _ => some ts.length
 | _ => none
def Sig.ins (s : Sig) : List Ty := s.ps.flatMap PK.ins
def yio : List Ty → List Bool → List Ty
 | [], _ => []
 | t :: r, os => bif os.headD false then t :: yio r os.tail else yio r os.tail
def Sig.bts (s : Sig) : List Ty := bif s.back then yio s.ins (s.ps.flatMap PK.ownsIn) else []
def Sig.outs (s : Sig) : List Ty := (s.rs.flatMap RK.ts ++ s.ps.flatMap PK.outs) ++ s.bts
def Sig.owns (s : Sig) : List Bool := (s.rs.flatMap RK.own ++ s.ps.flatMap PK.owns) ++ s.bts.map fun _ => true
def Ty.flat : Ty → Bool
 | .sl _ _ => false
 | _ => true
def Wi : List Ty → Bool
 | [] => true
 | t :: r => t.flat && Wi r
def y7N (dp : Bool) : List Ty → List Bool → Bool
 | [], _ => true
 | t :: r, os => (t.flat || (os.headD false && (dp || match t with
  | .sl _ ts => Wi ts
  | _ => false))) && y7N dp r os.tail
def Sig.hfree (s : Sig) : Bool := y7N s.deep s.outs s.owns
structure Ctx where
 info : Nat → Option TI
 sig : Nat → Option Sig
 live : Nat → Nat → Option (List Nat × List Nat)
 key : Nat → List Nat → Nat
 fid : Nat → Nat
 hint : Nat → List Nat
 gl : (Nat → Option Obj) → Prop := fun _ => True
 glm : ∀ H H' : Nat → Option Obj, (∀ k o, H k = some o → H' k = some o) → gl H → gl H' := by exact fun _ _ _ h => h
def Ctx.ins (C : Ctx) (f : Nat) : List Ty := match C.sig f with
 | some s => s.ins
 | none => []
def Ctx.outs (C : Ctx) (f : Nat) : List Ty := match C.sig f with
 | some s => s.outs
 | none => []
abbrev Ctx.Sem (C : Ctx) : Type := (f : Nat) → yE (C.ins f) → Option (yE (C.outs f))
def y9i {α : Type} : List (Nat × α) → Nat → Option α
 | [], _ => none
 | (j, x) :: r, i => bif Nat.beq j i then some x else y9i r i
def eqN : List Nat → List Nat → Bool
 | [], [] => true
 | i :: l, j :: m => Nat.beq i j && eqN l m
 | _, _ => false
def yl6 : List (Nat × List Nat × Nat) → Nat → List Nat → Nat
 | [], f, _ => f
 | (g, l, k) :: r, f, m => bif Nat.beq g f && eqN l m then k else yl6 r f m
def yl7 : List (Nat × List Nat × Nat) → Nat → Nat
 | [], f => f
 | (g, _, k) :: r, f => bif Nat.beq k f then g else yl7 r f
def ygR : List (Nat × List Nat) → Nat → List Nat
 | [], _ => []
 | (g, l) :: r, f => bif Nat.beq g f then l else ygR r f
def yw : List (Nat × Ob) → Nat → Option Ob
 | [], _ => none
 | (j, x) :: r, i => bif Nat.beq j i then some x else yw r i
def Ky (l : List Nat) (i : Nat) : Bool := match l with
 | [] => false
 | j :: r => Nat.beq j i || Ky r i
mutual
def A.forget (i : Nat) : A → A
 | .own o => bif Nat.beq o i then .dead else .own o
 | .box b off => bif Nat.beq b i then .dead else .box b off
 | .rtp o j c => bif Nat.beq o i then .dead else .rtp o j c
 | .clo f b => bif Nat.beq b i then .dead else .clo f b
 | .bor o j c => bif Nat.beq o i then .dead else .bor o j c
 | .win o h => bif Nat.beq o i then .dead else .win o h
 | .agg l => .agg (yT i l)
 | .tup l => .tup (yT i l)
 | .dead => .dead
 | .und => .und
 | .val t x => .val t x
 | .nils => .nils
 | .nilp => .nilp
 | .elp e ts xs j c => .elp e ts xs j c
 | .fn f => .fn f
def yT (i : Nat) : List A → List A
 | [] => []
 | a :: r => A.forget i a :: yT i r
end
def Ob.forget (i : Nat) : Ob → Ob
 | .box cs => .box (yT i cs)
 | .root own e ts xs => .root own e ts xs
 | .deep fin tag e ts xs => .deep fin tag e ts xs
 | .gone => .gone
def zE (i : Nat) : List (Nat × Ob) → List (Nat × Ob)
 | [] => []
 | (j, x) :: r => bif Nat.beq j i then zE i r else (j, x.forget i) :: zE i r
def St.forget (s : St) (i : Nat) : St := ⟨yT i s.t, zE i s.o⟩
def St.forgetAll (s : St) : List Nat → St
 | [] => s
 | i :: r => (s.forget i).forgetAll r
def St.make (s : St) (i : Nat) (x : Ob) : St := ⟨yT i s.t, (i, x) :: zE i s.o⟩
def St.makeAll (s : St) : List (Nat × Ob) → St
 | [] => s
 | (i, x) :: r => (s.make i x).makeAll r
def Kd : List (Nat × Ob) → Nat → Ob → List (Nat × Ob)
 | [], _, _ => []
 | (j, x) :: r, i, y => bif Nat.beq j i then (j, y) :: r else (j, x) :: Kd r i y
def St.set (s : St) (i : Nat) (x : Ob) : St := ⟨s.t, Kd s.o i x⟩
def St.setAll (s : St) : List (Nat × Ob) → St
 | [] => s
 | (i, x) :: r => (s.set i x).setAll r
def St.put (s : St) (d : Option Nat) (a : A) : St := match d with
 | some d => ⟨s.t.set d a, s.o⟩
 | none => s
def St.apply (s : St) (d : Option Nat) (e : Eff) : St := ((s.makeAll e.adds).setAll e.sets).put d e.a
def y7O : Value → A
 | .int k n => .val (.int k) n
 | .bool b => .val .bool b
 | .string s => .val .str s
 | .slice none 0 0 => .nils
 | .pointer none => .nilp
 | _ => .dead
def y5t : Value → A
 | .agg cs => .agg (cs.toList.map y7O)
 | v => y7O v
def St.opd (s : St) : Operand → A
 | .tmp i => s.t.getD i .dead
 | .const v => y5t v
 | .func f => .fn f
 | .global _ => .dead
def vJ : (ts : List Ty) → yE ts → List A
 | [], _ => []
 | t :: [], x => [.val t x]
 | t :: u :: r, x => .val t x.1 :: vJ (u :: r) x.2
def QU (fin : Bool) (o : Nat) (i : Int) : Nat → (ts : List Ty) → yE ts → List A
 | _, [], _ => []
 | c, t :: [], x => [bif t.flat then .val t x else bif fin then .bor o i c else .dead]
 | c, t :: u :: r, x => (bif t.flat then .val t x.1 else bif fin then .bor o i c else .dead) :: QU fin o i (c + 1) (u :: r) x.2
def A.cells : A → List A
 | .agg l => l
 | a => [a]
def A.one : A → Bool
 | .dead => false
 | .und => false
 | .agg _ => false
 | .tup _ => false
 | _ => true
def J4 : List A → Bool
 | [] => true
 | a :: r => a.one && J4 r
def mkA (agg : Bool) (l : List A) : Option A := bif agg then some (.agg l) else match l with
 | [a] => some a
 | _ => none
abbrev Lk := Nat → Option Ob
def toT (lk : Lk) (t : Ty) : A → Option (El t × List Nat)
 | .val t' x => (Zh t' t x).map fun y => (y, [])
 | .nils => match t with
  | .sl e ts => some (y18 (.sl e ts), [])
  | _ => none
 | .own o => match lk o with
  | some (.root _ e ts xs) => (Zh (.sl e ts) t xs).map fun y => (y, [o])
  | some (.deep _ _ e ts xs) => (Zh (.sl e ts) t xs).map fun y => (y, [o])
  | _ => none
 | .win o h => match lk o with
  | some (.root _ e ts xs) => (Zh (.sl e ts) t (xs.take (Int.toNat h))).map fun y => (y, [o])
  | _ => none
 | _ => none
def toE (lk : Lk) : (ts : List Ty) → List A → Option (yE ts × List Nat)
 | [], [] => some ((), [])
 | t :: [], [a] => toT lk t a
 | t :: u :: r, a :: l => match toT lk t a with
  | some (x, is) => match toE lk (u :: r) l with
   | some (y, js) => some ((x, y), is ++ js)
   | none => none
  | none => none
 | _, _ => none
def settles (lk : Lk) : List Nat → List (Nat × Ob)
 | [] => []
 | o :: r => match lk o with
  | some (.root _ e ts xs) => (o, .root false e ts xs) :: settles lk r
  | some (.deep _ _ e ts xs) => (o, .root false e ts xs) :: settles lk r
  | _ => settles lk r
def KF : (ts : List Ty) → yE ts → Nat → Option (Sigma El)
 | [], _, _ => none
 | t :: [], x, 0 => some ⟨t, x⟩
 | _ :: [], _, _ + 1 => none
 | t :: _ :: _, x, 0 => some ⟨t, x.1⟩
 | _ :: u :: r, x, c + 1 => KF (u :: r) x.2 c
def qL : (ts : List Ty) → yE ts → Nat → (ys : List (Sigma El)) → Option (yE ts)
 | _, x, _, [] => some x
 | [], _, _, _ :: _ => none
 | t :: [], _, 0, [⟨u, y⟩] => Zh u t y
 | _ :: [], _, _, _ => none
 | t :: v :: r, x, 0, ⟨u, y⟩ :: ys => match Zh u t y with
  | some z => match qL (v :: r) x.2 0 ys with
   | some w => some (z, w)
   | none => none
  | none => none
 | t :: v :: r, x, c + 1, ys => match qL (v :: r) x.2 c ys with
  | some w => some (x.1, w)
  | none => none
def y9j (lk : Lk) : A → Option (Sigma fun ts : List Ty => Nat × List (yE ts))
 | .val (.sl e ts) xs => some ⟨ts, e, xs⟩
 | .own o => match lk o with
  | some (.root _ e ts xs) => some ⟨ts, e, xs⟩
  | _ => none
 | _ => none
def y19 (lk : Lk) (ts : List Ty) (a : A) : Option (List (yE ts)) := match a with
 | .nils => some []
 | a => match y9j lk a with
  | some ⟨ts', _, xs⟩ => y7M ts' ts xs
  | none => none
def y2V (op : BinOp) (k : IntKind) (x y : Int) : Option A :=
 match op with
 | .add => some (.val (.int k) (k.wrap (x + y)))
 | .sub => some (.val (.int k) (k.wrap (x - y)))
 | .mul => some (.val (.int k) (k.wrap (x * y)))
 | .quo => if y = 0 then none else some (.val (.int k) (k.wrap (x.tdiv y)))
 | .rem => if y = 0 then none else some (.val (.int k) (x.tmod y))
 | .and => some (.val (.int k) (bits .and k x y))
 | .or => some (.val (.int k) (bits .or k x y))
 | .xor => some (.val (.int k) (bits .xor k x y))
 | .eql => some (.val .bool (x == y))
 | .neq => some (.val .bool (x != y))
 | .lss => some (.val .bool (decide (x < y)))
 | .leq => some (.val .bool (decide (x ≤ y)))
 | .gtr => some (.val .bool (decide (x > y)))
 | .geq => some (.val .bool (decide (x ≥ y)))
 | _ => none
def ykT (op : BinOp) (k : IntKind) (x y : Int) : Option A :=
 if y < 0 then none else match op with
 | .shl => some (.val (.int k) (k.wrap (x * 2 ^ (min y.toNat k.bits))))
 | .shr => some (.val (.int k) (x.fdiv (2 ^ (min y.toNat k.bits))))
 | _ => none
def y5u (op : BinOp) (x y : ByteArray) : Option A :=
 match op with
 | .add => if x.size + y.size < 140737488355328 then some (.val .str (x ++ y)) else none
 | .eql => some (.val .bool (x.toList == y.toList))
 | .neq => some (.val .bool (!(x.toList == y.toList)))
 | .lss => some (.val .bool (Op.bytesLess x.toList y.toList))
 | .leq => some (.val .bool (Op.bytesLess x.toList y.toList || x.toList == y.toList))
 | .gtr => some (.val .bool (!(Op.bytesLess x.toList y.toList || x.toList == y.toList)))
 | .geq => some (.val .bool (!Op.bytesLess x.toList y.toList))
 | _ => none
def y1A (op : BinOp) (x y : Bool) : Option A := match op with
 | .eql => some (.val .bool (x == y))
 | .neq => some (.val .bool (!(x == y)))
 | _ => none
def y9c (op : BinOp) : A → A → Option A
 | .val .bool x, .val .bool y => y1A op x y
 | .val (.int k) x, .val (.int k') y => match op with
  | .shl => ykT .shl k x y
  | .shr => ykT .shr k x y
  | op => if k = k' then y2V op k x y else none
 | .val .str x, .val .str y => y5u op x y
 | _, _ => none
def yl8 {R : Type} (op : BinOp) : A → A → (A → Option R) → Option R
 | .val .bool x, .val .bool y, k => match y1A op x y with
  | some a => k a
  | none => none
 | .val (.int k1) x, .val (.int k2) y, k => match op with
  | .shl => if (show Int from y) < 0 then none else k (.val (.int k1) (k1.wrap ((show Int from x) * 2 ^ (min (Int.toNat y) k1.bits))))
  | .shr => if (show Int from y) < 0 then none else k (.val (.int k1) (Int.fdiv x (2 ^ (min (Int.toNat y) k1.bits))))
  | .quo => if k1 = k2 then if (show Int from y) = 0 then none else k (.val (.int k1) (k1.wrap (Int.tdiv x y))) else none
  | .rem => if k1 = k2 then if (show Int from y) = 0 then none else k (.val (.int k1) (Int.tmod x y)) else none
  | op => if k1 = k2 then match y2V op k1 x y with
   | some a => k a
   | none => none else none
 | .val .str x, .val .str y, k => match op with
  | .add => if ByteArray.size x + ByteArray.size y < 140737488355328 then k (.val .str (show ByteArray from (show ByteArray from x) ++ (show ByteArray from y))) else none
  | op => match y5u op x y with
   | some a => k a
   | none => none
 | _, _, _ => none
theorem ycP {R : Type} (op : BinOp) (x y : A) (k : A → Option R) : yl8 op x y k = (y9c op x y).bind k := by
 cases x with
 | val t1 x =>
  cases y with
  | val t2 y =>
   cases t1 <;> cases t2 <;> try rfl
   ·rename_i k1 k2
    cases op <;> simp only [yl8, y9c, ykT, y2V] <;> (repeat' split) <;> first | rfl | simp_all
   ·simp only [yl8, y9c]
    cases y1A op x y <;> rfl
   ·cases op <;> simp only [yl8, y9c, y5u] <;> (repeat' split) <;> first | rfl | simp_all
  | _ => cases t1 <;> rfl
 | _ => rfl
def y7P (ti : TI) : A → Bool
 | .val .bool _ => (match ti with
  | .c .bool _ => true
  | _ => false)
 | _ => true
def unA (op : UnOp) : A → Option A
 | .val .bool b => match op with
  | .not => some (.val .bool (!b))
  | _ => none
 | .val (.int k) n => match op with
  | .neg => some (.val (.int k) (k.wrap (0 - (show Int from n))))
  | _ => none
 | _ => none
def jb (s : ByteArray) : List Int := s.data.toList.map fun b => (b.toNat : Int)
def y1B (l : List Int) : ByteArray := ⟨(l.map fun n => UInt8.ofNat n.toNat).toArray⟩
def ybP (lk : Lk) (same : Bool) (te : TI) (u : Option TI) : (ts : List Ty) → A → Option (List (yE ts))
 | [.int .u8], y => bif same then y19 lk [.int .u8] y else match te, u, y with
  | .c (.int .u8) 1, some (.c .str _), .val .str s => some (jb s)
  | _, _, _ => none
 | ts, y => bif same then y19 lk ts y else none
def rdE (ts : List Ty) (xs : List (yE ts)) (i : Int) : yE ts := xs.getD i.toNat (J2 ts)
def y0e : Ty → A → A → Option Bool
 | .int _, .val (.int k) x, .val (.int k') y => if k = k' then some ((show Int from x) == (show Int from y)) else none
 | .bool, .val .bool x, .val .bool y => some ((show Bool from x) == (show Bool from y))
 | .str, .val .str x, .val .str y => some ((show ByteArray from x).toList == (show ByteArray from y).toList)
 | _, _, _ => none
def zx : List Ty → List A → List A → Option Bool
 | [], [], [] => some true
 | t :: ts, a :: l, b :: m => match y0e t a b with
  | some u => (zx ts l m).map fun v => u && v
  | none => none
 | _, _, _ => none
def y4a (C : Ctx) : Nat → Nat → Bool
 | 0, _ => false
 | n + 1, t => match C.info t with
  | some (.c t _) => t.flat
  | some (.s fs _ _) => fs.all fun p => y4a C n p.2
  | none => false
def y9k (C : Ctx) (op : BinOp) (t : Nat) : TI → A → A → Option Bool
 | .s _ ts _, .agg l, .agg m => (match op with
  | .eql => bif y4a C 8 t then zx ts l m else none
  | .neq => bif y4a C 8 t then (zx ts l m).map fun b => !b else none
  | _ => none)
 | _, _, _ => none
def QO (lk : Lk) (ti : TI) : A → Option A
 | .box b off => match lk b with
  | some (.box cs) => bif Nat.ble (off + ti.ts.length) cs.length then mkA ti.isAgg ((cs.drop off).take ti.ts.length) else none
  | _ => none
 | .elp _ ts xs i c => bif Nat.ble (c + ti.ts.length) ts.length then mkA ti.isAgg (((vJ ts (rdE ts xs i)).drop c).take ti.ts.length) else none
 | .rtp o i c => match lk o with
  | some (.root _ _ ts xs) => bif Nat.ble (c + ti.ts.length) ts.length then mkA ti.isAgg (((vJ ts (rdE ts xs i)).drop c).take ti.ts.length) else none
  | some (.deep fin _ _ ts xs) => bif Nat.ble (c + ti.ts.length) ts.length then mkA ti.isAgg (((QU fin o i 0 ts (rdE ts xs i)).drop c).take ti.ts.length) else none
  | _ => none
 | _ => none
def Zm {α : Type} : List α → Nat → List α → Option (List α)
 | l, _, [] => some l
 | [], _, _ :: _ => none
 | _ :: l, 0, x :: xs => match Zm l 0 xs with
  | some r => some (x :: r)
  | none => none
 | y :: l, n + 1, xs => match Zm l n xs with
  | some r => some (y :: r)
  | none => none
def y24 (lk : Lk) : (ts : List Ty) → Nat → List A → Option (List (Sigma El) × List Nat)
 | _, _, [] => some ([], [])
 | [], _, _ :: _ => none
 | t :: ts, 0, a :: l => match toT lk t a with
  | some (x, is) => match y24 lk ts 0 l with
   | some (r, js) => some (⟨t, x⟩ :: r, is ++ js)
   | none => none
  | none => none
 | _ :: ts, c + 1, a :: l => y24 lk ts c (a :: l)
def zm : List Nat → List (Nat × Ob)
 | [] => []
 | i :: r => (i, .gone) :: zm r
def Vq : List Nat → Bool
 | [] => true
 | i :: r => !Ky r i && Vq r
def kx (lk : Lk) (bk : Bool) (t : Ty) (a : A) : Option (El t × List Nat) := match a, t with
 | .own o, t => match lk o with
  | some (.root true e ts xs) => bif Wi ts then (Zh (.sl e ts) t xs).map fun y => (y, [o]) else none
  | some (.deep _ _ e ts xs) => (Zh (.sl e ts) t xs).map fun y => (y, [o])
  | _ => none
 | .bor o i c, t => bif bk then (match lk o with
  | some (.deep true _ _ ts xs) => (match KF ts (rdE ts xs i) c with
   | some ⟨.sl e us, y⟩ => (Zh (.sl e us) t y).map fun y => (y, [o])
   | _ => none)
  | _ => none) else none
 | .nils, .sl e ts => bif Nat.blt 0 ts.length then some (y18 (.sl e ts), []) else none
 | .val t' x, t => bif t.flat then (Zh t' t x).map fun y => (y, []) else none
 | _, _ => none
def KG (lk : Lk) : (ts : List Ty) → Nat → List A → Option (List (Sigma El) × List Nat)
 | _, _, [] => some ([], [])
 | [], _, _ :: _ => none
 | t :: ts, 0, a :: l => match kx lk false t a with
  | some (x, is) => match KG lk ts 0 l with
   | some (r, js) => some (⟨t, x⟩ :: r, is ++ js)
   | none => none
  | none => none
 | _ :: ts, c + 1, a :: l => KG lk ts c (a :: l)
def y9l : List (Sigma El) → Bool
 | [] => true
 | ⟨t, _⟩ :: r => t.flat && y9l r
def yaF (lk : Lk) (p v : A) : Option (List (Nat × Ob)) := match p with
 | .box b off => match lk b with
  | some (.box cs) => match Zm cs off v.cells with
   | some cs' => bif J4 v.cells then some [(b, .box cs')] else none
   | none => none
  | _ => none
 | .rtp o i c => match lk o with
  | some (.root true e ts xs) => match y24 lk ts c v.cells with
   | some (ys, is) => match qL ts (rdE ts xs i) c ys with
    | some x => bif Ky is o then none else some (settles lk is ++ [(o, .root true e ts (xs.set i.toNat x))])
    | none => none
   | none => none
  | some (.deep fin tag e ts xs) => match KG lk ts c v.cells with
   | some (ys, gs) => match qL ts (rdE ts xs i) c ys with
    | some x => bif Ky gs o || !Vq gs then none else some (zm gs ++ [(o, .deep (fin && y9l ys) tag e ts (xs.set i.toNat x))])
    | none => none
   | none => none
  | _ => none
 | _ => none
def ybQ : Ty → A
 | .sl _ _ => .nils
 | t => .val t (y18 t)
mutual
def A.ids : A → List Nat
 | .own o => [o]
 | .box b _ => [b]
 | .rtp o _ _ => [o]
 | .clo _ b => [b]
 | .bor o _ _ => [o]
 | .win o _ => [o]
 | .agg l => zt l
 | .tup l => zt l
 | .dead => []
 | .und => []
 | .val _ _ => []
 | .nils => []
 | .nilp => []
 | .elp _ _ _ _ _ => []
 | .fn _ => []
def zt : List A → List Nat
 | [] => []
 | a :: r => a.ids ++ zt r
end
def JI : List Ty → List A → Nat → List A × List (Nat × Ob)
 | .sl e us :: ts, .nils :: l, n => bif Wi us && Nat.blt 0 us.length then (.own n :: (JI ts l (n + 1)).1, (n, .root true e us []) :: (JI ts l (n + 1)).2) else (.nils :: (JI ts l (n + 1)).1, (JI ts l (n + 1)).2)
 | _ :: ts, a :: l, n => (a :: (JI ts l (n + 1)).1, (JI ts l (n + 1)).2)
 | _, l, _ => (l, [])
def y0t (C : Ctx) (ρ : Operand → A) (fs : List (Nat × Nat)) : List A → List (Nat × Operand) → Option (List A)
 | cs, [] => some cs
 | cs, (i, x) :: r => match fs[i]? with
  | some (off, t) => match C.info t with
   | some ti => bif Nat.beq (ρ x).cells.length ti.ts.length && J4 (ρ x).cells then match Zm cs off (ρ x).cells with
     | some cs' => y0t C ρ fs cs' r
     | none => none
    else none
   | none => none
  | none => none
def ybR (lk : Lk) (ρ : Operand → A) (ts : List Ty) : List (Nat × Operand) → List (yE ts) → List Nat → Option (List (yE ts) × List Nat)
 | [], xs, is => some (xs, is)
 | (i, x) :: r, xs, is => match KG lk ts 0 (ρ x).cells with
  | some (ys, js) => match qL ts (xs.getD i (J2 ts)) 0 ys with
   | some y => bif Nat.blt i xs.length && Nat.beq (ρ x).cells.length ts.length then ybR lk ρ ts r (xs.set i y) (is ++ js) else none
   | none => none
  | none => none
def y1a : List Ty → Bool
 | [] => true
 | .sl _ us :: r => Nat.blt 0 us.length && y1a r
 | _ :: r => y1a r
def ybS (lk : Lk) (ρ : Operand → A) (ts : List Ty) : List (Nat × Operand) → List (yE ts) → List Nat → Option (List (yE ts) × List Nat)
 | [], xs, is => some (xs, is)
 | (i, x) :: r, xs, is => match toE lk ts (ρ x).cells with
  | some (y, js) => bif Nat.blt i xs.length then ybS lk ρ ts r (xs.set i y) (is ++ js) else none
  | none => none
def ybT (lk : Lk) : A → Option Int
 | .nils => some 0
 | .val .str x => some x.size
 | .own o => match lk o with
  | some (.root _ _ _ xs) => some xs.length
  | some (.deep _ _ _ _ xs) => some xs.length
  | _ => none
 | a => match y9j lk a with
  | some ⟨_, _, xs⟩ => some xs.length
  | none => none
def loA (ρ : Operand → A) : Option Operand → A
 | some l => ρ l
 | none => .val (.int .i64) (0 : Int)
def hiA (ρ : Operand → A) : Option Operand → Int → A
 | some h, _ => ρ h
 | none, n => .val (.int .i64) n
def y4b (C : Ctx) (t : Nat) (a : A) : Bool := match C.info t, a with
 | some (.c .str _), .val .str _ => true
 | some (.c (.sl _ _) _), .val (.sl _ _) _ => true
 | some (.c (.sl _ _) _), .nils => true
 | some (.c (.sl _ _) _), .own _ => true
 | _, _ => false
def j6 : Bool → A → Option (List A)
 | true, .agg l => some l
 | true, _ => none
 | false, .agg _ => none
 | false, a => some [a]
def VV : Option Nat → A → Option Nat
 | none, .box b off => bif Nat.beq off 0 then some b else none
 | some f, .clo f' b => bif Nat.blt f 1000000000 && Nat.beq f f' then some b else none
 | some f, .box b off => bif Nat.beq f (1000000000 + off) then some b else none
 | _, _ => none
def yeX : Option Nat → Nat → A
 | none, b => .box b 0
 | some f, b => bif Nat.blt f 1000000000 then .clo f b else .box b (f - 1000000000)
def jc (lk : Lk) : List PK → List A → Option (List A × List (Nat × Nat))
 | [], [] => some ([], [])
 | .v agg ts _ :: ps, a :: as => match j6 agg a, jc lk ps as with
  | some c, some (l, bs) => bif Nat.beq c.length ts.length then some (c ++ l, bs) else none
  | _, _ => none
 | .p wr ts _ :: ps, a :: as => match VV wr a with
  | some b => match lk b with
   | some (.box cs) => match jc lk ps as with
    | some (l, bs) => bif Nat.beq ts.length cs.length then some (cs ++ l, (b, ts.length) :: bs) else none
    | none => none
   | _ => none
  | none => none
 | .k f :: ps, a :: as => match a with
  | .fn f' => bif Nat.beq f f' then jc lk ps as else none
  | _ => none
 | _, _ => none
def y1b : A → Option (Nat × List A)
 | .fn f => some (f, [])
 | .clo f b => some (f, [.box b 0])
 | _ => none
def yip (lk : Lk) : List A → List Nat
 | [] => []
 | a :: r => match a with
  | .fn f => f :: yip lk r
  | .clo f _ => f :: yip lk r
  | .box b off => (match lk b with
   | some (.box cs) => (2000000000 + cs.length * 100000 + off) :: yip lk r
   | _ => yip lk r)
  | _ => yip lk r
def Kh (lk : Lk) (dp bk : Bool) (own : Bool) (t : Ty) (a : A) : Option (El t × List Nat × List Nat) := bif own then (bif dp then (kx lk bk t a).map fun (y, gs) => (y, [], gs) else match a, t with
  | .own o, t => match lk o with
   | some (.root true e ts xs) => (Zh (.sl e ts) t xs).map fun y => (y, [], [o])
   | _ => none
  | .nils, .sl e ts => bif Nat.blt 0 ts.length then some (y18 (.sl e ts), [], []) else none
  | .val t' x, t => bif t.flat then (Zh t' t x).map fun y => (y, [], []) else none
  | _, _ => none) else (toT lk t a).map fun (y, is) => (y, is, [])
def Wl (lk : Lk) (dp bk : Bool) : (ts : List Ty) → List Bool → List A → Option (yE ts × List Nat × List Nat)
 | [], _, [] => some ((), [], [])
 | t :: [], os, [a] => Kh lk dp bk (os.headD false) t a
 | t :: u :: r, os, a :: l => match Kh lk dp bk (os.headD false) t a with
  | some (x, is, gs) => match Wl lk dp bk (u :: r) os.tail l with
   | some (y, js, hs) => some ((x, y), is ++ js, gs ++ hs)
   | none => none
  | none => none
 | _, _, _ => none
def zu (dp tg : Bool) : (t : Ty) → Bool → El t → Nat → A × List (Nat × Ob)
 | .sl e us, true, x, n => (.own n, [(n, bif dp then (bif tg then .deep true (n - 949) e us x else bif Wi us then .root true e us x else .deep true 0 e us x) else .root true e us x)])
 | t, _, x, _ => (.val t x, [])
def yB (dp tg : Bool) : (ts : List Ty) → List Bool → yE ts → Nat → List A × List (Nat × Ob)
 | [], _, _, _ => ([], [])
 | t :: [], os, x, n => ([(zu dp tg t (os.headD false) x n).1], (zu dp tg t (os.headD false) x n).2)
 | t :: u :: r, os, x, n => ((zu dp tg t (os.headD false) x.1 n).1 :: (yB dp tg (u :: r) os.tail x.2 (n + 1)).1, (zu dp tg t (os.headD false) x.1 n).2 ++ (yB dp tg (u :: r) os.tail x.2 (n + 1)).2)
def Vr : List RK → List A → Option (List A × List A)
 | [], l => some ([], l)
 | r :: rs, l => match mkA r.agg (l.take r.ts.length) with
  | some a => match Vr rs (l.drop r.ts.length) with
   | some (as, l2) => some (a :: as, l2)
   | none => none
  | none => none
def y1c : List (Nat × Nat) → List A → List (Nat × Ob)
 | [], _ => []
 | (b, n) :: bs, l => (b, .box (l.take n)) :: y1c bs (l.drop n)
def QP : List Nat → List Nat → Bool
 | [], _ => true
 | i :: r, l => !Ky l i && QP r l
def yP {α : Type} : List (Nat × α) → List Nat
 | [] => []
 | (i, _) :: r => i :: yP r
def Wm {α : Type} : List α → Bool
 | [] => true
 | _ => false
def y1d (sg : Sig) (d : Nat) (l : List A) : Option (List (Nat × Ob) × A × List A) := bif sg.ptr then (match sg.rs with
  | [q] => some ([(1000 * (d + 1) + 500, .box (l.take q.ts.length))], .box (1000 * (d + 1) + 500) 0, l.drop q.ts.length)
  | _ => none) else match Vr sg.rs l with
  | some (as, rest) => some ([], (match as with | [a] => a | as => .tup as), rest)
  | none => none
section
def ykU : Option Operand → Bool
 | none => true
 | some _ => false
variable {R : Type} (C : Ctx) (call : C.Sem)
def yeY : Ob → Option (Sigma El)
 | .root true e ts xs => some ⟨.sl e ts, xs⟩
 | .deep _ _ e ts xs => some ⟨.sl e ts, xs⟩
 | _ => none
def yiq (lk : Lk) (y : Sigma El) (q : Nat) : Option Ob := match lk q with
 | some (.root true e ts _) => bif Wi ts then (Zh y.1 (.sl e ts) y.2).map fun xs => .root true e ts xs else none
 | some (.deep _ tag e ts _) => (Zh y.1 (.sl e ts) y.2).map fun xs => .deep false tag e ts xs
 | _ => none
def Vs (lk : Lk) (obs : List (Nat × Ob)) : List A → List A → Option (List (Nat × Ob))
 | [], [] => some []
 | .nils :: ts, .own n :: rs => (Vs lk obs ts rs).map fun ms => (n, .gone) :: ms
 | .own q :: ts, .own n :: rs => match (yw obs n).bind yeY with
  | some y => match yiq lk y q, Vs lk obs ts rs with
   | some m, some ms => some ((n, .gone) :: (q, m) :: ms)
   | _, _ => none
  | none => none
 | _, _ => none
def yaG (lk : Lk) (obs : List (Nat × Ob)) (tg rs : List A) : Option (List (Nat × Ob)) := match tg, rs with
 | [.bor o i c], [.own n] => match lk o, (yw obs n).bind yeY with
  | some (.deep true tag e ts xs), some y => (qL ts (rdE ts xs i) c [y]).map fun x => [(n, .gone), (o, .deep true tag e ts (xs.set i.toNat x))]
  | _, _ => none
 | tg, rs => Vs lk obs tg rs
def KH : List Bool → List A → List A
 | [], _ => []
 | _, [] => []
 | o :: os, a :: l => bif o then a :: KH os l else KH os l
def Vt (lk : Lk) (sg : Sig) (tg : List A) (bs : List (Nat × Nat)) (is gs : List Nat) (d : Nat) (ts : List Ty) (r : yE ts) : Option Eff :=
 match yB sg.deep false ts sg.owns r (1000 * (d + 1)) with
 | (l, obs) => match y1d sg d l with
  | some (ex, a, rest) => bif QP (yP (obs ++ ex)) (is ++ (gs ++ yP bs)) && (Wm ex || Nat.ble ts.length 500) then (bif sg.back then (bif sg.ptr || !Wm bs || !sg.deep then none else match yaG lk obs tg rest with
    | some mv => some ⟨settles lk is ++ (zm gs ++ mv), obs ++ ex, a⟩
    | none => none) else some ⟨settles lk is ++ (zm gs ++ y1c bs rest), obs ++ ex, a⟩) else none
  | none => none
def ycQ (lk : Lk) (dst : Option Nat) (g : Nat) (as : List A) (q : Nat) (k : Eff → Option R) : Option R := match C.sig q with
 | some sg => match jc lk sg.ps as with
  | some (l, bs) => match Wl lk sg.deep sg.back (C.ins q) (sg.ps.flatMap PK.ownsIn) l, dst with
   | some (xs, is, gs), some d => bif Vq (yP bs) && Vq gs && QP gs is && Nat.beq (C.fid q) g then
     (call q xs).bind fun r => match Vt lk sg (KH (sg.ps.flatMap PK.ownsIn) l) bs (bif sg.hfree then [] else is) gs d (C.outs q) r with
      | some e => k e
      | none => none
    else none
   | _, _ => none
  | none => none
 | none => none
def Zg (ct wn : Bool) (o : Oper) (ρ : Operand → A) (lk : Lk) (k : Eff → Option R) : Option R :=
 match o.op with
 | .move x | .assign x => k ⟨[], [], ρ x⟩
 | .box t x => match C.info t, o.dst with
  | some ti, some d => bif Nat.beq (ρ x).cells.length ti.ts.length && J4 (ρ x).cells then
    k ⟨[], [(d, .box (yT d (ρ x).cells))], .box d 0⟩
   else none
  | _, _ => none
 | .alloc t => match C.info t, o.dst with
  | some ti, some d => k ⟨[], [(d, .box (ti.ts.map ybQ))], .box d 0⟩
  | _, _ => none
 | .build t parts => match C.info t with
  | some (.s fs ts _) => match y0t C ρ fs (ts.map ybQ) parts.toList with
   | some l => bif ct then (match o.dst with
    | some d => bif QP (yP (JI ts l (1000 * (d + 1))).2) (zt l) then k ⟨[], (JI ts l (1000 * (d + 1))).2, .agg (JI ts l (1000 * (d + 1))).1⟩ else none
    | none => none) else k ⟨[], [], .agg l⟩
   | none => none
  | _ => none
 | .buildSlice t n parts => match C.info t, o.dst with
  | some (.c (.sl e ts) _), some d => bif ct then (match ybR lk ρ ts parts.toList (List.replicate n (J2 ts)) [] with
   | some (xs, gs) => bif Ky gs d || !Vq gs || !Nat.ble (n * ts.length) 16777216 || !y1a ts then none else k ⟨zm gs, [(d, .deep true 0 e ts xs)], .own d⟩
   | none => none) else match ybS lk ρ ts parts.toList (List.replicate n (J2 ts)) [] with
   | some (xs, is) => bif Ky is d || !Nat.ble (n * ts.length) 16777216 then none else k ⟨settles lk is, [(d, .root true e ts xs)], .own d⟩
   | none => none
  | _, _ => none
 | .makeSlice t l c => match C.info t, o.dst with
  | some (.c (.sl e ts) _), some d => match C.info e, ρ l, ρ c with
   | some te, .val (.int .i64) n, .val (.int .i64) m =>
    if 0 ≤ (show Int from n) then if (show Int from n) ≤ (show Int from m) then if (show Int from m) * te.bytes ≤ 140737488351232 then
     bif ct && !y1a ts then none else k ⟨[], [(d, bif ct then .deep false 0 e ts (List.replicate (Int.toNat n) (J2 ts)) else .root true e ts (List.replicate (Int.toNat n) (J2 ts)))], .own d⟩
    else none else none else none
   | _, _, _ => none
  | _, _ => none
 | .load t x => match C.info t with
  | some ti => bif ct then (match ρ x with
   | .rtp r i c => match lk r with
    | some (.deep _ _ e ts xs) => bif Nat.ble (c + ti.ts.length) ts.length then (match mkA ti.isAgg (((vJ ts (rdE ts xs i)).drop c).take ti.ts.length) with
     | some a => k ⟨[(r, .root false e ts xs)], [], a⟩
     | none => none) else none
    | _ => (match QO lk ti (.rtp r i c) with
     | some a => k ⟨[], [], a⟩
     | none => none)
   | p => (match QO lk ti p with
    | some a => k ⟨[], [], a⟩
    | none => none)) else match QO lk ti (ρ x) with
   | some a => k ⟨[], [], a⟩
   | none => none
  | none => none
 | .store t p x => match C.info t with
  | some ti => bif Nat.beq (ρ x).cells.length ti.ts.length then match yaF lk (ρ p) (ρ x) with
    | some sets => k ⟨sets, [], .dead⟩
    | none => none
   else none
  | none => none
 | .nilCheck x => match ρ x with
  | .box b off => k ⟨[], [], .box b off⟩
  | .elp e ts xs i c => k ⟨[], [], .elp e ts xs i c⟩
  | .rtp r i c => k ⟨[], [], .rtp r i c⟩
  | _ => none
 | .binOp op t x y _ => match C.info t with
  | some ti => match y9k C op t ti (ρ x) (ρ y) with
   | some b => k ⟨[], [], .val .bool b⟩
   | none => bif y7P ti (ρ x) then yl8 op (ρ x) (ρ y) fun a => k ⟨[], [], a⟩ else none
  | none => none
 | .unOp op _ x => match unA op (ρ x) with
  | some a => k ⟨[], [], a⟩
  | none => none
 | .convert src dst x => match C.info src, C.info dst, ρ x with
  | some _, some (.c (.int k2) _), .val (.int _) n => k ⟨[], [], .val (.int k2) (k2.wrap n)⟩
  | some _, some (.c .str _), .val .str x => k ⟨[], [], .val .str x⟩
  | some (.c .str _), some (.c (.sl e [.int .u8]) _), .val .str x => match C.info e with
   | some (.c (.int .u8) _) => if ByteArray.size x < 140737488351232 then k ⟨[], [], .val (.sl e [.int .u8]) (jb x)⟩ else none
   | _ => none
  | some (.c (.sl e [.int .u8]) _), some (.c .str _), a => match C.info e, y19 lk [.int .u8] a with
   | some (.c (.int .u8) _), some l => k ⟨[], [], .val .str (y1B l)⟩
   | _, _ => none
  | _, _, _ => none
 | .slice t x lo hi none =>
  match ρ x, loA ρ lo with
  | a, .val (.int _) l => match ybT lk a with
   | some n => match hiA ρ hi n with
    | .val (.int _) h => if 0 ≤ (show Int from l) then if (show Int from l) ≤ (show Int from h) then if (show Int from h) ≤ n then
      match C.info t, a with
      | some (.c .str _), .val .str x => k ⟨[], [], .val .str (ByteArray.extract x (Int.toNat l) (Int.toNat h))⟩
      | some (.c (.sl _ us) _), .val (.sl e ts) xs => bif Nat.beq us.length ts.length then k ⟨[], [], .val (.sl e ts) (((show List (yE ts) from xs).take (Int.toNat h)).drop (Int.toNat l))⟩ else none
      | some (.c (.sl _ us) _), .own r => match lk r with
       | some (.root own e ts xs) => bif Nat.beq us.length ts.length then (bif ct && own && ykU lo then (match o.dst with
         | some d => bif Nat.beq r d then none else k ⟨[(r, .gone)], [(d, .root true e ts (xs.take (Int.toNat h)))], .own d⟩
         | none => none)
        else bif wn && own && ykU lo then k ⟨[], [], .win r h⟩
        else k ⟨bif own then [(r, .root false e ts xs)] else [], [], .val (.sl e ts) ((xs.take (Int.toNat h)).drop (Int.toNat l))⟩) else none
       | _ => none
      | _, _ => none
     else none else none else none
    | _ => none
   | none => none
  | _, _ => none
 | .fieldAddr t x f => match C.info t with
  | some (.s fs _ _) => match fs[f]?, ρ x with
   | some (d, _), .box b off => k ⟨[], [], .box b (off + d)⟩
   | some (d, _), .elp e ts xs i c => k ⟨[], [], .elp e ts xs i (c + d)⟩
   | some (d, _), .rtp r i c => k ⟨[], [], .rtp r i (c + d)⟩
   | _, _ => none
  | _ => none
 | .field t x f => match C.info t with
  | some (.s fs _ _) => match fs[f]? with
   | some (d, t2) => match C.info t2 with
    | some ti => match ρ x with
     | .agg l => bif Nat.ble (d + ti.ts.length) l.length then match mkA ti.isAgg ((l.drop d).take ti.ts.length) with
      | some a => k ⟨[], [], a⟩
      | none => none else none
     | _ => none
    | none => none
   | none => none
  | _ => none
 | .indexAddr t x i => match C.info t, ρ x, ρ i with
  | some (.c (.sl _ us) _), .val (.sl e ts) xs, .val (.int _) n => if 0 ≤ (show Int from n) then if (show Int from n) < (show List (yE ts) from xs).length then bif Nat.beq us.length ts.length then k ⟨[], [], .elp e ts xs n 0⟩ else none else none else none
  | some (.c (.sl _ us) _), .own r, .val (.int _) n => match lk r with
   | some (.root _ _ ts xs) => if 0 ≤ (show Int from n) then if (show Int from n) < xs.length then bif Nat.beq us.length ts.length then k ⟨[], [], .rtp r n 0⟩ else none else none else none
   | some (.deep _ _ _ ts xs) => if 0 ≤ (show Int from n) then if (show Int from n) < xs.length then bif Nat.beq us.length ts.length then k ⟨[], [], .rtp r n 0⟩ else none else none else none
   | _ => none
  | _, _, _ => none
 | .index t x i => match C.info t, ρ x, ρ i with
  | some (.c .str _), .val .str x, .val (.int _) n => if 0 ≤ (show Int from n) then if h : Int.toNat n < ByteArray.size x then k ⟨[], [], .val (.int .u8) ((ByteArray.get x (Int.toNat n) h).toNat : Int)⟩ else none else none
  | _, _, _ => none
 | .extract x i => match ρ x with
  | .tup l => match l[i]? with
   | some a => k ⟨[], [], a⟩
   | none => none
  | _ => none
 | .call c => match c.callee, c.args.toList, c.argTypes.toList with
  | .builtin .len, [x], t :: _ => match ybT lk (ρ x), y4b C t (ρ x) with
   | some n, true => k ⟨[], [], .val (.int .i64) n⟩
   | _, _ => none
  | .builtin .min, [x, y], _ => match ρ x, ρ y with
   | .val (.int k1) n, .val (.int k2) m => if k1 = k2 then k ⟨[], [], .val (.int k1) (if (show Int from m) < (show Int from n) then m else n)⟩ else none
   | _, _ => none
  | .builtin .append, [x, y], [t, t2] => match C.info t, o.dst with
   | some (.c (.sl e ts) _), some d => match C.info e with
    | some te => bif ct then (match ρ x, ρ y with
     | .nils, .own q => match lk q with
      | some (.deep _ _ e2 ts2 ys) => match Zh (.sl e2 ts2) (.sl e ts) ys with
       | some ys => bif Nat.beq q d || !Nat.beq t t2 then none else if (show List (yE ts) from ys).length * te.bytes < 140737488355328 then k ⟨[(q, .gone)], [(d, .deep true 0 e ts ys)], .own d⟩ else none
       | none => none
      | _ => none
     | .own r, .own q => match lk r, lk q with
      | some (.deep _ _ e1 ts1 xs), some (.deep _ _ e2 ts2 ys) => match Zh (.sl e1 ts1) (.sl e ts) xs, Zh (.sl e2 ts2) (.sl e ts) ys with
       | some xs, some ys => bif Nat.beq r d || Nat.beq q d || Nat.beq r q || !Nat.beq t t2 then none else if ((show List (yE ts) from xs).length + (show List (yE ts) from ys).length) * te.bytes < 140737488355328 then k ⟨[(r, .gone), (q, .gone)], [(d, .deep true 0 e ts ((show List (yE ts) from xs) ++ (show List (yE ts) from ys)))], .own d⟩ else none
       | _, _ => none
      | _, _ => none
     | _, _ => none) else match ρ x, ybP lk (Nat.beq t t2) te (C.info t2) ts (ρ y) with
     | .nils, some ys => if ys.length * te.bytes < 140737488355328 then k ⟨[], [(d, .root true e ts ys)], .own d⟩ else none
     | .own r, some ys => match lk r with
      | some (.root true e1 ts1 xs) => match y7M ts1 ts xs with
       | some xs => bif Nat.beq r d || !Nat.beq e1 e then none else if (xs.length + ys.length) * te.bytes < 140737488355328 then k ⟨[(r, .gone)], [(d, .root true e ts (xs ++ ys))], .own d⟩ else none
       | none => none
      | _ => none
     | _, _ => none
    | none => none
   | _, _ => none
  | .value f, as, _ => match y1b (ρ f) with
   | some (g, ex) => ycQ C call lk o.dst g (as.map ρ ++ ex) (C.key g (yip lk (as.map ρ))) k
   | none => none
  | _, _, _ => none
 | .makeFunc (.func f) first captured => match first.toList, captured.toList with
  | [], [] => k ⟨[], [], .fn f⟩
  | [], [x] => match ρ x with
   | .box b off => bif Nat.beq off 0 then k ⟨[], [], .clo f b⟩ else none
   | _ => none
  | _, _ => none
 | _ => none
structure Dop where
 o : Oper
 g : Option (Nat × Bool)
 vis : Nat
 cls : Nat
 bad : List Nat
 later : List Nat
 mine : List Nat
 hn : Nat
 fp : List Nat
def Ob.ids : Ob → List Nat
 | .box cs => zt cs
 | _ => []
def y49 : List (Nat × Ob) → List Nat
 | [] => []
 | (i, x) :: r => i :: (x.ids ++ y49 r)
def Dop.see (x : Dop) (lk : Lk) : Lk := fun i => bif Ky x.bad i then none else match x.vis with
 | 0 => none
 | 1 => match lk i with
  | some (.box cs) => some (.box cs)
  | _ => none
 | 3 => match lk i with
  | some (.root own e ts xs) => some (.root own e ts xs)
  | some (.deep fin tag e ts xs) => some (.deep fin tag e ts xs)
  | _ => none
 | _ => lk i
def y0u (lk : Lk) : List (Nat × Ob) → Bool
 | [] => true
 | (i, x) :: r => (match lk i with
  | some (.root _ _ _ _) => (match x with
   | .box _ => false
   | _ => true)
  | some (.deep _ _ _ _ _) => (match x with
   | .box _ => false
   | _ => true)
  | _ => false) && y0u lk r
def qP (lk : Lk) : List (Nat × Ob) → Bool
 | [] => true
 | (i, x) :: r => (match lk i with
  | some (.box _) => (match x with
   | .box _ => true
   | _ => false)
  | _ => false) && qP lk r
def ygS : List Nat → List Nat → Bool
 | [], _ => true
 | i :: r, l => Ky l i && ygS r l
def Dop.ok (x : Dop) (lk : Lk) (e : Eff) : Bool :=
 (match x.cls with
  | 0 => Wm e.sets
  | 1 => y0u lk e.sets
  | 3 => qP lk e.sets
  | 4 => ygS (yP e.sets) x.fp
  | _ => true) && ygS (yP e.adds) x.mine && (Wm x.later || QP x.later (e.a.ids ++ (y49 e.sets ++ y49 e.adds)))
def yx0 (x : Dop) (s : St) (k : St → Option R) : Option R :=
 Zg C call (Nat.beq x.hn 2) (Nat.beq x.hn 3) x.o s.opd (x.see (yw s.o)) fun e => bif x.ok (x.see (yw s.o)) e then k (s.apply x.o.dst e) else none
def yx1 (x : Dop) (s : St) (k : St → Option R) : Option R :=
 Zg C call (Nat.beq x.hn 2) (Nat.beq x.hn 3) x.o s.opd (x.see (yw s.o)) fun e => bif Wm e.sets && x.ok (x.see (yw s.o)) e then k (s.apply x.o.dst e) else none
def ky (c : Nat) : List Dop → List Dop → Option (List Dop × Dop × Operand × Operand × List Dop)
 | _, [] => none
 | acc, o :: r => match o.o.op, o.g with
  | .pick (.tmp j) a b, none => bif Nat.beq j c then some (acc.reverse, o, a, b, r) else ky c (o :: acc) r
  | _, _ => ky c (o :: acc) r
def yir (c : Nat) (b : Bool) : List Dop → List Dop
 | [] => []
 | x :: r => (match x.g with
  | some (c', b') => bif Nat.beq c c' && (b == b') then { x with g := none } else x
  | none => x) :: yir c b r
def vK (n c : Nat) (b : Bool) : List Nat → List Dop → Bool
 | _, [] => true
 | ds, x :: r => (match x.g with
  | some (c', b') => (Nat.beq c c' && (b == b')) || Ky ds c'
  | none => false) && (match x.o.dst with
  | some d => !Nat.beq d c && vK n c b (bif Nat.blt d n then d :: ds else ds) r
  | none => vK n c b ds r)
def yR (s : St) (x : Operand) : Option Bool := match s.opd x with
 | .val .bool b => some b
 | _ => none
def yI : List Dop → List Nat
 | [] => []
 | x :: r => match x.o.dst with
  | some d => d :: yI r
  | none => yI r
def YC : List Dop → List Nat
 | [] => []
 | x :: r => x.mine ++ YC r
def zs (s : St) : List Nat → St
 | [] => s
 | d :: r => zs (s.put (some d) .dead) r
def yl9 (o : Oper) : Bool := match o.op with
 | .store _ _ _ => true
 | .call c => match c.callee with
  | .builtin .append => true
  | .value (.func f) => (match C.sig f with
   | some sg => sg.ps.any PK.isP || !sg.hfree
   | none => true)
  | _ => false
 | _ => false
def Wn (pu : Bool) : {R : Type} → Nat → List Dop → St → (St → Option R) → Option R
 | _, _, [], s, k => k s
 | _, 0, _ :: _, _, _ => none
 | R, n + 1, x :: r, s, k => match x.g with
  | none => bif pu then yx1 C call x s fun s1 => Wn pu n r s1 k else yx0 C call x s fun s1 => Wn pu n r s1 k
  | some (c, want) => match yR s (.tmp c), ky c [] (x :: r) with
   | some v, some (grp, p, a, b, rest) => bif vK s.t.length c want [] grp then (bif grp.any fun y => yl9 C y.o || !Nat.beq y.hn 0 then
     (match want with
     | true => bif v then Wn pu n (yir c true grp) s fun s1 => match yR s1 a with
       | some u => Wn pu n rest ((zs s1 (yI grp)).put p.o.dst (.val .bool u)) k
       | none => none
      else match yR (zs s (yI grp)) b with
       | some u => Wn pu n rest ((zs s (yI grp)).put p.o.dst (.val .bool u)) k
       | none => none
     | false => bif v then match yR (zs s (yI grp)) a with
       | some u => Wn pu n rest ((zs s (yI grp)).put p.o.dst (.val .bool u)) k
       | none => none
      else Wn pu n (yir c false grp) s fun s1 => match yR s1 b with
       | some u => Wn pu n rest ((zs s1 (yI grp)).put p.o.dst (.val .bool u)) k
       | none => none)
     else (match want with
     | true => bif v then Wn true n (yir c true grp) s fun s1 => yR s1 a else yR (zs s (yI grp)) b
     | false => bif v then yR (zs s (yI grp)) a else Wn true n (yir c false grp) s fun s1 => yR s1 b).bind fun u =>
      Wn pu n rest ((zs (s.forgetAll (YC grp)) (yI grp)).put p.o.dst (.val .bool u)) k)
     else none
   | _, _ => none
def y9m (d : Nat) : Nat → List Nat
 | 0 => []
 | n + 1 => y9m d n ++ [1000 * (d + 1) + n]
def Vu (o : Oper) : List Nat := match o.dst with
 | none => []
 | some d => match o.op with
  | .box _ _ => [d]
  | .alloc _ => [d]
  | .buildSlice _ _ _ => [d]
  | .makeSlice _ _ _ => [d]
  | .slice _ _ none _ _ => [d]
  | .build t _ => (match C.info t with
   | some ti => y9m d ti.ts.length
   | none => [])
  | .call c => match c.callee with
   | .builtin .append => [d]
   | .value (.func f) => (1000 * (d + 1) + 500) :: y9m d (match C.sig f with
    | some sg => sg.outs.length
    | none => 24)
   | _ => []
  | _ => []
def YD (ops : Array Oper) (o : Oper) : Option (Option (Nat × Bool)) := match o.guard with
 | none => some none
 | some (j, w) => match ops[j]? with
  | some g => match g.dst with
   | some d => some (some (d, w))
   | none => none
  | none => none
def ygT (h : List Nat) (o : Oper) : Nat := match o.dst with
 | some d => bif Ky h (100000 + d) then 2 else bif Ky h (200000 + d) then 3 else bif Ky h d then 1 else 0
 | none => 0
def ybU (h : List Nat) (ops : Array Oper) : List Oper → Option (List Dop)
 | [] => some []
 | o :: r => match YD ops o, ybU h ops r with
  | some g, some l => some ({ o, g, vis := 2, cls := 2, bad := [], later := [], mine := Vu C o, hn := ygT h o, fp := [] } :: l)
  | _, _ => none
def y1e (acc : List Nat) : List Edge → Nat
 | [] => 0
 | e :: r => bif Region.binds .any e then (2 ^ e.on ||| acc.getD e.on 0) ||| y1e acc r else y1e acc r
def KI : List Oper → List Nat → List Nat
 | [], acc => acc
 | o :: r, acc => KI r (acc ++ [y1e acc o.after.toList])
def ysc (d : Nat) : List Nat → List Nat
 | [] => []
 | e :: r => bif Nat.ble (1000000000000000 + d * 1000000000) e && Nat.blt e (1000000000000000 + (d + 1) * 1000000000) then (e - (1000000000000000 + d * 1000000000)) :: ysc d r else ysc d r
def fpO (h : List Nat) (o : Oper) : List Nat := match o.dst with
 | some d => ysc d h
 | none => match o.op with
  | .store _ (.tmp p) _ => ysc p h
  | _ => []
def yzt (h : List Nat) (o : Oper) : Nat := match o.op with
 | .store _ _ _ => 2
 | .call c => match c.callee with
  | .builtin .append => 1
  | .builtin _ => 0
  | .value (.func f) => (match C.sig f with
   | some sg => bif sg.ps.any PK.isP then (match o.dst with
     | some d => bif Ky h d then 2 else 3
     | none => bif sg.hfree && (sg.ps.flatMap PK.ownsIn).all not then 3 else 2) else bif sg.hfree then 0 else 1
   | none => 2)
  | _ => 2
 | _ => (match o.dst with
  | some d => bif Ky h d || Ky h (100000 + d) then 1 else 0
  | none => 0)
def qQ (h : List Nat) (o : Oper) : Nat := bif Wm (fpO h o) then yzt C h o else 4
def ycR (a b : Nat) : Nat := match a with
 | 0 => b
 | _ => (match b with
  | 0 => a
  | _ => bif Nat.beq a b then a else 2)
def ykV (c : Nat) : Nat := bif Nat.beq c 4 then 0 else c
def ygU : Nat → Nat
 | 0 => 2
 | 1 => 1
 | 3 => 3
 | _ => 0
def y1f (l : List Operand) : List Nat := match l with
 | [] => []
 | .tmp t :: r => t :: y1f r
 | _ :: r => y1f r
def yeZ (ops : Array Oper) (o : Oper) : List Nat := (match YD ops o with
 | some (some (c, _)) => [c]
 | _ => []) ++ y1f o.op.operands.toList
def ysd (l : List Nat) : Option Nat → Bool
 | none => false
 | some d => Ky l d
def y4F (ops : Array Oper) (x y : Oper) : Bool := !ysd (yeZ ops y) x.dst && !ysd (yeZ ops x) y.dst && (match x.dst, y.dst with
 | some d, some e => !Nat.beq d e
 | _, _ => true)
def y0v (o : Oper) : Bool := match o.op with
 | .pick _ _ _ => true
 | _ => false
def ygV (ms : List Nat) (i j : Nat) : Bool := (ms.getD i 0).testBit j || (ms.getD j 0).testBit i
structure Gathered where
 ok : Bool
 top : Nat
 bad : List Nat
 later : List Nat
def KJ (h : List Nat) (ops : Array Oper) (ms : List Nat) (i : Nat) (o : Oper) : Nat → List Oper → Gathered
 | _, [] => ⟨true, 0, [], []⟩
 | j, y :: r => match KJ h ops ms i o (j + 1) r with
  | g => bif Nat.beq i j then g else
    bif ygV ms i j then (bif (ms.getD i 0).testBit j then g else { g with later := Vu C y ++ g.later })
    else ⟨g.ok && y4F ops o y && !y0v o && !y0v y && (Nat.beq (qQ C h o) 0 || Nat.beq (qQ C h y) 0 || (Nat.beq (qQ C h o) 4 && Nat.beq (qQ C h y) 4 && QP (fpO h o) (fpO h y))), ycR (ykV (qQ C h y)) g.top, Vu C y ++ (fpO h y ++ g.bad), Vu C y ++ g.later⟩
def y7Q (h : List Nat) (ops : Array Oper) (ms : List Nat) : Nat → List Oper → Option (List Dop)
 | _, [] => some []
 | i, o :: r => match YD ops o, y7Q h ops ms (i + 1) r, KJ C h ops ms i o 0 ops.toList with
  | some g, some l, q => bif q.ok && Nat.blt (ms.getD i 0) (2 ^ i) then some ({ o, g, vis := ygU q.top, cls := qQ C h o, bad := q.bad, later := q.later, mine := Vu C o, hn := ygT h o, fp := fpO h o } :: l) else none
  | _, _, _ => none
def yx2 (h : List Nat) (dr : Bool) (ops : Array Oper) : Option (List Dop) := bif dr then y7Q C h ops (KI ops.toList []) 0 ops.toList else ybU C h ops ops.toList
def y4G : List Oper → List Nat
 | [] => []
 | o :: r => Vu C o ++ y4G r
def yis (id : Nat) : List Nat → List Nat
 | [] => []
 | e :: r => bif Nat.ble (2000000000000000000 + id * 1000000) e && Nat.blt e (2000000000000000000 + (id + 1) * 1000000) then (e - (2000000000000000000 + id * 1000000)) :: yis id r else yis id r
def ycS (s : St) : List Nat → List Nat
 | [] => []
 | d :: r => (s.t.getD d .dead).ids ++ (((s.t.getD d .dead).ids.flatMap fun i => match yw s.o i with
  | some ob => ob.ids
  | none => []) ++ ycS s r)
def yla (h : List Nat) (id : Nat) (s : St) : St := match yis id h with
 | [] => s
 | l => s.setAll (settles (yw s.o) (ycS s l))
structure Ks (R : Type) where
 exit : Nat → St → Option R
 ret : St → Option R
abbrev Lp : Type 1 := Nat → St → {R : Type} → (Option Nat → St → Option R) → Option R
def zK : Code → Nat
 | .region i _ _ => i
 | .seq a _ => zK a
 | .block _ c => zK c
 | .loop c => zK c
 | .cond _ a _ => zK a
 | _ => 0
def y5v (l : List Nat) : Nat → List A → List A
 | _, [] => []
 | i, a :: r => (bif Ky l i then a else .dead) :: y5v l (i + 1) r
mutual
def A.resolve (lk : Lk) : A → A
 | .own o => match lk o with
  | some (.root true _ _ _) => .own o
  | some (.root false e ts xs) => .val (.sl e ts) xs
  | some (.deep _ _ _ _ _) => .own o
  | _ => .dead
 | .rtp o i c => match lk o with
  | some (.root true _ _ _) => .rtp o i c
  | some (.root false e ts xs) => .elp e ts xs i c
  | some (.deep _ _ _ _ _) => .rtp o i c
  | _ => .dead
 | .bor _ _ _ => .dead
 | .win _ _ => .dead
 | .agg l => .agg (zQ lk l)
 | .tup l => .tup (zQ lk l)
 | .dead => .dead
 | .und => .dead
 | .val t x => .val t x
 | .nils => .nils
 | .nilp => .nilp
 | .box b off => match lk b with
  | some (.box _) => bif Nat.blt b 10000000 then .box b off else .dead
  | _ => .dead
 | .clo f b => match lk b with
  | some (.box _) => bif Nat.blt b 10000000 then .clo f b else .dead
  | _ => .dead
 | .elp e ts xs j c => .elp e ts xs j c
 | .fn f => .fn f
def zQ (lk : Lk) : List A → List A
 | [] => []
 | a :: r => a.resolve lk :: zQ lk r
end
mutual
def A.ren (m : Nat → Nat) : A → A
 | .own o => .own (m o)
 | .rtp o i c => .rtp (m o) i c
 | .clo f b => .clo f (m b)
 | .bor o i c => .bor (m o) i c
 | .win o h => .win (m o) h
 | .agg l => .agg (y9n m l)
 | .tup l => .tup (y9n m l)
 | .dead => .dead
 | .und => .und
 | .val t x => .val t x
 | .nils => .nils
 | .nilp => .nilp
 | .box b off => .box (m b) off
 | .elp e ts xs j c => .elp e ts xs j c
 | .fn f => .fn f
def y9n (m : Nat → Nat) : List A → List A
 | [] => []
 | a :: r => a.ren m :: y9n m r
end
def ybV (lk : Lk) : List Nat → List (Nat × List A)
 | [] => []
 | i :: r => match lk i with
  | some (.box cs) => (i, zQ lk cs) :: ybV lk r
  | _ => ybV lk r
def ykW : List (Nat × List A) → List Nat
 | [] => []
 | (_, cs) :: r => zt cs ++ ykW r
def ybW (seen : List Nat) : List Nat → List Nat
 | [] => []
 | i :: r => bif Ky seen i then ybW seen r else i :: ybW (i :: seen) r
def y0w (lk : Lk) : List Nat → List (Nat × Ob)
 | [] => []
 | i :: r => match lk i with
  | some (.root true e ts xs) => (i, .root true e ts xs) :: y0w lk r
  | some (.deep fin tag e ts xs) => (i, .deep fin tag e ts xs) :: y0w lk r
  | _ => y0w lk r
def y0x : List (Nat × Ob) → Nat → Nat → Nat
 | [], _, i => i
 | (j, _) :: r, n, i => bif Nat.beq j i then n else y0x r (n + 1) i
def yit (m : Nat → Nat) : List (Nat × List A) → List (Nat × Ob)
 | [] => []
 | (i, cs) :: r => (i, .box (y9n m cs)) :: yit m r
def yiu : List (Nat × Ob) → Nat → List (Nat × Ob)
 | [], _ => []
 | (_, x) :: r, n => (n, x) :: yiu r (n + 1)
def y0y (n : Nat) : List Nat → Bool
 | [] => true
 | i :: r => Nat.blt i n && y0y n r
def St.keep (s : St) (l : List Nat) : Option St :=
 match zQ (yw s.o) (y5v l 0 s.t) with
 | t => match ybV (yw s.o) (ybW [] (zt t)) with
  | bx => match y0w (yw s.o) (ybW [] (zt t ++ ykW bx)) with
   | rs => bif y0y 10000000 (yP bx) then some ⟨y9n (y0x rs 10000000) t, yit (y0x rs 10000000) bx ++ yiu rs 10000000⟩ else none
def z6 {R T : Type} (step : (T → Option R) → T → Option R) : Nat → T → Option R
 | 0, _ => none
 | n + 1, s => step (z6 step n) s
def Ks.keep {R : Type} (lx : List Nat) (κ : Option Nat → St → Option R) : Ks R := { exit := fun i s => (s.keep lx).bind (κ (some i)), ret := fun s => (s.keep lx).bind (κ none) }
def Ks.go {R : Type} (K : Ks R) : Option Nat → St → Option R
 | some i, s => K.exit i s
 | none, s => K.ret s
def QQ (lp : Lp) (fn : Nat) {R : Type} : Code → St → (St → Option R) → Ks R → Option R
 | .skip, s, k, _ => k s
 | .region id ops dr, s, k, _ => match yx2 C (C.hint fn) dr ops with
  | some l => Wn C call false (l.length + 1) l (bif dr then (yla (C.hint fn) id s).forgetAll (y4G C ops.toList) else yla (C.hint fn) id s) k
  | none => none
 | .seq a b, s, k, K => QQ lp fn a s (fun s1 => QQ lp fn b s1 k K) K
 | .cond c a b, s, k, K => match yR s c with
  | some x => bif x then QQ lp fn a s k K else QQ lp fn b s k K
  | none => none
 | .block i c, s, k, K => QQ lp fn c s k { exit := fun j s => bif Nat.beq i j then k s else K.exit j s, ret := K.ret }
 | .loop c, s, _, K => match C.live fn (zK c) with
  | some (l, _) => (s.keep l).bind fun s0 => lp (zK c) s0 K.go
  | none => none
 | .exit i, s, _, K => K.exit i s
 | .ret, s, _, K => K.ret s
 | _, _, _, _ => none
def ycT (lp : Lp) (fn : Nat) (c : Code) (l lx : List Nat) {R : Type} (κ : Option Nat → St → Option R) (again : St → Option R) (s : St) : Option R :=
 QQ C call lp fn c s (fun s2 => (s2.keep l).bind again) (Ks.keep lx κ)
def Zn : Code → List Code
 | .seq a b => Zn a ++ Zn b
 | .cond _ a b => Zn a ++ Zn b
 | .block _ c => Zn c
 | .loop c => c :: Zn c
 | _ => []
def y4H : List PK → List A → Nat → List A × List (Nat × Ob)
 | [], _, _ => ([], [])
 | .v agg ts _ :: ps, l, i => match y4H ps (l.drop ts.length) (i + 1) with
  | (as, obs) => ((bif agg then .agg (l.take ts.length) else (l.take ts.length).headD .dead) :: as, obs)
 | .p wr ts _ :: ps, l, i => match y4H ps (l.drop ts.length) (i + 1) with
  | (as, obs) => (yeX wr (900 + i) :: as, (900 + i, .box (l.take ts.length)) :: obs)
 | .k f :: ps, l, i => match y4H ps l (i + 1) with
  | (as, obs) => (.fn f :: as, obs)
def enter (sg : Sig) (n : Nat) (ts : List Ty) (x : yE ts) : St :=
 match yB sg.deep sg.back ts (sg.ps.flatMap PK.ownsIn) x 950 with
 | (l, obs) => match y4H sg.ps l 0 with
  | (as, bx) => ⟨as ++ List.replicate (n - as.length) .dead, (((⟨[], []⟩ : St).makeAll obs).makeAll bx).o⟩
def ycN (s : St) : List ResultVar → List RK → Option (List A)
 | [], [] => some []
 | .tmp t :: r, k :: ks => match j6 k.agg (s.t.getD t .dead), ycN s r ks with
  | some c, some l => bif Nat.beq c.length k.ts.length then some (c ++ l) else none
  | _, _ => none
 | .cell a t :: r, k :: ks => match C.info t with
  | some ti => match QO (yw s.o) ti (s.t.getD a .dead) with
   | some x => match j6 k.agg x, ycN s r ks with
    | some c, some l => bif Nat.beq c.length k.ts.length then some (c ++ l) else none
    | _, _ => none
   | none => none
  | none => none
 | _, _ => none
def y1g (s : St) : List PK → Nat → Option (List A)
 | [], _ => some []
 | .v _ _ _ :: ps, i => y1g s ps (i + 1)
 | .k _ :: ps, i => y1g s ps (i + 1)
 | .p _ ts _ :: ps, i => match yw s.o (900 + i), y1g s ps (i + 1) with
  | some (.box cs), some l => bif Nat.beq cs.length ts.length then some (cs ++ l) else none
  | _, _ => none
def yse (s : St) : List ResultVar → List RK → Option (List A)
 | [.tmp t], [k] => match s.t.getD t .dead with
  | .box b off => match yw s.o b with
   | some (.box cs) => bif Nat.beq off 0 && Nat.beq cs.length k.ts.length && (Nat.blt b 900 || Nat.ble 950 b) then some cs else none
   | _ => none
  | _ => none
 | _, _ => none
def y5w : List (Nat × Ob) → Nat → Option Nat
 | [], _ => none
 | (i, .deep _ tag _ _ _) :: r, n => bif Nat.beq tag n then some i else y5w r n
 | _ :: r, n => y5w r n
def y7R (s : St) : List Bool → Nat → Option (List A)
 | [], _ => some []
 | false :: os, n => y7R s os (n + 1)
 | true :: os, n => match y5w s.o (n + 1) with
  | some i => match yw s.o i, y7R s os (n + 1) with
   | some (.deep _ tag _ _ _), some l => bif Nat.beq tag (n + 1) then some (.own i :: l) else none
   | _, _ => none
  | none => none
def yaH (sg : Sig) (rs : List ResultVar) (ts : List Ty) (s : St) : Option (yE ts) :=
 match (bif sg.ptr then yse s rs sg.rs else ycN C s rs sg.rs) with
 | some l => match y1g s sg.ps 0 with
  | some l2 => match (bif sg.back then (bif sg.ptr || sg.ps.any PK.isP || !Nat.beq (sg.ps.flatMap PK.ownsIn).length sg.ins.length then none else y7R s (sg.ps.flatMap PK.ownsIn) 0) else some []) with
   | some l3 => match Wl (yw s.o) sg.deep false ts sg.owns ((l ++ l2) ++ l3) with
    | some (x, is, gs) => bif Vq gs && QP gs is then some x else none
    | none => none
   | none => none
  | none => none
 | none => none
end
def yf0 (C : Ctx) (call : C.Sem) (lp : Lp) (f : Nat) (fn : Func) (c : Code) (sg : Sig) (ins outs : List Ty) (x : yE ins) : Option (yE outs) :=
 QQ C call lp f c (enter sg fn.ntmps ins x) (yaH C sg fn.results.toList outs) { exit := fun _ _ => none, ret := yaH C sg fn.results.toList outs }
def tab {C : Ctx} : List (Sigma fun f : Nat => yE (C.ins f) → Option (yE (C.outs f))) → C.Sem
 | [], _, _ => none
 | ⟨f, F⟩ :: r, g, x => if h : f = g then (h ▸ F) x else tab r g x
end Go.Proofs.YtmapoakbdgpamaaGreat.R
