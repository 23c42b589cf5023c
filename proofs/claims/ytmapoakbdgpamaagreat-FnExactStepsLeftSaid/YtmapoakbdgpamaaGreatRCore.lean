/- An evaluator of the model's code over typed plain values: no memory, no addresses. No condition. -/
import Derived.Below
import Derived.Maps.AppendAt
import Derived.Orders
import Derived.LoopN
import Derived.RowKit
import Derived.Laws.Entries
set_option linter.all false
namespace Go.Proofs.YtmapoakbdgpamaaGreat.R
open Go.RowKit
inductive Ty where
 | int (k : IntKind)
 | bool
 | str
 | sl (e : Nat) (ts : List Ty)
mutual
def El : Ty → Type
 | .int _ => Int
 | .bool => Bool
 | .str => ByteArray
 | .sl _ ts => List (yB ts)
def yB : List Ty → Type
 | [] => Unit
 | t :: [] => El t
 | t :: u :: r => El t × yB (u :: r)
end
mutual
def Ty.eqb : Ty → Ty → Bool
 | .int k, .int k' => decide (k = k')
 | .bool, .bool => true
 | .str, .str => true
 | .sl e ts, .sl e' ts' => Nat.beq e e' && Ty.eqbs ts ts'
 | _, _ => false
def Ty.eqbs : List Ty → List Ty → Bool
 | [], [] => true
 | t :: ts, u :: us => Ty.eqb t u && Ty.eqbs ts us
 | _, _ => false
end
mutual
theorem Ty.eqb_eq : ∀ (a b : Ty), Ty.eqb a b = true → a = b
 | .int k, .int k', h => by simpa [Ty.eqb] using h
 | .bool, .bool, _ => rfl
 | .str, .str, _ => rfl
 | .sl e ts, .sl e' ts', h => by
  simp only [Ty.eqb, Bool.and_eq_true] at h
  rw [Nat.eq_of_beq_eq_true h.1, Ty.eqbs_eq ts ts' h.2]
 | .int _, .bool, h | .int _, .str, h | .int _, .sl _ _, h | .bool, .int _, h | .bool, .str, h | .bool, .sl _ _, h | .str, .int _, h | .str, .bool, h | .str, .sl _ _, h | .sl _ _, .int _, h | .sl _ _, .bool, h | .sl _ _, .str, h => by simp [Ty.eqb] at h
theorem Ty.eqbs_eq : ∀ (a b : List Ty), Ty.eqbs a b = true → a = b
 | [], [], _ => rfl
 | t :: ts, u :: us, h => by
  simp only [Ty.eqbs, Bool.and_eq_true] at h
  rw [Ty.eqb_eq t u h.1, Ty.eqbs_eq ts us h.2]
 | [], _ :: _, h | _ :: _, [], h => by simp [Ty.eqbs] at h
end
def Zo (t t' : Ty) (x : El t) : Option (El t') := if h : Ty.eqb t t' = true then some ((Ty.eqb_eq t t' h) ▸ x) else none
def y7e (ts ts' : List Ty) (xs : List (yB ts)) : Option (List (yB ts')) := if h : Ty.eqbs ts ts' = true then some ((Ty.eqbs_eq ts ts' h) ▸ xs) else none
mutual
def y19 : (t : Ty) → El t
 | .int _ => (0 : Int)
 | .bool => false
 | .str => (⟨#[]⟩ : ByteArray)
 | .sl _ ts => ([] : List (yB ts))
def jV : (ts : List Ty) → yB ts
 | [] => ()
 | t :: [] => y19 t
 | t :: u :: r => (y19 t, jV (u :: r))
end
inductive A where
 | dead
 | und
 | val (t : Ty) (x : El t)
 | nils
 | nilp
 | own (o : Nat)
 | agg (l : List A)
 | tup (l : List A)
 | box (b off : Nat)
 | elp (e : Nat) (ts : List Ty) (xs : List (yB ts)) (i : Int) (c : Nat)
 | rtp (o : Nat) (i : Int) (c : Nat)
 | fn (f : Nat)
 | clo (f b : Nat)
 | bor (o : Nat) (i : Int) (c : Nat)
 | win (o : Nat) (h : Int)
inductive Ob where
 | box (cells : List A)
 | root (own : Bool) (e : Nat) (ts : List Ty) (xs : List (yB ts))
 | deep (fin : Bool) (tag : Nat) (e : Nat) (ts : List Ty) (xs : List (yB ts))
 | gone
structure St where
 t : List A
 o : List (Nat × Ob)
structure Eff where
 sets : List (Nat × Ob)
 adds : List (Nat × Ob)
 a : A
inductive TI where
 | c (t : Ty) (bytes : Nat)
 | s (fs : List (Nat × Nat)) (ts : List Ty) (bytes : Nat)
def TI.ts : TI → List Ty
 | .c t _ => [t]
 | .s _ ts _ => ts
def TI.isAgg : TI → Bool
 | .c _ _ => false
 | .s _ _ _ => true
def TI.bytes : TI → Nat
 | .c _ b => b
 | .s _ _ b => b
inductive PK where
 | v (agg : Bool) (ts : List Ty) (own : List Bool)
 | p (wr : Option Nat) (ts : List Ty) (own : List Bool)
 | k (f : Nat)
structure RK where
 agg : Bool
 ts : List Ty
 own : List Bool
structure Sig where
 ps : List PK
 rs : List RK
 ptr : Bool
 deep : Bool
 back : Bool
def PK.ins : PK → List Ty
 | .v _ ts _ => ts
 | .p _ ts _ => ts
 | .k _ => []
def PK.outs : PK → List Ty
 | .v _ _ _ => []
 | .p _ ts _ => ts
 | .k _ => []
def PK.owns : PK → List Bool
 | .v _ _ _ => []
 | .p _ _ os => os
 | .k _ => []
def PK.ownsIn : PK → List Bool
 | .v _ _ os => os
 | .p _ _ os => os
 | .k _ => []
def PK.isP : PK → Bool
 | .v _ _ _ => false
 | .p _ _ _ => true
 | .k _ => true
def PK.back : PK → Option Nat
 | .p _ ts _ => some ts.length
 | _ => none
def Sig.ins (s : Sig) : List Ty := s.ps.flatMap PK.ins
def yhz : List Ty → List Bool → List Ty
 | [], _ => []
 | t :: r, os => bif os.headD false then t :: yhz r os.tail else yhz r os.tail
def Sig.bts (s : Sig) : List Ty := bif s.back then yhz s.ins (s.ps.flatMap PK.ownsIn) else []
def Sig.outs (s : Sig) : List Ty := (s.rs.flatMap RK.ts ++ s.ps.flatMap PK.outs) ++ s.bts
def Sig.owns (s : Sig) : List Bool := (s.rs.flatMap RK.own ++ s.ps.flatMap PK.owns) ++ s.bts.map fun _ => true
def Ty.flat : Ty → Bool
 | .sl _ _ => false
 | _ => true
def Wy : List Ty → Bool
 | [] => true
 | t :: r => t.flat && Wy r
def y7f (dp : Bool) : List Ty → List Bool → Bool
 | [], _ => true
 | t :: r, os => (t.flat || (os.headD false && (dp || match t with
  | .sl _ ts => Wy ts
  | _ => false))) && y7f dp r os.tail
def Sig.hfree (s : Sig) : Bool := y7f s.deep s.outs s.owns
structure Ctx where
 info : Nat → Option TI
 sig : Nat → Option Sig
 live : Nat → Nat → Option (List Nat × List Nat)
 key : Nat → List Nat → Nat
 fid : Nat → Nat
 hint : Nat → List Nat
 gl : (Nat → Option Obj) → Prop := fun _ => True
 glm : ∀ H H' : Nat → Option Obj, (∀ k o, H k = some o → H' k = some o) → gl H → gl H' := by exact fun _ _ _ h => h
def Ctx.ins (C : Ctx) (f : Nat) : List Ty := match C.sig f with
 | some s => s.ins
 | none => []
def Ctx.outs (C : Ctx) (f : Nat) : List Ty := match C.sig f with
 | some s => s.outs
 | none => []
abbrev Ctx.Sem (C : Ctx) : Type := (f : Nat) → yB (C.ins f) → Option (yB (C.outs f))
def y9d {α : Type} : List (Nat × α) → Nat → Option α
 | [], _ => none
 | (j, x) :: r, i => bif Nat.beq j i then some x else y9d r i
def eqN : List Nat → List Nat → Bool
 | [], [] => true
 | i :: l, j :: m => Nat.beq i j && eqN l m
 | _, _ => false
def ykK : List (Nat × List Nat × Nat) → Nat → List Nat → Nat
 | [], f, _ => f
 | (g, l, k) :: r, f, m => bif Nat.beq g f && eqN l m then k else ykK r f m
def ykL : List (Nat × List Nat × Nat) → Nat → Nat
 | [], f => f
 | (g, _, k) :: r, f => bif Nat.beq k f then g else ykL r f
def yfU : List (Nat × List Nat) → Nat → List Nat
 | [], _ => []
 | (g, l) :: r, f => bif Nat.beq g f then l else yfU r f
def yq : List (Nat × Ob) → Nat → Option Ob
 | [], _ => none
 | (j, x) :: r, i => bif Nat.beq j i then some x else yq r i
def Ki (l : List Nat) (i : Nat) : Bool := match l with
 | [] => false
 | j :: r => Nat.beq j i || Ki r i
mutual
def A.forget (i : Nat) : A → A
 | .own o => bif Nat.beq o i then .dead else .own o
 | .box b off => bif Nat.beq b i then .dead else .box b off
 | .rtp o j c => bif Nat.beq o i then .dead else .rtp o j c
 | .clo f b => bif Nat.beq b i then .dead else .clo f b
 | .bor o j c => bif Nat.beq o i then .dead else .bor o j c
 | .win o h => bif Nat.beq o i then .dead else .win o h
 | .agg l => .agg (yZ i l)
 | .tup l => .tup (yZ i l)
 | .dead => .dead
 | .und => .und
 | .val t x => .val t x
 | .nils => .nils
 | .nilp => .nilp
 | .elp e ts xs j c => .elp e ts xs j c
 | .fn f => .fn f
def yZ (i : Nat) : List A → List A
 | [] => []
 | a :: r => A.forget i a :: yZ i r
end
def Ob.forget (i : Nat) : Ob → Ob
 | .box cs => .box (yZ i cs)
 | .root own e ts xs => .root own e ts xs
 | .deep fin tag e ts xs => .deep fin tag e ts xs
 | .gone => .gone
def zV (i : Nat) : List (Nat × Ob) → List (Nat × Ob)
 | [] => []
 | (j, x) :: r => bif Nat.beq j i then zV i r else (j, x.forget i) :: zV i r
def St.forget (s : St) (i : Nat) : St := ⟨yZ i s.t, zV i s.o⟩
def St.forgetAll (s : St) : List Nat → St
 | [] => s
 | i :: r => (s.forget i).forgetAll r
def St.make (s : St) (i : Nat) (x : Ob) : St := ⟨yZ i s.t, (i, x) :: zV i s.o⟩
def St.makeAll (s : St) : List (Nat × Ob) → St
 | [] => s
 | (i, x) :: r => (s.make i x).makeAll r
def kY : List (Nat × Ob) → Nat → Ob → List (Nat × Ob)
 | [], _, _ => []
 | (j, x) :: r, i, y => bif Nat.beq j i then (j, y) :: r else (j, x) :: kY r i y
def St.set (s : St) (i : Nat) (x : Ob) : St := ⟨s.t, kY s.o i x⟩
def St.setAll (s : St) : List (Nat × Ob) → St
 | [] => s
 | (i, x) :: r => (s.set i x).setAll r
def St.put (s : St) (d : Option Nat) (a : A) : St := match d with
 | some d => ⟨s.t.set d a, s.o⟩
 | none => s
def St.apply (s : St) (d : Option Nat) (e : Eff) : St := ((s.makeAll e.adds).setAll e.sets).put d e.a
def y7g : Value → A
 | .int k n => .val (.int k) n
 | .bool b => .val .bool b
 | .string s => .val .str s
 | .slice none 0 0 => .nils
 | .pointer none => .nilp
 | _ => .dead
def y56 : Value → A
 | .agg cs => .agg (cs.toList.map y7g)
 | v => y7g v
def St.opd (s : St) : Operand → A
 | .tmp i => s.t.getD i .dead
 | .const v => y56 v
 | .func f => .fn f
 | .global _ => .dead
def vy : (ts : List Ty) → yB ts → List A
 | [], _ => []
 | t :: [], x => [.val t x]
 | t :: u :: r, x => .val t x.1 :: vy (u :: r) x.2
def QS (fin : Bool) (o : Nat) (i : Int) : Nat → (ts : List Ty) → yB ts → List A
 | _, [], _ => []
 | c, t :: [], x => [bif t.flat then .val t x else bif fin then .bor o i c else .dead]
 | c, t :: u :: r, x => (bif t.flat then .val t x.1 else bif fin then .bor o i c else .dead) :: QS fin o i (c + 1) (u :: r) x.2
def A.cells : A → List A
 | .agg l => l
 | a => [a]
def A.one : A → Bool
 | .dead => false
 | .und => false
 | .agg _ => false
 | .tup _ => false
 | _ => true
def Jk : List A → Bool
 | [] => true
 | a :: r => a.one && Jk r
def mkA (agg : Bool) (l : List A) : Option A := bif agg then some (.agg l) else match l with
 | [a] => some a
 | _ => none
abbrev Lk := Nat → Option Ob
def toT (lk : Lk) (t : Ty) : A → Option (El t × List Nat)
 | .val t' x => (Zo t' t x).map fun y => (y, [])
 | .nils => match t with
  | .sl e ts => some (y19 (.sl e ts), [])
  | _ => none
 | .own o => match lk o with
  | some (.root _ e ts xs) => (Zo (.sl e ts) t xs).map fun y => (y, [o])
  | some (.deep _ _ e ts xs) => (Zo (.sl e ts) t xs).map fun y => (y, [o])
  | _ => none
 | .win o h => match lk o with
  | some (.root _ e ts xs) => (Zo (.sl e ts) t (xs.take (Int.toNat h))).map fun y => (y, [o])
  | _ => none
 | _ => none
def toE (lk : Lk) : (ts : List Ty) → List A → Option (yB ts × List Nat)
 | [], [] => some ((), [])
 | t :: [], [a] => toT lk t a
 | t :: u :: r, a :: l => match toT lk t a with
  | some (x, is) => match toE lk (u :: r) l with
   | some (y, js) => some ((x, y), is ++ js)
   | none => none
  | none => none
 | _, _ => none
def settles (lk : Lk) : List Nat → List (Nat × Ob)
 | [] => []
 | o :: r => match lk o with
  | some (.root _ e ts xs) => (o, .root false e ts xs) :: settles lk r
  | some (.deep _ _ e ts xs) => (o, .root false e ts xs) :: settles lk r
  | _ => settles lk r
def Ko : (ts : List Ty) → yB ts → Nat → Option (Sigma El)
 | [], _, _ => none
 | t :: [], x, 0 => some ⟨t, x⟩
 | _ :: [], _, _ + 1 => none
 | t :: _ :: _, x, 0 => some ⟨t, x.1⟩
 | _ :: u :: r, x, c + 1 => Ko (u :: r) x.2 c
def qy : (ts : List Ty) → yB ts → Nat → (ys : List (Sigma El)) → Option (yB ts)
 | _, x, _, [] => some x
 | [], _, _, _ :: _ => none
 | t :: [], _, 0, [⟨u, y⟩] => Zo u t y
 | _ :: [], _, _, _ => none
 | t :: v :: r, x, 0, ⟨u, y⟩ :: ys => match Zo u t y with
  | some z => match qy (v :: r) x.2 0 ys with
   | some w => some (z, w)
   | none => none
  | none => none
 | t :: v :: r, x, c + 1, ys => match qy (v :: r) x.2 c ys with
  | some w => some (x.1, w)
  | none => none
def y9e (lk : Lk) : A → Option (Sigma fun ts : List Ty => Nat × List (yB ts))
 | .val (.sl e ts) xs => some ⟨ts, e, xs⟩
 | .own o => match lk o with
  | some (.root _ e ts xs) => some ⟨ts, e, xs⟩
  | _ => none
 | _ => none
def y1a (lk : Lk) (ts : List Ty) (a : A) : Option (List (yB ts)) := match a with
 | .nils => some []
 | a => match y9e lk a with
  | some ⟨ts', _, xs⟩ => y7e ts' ts xs
  | none => none
def y2Q (op : BinOp) (k : IntKind) (x y : Int) : Option A :=
 match op with
 | .add => some (.val (.int k) (k.wrap (x + y)))
 | .sub => some (.val (.int k) (k.wrap (x - y)))
 | .mul => some (.val (.int k) (k.wrap (x * y)))
 | .quo => if y = 0 then none else some (.val (.int k) (k.wrap (x.tdiv y)))
 | .rem => if y = 0 then none else some (.val (.int k) (x.tmod y))
 | .and => some (.val (.int k) (bits .and k x y))
 | .or => some (.val (.int k) (bits .or k x y))
 | .xor => some (.val (.int k) (bits .xor k x y))
 | .eql => some (.val .bool (x == y))
 | .neq => some (.val .bool (x != y))
 | .lss => some (.val .bool (decide (x < y)))
 | .leq => some (.val .bool (decide (x ≤ y)))
 | .gtr => some (.val .bool (decide (x > y)))
 | .geq => some (.val .bool (decide (x ≥ y)))
 | _ => none
def ykA (op : BinOp) (k : IntKind) (x y : Int) : Option A :=
 if y < 0 then none else match op with
 | .shl => some (.val (.int k) (k.wrap (x * 2 ^ (min y.toNat k.bits))))
 | .shr => some (.val (.int k) (x.fdiv (2 ^ (min y.toNat k.bits))))
 | _ => none
def y57 (op : BinOp) (x y : ByteArray) : Option A :=
 match op with
 | .add => if x.size + y.size < 140737488355328 then some (.val .str (x ++ y)) else none
 | .eql => some (.val .bool (x.toList == y.toList))
 | .neq => some (.val .bool (!(x.toList == y.toList)))
 | .lss => some (.val .bool (Op.bytesLess x.toList y.toList))
 | .leq => some (.val .bool (Op.bytesLess x.toList y.toList || x.toList == y.toList))
 | .gtr => some (.val .bool (!(Op.bytesLess x.toList y.toList || x.toList == y.toList)))
 | .geq => some (.val .bool (!Op.bytesLess x.toList y.toList))
 | _ => none
def y1G (op : BinOp) (x y : Bool) : Option A := match op with
 | .eql => some (.val .bool (x == y))
 | .neq => some (.val .bool (!(x == y)))
 | _ => none
def y9a (op : BinOp) : A → A → Option A
 | .val .bool x, .val .bool y => y1G op x y
 | .val (.int k) x, .val (.int k') y => match op with
  | .shl => ykA .shl k x y
  | .shr => ykA .shr k x y
  | op => if k = k' then y2Q op k x y else none
 | .val .str x, .val .str y => y57 op x y
 | _, _ => none
def ykM {R : Type} (op : BinOp) : A → A → (A → Option R) → Option R
 | .val .bool x, .val .bool y, k => match y1G op x y with
  | some a => k a
  | none => none
 | .val (.int k1) x, .val (.int k2) y, k => match op with
  | .shl => if (show Int from y) < 0 then none else k (.val (.int k1) (k1.wrap ((show Int from x) * 2 ^ (min (Int.toNat y) k1.bits))))
  | .shr => if (show Int from y) < 0 then none else k (.val (.int k1) (Int.fdiv x (2 ^ (min (Int.toNat y) k1.bits))))
  | .quo => if k1 = k2 then if (show Int from y) = 0 then none else k (.val (.int k1) (k1.wrap (Int.tdiv x y))) else none
  | .rem => if k1 = k2 then if (show Int from y) = 0 then none else k (.val (.int k1) (Int.tmod x y)) else none
  | op => if k1 = k2 then match y2Q op k1 x y with
   | some a => k a
   | none => none else none
 | .val .str x, .val .str y, k => match op with
  | .add => if ByteArray.size x + ByteArray.size y < 140737488355328 then k (.val .str (show ByteArray from (show ByteArray from x) ++ (show ByteArray from y))) else none
  | op => match y57 op x y with
   | some a => k a
   | none => none
 | _, _, _ => none
theorem yck {R : Type} (op : BinOp) (x y : A) (k : A → Option R) : ykM op x y k = (y9a op x y).bind k := by
 cases x with
 | val t1 x =>
  cases y with
  | val t2 y =>
   cases t1 <;> cases t2 <;> try rfl
   ·rename_i k1 k2
    cases op <;> simp only [ykM, y9a, ykA, y2Q] <;> (repeat' split) <;> first | rfl | simp_all
   ·simp only [ykM, y9a]
    cases y1G op x y <;> rfl
   ·cases op <;> simp only [ykM, y9a, y57] <;> (repeat' split) <;> first | rfl | simp_all
  | _ => cases t1 <;> rfl
 | _ => rfl
def y7h (ti : TI) : A → Bool
 | .val .bool _ => (match ti with
  | .c .bool _ => true
  | _ => false)
 | _ => true
def unA (op : UnOp) : A → Option A
 | .val .bool b => match op with
  | .not => some (.val .bool (!b))
  | _ => none
 | .val (.int k) n => match op with
  | .neg => some (.val (.int k) (k.wrap (0 - (show Int from n))))
  | _ => none
 | _ => none
def Vg (s : ByteArray) : List Int := s.data.toList.map fun b => (b.toNat : Int)
def yak (l : List Int) : ByteArray := ⟨(l.map fun n => UInt8.ofNat n.toNat).toArray⟩
def ybh (lk : Lk) (same : Bool) (te : TI) (u : Option TI) : (ts : List Ty) → A → Option (List (yB ts))
 | [.int .u8], y => bif same then y1a lk [.int .u8] y else match te, u, y with
  | .c (.int .u8) 1, some (.c .str _), .val .str s => some (Vg s)
  | _, _, _ => none
 | ts, y => bif same then y1a lk ts y else none
def rdE (ts : List Ty) (xs : List (yB ts)) (i : Int) : yB ts := xs.getD i.toNat (jV ts)
def y0g : Ty → A → A → Option Bool
 | .int _, .val (.int k) x, .val (.int k') y => if k = k' then some ((show Int from x) == (show Int from y)) else none
 | .bool, .val .bool x, .val .bool y => some ((show Bool from x) == (show Bool from y))
 | .str, .val .str x, .val .str y => some ((show ByteArray from x).toList == (show ByteArray from y).toList)
 | _, _, _ => none
def zM : List Ty → List A → List A → Option Bool
 | [], [], [] => some true
 | t :: ts, a :: l, b :: m => match y0g t a b with
  | some u => (zM ts l m).map fun v => u && v
  | none => none
 | _, _, _ => none
def y3Z (C : Ctx) : Nat → Nat → Bool
 | 0, _ => false
 | n + 1, t => match C.info t with
  | some (.c t _) => t.flat
  | some (.s fs _ _) => fs.all fun p => y3Z C n p.2
  | none => false
def y9f (C : Ctx) (op : BinOp) (t : Nat) : TI → A → A → Option Bool
 | .s _ ts _, .agg l, .agg m => (match op with
  | .eql => bif y3Z C 8 t then zM ts l m else none
  | .neq => bif y3Z C 8 t then (zM ts l m).map fun b => !b else none
  | _ => none)
 | _, _, _ => none
def QN (lk : Lk) (ti : TI) : A → Option A
 | .box b off => match lk b with
  | some (.box cs) => bif Nat.ble (off + ti.ts.length) cs.length then mkA ti.isAgg ((cs.drop off).take ti.ts.length) else none
  | _ => none
 | .elp _ ts xs i c => bif Nat.ble (c + ti.ts.length) ts.length then mkA ti.isAgg (((vy ts (rdE ts xs i)).drop c).take ti.ts.length) else none
 | .rtp o i c => match lk o with
  | some (.root _ _ ts xs) => bif Nat.ble (c + ti.ts.length) ts.length then mkA ti.isAgg (((vy ts (rdE ts xs i)).drop c).take ti.ts.length) else none
  | some (.deep fin _ _ ts xs) => bif Nat.ble (c + ti.ts.length) ts.length then mkA ti.isAgg (((QS fin o i 0 ts (rdE ts xs i)).drop c).take ti.ts.length) else none
  | _ => none
 | _ => none
def Zp {α : Type} : List α → Nat → List α → Option (List α)
 | l, _, [] => some l
 | [], _, _ :: _ => none
 | _ :: l, 0, x :: xs => match Zp l 0 xs with
  | some r => some (x :: r)
  | none => none
 | y :: l, n + 1, xs => match Zp l n xs with
  | some r => some (y :: r)
  | none => none
def y2a (lk : Lk) : (ts : List Ty) → Nat → List A → Option (List (Sigma El) × List Nat)
 | _, _, [] => some ([], [])
 | [], _, _ :: _ => none
 | t :: ts, 0, a :: l => match toT lk t a with
  | some (x, is) => match y2a lk ts 0 l with
   | some (r, js) => some (⟨t, x⟩ :: r, is ++ js)
   | none => none
  | none => none
 | _ :: ts, c + 1, a :: l => y2a lk ts c (a :: l)
def zE : List Nat → List (Nat × Ob)
 | [] => []
 | i :: r => (i, .gone) :: zE r
def Vh : List Nat → Bool
 | [] => true
 | i :: r => !Ki r i && Vh r
def kn (lk : Lk) (bk : Bool) (t : Ty) (a : A) : Option (El t × List Nat) := match a, t with
 | .own o, t => match lk o with
  | some (.root true e ts xs) => bif Wy ts then (Zo (.sl e ts) t xs).map fun y => (y, [o]) else none
  | some (.deep _ _ e ts xs) => (Zo (.sl e ts) t xs).map fun y => (y, [o])
  | _ => none
 | .bor o i c, t => bif bk then (match lk o with
  | some (.deep true _ _ ts xs) => (match Ko ts (rdE ts xs i) c with
   | some ⟨.sl e us, y⟩ => (Zo (.sl e us) t y).map fun y => (y, [o])
   | _ => none)
  | _ => none) else none
 | .nils, .sl e ts => bif Nat.blt 0 ts.length then some (y19 (.sl e ts), []) else none
 | .val t' x, t => bif t.flat then (Zo t' t x).map fun y => (y, []) else none
 | _, _ => none
def Kp (lk : Lk) : (ts : List Ty) → Nat → List A → Option (List (Sigma El) × List Nat)
 | _, _, [] => some ([], [])
 | [], _, _ :: _ => none
 | t :: ts, 0, a :: l => match kn lk false t a with
  | some (x, is) => match Kp lk ts 0 l with
   | some (r, js) => some (⟨t, x⟩ :: r, is ++ js)
   | none => none
  | none => none
 | _ :: ts, c + 1, a :: l => Kp lk ts c (a :: l)
def y9g : List (Sigma El) → Bool
 | [] => true
 | ⟨t, _⟩ :: r => t.flat && y9g r
def yal (lk : Lk) (p v : A) : Option (List (Nat × Ob)) := match p with
 | .box b off => match lk b with
  | some (.box cs) => match Zp cs off v.cells with
   | some cs' => bif Jk v.cells then some [(b, .box cs')] else none
   | none => none
  | _ => none
 | .rtp o i c => match lk o with
  | some (.root true e ts xs) => match y2a lk ts c v.cells with
   | some (ys, is) => match qy ts (rdE ts xs i) c ys with
    | some x => bif Ki is o then none else some (settles lk is ++ [(o, .root true e ts (xs.set i.toNat x))])
    | none => none
   | none => none
  | some (.deep fin tag e ts xs) => match Kp lk ts c v.cells with
   | some (ys, gs) => match qy ts (rdE ts xs i) c ys with
    | some x => bif Ki gs o || !Vh gs then none else some (zE gs ++ [(o, .deep (fin && y9g ys) tag e ts (xs.set i.toNat x))])
    | none => none
   | none => none
  | _ => none
 | _ => none
def ybi : Ty → A
 | .sl _ _ => .nils
 | t => .val t (y19 t)
mutual
def A.ids : A → List Nat
 | .own o => [o]
 | .box b _ => [b]
 | .rtp o _ _ => [o]
 | .clo _ b => [b]
 | .bor o _ _ => [o]
 | .win o _ => [o]
 | .agg l => zK l
 | .tup l => zK l
 | .dead => []
 | .und => []
 | .val _ _ => []
 | .nils => []
 | .nilp => []
 | .elp _ _ _ _ _ => []
 | .fn _ => []
def zK : List A → List Nat
 | [] => []
 | a :: r => a.ids ++ zK r
end
def JX : List Ty → List A → Nat → List A × List (Nat × Ob)
 | .sl e us :: ts, .nils :: l, n => bif Wy us && Nat.blt 0 us.length then (.own n :: (JX ts l (n + 1)).1, (n, .root true e us []) :: (JX ts l (n + 1)).2) else (.nils :: (JX ts l (n + 1)).1, (JX ts l (n + 1)).2)
 | _ :: ts, a :: l, n => (a :: (JX ts l (n + 1)).1, (JX ts l (n + 1)).2)
 | _, l, _ => (l, [])
def y0x (C : Ctx) (ρ : Operand → A) (fs : List (Nat × Nat)) : List A → List (Nat × Operand) → Option (List A)
 | cs, [] => some cs
 | cs, (i, x) :: r => match fs[i]? with
  | some (off, t) => match C.info t with
   | some ti => bif Nat.beq (ρ x).cells.length ti.ts.length && Jk (ρ x).cells then match Zp cs off (ρ x).cells with
     | some cs' => y0x C ρ fs cs' r
     | none => none
    else none
   | none => none
  | none => none
def ybj (lk : Lk) (ρ : Operand → A) (ts : List Ty) : List (Nat × Operand) → List (yB ts) → List Nat → Option (List (yB ts) × List Nat)
 | [], xs, is => some (xs, is)
 | (i, x) :: r, xs, is => match Kp lk ts 0 (ρ x).cells with
  | some (ys, js) => match qy ts (xs.getD i (jV ts)) 0 ys with
   | some y => bif Nat.blt i xs.length && Nat.beq (ρ x).cells.length ts.length then ybj lk ρ ts r (xs.set i y) (is ++ js) else none
   | none => none
  | none => none
def y1b : List Ty → Bool
 | [] => true
 | .sl _ us :: r => Nat.blt 0 us.length && y1b r
 | _ :: r => y1b r
def ybk (lk : Lk) (ρ : Operand → A) (ts : List Ty) : List (Nat × Operand) → List (yB ts) → List Nat → Option (List (yB ts) × List Nat)
 | [], xs, is => some (xs, is)
 | (i, x) :: r, xs, is => match toE lk ts (ρ x).cells with
  | some (y, js) => bif Nat.blt i xs.length then ybk lk ρ ts r (xs.set i y) (is ++ js) else none
  | none => none
def ybl (lk : Lk) : A → Option Int
 | .nils => some 0
 | .val .str x => some x.size
 | .own o => match lk o with
  | some (.root _ _ _ xs) => some xs.length
  | some (.deep _ _ _ _ xs) => some xs.length
  | _ => none
 | a => match y9e lk a with
  | some ⟨_, _, xs⟩ => some xs.length
  | none => none
def loA (ρ : Operand → A) : Option Operand → A
 | some l => ρ l
 | none => .val (.int .i64) (0 : Int)
def hiA (ρ : Operand → A) : Option Operand → Int → A
 | some h, _ => ρ h
 | none, n => .val (.int .i64) n
def y40 (C : Ctx) (t : Nat) (a : A) : Bool := match C.info t, a with
 | some (.c .str _), .val .str _ => true
 | some (.c (.sl _ _) _), .val (.sl _ _) _ => true
 | some (.c (.sl _ _) _), .nils => true
 | some (.c (.sl _ _) _), .own _ => true
 | _, _ => false
def jk : Bool → A → Option (List A)
 | true, .agg l => some l
 | true, _ => none
 | false, .agg _ => none
 | false, a => some [a]
def VE : Option Nat → A → Option Nat
 | none, .box b off => bif Nat.beq off 0 then some b else none
 | some f, .clo f' b => bif Nat.blt f 1000000000 && Nat.beq f f' then some b else none
 | some f, .box b off => bif Nat.beq f (1000000000 + off) then some b else none
 | _, _ => none
def yel : Option Nat → Nat → A
 | none, b => .box b 0
 | some f, b => bif Nat.blt f 1000000000 then .clo f b else .box b (f - 1000000000)
def jm (lk : Lk) : List PK → List A → Option (List A × List (Nat × Nat))
 | [], [] => some ([], [])
 | .v agg ts _ :: ps, a :: as => match jk agg a, jm lk ps as with
  | some c, some (l, bs) => bif Nat.beq c.length ts.length then some (c ++ l, bs) else none
  | _, _ => none
 | .p wr ts _ :: ps, a :: as => match VE wr a with
  | some b => match lk b with
   | some (.box cs) => match jm lk ps as with
    | some (l, bs) => bif Nat.beq ts.length cs.length then some (cs ++ l, (b, ts.length) :: bs) else none
    | none => none
   | _ => none
  | none => none
 | .k f :: ps, a :: as => match a with
  | .fn f' => bif Nat.beq f f' then jm lk ps as else none
  | _ => none
 | _, _ => none
def y1c : A → Option (Nat × List A)
 | .fn f => some (f, [])
 | .clo f b => some (f, [.box b 0])
 | _ => none
def yhA (lk : Lk) : List A → List Nat
 | [] => []
 | a :: r => match a with
  | .fn f => f :: yhA lk r
  | .clo f _ => f :: yhA lk r
  | .box b off => (match lk b with
   | some (.box cs) => (2000000000 + cs.length * 100000 + off) :: yhA lk r
   | _ => yhA lk r)
  | _ => yhA lk r
def K2 (lk : Lk) (dp bk : Bool) (own : Bool) (t : Ty) (a : A) : Option (El t × List Nat × List Nat) := bif own then (bif dp then (kn lk bk t a).map fun (y, gs) => (y, [], gs) else match a, t with
  | .own o, t => match lk o with
   | some (.root true e ts xs) => (Zo (.sl e ts) t xs).map fun y => (y, [], [o])
   | _ => none
  | .nils, .sl e ts => bif Nat.blt 0 ts.length then some (y19 (.sl e ts), [], []) else none
  | .val t' x, t => bif t.flat then (Zo t' t x).map fun y => (y, [], []) else none
  | _, _ => none) else (toT lk t a).map fun (y, is) => (y, is, [])
def WC (lk : Lk) (dp bk : Bool) : (ts : List Ty) → List Bool → List A → Option (yB ts × List Nat × List Nat)
 | [], _, [] => some ((), [], [])
 | t :: [], os, [a] => K2 lk dp bk (os.headD false) t a
 | t :: u :: r, os, a :: l => match K2 lk dp bk (os.headD false) t a with
  | some (x, is, gs) => match WC lk dp bk (u :: r) os.tail l with
   | some (y, js, hs) => some ((x, y), is ++ js, gs ++ hs)
   | none => none
  | none => none
 | _, _, _ => none
def zL (dp tg : Bool) : (t : Ty) → Bool → El t → Nat → A × List (Nat × Ob)
 | .sl e us, true, x, n => (.own n, [(n, bif dp then (bif tg then .deep true (n - 949) e us x else bif Wy us then .root true e us x else .deep true 0 e us x) else .root true e us x)])
 | t, _, x, _ => (.val t x, [])
def yw (dp tg : Bool) : (ts : List Ty) → List Bool → yB ts → Nat → List A × List (Nat × Ob)
 | [], _, _, _ => ([], [])
 | t :: [], os, x, n => ([(zL dp tg t (os.headD false) x n).1], (zL dp tg t (os.headD false) x n).2)
 | t :: u :: r, os, x, n => ((zL dp tg t (os.headD false) x.1 n).1 :: (yw dp tg (u :: r) os.tail x.2 (n + 1)).1, (zL dp tg t (os.headD false) x.1 n).2 ++ (yw dp tg (u :: r) os.tail x.2 (n + 1)).2)
def Vi : List RK → List A → Option (List A × List A)
 | [], l => some ([], l)
 | r :: rs, l => match mkA r.agg (l.take r.ts.length) with
  | some a => match Vi rs (l.drop r.ts.length) with
   | some (as, l2) => some (a :: as, l2)
   | none => none
  | none => none
def y1d : List (Nat × Nat) → List A → List (Nat × Ob)
 | [], _ => []
 | (b, n) :: bs, l => (b, .box (l.take n)) :: y1d bs (l.drop n)
def QO : List Nat → List Nat → Bool
 | [], _ => true
 | i :: r, l => !Ki l i && QO r l
def yS {α : Type} : List (Nat × α) → List Nat
 | [] => []
 | (i, _) :: r => i :: yS r
def WD {α : Type} : List α → Bool
 | [] => true
 | _ => false
def y1e (sg : Sig) (d : Nat) (l : List A) : Option (List (Nat × Ob) × A × List A) := bif sg.ptr then (match sg.rs with
  | [q] => some ([(1000 * (d + 1) + 500, .box (l.take q.ts.length))], .box (1000 * (d + 1) + 500) 0, l.drop q.ts.length)
  | _ => none) else match Vi sg.rs l with
  | some (as, rest) => some ([], (match as with | [a] => a | as => .tup as), rest)
  | none => none
section
def ykB : Option Operand → Bool
 | none => true
 | some _ => false
variable {R : Type} (C : Ctx) (call : C.Sem)
def yem : Ob → Option (Sigma El)
 | .root true e ts xs => some ⟨.sl e ts, xs⟩
 | .deep _ _ e ts xs => some ⟨.sl e ts, xs⟩
 | _ => none
def yhB (lk : Lk) (y : Sigma El) (q : Nat) : Option Ob := match lk q with
 | some (.root true e ts _) => bif Wy ts then (Zo y.1 (.sl e ts) y.2).map fun xs => .root true e ts xs else none
 | some (.deep _ tag e ts _) => (Zo y.1 (.sl e ts) y.2).map fun xs => .deep false tag e ts xs
 | _ => none
def Vj (lk : Lk) (obs : List (Nat × Ob)) : List A → List A → Option (List (Nat × Ob))
 | [], [] => some []
 | .nils :: ts, .own n :: rs => (Vj lk obs ts rs).map fun ms => (n, .gone) :: ms
 | .own q :: ts, .own n :: rs => match (yq obs n).bind yem with
  | some y => match yhB lk y q, Vj lk obs ts rs with
   | some m, some ms => some ((n, .gone) :: (q, m) :: ms)
   | _, _ => none
  | none => none
 | _, _ => none
def yam (lk : Lk) (obs : List (Nat × Ob)) (tg rs : List A) : Option (List (Nat × Ob)) := match tg, rs with
 | [.bor o i c], [.own n] => match lk o, (yq obs n).bind yem with
  | some (.deep true tag e ts xs), some y => (qy ts (rdE ts xs i) c [y]).map fun x => [(n, .gone), (o, .deep true tag e ts (xs.set i.toNat x))]
  | _, _ => none
 | tg, rs => Vj lk obs tg rs
def Kq : List Bool → List A → List A
 | [], _ => []
 | _, [] => []
 | o :: os, a :: l => bif o then a :: Kq os l else Kq os l
def Vk (lk : Lk) (sg : Sig) (tg : List A) (bs : List (Nat × Nat)) (is gs : List Nat) (d : Nat) (ts : List Ty) (r : yB ts) : Option Eff :=
 match yw sg.deep false ts sg.owns r (1000 * (d + 1)) with
 | (l, obs) => match y1e sg d l with
  | some (ex, a, rest) => bif QO (yS (obs ++ ex)) (is ++ (gs ++ yS bs)) && (WD ex || Nat.ble ts.length 500) then (bif sg.back then (bif sg.ptr || !WD bs || !sg.deep then none else match yam lk obs tg rest with
    | some mv => some ⟨settles lk is ++ (zE gs ++ mv), obs ++ ex, a⟩
    | none => none) else some ⟨settles lk is ++ (zE gs ++ y1d bs rest), obs ++ ex, a⟩) else none
  | none => none
def ycl (lk : Lk) (dst : Option Nat) (g : Nat) (as : List A) (q : Nat) (k : Eff → Option R) : Option R := match C.sig q with
 | some sg => match jm lk sg.ps as with
  | some (l, bs) => match WC lk sg.deep sg.back (C.ins q) (sg.ps.flatMap PK.ownsIn) l, dst with
   | some (xs, is, gs), some d => bif Vh (yS bs) && Vh gs && QO gs is && Nat.beq (C.fid q) g then
     (call q xs).bind fun r => match Vk lk sg (Kq (sg.ps.flatMap PK.ownsIn) l) bs (bif sg.hfree then [] else is) gs d (C.outs q) r with
      | some e => k e
      | none => none
    else none
   | _, _ => none
  | none => none
 | none => none
def Zn (ct wn : Bool) (o : Oper) (ρ : Operand → A) (lk : Lk) (k : Eff → Option R) : Option R :=
 match o.op with
 | .move x | .assign x => k ⟨[], [], ρ x⟩
 | .box t x => match C.info t, o.dst with
  | some ti, some d => bif Nat.beq (ρ x).cells.length ti.ts.length && Jk (ρ x).cells then
    k ⟨[], [(d, .box (yZ d (ρ x).cells))], .box d 0⟩
   else none
  | _, _ => none
 | .alloc t => match C.info t, o.dst with
  | some ti, some d => k ⟨[], [(d, .box (ti.ts.map ybi))], .box d 0⟩
  | _, _ => none
 | .build t parts => match C.info t with
  | some (.s fs ts _) => match y0x C ρ fs (ts.map ybi) parts.toList with
   | some l => bif ct then (match o.dst with
    | some d => bif QO (yS (JX ts l (1000 * (d + 1))).2) (zK l) then k ⟨[], (JX ts l (1000 * (d + 1))).2, .agg (JX ts l (1000 * (d + 1))).1⟩ else none
    | none => none) else k ⟨[], [], .agg l⟩
   | none => none
  | _ => none
 | .buildSlice t n parts => match C.info t, o.dst with
  | some (.c (.sl e ts) _), some d => bif ct then (match ybj lk ρ ts parts.toList (List.replicate n (jV ts)) [] with
   | some (xs, gs) => bif Ki gs d || !Vh gs || !Nat.ble (n * ts.length) 16777216 || !y1b ts then none else k ⟨zE gs, [(d, .deep true 0 e ts xs)], .own d⟩
   | none => none) else match ybk lk ρ ts parts.toList (List.replicate n (jV ts)) [] with
   | some (xs, is) => bif Ki is d || !Nat.ble (n * ts.length) 16777216 then none else k ⟨settles lk is, [(d, .root true e ts xs)], .own d⟩
   | none => none
  | _, _ => none
 | .makeSlice t l c => match C.info t, o.dst with
  | some (.c (.sl e ts) _), some d => match C.info e, ρ l, ρ c with
   | some te, .val (.int .i64) n, .val (.int .i64) m =>
    if 0 ≤ (show Int from n) then if (show Int from n) ≤ (show Int from m) then if (show Int from m) * te.bytes ≤ 140737488351232 then
     bif ct && !y1b ts then none else k ⟨[], [(d, bif ct then .deep false 0 e ts (List.replicate (Int.toNat n) (jV ts)) else .root true e ts (List.replicate (Int.toNat n) (jV ts)))], .own d⟩
    else none else none else none
   | _, _, _ => none
  | _, _ => none
 | .load t x => match C.info t with
  | some ti => bif ct then (match ρ x with
   | .rtp r i c => match lk r with
    | some (.deep _ _ e ts xs) => bif Nat.ble (c + ti.ts.length) ts.length then (match mkA ti.isAgg (((vy ts (rdE ts xs i)).drop c).take ti.ts.length) with
     | some a => k ⟨[(r, .root false e ts xs)], [], a⟩
     | none => none) else none
    | _ => (match QN lk ti (.rtp r i c) with
     | some a => k ⟨[], [], a⟩
     | none => none)
   | p => (match QN lk ti p with
    | some a => k ⟨[], [], a⟩
    | none => none)) else match QN lk ti (ρ x) with
   | some a => k ⟨[], [], a⟩
   | none => none
  | none => none
 | .store t p x => match C.info t with
  | some ti => bif Nat.beq (ρ x).cells.length ti.ts.length then match yal lk (ρ p) (ρ x) with
    | some sets => k ⟨sets, [], .dead⟩
    | none => none
   else none
  | none => none
 | .nilCheck x => match ρ x with
  | .box b off => k ⟨[], [], .box b off⟩
  | .elp e ts xs i c => k ⟨[], [], .elp e ts xs i c⟩
  | .rtp r i c => k ⟨[], [], .rtp r i c⟩
  | _ => none
 | .binOp op t x y _ => match C.info t with
  | some ti => match y9f C op t ti (ρ x) (ρ y) with
   | some b => k ⟨[], [], .val .bool b⟩
   | none => bif y7h ti (ρ x) then ykM op (ρ x) (ρ y) fun a => k ⟨[], [], a⟩ else none
  | none => none
 | .unOp op _ x => match unA op (ρ x) with
  | some a => k ⟨[], [], a⟩
  | none => none
 | .convert src dst x => match C.info src, C.info dst, ρ x with
  | some _, some (.c (.int k2) _), .val (.int _) n => k ⟨[], [], .val (.int k2) (k2.wrap n)⟩
  | some _, some (.c .str _), .val .str x => k ⟨[], [], .val .str x⟩
  | some (.c .str _), some (.c (.sl e [.int .u8]) _), .val .str x => match C.info e with
   | some (.c (.int .u8) _) => if ByteArray.size x < 140737488351232 then k ⟨[], [], .val (.sl e [.int .u8]) (Vg x)⟩ else none
   | _ => none
  | some (.c (.sl e [.int .u8]) _), some (.c .str _), a => match C.info e, y1a lk [.int .u8] a with
   | some (.c (.int .u8) _), some l => k ⟨[], [], .val .str (yak l)⟩
   | _, _ => none
  | _, _, _ => none
 | .slice t x lo hi none =>
  match ρ x, loA ρ lo with
  | a, .val (.int _) l => match ybl lk a with
   | some n => match hiA ρ hi n with
    | .val (.int _) h => if 0 ≤ (show Int from l) then if (show Int from l) ≤ (show Int from h) then if (show Int from h) ≤ n then
      match C.info t, a with
      | some (.c .str _), .val .str x => k ⟨[], [], .val .str (ByteArray.extract x (Int.toNat l) (Int.toNat h))⟩
      | some (.c (.sl _ us) _), .val (.sl e ts) xs => bif Nat.beq us.length ts.length then k ⟨[], [], .val (.sl e ts) (((show List (yB ts) from xs).take (Int.toNat h)).drop (Int.toNat l))⟩ else none
      | some (.c (.sl _ us) _), .own r => match lk r with
       | some (.root own e ts xs) => bif Nat.beq us.length ts.length then (bif ct && own && ykB lo then (match o.dst with
         | some d => bif Nat.beq r d then none else k ⟨[(r, .gone)], [(d, .root true e ts (xs.take (Int.toNat h)))], .own d⟩
         | none => none)
        else bif wn && own && ykB lo then k ⟨[], [], .win r h⟩
        else k ⟨bif own then [(r, .root false e ts xs)] else [], [], .val (.sl e ts) ((xs.take (Int.toNat h)).drop (Int.toNat l))⟩) else none
       | _ => none
      | _, _ => none
     else none else none else none
    | _ => none
   | none => none
  | _, _ => none
 | .fieldAddr t x f => match C.info t with
  | some (.s fs _ _) => match fs[f]?, ρ x with
   | some (d, _), .box b off => k ⟨[], [], .box b (off + d)⟩
   | some (d, _), .elp e ts xs i c => k ⟨[], [], .elp e ts xs i (c + d)⟩
   | some (d, _), .rtp r i c => k ⟨[], [], .rtp r i (c + d)⟩
   | _, _ => none
  | _ => none
 | .field t x f => match C.info t with
  | some (.s fs _ _) => match fs[f]? with
   | some (d, t2) => match C.info t2 with
    | some ti => match ρ x with
     | .agg l => bif Nat.ble (d + ti.ts.length) l.length then match mkA ti.isAgg ((l.drop d).take ti.ts.length) with
      | some a => k ⟨[], [], a⟩
      | none => none else none
     | _ => none
    | none => none
   | none => none
  | _ => none
 | .indexAddr t x i => match C.info t, ρ x, ρ i with
  | some (.c (.sl _ us) _), .val (.sl e ts) xs, .val (.int _) n => if 0 ≤ (show Int from n) then if (show Int from n) < (show List (yB ts) from xs).length then bif Nat.beq us.length ts.length then k ⟨[], [], .elp e ts xs n 0⟩ else none else none else none
  | some (.c (.sl _ us) _), .own r, .val (.int _) n => match lk r with
   | some (.root _ _ ts xs) => if 0 ≤ (show Int from n) then if (show Int from n) < xs.length then bif Nat.beq us.length ts.length then k ⟨[], [], .rtp r n 0⟩ else none else none else none
   | some (.deep _ _ _ ts xs) => if 0 ≤ (show Int from n) then if (show Int from n) < xs.length then bif Nat.beq us.length ts.length then k ⟨[], [], .rtp r n 0⟩ else none else none else none
   | _ => none
  | _, _, _ => none
 | .index t x i => match C.info t, ρ x, ρ i with
  | some (.c .str _), .val .str x, .val (.int _) n => if 0 ≤ (show Int from n) then if h : Int.toNat n < ByteArray.size x then k ⟨[], [], .val (.int .u8) ((ByteArray.get x (Int.toNat n) h).toNat : Int)⟩ else none else none
  | _, _, _ => none
 | .extract x i => match ρ x with
  | .tup l => match l[i]? with
   | some a => k ⟨[], [], a⟩
   | none => none
  | _ => none
 | .call c => match c.callee, c.args.toList, c.argTypes.toList with
  | .builtin .len, [x], t :: _ => match ybl lk (ρ x), y40 C t (ρ x) with
   | some n, true => k ⟨[], [], .val (.int .i64) n⟩
   | _, _ => none
  | .builtin .min, [x, y], _ => match ρ x, ρ y with
   | .val (.int k1) n, .val (.int k2) m => if k1 = k2 then k ⟨[], [], .val (.int k1) (if (show Int from m) < (show Int from n) then m else n)⟩ else none
   | _, _ => none
  | .builtin .append, [x, y], [t, t2] => match C.info t, o.dst with
   | some (.c (.sl e ts) _), some d => match C.info e with
    | some te => bif ct then (match ρ x, ρ y with
     | .nils, .own q => match lk q with
      | some (.deep _ _ e2 ts2 ys) => match Zo (.sl e2 ts2) (.sl e ts) ys with
       | some ys => bif Nat.beq q d || !Nat.beq t t2 then none else if (show List (yB ts) from ys).length * te.bytes < 140737488355328 then k ⟨[(q, .gone)], [(d, .deep true 0 e ts ys)], .own d⟩ else none
       | none => none
      | _ => none
     | .own r, .own q => match lk r, lk q with
      | some (.deep _ _ e1 ts1 xs), some (.deep _ _ e2 ts2 ys) => match Zo (.sl e1 ts1) (.sl e ts) xs, Zo (.sl e2 ts2) (.sl e ts) ys with
       | some xs, some ys => bif Nat.beq r d || Nat.beq q d || Nat.beq r q || !Nat.beq t t2 then none else if ((show List (yB ts) from xs).length + (show List (yB ts) from ys).length) * te.bytes < 140737488355328 then k ⟨[(r, .gone), (q, .gone)], [(d, .deep true 0 e ts ((show List (yB ts) from xs) ++ (show List (yB ts) from ys)))], .own d⟩ else none
       | _, _ => none
      | _, _ => none
     | _, _ => none) else match ρ x, ybh lk (Nat.beq t t2) te (C.info t2) ts (ρ y) with
     | .nils, some ys => if ys.length * te.bytes < 140737488355328 then k ⟨[], [(d, .root true e ts ys)], .own d⟩ else none
     | .own r, some ys => match lk r with
      | some (.root true e1 ts1 xs) => match y7e ts1 ts xs with
       | some xs => bif Nat.beq r d || !Nat.beq e1 e then none else if (xs.length + ys.length) * te.bytes < 140737488355328 then k ⟨[(r, .gone)], [(d, .root true e ts (xs ++ ys))], .own d⟩ else none
       | none => none
      | _ => none
     | _, _ => none
    | none => none
   | _, _ => none
  | .value f, as, _ => match y1c (ρ f) with
   | some (g, ex) => ycl C call lk o.dst g (as.map ρ ++ ex) (C.key g (yhA lk (as.map ρ))) k
   | none => none
  | _, _, _ => none
 | .makeFunc (.func f) first captured => match first.toList, captured.toList with
  | [], [] => k ⟨[], [], .fn f⟩
  | [], [x] => match ρ x with
   | .box b off => bif Nat.beq off 0 then k ⟨[], [], .clo f b⟩ else none
   | _ => none
  | _, _ => none
 | _ => none
structure Dop where
 o : Oper
 g : Option (Nat × Bool)
 vis : Nat
 cls : Nat
 bad : List Nat
 later : List Nat
 mine : List Nat
 hn : Nat
 fp : List Nat
def Ob.ids : Ob → List Nat
 | .box cs => zK cs
 | _ => []
def y3X : List (Nat × Ob) → List Nat
 | [] => []
 | (i, x) :: r => i :: (x.ids ++ y3X r)
def Dop.see (x : Dop) (lk : Lk) : Lk := fun i => bif Ki x.bad i then none else match x.vis with
 | 0 => none
 | 1 => match lk i with
  | some (.box cs) => some (.box cs)
  | _ => none
 | 3 => match lk i with
  | some (.root own e ts xs) => some (.root own e ts xs)
  | some (.deep fin tag e ts xs) => some (.deep fin tag e ts xs)
  | _ => none
 | _ => lk i
def y0y (lk : Lk) : List (Nat × Ob) → Bool
 | [] => true
 | (i, x) :: r => (match lk i with
  | some (.root _ _ _ _) => (match x with
   | .box _ => false
   | _ => true)
  | some (.deep _ _ _ _ _) => (match x with
   | .box _ => false
   | _ => true)
  | _ => false) && y0y lk r
def qA (lk : Lk) : List (Nat × Ob) → Bool
 | [] => true
 | (i, x) :: r => (match lk i with
  | some (.box _) => (match x with
   | .box _ => true
   | _ => false)
  | _ => false) && qA lk r
def yfV : List Nat → List Nat → Bool
 | [], _ => true
 | i :: r, l => Ki l i && yfV r l
def Dop.ok (x : Dop) (lk : Lk) (e : Eff) : Bool :=
 (match x.cls with
  | 0 => WD e.sets
  | 1 => y0y lk e.sets
  | 3 => qA lk e.sets
  | 4 => yfV (yS e.sets) x.fp
  | _ => true) && yfV (yS e.adds) x.mine && (WD x.later || QO x.later (e.a.ids ++ (y3X e.sets ++ y3X e.adds)))
def yw5 (x : Dop) (s : St) (k : St → Option R) : Option R :=
 Zn C call (Nat.beq x.hn 2) (Nat.beq x.hn 3) x.o s.opd (x.see (yq s.o)) fun e => bif x.ok (x.see (yq s.o)) e then k (s.apply x.o.dst e) else none
def yw6 (x : Dop) (s : St) (k : St → Option R) : Option R :=
 Zn C call (Nat.beq x.hn 2) (Nat.beq x.hn 3) x.o s.opd (x.see (yq s.o)) fun e => bif WD e.sets && x.ok (x.see (yq s.o)) e then k (s.apply x.o.dst e) else none
def ko (c : Nat) : List Dop → List Dop → Option (List Dop × Dop × Operand × Operand × List Dop)
 | _, [] => none
 | acc, o :: r => match o.o.op, o.g with
  | .pick (.tmp j) a b, none => bif Nat.beq j c then some (acc.reverse, o, a, b, r) else ko c (o :: acc) r
  | _, _ => ko c (o :: acc) r
def yhC (c : Nat) (b : Bool) : List Dop → List Dop
 | [] => []
 | x :: r => (match x.g with
  | some (c', b') => bif Nat.beq c c' && (b == b') then { x with g := none } else x
  | none => x) :: yhC c b r
def vz (n c : Nat) (b : Bool) : List Nat → List Dop → Bool
 | _, [] => true
 | ds, x :: r => (match x.g with
  | some (c', b') => (Nat.beq c c' && (b == b')) || Ki ds c'
  | none => false) && (match x.o.dst with
  | some d => !Nat.beq d c && vz n c b (bif Nat.blt d n then d :: ds else ds) r
  | none => vz n c b ds r)
def yT (s : St) (x : Operand) : Option Bool := match s.opd x with
 | .val .bool b => some b
 | _ => none
def yH : List Dop → List Nat
 | [] => []
 | x :: r => match x.o.dst with
  | some d => d :: yH r
  | none => yH r
def Z2 : List Dop → List Nat
 | [] => []
 | x :: r => x.mine ++ Z2 r
def zI (s : St) : List Nat → St
 | [] => s
 | d :: r => zI (s.put (some d) .dead) r
def ykN (o : Oper) : Bool := match o.op with
 | .store _ _ _ => true
 | .call c => match c.callee with
  | .builtin .append => true
  | .value (.func f) => (match C.sig f with
   | some sg => sg.ps.any PK.isP || !sg.hfree
   | none => true)
  | _ => false
 | _ => false
def WE (pu : Bool) : {R : Type} → Nat → List Dop → St → (St → Option R) → Option R
 | _, _, [], s, k => k s
 | _, 0, _ :: _, _, _ => none
 | R, n + 1, x :: r, s, k => match x.g with
  | none => bif pu then yw6 C call x s fun s1 => WE pu n r s1 k else yw5 C call x s fun s1 => WE pu n r s1 k
  | some (c, want) => match yT s (.tmp c), ko c [] (x :: r) with
   | some v, some (grp, p, a, b, rest) => bif vz s.t.length c want [] grp then (bif grp.any fun y => ykN C y.o || !Nat.beq y.hn 0 then
     (match want with
     | true => bif v then WE pu n (yhC c true grp) s fun s1 => match yT s1 a with
       | some u => WE pu n rest ((zI s1 (yH grp)).put p.o.dst (.val .bool u)) k
       | none => none
      else match yT (zI s (yH grp)) b with
       | some u => WE pu n rest ((zI s (yH grp)).put p.o.dst (.val .bool u)) k
       | none => none
     | false => bif v then match yT (zI s (yH grp)) a with
       | some u => WE pu n rest ((zI s (yH grp)).put p.o.dst (.val .bool u)) k
       | none => none
      else WE pu n (yhC c false grp) s fun s1 => match yT s1 b with
       | some u => WE pu n rest ((zI s1 (yH grp)).put p.o.dst (.val .bool u)) k
       | none => none)
     else (match want with
     | true => bif v then WE true n (yhC c true grp) s fun s1 => yT s1 a else yT (zI s (yH grp)) b
     | false => bif v then yT (zI s (yH grp)) a else WE true n (yhC c false grp) s fun s1 => yT s1 b).bind fun u =>
      WE pu n rest ((zI (s.forgetAll (Z2 grp)) (yH grp)).put p.o.dst (.val .bool u)) k)
     else none
   | _, _ => none
def y9h (d : Nat) : Nat → List Nat
 | 0 => []
 | n + 1 => y9h d n ++ [1000 * (d + 1) + n]
def Vl (o : Oper) : List Nat := match o.dst with
 | none => []
 | some d => match o.op with
  | .box _ _ => [d]
  | .alloc _ => [d]
  | .buildSlice _ _ _ => [d]
  | .makeSlice _ _ _ => [d]
  | .slice _ _ none _ _ => [d]
  | .build t _ => (match C.info t with
   | some ti => y9h d ti.ts.length
   | none => [])
  | .call c => match c.callee with
   | .builtin .append => [d]
   | .value (.func f) => (1000 * (d + 1) + 500) :: y9h d (match C.sig f with
    | some sg => sg.outs.length
    | none => 24)
   | _ => []
  | _ => []
def Z6 (ops : Array Oper) (o : Oper) : Option (Option (Nat × Bool)) := match o.guard with
 | none => some none
 | some (j, w) => match ops[j]? with
  | some g => match g.dst with
   | some d => some (some (d, w))
   | none => none
  | none => none
def yfW (h : List Nat) (o : Oper) : Nat := match o.dst with
 | some d => bif Ki h (100000 + d) then 2 else bif Ki h (200000 + d) then 3 else bif Ki h d then 1 else 0
 | none => 0
def ybm (h : List Nat) (ops : Array Oper) : List Oper → Option (List Dop)
 | [] => some []
 | o :: r => match Z6 ops o, ybm h ops r with
  | some g, some l => some ({ o, g, vis := 2, cls := 2, bad := [], later := [], mine := Vl C o, hn := yfW h o, fp := [] } :: l)
  | _, _ => none
def y1f (acc : List Nat) : List Edge → Nat
 | [] => 0
 | e :: r => bif Region.binds .any e then (2 ^ e.on ||| acc.getD e.on 0) ||| y1f acc r else y1f acc r
def Kr : List Oper → List Nat → List Nat
 | [], acc => acc
 | o :: r, acc => Kr r (acc ++ [y1f acc o.after.toList])
def yrX (d : Nat) : List Nat → List Nat
 | [] => []
 | e :: r => bif Nat.ble (1000000000000000 + d * 1000000000) e && Nat.blt e (1000000000000000 + (d + 1) * 1000000000) then (e - (1000000000000000 + d * 1000000000)) :: yrX d r else yrX d r
def fpO (h : List Nat) (o : Oper) : List Nat := match o.dst with
 | some d => yrX d h
 | none => match o.op with
  | .store _ (.tmp p) _ => yrX p h
  | _ => []
def yyy (h : List Nat) (o : Oper) : Nat := match o.op with
 | .store _ _ _ => 2
 | .call c => match c.callee with
  | .builtin .append => 1
  | .builtin _ => 0
  | .value (.func f) => (match C.sig f with
   | some sg => bif sg.ps.any PK.isP then (match o.dst with
     | some d => bif Ki h d then 2 else 3
     | none => bif sg.hfree && (sg.ps.flatMap PK.ownsIn).all not then 3 else 2) else bif sg.hfree then 0 else 1
   | none => 2)
  | _ => 2
 | _ => (match o.dst with
  | some d => bif Ki h d || Ki h (100000 + d) then 1 else 0
  | none => 0)
def qB (h : List Nat) (o : Oper) : Nat := bif WD (fpO h o) then yyy C h o else 4
def ycm (a b : Nat) : Nat := match a with
 | 0 => b
 | _ => (match b with
  | 0 => a
  | _ => bif Nat.beq a b then a else 2)
def ykC (c : Nat) : Nat := bif Nat.beq c 4 then 0 else c
def yfX : Nat → Nat
 | 0 => 2
 | 1 => 1
 | 3 => 3
 | _ => 0
def y1g (l : List Operand) : List Nat := match l with
 | [] => []
 | .tmp t :: r => t :: y1g r
 | _ :: r => y1g r
def yen (ops : Array Oper) (o : Oper) : List Nat := (match Z6 ops o with
 | some (some (c, _)) => [c]
 | _ => []) ++ y1g o.op.operands.toList
def yrY (l : List Nat) : Option Nat → Bool
 | none => false
 | some d => Ki l d
def y4j (ops : Array Oper) (x y : Oper) : Bool := !yrY (yen ops y) x.dst && !yrY (yen ops x) y.dst && (match x.dst, y.dst with
 | some d, some e => !Nat.beq d e
 | _, _ => true)
def y0z (o : Oper) : Bool := match o.op with
 | .pick _ _ _ => true
 | _ => false
def yfY (ms : List Nat) (i j : Nat) : Bool := (ms.getD i 0).testBit j || (ms.getD j 0).testBit i
structure Gathered where
 ok : Bool
 top : Nat
 bad : List Nat
 later : List Nat
def Kt (h : List Nat) (ops : Array Oper) (ms : List Nat) (i : Nat) (o : Oper) : Nat → List Oper → Gathered
 | _, [] => ⟨true, 0, [], []⟩
 | j, y :: r => match Kt h ops ms i o (j + 1) r with
  | g => bif Nat.beq i j then g else
    bif yfY ms i j then (bif (ms.getD i 0).testBit j then g else { g with later := Vl C y ++ g.later })
    else ⟨g.ok && y4j ops o y && !y0z o && !y0z y && (Nat.beq (qB C h o) 0 || Nat.beq (qB C h y) 0 || (Nat.beq (qB C h o) 4 && Nat.beq (qB C h y) 4 && QO (fpO h o) (fpO h y))), ycm (ykC (qB C h y)) g.top, Vl C y ++ (fpO h y ++ g.bad), Vl C y ++ g.later⟩
def y7i (h : List Nat) (ops : Array Oper) (ms : List Nat) : Nat → List Oper → Option (List Dop)
 | _, [] => some []
 | i, o :: r => match Z6 ops o, y7i h ops ms (i + 1) r, Kt C h ops ms i o 0 ops.toList with
  | some g, some l, q => bif q.ok && Nat.blt (ms.getD i 0) (2 ^ i) then some ({ o, g, vis := yfX q.top, cls := qB C h o, bad := q.bad, later := q.later, mine := Vl C o, hn := yfW h o, fp := fpO h o } :: l) else none
  | _, _, _ => none
def yw7 (h : List Nat) (dr : Bool) (ops : Array Oper) : Option (List Dop) := bif dr then y7i C h ops (Kr ops.toList []) 0 ops.toList else ybm C h ops ops.toList
def y4k : List Oper → List Nat
 | [] => []
 | o :: r => Vl C o ++ y4k r
def yhD (id : Nat) : List Nat → List Nat
 | [] => []
 | e :: r => bif Nat.ble (2000000000000000000 + id * 1000000) e && Nat.blt e (2000000000000000000 + (id + 1) * 1000000) then (e - (2000000000000000000 + id * 1000000)) :: yhD id r else yhD id r
def ycn (s : St) : List Nat → List Nat
 | [] => []
 | d :: r => (s.t.getD d .dead).ids ++ (((s.t.getD d .dead).ids.flatMap fun i => match yq s.o i with
  | some ob => ob.ids
  | none => []) ++ ycn s r)
def ykO (h : List Nat) (id : Nat) (s : St) : St := match yhD id h with
 | [] => s
 | l => s.setAll (settles (yq s.o) (ycn s l))
structure Ks (R : Type) where
 exit : Nat → St → Option R
 ret : St → Option R
abbrev Lp : Type 1 := Nat → St → {R : Type} → (Option Nat → St → Option R) → Option R
def zW : Code → Nat
 | .region i _ _ => i
 | .seq a _ => zW a
 | .block _ c => zW c
 | .loop c => zW c
 | .cond _ a _ => zW a
 | _ => 0
def y58 (l : List Nat) : Nat → List A → List A
 | _, [] => []
 | i, a :: r => (bif Ki l i then a else .dead) :: y58 l (i + 1) r
mutual
def A.resolve (lk : Lk) : A → A
 | .own o => match lk o with
  | some (.root true _ _ _) => .own o
  | some (.root false e ts xs) => .val (.sl e ts) xs
  | some (.deep _ _ _ _ _) => .own o
  | _ => .dead
 | .rtp o i c => match lk o with
  | some (.root true _ _ _) => .rtp o i c
  | some (.root false e ts xs) => .elp e ts xs i c
  | some (.deep _ _ _ _ _) => .rtp o i c
  | _ => .dead
 | .bor _ _ _ => .dead
 | .win _ _ => .dead
 | .agg l => .agg (Y0 lk l)
 | .tup l => .tup (Y0 lk l)
 | .dead => .dead
 | .und => .dead
 | .val t x => .val t x
 | .nils => .nils
 | .nilp => .nilp
 | .box b off => match lk b with
  | some (.box _) => bif Nat.blt b 10000000 then .box b off else .dead
  | _ => .dead
 | .clo f b => match lk b with
  | some (.box _) => bif Nat.blt b 10000000 then .clo f b else .dead
  | _ => .dead
 | .elp e ts xs j c => .elp e ts xs j c
 | .fn f => .fn f
def Y0 (lk : Lk) : List A → List A
 | [] => []
 | a :: r => a.resolve lk :: Y0 lk r
end
mutual
def A.ren (m : Nat → Nat) : A → A
 | .own o => .own (m o)
 | .rtp o i c => .rtp (m o) i c
 | .clo f b => .clo f (m b)
 | .bor o i c => .bor (m o) i c
 | .win o h => .win (m o) h
 | .agg l => .agg (y9i m l)
 | .tup l => .tup (y9i m l)
 | .dead => .dead
 | .und => .und
 | .val t x => .val t x
 | .nils => .nils
 | .nilp => .nilp
 | .box b off => .box (m b) off
 | .elp e ts xs j c => .elp e ts xs j c
 | .fn f => .fn f
def y9i (m : Nat → Nat) : List A → List A
 | [] => []
 | a :: r => a.ren m :: y9i m r
end
def ybn (lk : Lk) : List Nat → List (Nat × List A)
 | [] => []
 | i :: r => match lk i with
  | some (.box cs) => (i, Y0 lk cs) :: ybn lk r
  | _ => ybn lk r
def ykD : List (Nat × List A) → List Nat
 | [] => []
 | (_, cs) :: r => zK cs ++ ykD r
def ybo (seen : List Nat) : List Nat → List Nat
 | [] => []
 | i :: r => bif Ki seen i then ybo seen r else i :: ybo (i :: seen) r
def y0A (lk : Lk) : List Nat → List (Nat × Ob)
 | [] => []
 | i :: r => match lk i with
  | some (.root true e ts xs) => (i, .root true e ts xs) :: y0A lk r
  | some (.deep fin tag e ts xs) => (i, .deep fin tag e ts xs) :: y0A lk r
  | _ => y0A lk r
def y0B : List (Nat × Ob) → Nat → Nat → Nat
 | [], _, i => i
 | (j, _) :: r, n, i => bif Nat.beq j i then n else y0B r (n + 1) i
def yhE (m : Nat → Nat) : List (Nat × List A) → List (Nat × Ob)
 | [] => []
 | (i, cs) :: r => (i, .box (y9i m cs)) :: yhE m r
def yhF : List (Nat × Ob) → Nat → List (Nat × Ob)
 | [], _ => []
 | (_, x) :: r, n => (n, x) :: yhF r (n + 1)
def y0C (n : Nat) : List Nat → Bool
 | [] => true
 | i :: r => Nat.blt i n && y0C n r
def St.keep (s : St) (l : List Nat) : Option St :=
 match Y0 (yq s.o) (y58 l 0 s.t) with
 | t => match ybn (yq s.o) (ybo [] (zK t)) with
  | bx => match y0A (yq s.o) (ybo [] (zK t ++ ykD bx)) with
   | rs => bif y0C 10000000 (yS bx) then some ⟨y9i (y0B rs 10000000) t, yhE (y0B rs 10000000) bx ++ yhF rs 10000000⟩ else none
def zt {R T : Type} (step : (T → Option R) → T → Option R) : Nat → T → Option R
 | 0, _ => none
 | n + 1, s => step (zt step n) s
def Ks.keep {R : Type} (lx : List Nat) (κ : Option Nat → St → Option R) : Ks R := { exit := fun i s => (s.keep lx).bind (κ (some i)), ret := fun s => (s.keep lx).bind (κ none) }
def Ks.go {R : Type} (K : Ks R) : Option Nat → St → Option R
 | some i, s => K.exit i s
 | none, s => K.ret s
def QP (lp : Lp) (fn : Nat) {R : Type} : Code → St → (St → Option R) → Ks R → Option R
 | .skip, s, k, _ => k s
 | .region id ops dr, s, k, _ => match yw7 C (C.hint fn) dr ops with
  | some l => WE C call false (l.length + 1) l (bif dr then (ykO (C.hint fn) id s).forgetAll (y4k C ops.toList) else ykO (C.hint fn) id s) k
  | none => none
 | .seq a b, s, k, K => QP lp fn a s (fun s1 => QP lp fn b s1 k K) K
 | .cond c a b, s, k, K => match yT s c with
  | some x => bif x then QP lp fn a s k K else QP lp fn b s k K
  | none => none
 | .block i c, s, k, K => QP lp fn c s k { exit := fun j s => bif Nat.beq i j then k s else K.exit j s, ret := K.ret }
 | .loop c, s, _, K => match C.live fn (zW c) with
  | some (l, _) => (s.keep l).bind fun s0 => lp (zW c) s0 K.go
  | none => none
 | .exit i, s, _, K => K.exit i s
 | .ret, s, _, K => K.ret s
 | _, _, _, _ => none
def yco (lp : Lp) (fn : Nat) (c : Code) (l lx : List Nat) {R : Type} (κ : Option Nat → St → Option R) (again : St → Option R) (s : St) : Option R :=
 QP C call lp fn c s (fun s2 => (s2.keep l).bind again) (Ks.keep lx κ)
def Zq : Code → List Code
 | .seq a b => Zq a ++ Zq b
 | .cond _ a b => Zq a ++ Zq b
 | .block _ c => Zq c
 | .loop c => c :: Zq c
 | _ => []
def y4l : List PK → List A → Nat → List A × List (Nat × Ob)
 | [], _, _ => ([], [])
 | .v agg ts _ :: ps, l, i => match y4l ps (l.drop ts.length) (i + 1) with
  | (as, obs) => ((bif agg then .agg (l.take ts.length) else (l.take ts.length).headD .dead) :: as, obs)
 | .p wr ts _ :: ps, l, i => match y4l ps (l.drop ts.length) (i + 1) with
  | (as, obs) => (yel wr (900 + i) :: as, (900 + i, .box (l.take ts.length)) :: obs)
 | .k f :: ps, l, i => match y4l ps l (i + 1) with
  | (as, obs) => (.fn f :: as, obs)
def enter (sg : Sig) (n : Nat) (ts : List Ty) (x : yB ts) : St :=
 match yw sg.deep sg.back ts (sg.ps.flatMap PK.ownsIn) x 950 with
 | (l, obs) => match y4l sg.ps l 0 with
  | (as, bx) => ⟨as ++ List.replicate (n - as.length) .dead, (((⟨[], []⟩ : St).makeAll obs).makeAll bx).o⟩
def yce (s : St) : List ResultVar → List RK → Option (List A)
 | [], [] => some []
 | .tmp t :: r, k :: ks => match jk k.agg (s.t.getD t .dead), yce s r ks with
  | some c, some l => bif Nat.beq c.length k.ts.length then some (c ++ l) else none
  | _, _ => none
 | .cell a t :: r, k :: ks => match C.info t with
  | some ti => match QN (yq s.o) ti (s.t.getD a .dead) with
   | some x => match jk k.agg x, yce s r ks with
    | some c, some l => bif Nat.beq c.length k.ts.length then some (c ++ l) else none
    | _, _ => none
   | none => none
  | none => none
 | _, _ => none
def y1h (s : St) : List PK → Nat → Option (List A)
 | [], _ => some []
 | .v _ _ _ :: ps, i => y1h s ps (i + 1)
 | .k _ :: ps, i => y1h s ps (i + 1)
 | .p _ ts _ :: ps, i => match yq s.o (900 + i), y1h s ps (i + 1) with
  | some (.box cs), some l => bif Nat.beq cs.length ts.length then some (cs ++ l) else none
  | _, _ => none
def yrZ (s : St) : List ResultVar → List RK → Option (List A)
 | [.tmp t], [k] => match s.t.getD t .dead with
  | .box b off => match yq s.o b with
   | some (.box cs) => bif Nat.beq off 0 && Nat.beq cs.length k.ts.length && (Nat.blt b 900 || Nat.ble 950 b) then some cs else none
   | _ => none
  | _ => none
 | _, _ => none
def y59 : List (Nat × Ob) → Nat → Option Nat
 | [], _ => none
 | (i, .deep _ tag _ _ _) :: r, n => bif Nat.beq tag n then some i else y59 r n
 | _ :: r, n => y59 r n
def y7j (s : St) : List Bool → Nat → Option (List A)
 | [], _ => some []
 | false :: os, n => y7j s os (n + 1)
 | true :: os, n => match y59 s.o (n + 1) with
  | some i => match yq s.o i, y7j s os (n + 1) with
   | some (.deep _ tag _ _ _), some l => bif Nat.beq tag (n + 1) then some (.own i :: l) else none
   | _, _ => none
  | none => none
def yan (sg : Sig) (rs : List ResultVar) (ts : List Ty) (s : St) : Option (yB ts) :=
 match (bif sg.ptr then yrZ s rs sg.rs else yce C s rs sg.rs) with
 | some l => match y1h s sg.ps 0 with
  | some l2 => match (bif sg.back then (bif sg.ptr || sg.ps.any PK.isP || !Nat.beq (sg.ps.flatMap PK.ownsIn).length sg.ins.length then none else y7j s (sg.ps.flatMap PK.ownsIn) 0) else some []) with
   | some l3 => match WC (yq s.o) sg.deep false ts sg.owns ((l ++ l2) ++ l3) with
    | some (x, is, gs) => bif Vh gs && QO gs is then some x else none
    | none => none
   | none => none
  | none => none
 | none => none
end
def yeo (C : Ctx) (call : C.Sem) (lp : Lp) (f : Nat) (fn : Func) (c : Code) (sg : Sig) (ins outs : List Ty) (x : yB ins) : Option (yB outs) :=
 QP C call lp f c (enter sg fn.ntmps ins x) (yan C sg fn.results.toList outs) { exit := fun _ _ => none, ret := yan C sg fn.results.toList outs }
def tab {C : Ctx} : List (Sigma fun f : Nat => yB (C.ins f) → Option (yB (C.outs f))) → C.Sem
 | [], _, _ => none
 | ⟨f, F⟩ :: r, g, x => if h : f = g then (h ▸ F) x else tab r g x
end Go.Proofs.YtmapoakbdgpamaaGreat.R
