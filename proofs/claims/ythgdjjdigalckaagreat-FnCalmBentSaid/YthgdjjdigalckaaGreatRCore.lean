/- An evaluator of the model's code over typed plain values: no memory, no addresses. No condition. -/
import Derived.Below
import Derived.Maps.AppendAt
import Derived.Orders
import Derived.LoopN
import Derived.RowKit
import Derived.Laws.Entries
set_option linter.all false
namespace Go.Proofs.YthgdjjdigalckaaGreat.R
open Go.RowKit
inductive Ty where
 | int (k : IntKind)
 | bool
 | str
 | sl (e : Nat) (ts : List Ty)
mutual
def El : Ty → Type
 | .int _ => Int
 | .bool => Bool
 | .str => ByteArray
 | .sl _ ts => List (zc ts)
def zc : List Ty → Type
 | [] => Unit
 | t :: [] => El t
 | t :: u :: r => El t × zc (u :: r)
end
mutual
def Ty.eqb : Ty → Ty → Bool
 | .int k, .int k' => decide (k = k')
 | .bool, .bool => true
 | .str, .str => true
 | .sl e ts, .sl e' ts' => Nat.beq e e' && Ty.eqbs ts ts'
 | _, _ => false
def Ty.eqbs : List Ty → List Ty → Bool
 | [], [] => true
 | t :: ts, u :: us => Ty.eqb t u && Ty.eqbs ts us
 | _, _ => false
end
mutual
theorem Ty.eqb_eq : ∀ (a b : Ty), Ty.eqb a b = true → a = b
 | .int k, .int k', h => by simpa [Ty.eqb] using h
 | .bool, .bool, _ => rfl
 | .str, .str, _ => rfl
 | .sl e ts, .sl e' ts', h => by
  simp only [Ty.eqb, Bool.and_eq_true] at h
  rw [Nat.eq_of_beq_eq_true h.1, Ty.eqbs_eq ts ts' h.2]
 | .int _, .bool, h | .int _, .str, h | .int _, .sl _ _, h | .bool, .int _, h | .bool, .str, h | .bool, .sl _ _, h | .str, .int _, h | .str, .bool, h | .str, .sl _ _, h | .sl _ _, .int _, h | .sl _ _, .bool, h | .sl _ _, .str, h => by simp [Ty.eqb] at h
theorem Ty.eqbs_eq : ∀ (a b : List Ty), Ty.eqbs a b = true → a = b
 | [], [], _ => rfl
 | t :: ts, u :: us, h => by
  simp only [Ty.eqbs, Bool.and_eq_true] at h
  rw [Ty.eqb_eq t u h.1, Ty.eqbs_eq ts us h.2]
 | [], _ :: _, h | _ :: _, [], h => by simp [Ty.eqbs] at h
end
def Qu (t t' : Ty) (x : El t) : Option (El t') := if h : Ty.eqb t t' = true then some ((Ty.eqb_eq t t' h) ▸ x) else none
def y6m (ts ts' : List Ty) (xs : List (zc ts)) : Option (List (zc ts')) := if h : Ty.eqbs ts ts' = true then some ((Ty.eqbs_eq ts ts' h) ▸ xs) else none
mutual
def y6n : (t : Ty) → El t
 | .int _ => (0 : Int)
 | .bool => false
 | .str => (⟨#[]⟩ : ByteArray)
 | .sl _ ts => ([] : List (zc ts))
def VY : (ts : List Ty) → zc ts
 | [] => ()
 | t :: [] => y6n t
 | t :: u :: r => (y6n t, VY (u :: r))
end
inductive A where
 | dead
 | und
 | val (t : Ty) (x : El t)
 | nils
 | nilp
 | own (o : Nat)
 | agg (l : List A)
 | tup (l : List A)
 | box (b off : Nat)
 | elp (e : Nat) (ts : List Ty) (xs : List (zc ts)) (i : Int) (c : Nat)
 | rtp (o : Nat) (i : Int) (c : Nat)
 | fn (f : Nat)
 | clo (f b : Nat)
 | win (o : Nat) (h : Int)
 | top (e : Nat) (ts : List Ty) (xs : List (zc ts))
inductive Ob where
 | box (cells : List A)
 | root (own : Bool) (e : Nat) (ts : List Ty) (xs : List (zc ts))
 | gone
structure St where
 t : List A
 o : List (Nat × Ob)
structure Eff where
 sets : List (Nat × Ob)
 adds : List (Nat × Ob)
 a : A
inductive TI where
 | c (t : Ty) (bytes : Nat)
 | s (fs : List (Nat × Nat)) (ts : List Ty) (bytes : Nat)
def TI.ts : TI → List Ty
 | .c t _ => [t]
 | .s _ ts _ => ts
def TI.isAgg : TI → Bool
 | .c _ _ => false
 | .s _ _ _ => true
def TI.bytes : TI → Nat
 | .c _ b => b
 | .s _ _ b => b
inductive PK where
 | v (agg : Bool) (ts : List Ty) (own : List Bool)
 | p (wr : Option Nat) (ts : List Ty) (own : List Bool)
 | k (f : Nat)
structure RK where
 agg : Bool
 ts : List Ty
 own : List Bool
structure Sig where
 ps : List PK
 rs : List RK
 ptr : Bool
 back : Bool
def PK.ins : PK → List Ty
 | .v _ ts _ => ts
 | .p _ ts _ => ts
 | .k _ => []
def PK.outs : PK → List Ty
 | .v _ _ _ => []
 | .p _ ts _ => ts
 | .k _ => []
def PK.owns : PK → List Bool
 | .v _ _ _ => []
 | .p _ _ os => os
 | .k _ => []
def PK.ownsIn : PK → List Bool
 | .v _ _ os => os
 | .p _ _ os => os
 | .k _ => []
def PK.isP : PK → Bool
 | .v _ _ _ => false
 | .p _ _ _ => true
 | .k _ => true
def PK.back : PK → Option Nat
 | .p _ ts _ => some ts.length
 | _ => none
def Sig.ins (s : Sig) : List Ty := s.ps.flatMap PK.ins
def Sig.outs (s : Sig) : List Ty := s.rs.flatMap RK.ts ++ s.ps.flatMap PK.outs
def Sig.owns (s : Sig) : List Bool := s.rs.flatMap RK.own ++ s.ps.flatMap PK.owns
def Ty.flat : Ty → Bool
 | .sl _ _ => false
 | _ => true
def y8z : List Ty → Bool
 | [] => true
 | t :: r => t.flat && y8z r
def y8A : List Ty → List Bool → Bool
 | [], _ => true
 | t :: r, os => (t.flat || (os.headD false && (match t with
  | .sl _ ts => y8z ts
  | _ => false))) && y8A r os.tail
def Sig.hfree (s : Sig) : Bool := y8A s.outs s.owns
structure Ctx where
 info : Nat → Option TI
 sig : Nat → Option Sig
 live : Nat → Nat → Option (List Nat × List Nat)
 key : Nat → List Nat → Nat
 fid : Nat → Nat
 hint : Nat → List Nat
 gl : (Nat → Option Obj) → Prop := fun _ => True
 glm : ∀ H H' : Nat → Option Obj, (∀ k o, H k = some o → H' k = some o) → gl H → gl H' := by exact fun _ _ _ h => h
def Ctx.ins (C : Ctx) (f : Nat) : List Ty := match C.sig f with
 | some s => s.ins
 | none => []
def Ctx.outs (C : Ctx) (f : Nat) : List Ty := match C.sig f with
 | some s => s.outs
 | none => []
abbrev Ctx.Sem (C : Ctx) : Type := (f : Nat) → zc (C.ins f) → Option (zc (C.outs f))
def yaq {α : Type} : List (Nat × α) → Nat → Option α
 | [], _ => none
 | (j, x) :: r, i => bif Nat.beq j i then some x else yaq r i
def eqN : List Nat → List Nat → Bool
 | [], [] => true
 | i :: l, j :: m => Nat.beq i j && eqN l m
 | _, _ => false
def Yt : List (Nat × List Nat × Nat) → Nat → List Nat → Nat
 | [], f, _ => f
 | (g, l, k) :: r, f, m => bif Nat.beq g f && eqN l m then k else Yt r f m
def ymM : List (Nat × List Nat × Nat) → Nat → Nat
 | [], f => f
 | (g, _, k) :: r, f => bif Nat.beq k f then g else ymM r f
def yhN : List (Nat × List Nat) → Nat → List Nat
 | [], _ => []
 | (g, l) :: r, f => bif Nat.beq g f then l else yhN r f
def yY : List (Nat × Ob) → Nat → Option Ob
 | [], _ => none
 | (j, x) :: r, i => bif Nat.beq j i then some x else yY r i
def Vj (l : List Nat) (i : Nat) : Bool := match l with
 | [] => false
 | j :: r => Nat.beq j i || Vj r i
mutual
def A.forget (i : Nat) : A → A
 | .own o => bif Nat.beq o i then .dead else .own o
 | .box b off => bif Nat.beq b i then .dead else .box b off
 | .rtp o j c => bif Nat.beq o i then .dead else .rtp o j c
 | .clo f b => bif Nat.beq b i then .dead else .clo f b
 | .win o h => bif Nat.beq o i then .dead else .win o h
 | .agg l => .agg (zd i l)
 | .tup l => .tup (zd i l)
 | .dead => .dead
 | .und => .und
 | .val t x => .val t x
 | .nils => .nils
 | .nilp => .nilp
 | .elp e ts xs j c => .elp e ts xs j c
 | .top e ts xs => .top e ts xs
 | .fn f => .fn f
def zd (i : Nat) : List A → List A
 | [] => []
 | a :: r => A.forget i a :: zd i r
end
def Ob.forget (i : Nat) : Ob → Ob
 | .box cs => .box (zd i cs)
 | .root own e ts xs => .root own e ts xs
 | .gone => .gone
def Y2 (i : Nat) : List (Nat × Ob) → List (Nat × Ob)
 | [] => []
 | (j, x) :: r => bif Nat.beq j i then Y2 i r else (j, x.forget i) :: Y2 i r
def St.forget (s : St) (i : Nat) : St := ⟨zd i s.t, Y2 i s.o⟩
def St.forgetAll (s : St) : List Nat → St
 | [] => s
 | i :: r => (s.forget i).forgetAll r
def St.make (s : St) (i : Nat) (x : Ob) : St := ⟨zd i s.t, (i, x) :: Y2 i s.o⟩
def St.makeAll (s : St) : List (Nat × Ob) → St
 | [] => s
 | (i, x) :: r => (s.make i x).makeAll r
def Q4 : List (Nat × Ob) → Nat → Ob → List (Nat × Ob)
 | [], _, _ => []
 | (j, x) :: r, i, y => bif Nat.beq j i then (j, y) :: r else (j, x) :: Q4 r i y
def St.set (s : St) (i : Nat) (x : Ob) : St := ⟨s.t, Q4 s.o i x⟩
def St.setAll (s : St) : List (Nat × Ob) → St
 | [] => s
 | (i, x) :: r => (s.set i x).setAll r
def St.put (s : St) (d : Option Nat) (a : A) : St := match d with
 | some d => ⟨s.t.set d a, s.o⟩
 | none => s
def St.apply (s : St) (d : Option Nat) (e : Eff) : St := ((s.makeAll e.adds).setAll e.sets).put d e.a
def y8B : Value → A
 | .int k n => .val (.int k) n
 | .bool b => .val .bool b
 | .string s => .val .str s
 | .slice none 0 0 => .nils
 | .pointer none => .nilp
 | _ => .dead
def y6o : Value → A
 | .agg cs => .agg (cs.toList.map y8B)
 | v => y8B v
def St.opd (s : St) : Operand → A
 | .tmp i => s.t.getD i .dead
 | .const v => y6o v
 | .func f => .fn f
 | .global _ => .dead
def Q5 : (ts : List Ty) → zc ts → List A
 | [], _ => []
 | t :: [], x => [.val t x]
 | t :: u :: r, x => .val t x.1 :: Q5 (u :: r) x.2
def A.cells : A → List A
 | .agg l => l
 | a => [a]
def A.one : A → Bool
 | .dead => false
 | .und => false
 | .agg _ => false
 | .tup _ => false
 | _ => true
def Kr : List A → Bool
 | [] => true
 | a :: r => a.one && Kr r
def mkA (agg : Bool) (l : List A) : Option A := bif agg then some (.agg l) else match l with
 | [a] => some a
 | _ => none
abbrev Lk := Nat → Option Ob
def toT (lk : Lk) (t : Ty) : A → Option (El t × List Nat)
 | .val t' x => (Qu t' t x).map fun y => (y, [])
 | .nils => match t with
  | .sl e ts => some (y6n (.sl e ts), [])
  | _ => none
 | .own o => match lk o with
  | some (.root _ e ts xs) => (Qu (.sl e ts) t xs).map fun y => (y, [o])
  | _ => none
 | .win o h => match lk o with
  | some (.root _ e ts xs) => (Qu (.sl e ts) t (xs.take (Int.toNat h))).map fun y => (y, [o])
  | _ => none
 | _ => none
def toE (lk : Lk) : (ts : List Ty) → List A → Option (zc ts × List Nat)
 | [], [] => some ((), [])
 | t :: [], [a] => toT lk t a
 | t :: u :: r, a :: l => match toT lk t a with
  | some (x, is) => match toE lk (u :: r) l with
   | some (y, js) => some ((x, y), is ++ js)
   | none => none
  | none => none
 | _, _ => none
def settles (lk : Lk) : List Nat → List (Nat × Ob)
 | [] => []
 | o :: r => match lk o with
  | some (.root _ e ts xs) => (o, .root false e ts xs) :: settles lk r
  | _ => settles lk r
def ycD : (ts : List Ty) → zc ts → Nat → (ys : List (Sigma El)) → Option (zc ts)
 | _, x, _, [] => some x
 | [], _, _, _ :: _ => none
 | t :: [], _, 0, [⟨u, y⟩] => Qu u t y
 | _ :: [], _, _, _ => none
 | t :: v :: r, x, 0, ⟨u, y⟩ :: ys => match Qu u t y with
  | some z => match ycD (v :: r) x.2 0 ys with
   | some w => some (z, w)
   | none => none
  | none => none
 | t :: v :: r, x, c + 1, ys => match ycD (v :: r) x.2 c ys with
  | some w => some (x.1, w)
  | none => none
def yal (lk : Lk) : A → Option (Sigma fun ts : List Ty => Nat × List (zc ts))
 | .val (.sl e ts) xs => some ⟨ts, e, xs⟩
 | .top e ts xs => some ⟨ts, e, xs⟩
 | .own o => match lk o with
  | some (.root _ e ts xs) => some ⟨ts, e, xs⟩
  | _ => none
 | _ => none
def y1C (lk : Lk) (ts : List Ty) (a : A) : Option (List (zc ts)) := match a with
 | .nils => some []
 | a => match yal lk a with
  | some ⟨ts', _, xs⟩ => y6m ts' ts xs
  | none => none
def y49 (op : BinOp) (k : IntKind) (x y : Int) : Option A :=
 match op with
 | .add => some (.val (.int k) (k.wrap (x + y)))
 | .sub => some (.val (.int k) (k.wrap (x - y)))
 | .mul => some (.val (.int k) (k.wrap (x * y)))
 | .quo => if y = 0 then none else some (.val (.int k) (k.wrap (x.tdiv y)))
 | .rem => if y = 0 then none else some (.val (.int k) (x.tmod y))
 | .and => some (.val (.int k) (bits .and k x y))
 | .or => some (.val (.int k) (bits .or k x y))
 | .xor => some (.val (.int k) (bits .xor k x y))
 | .eql => some (.val .bool (x == y))
 | .neq => some (.val .bool (x != y))
 | .lss => some (.val .bool (decide (x < y)))
 | .leq => some (.val .bool (decide (x ≤ y)))
 | .gtr => some (.val .bool (decide (x > y)))
 | .geq => some (.val .bool (decide (x ≥ y)))
 | _ => none
def ymE (op : BinOp) (k : IntKind) (x y : Int) : Option A :=
 if y < 0 then none else match op with
 | .shl => some (.val (.int k) (k.wrap (x * 2 ^ (min y.toNat k.bits))))
 | .shr => some (.val (.int k) (x.fdiv (2 ^ (min y.toNat k.bits))))
 | _ => none
def y6p (op : BinOp) (x y : ByteArray) : Option A :=
 match op with
 | .add => if x.size + y.size < 140737488355328 then some (.val .str (x ++ y)) else none
 | .eql => some (.val .bool (x.toList == y.toList))
 | .neq => some (.val .bool (!(x.toList == y.toList)))
 | .lss => some (.val .bool (Op.bytesLess x.toList y.toList))
 | .leq => some (.val .bool (Op.bytesLess x.toList y.toList || x.toList == y.toList))
 | .gtr => some (.val .bool (!(Op.bytesLess x.toList y.toList || x.toList == y.toList)))
 | .geq => some (.val .bool (!Op.bytesLess x.toList y.toList))
 | _ => none
def y2L (op : BinOp) (x y : Bool) : Option A := match op with
 | .eql => some (.val .bool (x == y))
 | .neq => some (.val .bool (!(x == y)))
 | _ => none
def yam (op : BinOp) : A → A → Option A
 | .val .bool x, .val .bool y => y2L op x y
 | .val (.int k) x, .val (.int k') y => match op with
  | .shl => ymE .shl k x y
  | .shr => ymE .shr k x y
  | op => if k = k' then y49 op k x y else none
 | .val .str x, .val .str y => y6p op x y
 | _, _ => none
def ymN {R : Type} (op : BinOp) : A → A → (A → Option R) → Option R
 | .val .bool x, .val .bool y, k => match y2L op x y with
  | some a => k a
  | none => none
 | .val (.int k1) x, .val (.int k2) y, k => match op with
  | .shl => if (show Int from y) < 0 then none else k (.val (.int k1) (k1.wrap ((show Int from x) * 2 ^ (min (Int.toNat y) k1.bits))))
  | .shr => if (show Int from y) < 0 then none else k (.val (.int k1) (Int.fdiv x (2 ^ (min (Int.toNat y) k1.bits))))
  | .quo => if k1 = k2 then if (show Int from y) = 0 then none else k (.val (.int k1) (k1.wrap (Int.tdiv x y))) else none
  | .rem => if k1 = k2 then if (show Int from y) = 0 then none else k (.val (.int k1) (Int.tmod x y)) else none
  | op => if k1 = k2 then match y49 op k1 x y with
   | some a => k a
   | none => none else none
 | .val .str x, .val .str y, k => match op with
  | .add => if ByteArray.size x + ByteArray.size y < 140737488355328 then k (.val .str (show ByteArray from (show ByteArray from x) ++ (show ByteArray from y))) else none
  | op => match y6p op x y with
   | some a => k a
   | none => none
 | _, _, _ => none
theorem ydv {R : Type} (op : BinOp) (x y : A) (k : A → Option R) : ymN op x y k = (yam op x y).bind k := by
 cases x with
 | val t1 x =>
  cases y with
  | val t2 y =>
   cases t1 <;> cases t2 <;> try rfl
   ·rename_i k1 k2
    cases op <;> simp only [ymN, yam, ymE, y49] <;> (repeat' split) <;> first | rfl | simp_all
   ·simp only [ymN, yam]
    cases y2L op x y <;> rfl
   ·cases op <;> simp only [ymN, yam, y6p] <;> (repeat' split) <;> first | rfl | simp_all
  | _ => cases t1 <;> rfl
 | _ => rfl
def y8C (ti : TI) : A → Bool
 | .val .bool _ => (match ti with
  | .c .bool _ => true
  | _ => false)
 | _ => true
def unA (op : UnOp) : A → Option A
 | .val .bool b => match op with
  | .not => some (.val .bool (!b))
  | _ => none
 | .val (.int k) n => match op with
  | .neg => some (.val (.int k) (k.wrap (0 - (show Int from n))))
  | _ => none
 | _ => none
def Vk (s : ByteArray) : List Int := s.data.toList.map fun b => (b.toNat : Int)
def ybH (l : List Int) : ByteArray := ⟨(l.map fun n => UInt8.ofNat n.toNat).toArray⟩
def ycE (lk : Lk) (same : Bool) (te : TI) (u : Option TI) : (ts : List Ty) → A → Option (List (zc ts))
 | [.int .u8], y => bif same then y1C lk [.int .u8] y else match te, u, y with
  | .c (.int .u8) 1, some (.c .str _), .val .str s => some (Vk s)
  | _, _, _ => none
 | ts, y => bif same then y1C lk ts y else none
def rdE (ts : List Ty) (xs : List (zc ts)) (i : Int) : zc ts := xs.getD i.toNat (VY ts)
def y1k : Ty → A → A → Option Bool
 | .int _, .val (.int k) x, .val (.int k') y => if k = k' then some ((show Int from x) == (show Int from y)) else none
 | .bool, .val .bool x, .val .bool y => some ((show Bool from x) == (show Bool from y))
 | .str, .val .str x, .val .str y => some ((show ByteArray from x).toList == (show ByteArray from y).toList)
 | _, _, _ => none
def zS : List Ty → List A → List A → Option Bool
 | [], [], [] => some true
 | t :: ts, a :: l, b :: m => match y1k t a b with
  | some u => (zS ts l m).map fun v => u && v
  | none => none
 | _, _, _ => none
def y5e (C : Ctx) : Nat → Nat → Bool
 | 0, _ => false
 | n + 1, t => match C.info t with
  | some (.c t _) => t.flat
  | some (.s fs _ _) => fs.all fun p => y5e C n p.2
  | none => false
def yar (C : Ctx) (op : BinOp) (t : Nat) : TI → A → A → Option Bool
 | .s _ ts _, .agg l, .agg m => (match op with
  | .eql => bif y5e C 8 t then zS ts l m else none
  | .neq => bif y5e C 8 t then (zS ts l m).map fun b => !b else none
  | _ => none)
 | _, _, _ => none
def y4a (lk : Lk) (ti : TI) : A → Option A
 | .box b off => match lk b with
  | some (.box cs) => bif Nat.ble (off + ti.ts.length) cs.length then mkA ti.isAgg ((cs.drop off).take ti.ts.length) else none
  | _ => none
 | .elp _ ts xs i c => bif Nat.ble (c + ti.ts.length) ts.length then mkA ti.isAgg (((Q5 ts (rdE ts xs i)).drop c).take ti.ts.length) else none
 | .rtp o i c => match lk o with
  | some (.root _ _ ts xs) => bif Nat.ble (c + ti.ts.length) ts.length then mkA ti.isAgg (((Q5 ts (rdE ts xs i)).drop c).take ti.ts.length) else none
  | _ => none
 | _ => none
def jg {α : Type} : List α → Nat → List α → Option (List α)
 | l, _, [] => some l
 | [], _, _ :: _ => none
 | _ :: l, 0, x :: xs => match jg l 0 xs with
  | some r => some (x :: r)
  | none => none
 | y :: l, n + 1, xs => match jg l n xs with
  | some r => some (y :: r)
  | none => none
def y3c (lk : Lk) : (ts : List Ty) → Nat → List A → Option (List (Sigma El) × List Nat)
 | _, _, [] => some ([], [])
 | [], _, _ :: _ => none
 | t :: ts, 0, a :: l => match toT lk t a with
  | some (x, is) => match y3c lk ts 0 l with
   | some (r, js) => some (⟨t, x⟩ :: r, is ++ js)
   | none => none
  | none => none
 | _ :: ts, c + 1, a :: l => y3c lk ts c (a :: l)
def J1 : List Nat → List (Nat × Ob)
 | [] => []
 | i :: r => (i, .gone) :: J1 r
def y1D : List Nat → Bool
 | [] => true
 | i :: r => !Vj r i && y1D r
def ybI (lk : Lk) (p v : A) : Option (List (Nat × Ob)) := match p with
 | .box b off => match lk b with
  | some (.box cs) => match jg cs off v.cells with
   | some cs' => bif Kr v.cells then some [(b, .box cs')] else none
   | none => none
  | _ => none
 | .rtp o i c => match lk o with
  | some (.root true e ts xs) => match y3c lk ts c v.cells with
   | some (ys, is) => match ycD ts (rdE ts xs i) c ys with
    | some x => bif Vj is o then none else some (settles lk is ++ [(o, .root true e ts (xs.set i.toNat x))])
    | none => none
   | none => none
  | _ => none
 | _ => none
def ycF : Ty → A
 | .sl _ _ => .nils
 | t => .val t (y6n t)
mutual
def A.ids : A → List Nat
 | .own o => [o]
 | .box b _ => [b]
 | .rtp o _ _ => [o]
 | .clo _ b => [b]
 | .win o _ => [o]
 | .agg l => jd l
 | .tup l => jd l
 | .dead => []
 | .und => []
 | .val _ _ => []
 | .nils => []
 | .nilp => []
 | .elp _ _ _ _ _ => []
 | .top _ _ _ => []
 | .fn _ => []
def jd : List A → List Nat
 | [] => []
 | a :: r => a.ids ++ jd r
end
def wL : List Ty → List A → Nat → List A × List (Nat × Ob)
 | .sl e us :: ts, .nils :: l, n => bif y8z us && Nat.blt 0 us.length then (.own n :: (wL ts l (n + 1)).1, (n, .root true e us []) :: (wL ts l (n + 1)).2) else (.nils :: (wL ts l (n + 1)).1, (wL ts l (n + 1)).2)
 | _ :: ts, a :: l, n => (a :: (wL ts l (n + 1)).1, (wL ts l (n + 1)).2)
 | _, l, _ => (l, [])
def y1E (C : Ctx) (ρ : Operand → A) (fs : List (Nat × Nat)) : List A → List (Nat × Operand) → Option (List A)
 | cs, [] => some cs
 | cs, (i, x) :: r => match fs[i]? with
  | some (off, t) => match C.info t with
   | some ti => bif Nat.beq (ρ x).cells.length ti.ts.length && Kr (ρ x).cells then match jg cs off (ρ x).cells with
     | some cs' => y1E C ρ fs cs' r
     | none => none
    else none
   | none => none
  | none => none
def ycG (lk : Lk) (ρ : Operand → A) (ts : List Ty) : List (Nat × Operand) → List (zc ts) → List Nat → Option (List (zc ts) × List Nat)
 | [], xs, is => some (xs, is)
 | (i, x) :: r, xs, is => match toE lk ts (ρ x).cells with
  | some (y, js) => bif Nat.blt i xs.length then ycG lk ρ ts r (xs.set i y) (is ++ js) else none
  | none => none
def ycH (lk : Lk) : A → Option Int
 | .nils => some 0
 | .val .str x => some x.size
 | .own o => match lk o with
  | some (.root _ _ _ xs) => some xs.length
  | _ => none
 | a => match yal lk a with
  | some ⟨_, _, xs⟩ => some xs.length
  | none => none
def loA (ρ : Operand → A) : Option Operand → A
 | some l => ρ l
 | none => .val (.int .i64) (0 : Int)
def hiA (ρ : Operand → A) : Option Operand → Int → A
 | some h, _ => ρ h
 | none, n => .val (.int .i64) n
def y5f (C : Ctx) (t : Nat) (a : A) : Bool := match C.info t, a with
 | some (.c .str _), .val .str _ => true
 | some (.c (.sl _ _) _), .val (.sl _ _) _ => true
 | some (.c (.sl _ _) _), .nils => true
 | some (.c (.sl _ _) _), .own _ => true
 | _, _ => false
def jV : Bool → A → Option (List A)
 | true, .agg l => some l
 | true, _ => none
 | false, .agg _ => none
 | false, a => some [a]
def qH : Option Nat → A → Option Nat
 | none, .box b off => bif Nat.beq off 0 then some b else none
 | some f, .clo f' b => bif Nat.blt f 1000000000 && Nat.beq f f' then some b else none
 | some f, .box b off => bif Nat.beq f (1000000000 + off) then some b else none
 | _, _ => none
def yfF : Option Nat → Nat → A
 | none, b => .box b 0
 | some f, b => bif Nat.blt f 1000000000 then .clo f b else .box b (f - 1000000000)
def J2 (lk : Lk) : List PK → List A → Option (List A × List (Nat × Nat))
 | [], [] => some ([], [])
 | .v agg ts _ :: ps, a :: as => match jV agg a, J2 lk ps as with
  | some c, some (l, bs) => bif Nat.beq c.length ts.length then some (c ++ l, bs) else none
  | _, _ => none
 | .p wr ts _ :: ps, a :: as => match qH wr a with
  | some b => match lk b with
   | some (.box cs) => match J2 lk ps as with
    | some (l, bs) => bif Nat.beq ts.length cs.length then some (cs ++ l, (b, ts.length) :: bs) else none
    | none => none
   | _ => none
  | none => none
 | .k f :: ps, a :: as => match a with
  | .fn f' => bif Nat.beq f f' then J2 lk ps as else none
  | _ => none
 | _, _ => none
def y2k : A → Option (Nat × List A)
 | .fn f => some (f, [])
 | .clo f b => some (f, [.box b 0])
 | _ => none
def yjo (lk : Lk) : List A → List Nat
 | [] => []
 | a :: r => match a with
  | .fn f => f :: yjo lk r
  | .clo f _ => f :: yjo lk r
  | .box b off => (match lk b with
   | some (.box cs) => (2000000000 + cs.length * 100000 + off) :: yjo lk r
   | _ => yjo lk r)
  | _ => yjo lk r
def qI (lk : Lk) (own : Bool) (t : Ty) (a : A) : Option (El t × List Nat × List Nat) := bif own then (match a, t with
  | .own o, t => match lk o with
   | some (.root true e ts xs) => (Qu (.sl e ts) t xs).map fun y => (y, [], [o])
   | _ => none
  | .nils, .sl e ts => bif Nat.blt 0 ts.length then some (y6n (.sl e ts), [], []) else none
  | .val t' x, t => bif t.flat then (Qu t' t x).map fun y => (y, [], []) else none
  | _, _ => none) else (toT lk t a).map fun (y, is) => (y, is, [])
def VZ (lk : Lk) : (ts : List Ty) → List Bool → List A → Option (zc ts × List Nat × List Nat)
 | [], _, [] => some ((), [], [])
 | t :: [], os, [a] => qI lk (os.headD false) t a
 | t :: u :: r, os, a :: l => match qI lk (os.headD false) t a with
  | some (x, is, gs) => match VZ lk (u :: r) os.tail l with
   | some (y, js, hs) => some ((x, y), is ++ js, gs ++ hs)
   | none => none
  | none => none
 | _, _, _ => none
def w5 (tg : Bool) : (t : Ty) → Bool → El t → Nat → A × List (Nat × Ob)
 | .sl e us, true, x, n => bif tg then (.top e us x, []) else (.own n, [(n, .root true e us x)])
 | t, _, x, _ => (.val t x, [])
def ze (tg : Bool) : (ts : List Ty) → List Bool → zc ts → Nat → List A × List (Nat × Ob)
 | [], _, _, _ => ([], [])
 | t :: [], os, x, n => ([(w5 tg t (os.headD false) x n).1], (w5 tg t (os.headD false) x n).2)
 | t :: u :: r, os, x, n => ((w5 tg t (os.headD false) x.1 n).1 :: (ze tg (u :: r) os.tail x.2 (n + 1)).1, (w5 tg t (os.headD false) x.1 n).2 ++ (ze tg (u :: r) os.tail x.2 (n + 1)).2)
def Q6 : List RK → List A → Option (List A × List A)
 | [], l => some ([], l)
 | r :: rs, l => match mkA r.agg (l.take r.ts.length) with
  | some a => match Q6 rs (l.drop r.ts.length) with
   | some (as, l2) => some (a :: as, l2)
   | none => none
  | none => none
def y2l : List (Nat × Nat) → List A → List (Nat × Ob)
 | [], _ => []
 | (b, n) :: bs, l => (b, .box (l.take n)) :: y2l bs (l.drop n)
def y0U : List Nat → List Nat → Bool
 | [], _ => true
 | i :: r, l => !Vj l i && y0U r l
def zj {α : Type} : List (Nat × α) → List Nat
 | [] => []
 | (i, _) :: r => i :: zj r
def KZ {α : Type} : List α → Bool
 | [] => true
 | _ => false
def y6q (sg : Sig) (d : Nat) (l : List A) : Option (List (Nat × Ob) × A × List A) := bif sg.ptr then (match sg.rs with
  | q :: rs => (match Q6 rs (l.drop q.ts.length) with
   | some (as, rest) => some ([(1000 * (d + 1) + 500, .box (l.take q.ts.length))], (match as with | [] => .box (1000 * (d + 1) + 500) 0 | as => .tup (.box (1000 * (d + 1) + 500) 0 :: as)), rest)
   | none => none)
  | _ => none) else match Q6 sg.rs l with
  | some (as, rest) => some ([], (match as with | [a] => a | as => .tup as), rest)
  | none => none
section
def ymF : Option Operand → Bool
 | none => true
 | some _ => false
variable {R : Type} (C : Ctx) (call : C.Sem)
def q8 (lk : Lk) (sg : Sig) (bs : List (Nat × Nat)) (is gs : List Nat) (d : Nat) (ts : List Ty) (r : zc ts) : Option Eff :=
 match ze false ts sg.owns r (1000 * (d + 1)) with
 | (l, obs) => match y6q sg d l with
  | some (ex, a, rest) => bif y0U (zj (obs ++ ex)) (is ++ (gs ++ zj bs)) && (KZ ex || Nat.ble ts.length 500) then some ⟨settles lk is ++ (J1 (bif sg.back then [] else gs) ++ y2l bs rest), obs ++ ex, a⟩ else none
  | none => none
def ydw (lk : Lk) (dst : Option Nat) (g : Nat) (as : List A) (q : Nat) (k : Eff → Option R) : Option R := match C.sig q with
 | some sg => match J2 lk sg.ps as with
  | some (l, bs) => match VZ lk (C.ins q) (sg.ps.flatMap PK.ownsIn) l, dst with
   | some (xs, is, gs), some d => bif y1D (zj bs) && y1D gs && y0U gs is && Nat.beq (C.fid q) g then
     (call q xs).bind fun r => match q8 lk sg bs (bif sg.hfree then [] else is) gs d (C.outs q) r with
      | some e => k e
      | none => none
    else none
   | _, _ => none
  | none => none
 | none => none
def jp (ct wn : Bool) (o : Oper) (ρ : Operand → A) (lk : Lk) (k : Eff → Option R) : Option R :=
 match o.op with
 | .move x | .assign x => k ⟨[], [], ρ x⟩
 | .box t x => match C.info t, o.dst with
  | some ti, some d => bif Nat.beq (ρ x).cells.length ti.ts.length && Kr (ρ x).cells then
    k ⟨[], [(d, .box (zd d (ρ x).cells))], .box d 0⟩
   else none
  | _, _ => none
 | .alloc t => match C.info t, o.dst with
  | some ti, some d => k ⟨[], [(d, .box (ti.ts.map ycF))], .box d 0⟩
  | _, _ => none
 | .build t parts => match C.info t with
  | some (.s fs ts _) => match y1E C ρ fs (ts.map ycF) parts.toList with
   | some l => bif ct then (match o.dst with
    | some d => bif y0U (zj (wL ts l (1000 * (d + 1))).2) (jd l) then k ⟨[], (wL ts l (1000 * (d + 1))).2, .agg (wL ts l (1000 * (d + 1))).1⟩ else none
    | none => none) else k ⟨[], [], .agg l⟩
   | none => none
  | _ => none
 | .buildSlice t n parts => match C.info t, o.dst with
  | some (.c (.sl e ts) _), some d => match ycG lk ρ ts parts.toList (List.replicate n (VY ts)) [] with
   | some (xs, is) => bif Vj is d || !Nat.ble (n * ts.length) 16777216 then none else k ⟨settles lk is, [(d, .root true e ts xs)], .own d⟩
   | none => none
  | _, _ => none
 | .makeSlice t l c => match C.info t, o.dst with
  | some (.c (.sl e ts) _), some d => match C.info e, ρ l, ρ c with
   | some te, .val (.int .i64) n, .val (.int .i64) m =>
    if 0 ≤ (show Int from n) then if (show Int from n) ≤ (show Int from m) then if (show Int from m) * te.bytes ≤ 140737488351232 then
     k ⟨[], [(d, .root true e ts (List.replicate (Int.toNat n) (VY ts)))], .own d⟩
    else none else none else none
   | _, _, _ => none
  | _, _ => none
 | .load t x => match C.info t with
  | some ti => match y4a lk ti (ρ x) with
   | some a => k ⟨[], [], a⟩
   | none => none
  | none => none
 | .store t p x => match C.info t with
  | some ti => bif Nat.beq (ρ x).cells.length ti.ts.length then match ybI lk (ρ p) (ρ x) with
    | some sets => k ⟨sets, [], .dead⟩
    | none => none
   else none
  | none => none
 | .nilCheck x => match ρ x with
  | .box b off => k ⟨[], [], .box b off⟩
  | .elp e ts xs i c => k ⟨[], [], .elp e ts xs i c⟩
  | .rtp r i c => k ⟨[], [], .rtp r i c⟩
  | _ => none
 | .binOp op t x y _ => match C.info t with
  | some ti => match yar C op t ti (ρ x) (ρ y) with
   | some b => k ⟨[], [], .val .bool b⟩
   | none => bif y8C ti (ρ x) then ymN op (ρ x) (ρ y) fun a => k ⟨[], [], a⟩ else none
  | none => none
 | .unOp op _ x => match unA op (ρ x) with
  | some a => k ⟨[], [], a⟩
  | none => none
 | .convert src dst x => match C.info src, C.info dst, ρ x with
  | some _, some (.c (.int k2) _), .val (.int _) n => k ⟨[], [], .val (.int k2) (k2.wrap n)⟩
  | some _, some (.c .str _), .val .str x => k ⟨[], [], .val .str x⟩
  | some (.c .str _), some (.c (.sl e [.int .u8]) _), .val .str x => match C.info e with
   | some (.c (.int .u8) _) => if ByteArray.size x < 140737488351232 then k ⟨[], [], .val (.sl e [.int .u8]) (Vk x)⟩ else none
   | _ => none
  | some (.c (.sl e [.int .u8]) _), some (.c .str _), a => match C.info e, y1C lk [.int .u8] a with
   | some (.c (.int .u8) _), some l => k ⟨[], [], .val .str (ybH l)⟩
   | _, _ => none
  | _, _, _ => none
 | .slice t x lo hi none =>
  match ρ x, loA ρ lo with
  | a, .val (.int _) l => match ycH lk a with
   | some n => match hiA ρ hi n with
    | .val (.int _) h => if 0 ≤ (show Int from l) then if (show Int from l) ≤ (show Int from h) then if (show Int from h) ≤ n then
      match C.info t, a with
      | some (.c .str _), .val .str x => k ⟨[], [], .val .str (ByteArray.extract x (Int.toNat l) (Int.toNat h))⟩
      | some (.c (.sl _ us) _), .val (.sl e ts) xs => bif Nat.beq us.length ts.length then k ⟨[], [], .val (.sl e ts) (((show List (zc ts) from xs).take (Int.toNat h)).drop (Int.toNat l))⟩ else none
      | some (.c (.sl _ us) _), .top e ts xs => bif Nat.beq us.length ts.length then k ⟨[], [], .top e ts ((xs.take (Int.toNat h)).drop (Int.toNat l))⟩ else none
      | some (.c (.sl _ us) _), .own r => match lk r with
       | some (.root own e ts xs) => bif Nat.beq us.length ts.length then (bif ct && own && ymF lo then (match o.dst with
         | some d => bif Nat.beq r d then none else k ⟨[(r, .gone)], [(d, .root true e ts (xs.take (Int.toNat h)))], .own d⟩
         | none => none)
        else bif wn && own && ymF lo then k ⟨[], [], .win r h⟩
        else k ⟨bif own then [(r, .root false e ts xs)] else [], [], .val (.sl e ts) ((xs.take (Int.toNat h)).drop (Int.toNat l))⟩) else none
       | _ => none
      | _, _ => none
     else none else none else none
    | _ => none
   | none => none
  | _, _ => none
 | .fieldAddr t x f => match C.info t with
  | some (.s fs _ _) => match fs[f]?, ρ x with
   | some (d, _), .box b off => k ⟨[], [], .box b (off + d)⟩
   | some (d, _), .elp e ts xs i c => k ⟨[], [], .elp e ts xs i (c + d)⟩
   | some (d, _), .rtp r i c => k ⟨[], [], .rtp r i (c + d)⟩
   | _, _ => none
  | _ => none
 | .field t x f => match C.info t with
  | some (.s fs _ _) => match fs[f]? with
   | some (d, t2) => match C.info t2 with
    | some ti => match ρ x with
     | .agg l => bif Nat.ble (d + ti.ts.length) l.length then match mkA ti.isAgg ((l.drop d).take ti.ts.length) with
      | some a => k ⟨[], [], a⟩
      | none => none else none
     | _ => none
    | none => none
   | none => none
  | _ => none
 | .indexAddr t x i => match C.info t, ρ x, ρ i with
  | some (.c (.sl _ us) _), .val (.sl e ts) xs, .val (.int _) n => if 0 ≤ (show Int from n) then if (show Int from n) < (show List (zc ts) from xs).length then bif Nat.beq us.length ts.length then k ⟨[], [], .elp e ts xs n 0⟩ else none else none else none
  | some (.c (.sl _ us) _), .own r, .val (.int _) n => match lk r with
   | some (.root _ _ ts xs) => if 0 ≤ (show Int from n) then if (show Int from n) < xs.length then bif Nat.beq us.length ts.length then k ⟨[], [], .rtp r n 0⟩ else none else none else none
   | _ => none
  | _, _, _ => none
 | .index t x i => match C.info t, ρ x, ρ i with
  | some (.c .str _), .val .str x, .val (.int _) n => if 0 ≤ (show Int from n) then if h : Int.toNat n < ByteArray.size x then k ⟨[], [], .val (.int .u8) ((ByteArray.get x (Int.toNat n) h).toNat : Int)⟩ else none else none
  | _, _, _ => none
 | .extract x i => match ρ x with
  | .tup l => match l[i]? with
   | some a => k ⟨[], [], a⟩
   | none => none
  | _ => none
 | .call c => match c.callee, c.args.toList, c.argTypes.toList with
  | .builtin .len, [x], t :: _ => match ycH lk (ρ x), y5f C t (ρ x) with
   | some n, true => k ⟨[], [], .val (.int .i64) n⟩
   | _, _ => none
  | .builtin .min, [x, y], _ => match ρ x, ρ y with
   | .val (.int k1) n, .val (.int k2) m => if k1 = k2 then k ⟨[], [], .val (.int k1) (if (show Int from m) < (show Int from n) then m else n)⟩ else none
   | _, _ => none
  | .builtin .append, [x, y], [t, t2] => match C.info t, o.dst with
   | some (.c (.sl e ts) _), some d => match C.info e with
    | some te => match ρ x, ycE lk (Nat.beq t t2) te (C.info t2) ts (ρ y) with
     | .nils, some ys => if ys.length * te.bytes < 140737488355328 then k ⟨[], [(d, .root true e ts ys)], .own d⟩ else none
     | .own r, some ys => match lk r with
      | some (.root true e1 ts1 xs) => match y6m ts1 ts xs with
       | some xs => bif Nat.beq r d || !Nat.beq e1 e then none else if (xs.length + ys.length) * te.bytes < 140737488355328 then k ⟨[(r, .gone)], [(d, .root true e ts (xs ++ ys))], .own d⟩ else none
       | none => none
      | _ => none
     | _, _ => none
    | none => none
   | _, _ => none
  | .value f, as, _ => match y2k (ρ f) with
   | some (g, ex) => ydw C call lk o.dst g (as.map ρ ++ ex) (C.key g (yjo lk (as.map ρ))) k
   | none => none
  | _, _, _ => none
 | .makeFunc (.func f) first captured => match first.toList, captured.toList with
  | [], [] => k ⟨[], [], .fn f⟩
  | [], [x] => match ρ x with
   | .box b off => bif Nat.beq off 0 then k ⟨[], [], .clo f b⟩ else none
   | _ => none
  | _, _ => none
 | _ => none
structure Dop where
 o : Oper
 g : Option (Nat × Bool)
 vis : Nat
 cls : Nat
 bad : List Nat
 later : List Nat
 mine : List Nat
 hn : Nat
 fp : List Nat
def Ob.ids : Ob → List Nat
 | .box cs => jd cs
 | _ => []
def y5b : List (Nat × Ob) → List Nat
 | [] => []
 | (i, x) :: r => i :: (x.ids ++ y5b r)
def Dop.see (x : Dop) (lk : Lk) : Lk := fun i => bif Vj x.bad i then none else match x.vis with
 | 0 => none
 | 1 => match lk i with
  | some (.box cs) => some (.box cs)
  | _ => none
 | 3 => match lk i with
  | some (.root own e ts xs) => some (.root own e ts xs)
  | _ => none
 | _ => lk i
def y1F (lk : Lk) : List (Nat × Ob) → Bool
 | [] => true
 | (i, x) :: r => (match lk i with
  | some (.root _ _ _ _) => (match x with
   | .box _ => false
   | _ => true)
  | _ => false) && y1F lk r
def Qx (lk : Lk) : List (Nat × Ob) → Bool
 | [] => true
 | (i, x) :: r => (match lk i with
  | some (.box _) => (match x with
   | .box _ => true
   | _ => false)
  | _ => false) && Qx lk r
def yhO : List Nat → List Nat → Bool
 | [], _ => true
 | i :: r, l => Vj l i && yhO r l
def Dop.ok (x : Dop) (lk : Lk) (e : Eff) : Bool :=
 (match x.cls with
  | 0 => KZ e.sets
  | 1 => y1F lk e.sets
  | 3 => Qx lk e.sets
  | 4 => yhO (zj e.sets) x.fp
  | _ => true) && yhO (zj e.adds) x.mine && (KZ x.later || y0U x.later (e.a.ids ++ (y5b e.sets ++ y5b e.adds)))
def yAc (x : Dop) (s : St) (k : St → Option R) : Option R :=
 jp C call (Nat.beq x.hn 2) (Nat.beq x.hn 3) x.o s.opd (x.see (yY s.o)) fun e => bif x.ok (x.see (yY s.o)) e then k (s.apply x.o.dst e) else none
def yAd (x : Dop) (s : St) (k : St → Option R) : Option R :=
 jp C call (Nat.beq x.hn 2) (Nat.beq x.hn 3) x.o s.opd (x.see (yY s.o)) fun e => bif KZ e.sets && x.ok (x.see (yY s.o)) e then k (s.apply x.o.dst e) else none
def Kt (c : Nat) : List Dop → List Dop → Option (List Dop × Dop × Operand × Operand × List Dop)
 | _, [] => none
 | acc, o :: r => match o.o.op, o.g with
  | .pick (.tmp j) a b, none => bif Nat.beq j c then some (acc.reverse, o, a, b, r) else Kt c (o :: acc) r
  | _, _ => Kt c (o :: acc) r
def yjp (c : Nat) (b : Bool) : List Dop → List Dop
 | [] => []
 | x :: r => (match x.g with
  | some (c', b') => bif Nat.beq c c' && (b == b') then { x with g := none } else x
  | none => x) :: yjp c b r
def Vl (n c : Nat) (b : Bool) : List Nat → List Dop → Bool
 | _, [] => true
 | ds, x :: r => (match x.g with
  | some (c', b') => (Nat.beq c c' && (b == b')) || Vj ds c'
  | none => false) && (match x.o.dst with
  | some d => !Nat.beq d c && Vl n c b (bif Nat.blt d n then d :: ds else ds) r
  | none => Vl n c b ds r)
def z5 (s : St) (x : Operand) : Option Bool := match s.opd x with
 | .val .bool b => some b
 | _ => none
def yO : List Dop → List Nat
 | [] => []
 | x :: r => match x.o.dst with
  | some d => d :: yO r
  | none => yO r
def Zr : List Dop → List Nat
 | [] => []
 | x :: r => x.mine ++ Zr r
def zR (s : St) : List Nat → St
 | [] => s
 | d :: r => zR (s.put (some d) .dead) r
def ymO (o : Oper) : Bool := match o.op with
 | .store _ _ _ => true
 | .call c => match c.callee with
  | .builtin .append => true
  | .value (.func f) => (match C.sig f with
   | some sg => sg.ps.any PK.isP || !sg.hfree
   | none => true)
  | _ => false
 | _ => false
def ky (pu : Bool) : {R : Type} → Nat → List Dop → St → (St → Option R) → Option R
 | _, _, [], s, k => k s
 | _, 0, _ :: _, _, _ => none
 | R, n + 1, x :: r, s, k => match x.g with
  | none => bif pu then yAd C call x s fun s1 => ky pu n r s1 k else yAc C call x s fun s1 => ky pu n r s1 k
  | some (c, want) => match z5 s (.tmp c), Kt c [] (x :: r) with
   | some v, some (grp, p, a, b, rest) => bif Vl s.t.length c want [] grp then (bif grp.any fun y => ymO C y.o || !Nat.beq y.hn 0 then
     (match want with
     | true => bif v then ky pu n (yjp c true grp) s fun s1 => match z5 s1 a with
       | some u => ky pu n rest ((zR s1 (yO grp)).put p.o.dst (.val .bool u)) k
       | none => none
      else match z5 (zR s (yO grp)) b with
       | some u => ky pu n rest ((zR s (yO grp)).put p.o.dst (.val .bool u)) k
       | none => none
     | false => bif v then match z5 (zR s (yO grp)) a with
       | some u => ky pu n rest ((zR s (yO grp)).put p.o.dst (.val .bool u)) k
       | none => none
      else ky pu n (yjp c false grp) s fun s1 => match z5 s1 b with
       | some u => ky pu n rest ((zR s1 (yO grp)).put p.o.dst (.val .bool u)) k
       | none => none)
     else (match want with
     | true => bif v then ky true n (yjp c true grp) s fun s1 => z5 s1 a else z5 (zR s (yO grp)) b
     | false => bif v then z5 (zR s (yO grp)) a else ky true n (yjp c false grp) s fun s1 => z5 s1 b).bind fun u =>
      ky pu n rest ((zR (s.forgetAll (Zr grp)) (yO grp)).put p.o.dst (.val .bool u)) k)
     else none
   | _, _ => none
def yas (d : Nat) : Nat → List Nat
 | 0 => []
 | n + 1 => yas d n ++ [1000 * (d + 1) + n]
def qa (o : Oper) : List Nat := match o.dst with
 | none => []
 | some d => match o.op with
  | .box _ _ => [d]
  | .alloc _ => [d]
  | .buildSlice _ _ _ => [d]
  | .makeSlice _ _ _ => [d]
  | .slice _ _ none _ _ => [d]
  | .build t _ => (match C.info t with
   | some ti => yas d ti.ts.length
   | none => [])
  | .call c => match c.callee with
   | .builtin .append => [d]
   | .value (.func f) => (1000 * (d + 1) + 500) :: yas d (match C.sig f with
    | some sg => sg.outs.length
    | none => 24)
   | _ => []
  | _ => []
def ZC (ops : Array Oper) (o : Oper) : Option (Option (Nat × Bool)) := match o.guard with
 | none => some none
 | some (j, w) => match ops[j]? with
  | some g => match g.dst with
   | some d => some (some (d, w))
   | none => none
  | none => none
def yhP (h : List Nat) (o : Oper) : Nat := match o.dst with
 | some d => bif Vj h (100000 + d) then 2 else bif Vj h (200000 + d) then 3 else bif Vj h d then 1 else 0
 | none => 0
def ycI (h : List Nat) (ops : Array Oper) : List Oper → Option (List Dop)
 | [] => some []
 | o :: r => match ZC ops o, ycI h ops r with
  | some g, some l => some ({ o, g, vis := 2, cls := 2, bad := [], later := [], mine := qa C o, hn := yhP h o, fp := [] } :: l)
  | _, _ => none
def y2m (acc : List Nat) : List Edge → Nat
 | [] => 0
 | e :: r => bif Region.binds .any e then (2 ^ e.on ||| acc.getD e.on 0) ||| y2m acc r else y2m acc r
def vh : List Oper → List Nat → List Nat
 | [], acc => acc
 | o :: r, acc => vh r (acc ++ [y2m acc o.after.toList])
def yuS (d : Nat) : List Nat → List Nat
 | [] => []
 | e :: r => bif Nat.ble (1000000000000000 + d * 1000000000) e && Nat.blt e (1000000000000000 + (d + 1) * 1000000000) then (e - (1000000000000000 + d * 1000000000)) :: yuS d r else yuS d r
def fpO (h : List Nat) (o : Oper) : List Nat := match o.dst with
 | some d => yuS d h
 | none => match o.op with
  | .store _ (.tmp p) _ => yuS p h
  | _ => []
def yCI (h : List Nat) (o : Oper) : Nat := match o.op with
 | .store _ _ _ => 2
 | .call c => match c.callee with
  | .builtin .append => 1
  | .builtin _ => 0
  | .value (.func f) => (match C.sig f with
   | some sg => bif sg.ps.any PK.isP then (match o.dst with
     | some d => bif Vj h d then 2 else 3
     | none => bif sg.hfree && (sg.ps.flatMap PK.ownsIn).all not then 3 else 2) else bif sg.hfree then 0 else 1
   | none => 2)
  | _ => 2
 | _ => (match o.dst with
  | some d => bif Vj h d || Vj h (100000 + d) then 1 else 0
  | none => 0)
def Qy (h : List Nat) (o : Oper) : Nat := bif KZ (fpO h o) then yCI C h o else 4
def ydx (a b : Nat) : Nat := match a with
 | 0 => b
 | _ => (match b with
  | 0 => a
  | _ => bif Nat.beq a b then a else 2)
def ymG (c : Nat) : Nat := bif Nat.beq c 4 then 0 else c
def yhQ : Nat → Nat
 | 0 => 2
 | 1 => 1
 | 3 => 3
 | _ => 0
def y2n (l : List Operand) : List Nat := match l with
 | [] => []
 | .tmp t :: r => t :: y2n r
 | _ :: r => y2n r
def yfG (ops : Array Oper) (o : Oper) : List Nat := (match ZC ops o with
 | some (some (c, _)) => [c]
 | _ => []) ++ y2n o.op.operands.toList
def yuT (l : List Nat) : Option Nat → Bool
 | none => false
 | some d => Vj l d
def y5A (ops : Array Oper) (x y : Oper) : Bool := !yuT (yfG ops y) x.dst && !yuT (yfG ops x) y.dst && (match x.dst, y.dst with
 | some d, some e => !Nat.beq d e
 | _, _ => true)
def y1G (o : Oper) : Bool := match o.op with
 | .pick _ _ _ => true
 | _ => false
def yhR (ms : List Nat) (i j : Nat) : Bool := (ms.getD i 0).testBit j || (ms.getD j 0).testBit i
structure Gathered where
 ok : Bool
 top : Nat
 bad : List Nat
 later : List Nat
def vi (h : List Nat) (ops : Array Oper) (ms : List Nat) (i : Nat) (o : Oper) : Nat → List Oper → Gathered
 | _, [] => ⟨true, 0, [], []⟩
 | j, y :: r => match vi h ops ms i o (j + 1) r with
  | g => bif Nat.beq i j then g else
    bif yhR ms i j then (bif (ms.getD i 0).testBit j then g else { g with later := qa C y ++ g.later })
    else ⟨g.ok && y5A ops o y && !y1G o && !y1G y && (Nat.beq (Qy C h o) 0 || Nat.beq (Qy C h y) 0 || (Nat.beq (Qy C h o) 4 && Nat.beq (Qy C h y) 4 && y0U (fpO h o) (fpO h y))), ydx (ymG (Qy C h y)) g.top, qa C y ++ (fpO h y ++ g.bad), qa C y ++ g.later⟩
def y8D (h : List Nat) (ops : Array Oper) (ms : List Nat) : Nat → List Oper → Option (List Dop)
 | _, [] => some []
 | i, o :: r => match ZC ops o, y8D h ops ms (i + 1) r, vi C h ops ms i o 0 ops.toList with
  | some g, some l, q => bif q.ok && Nat.blt (ms.getD i 0) (2 ^ i) then some ({ o, g, vis := yhQ q.top, cls := Qy C h o, bad := q.bad, later := q.later, mine := qa C o, hn := yhP h o, fp := fpO h o } :: l) else none
  | _, _, _ => none
def yAe (h : List Nat) (dr : Bool) (ops : Array Oper) : Option (List Dop) := bif dr then y8D C h ops (vh ops.toList []) 0 ops.toList else ycI C h ops ops.toList
def y5B : List Oper → List Nat
 | [] => []
 | o :: r => qa C o ++ y5B r
def yjq (id : Nat) : List Nat → List Nat
 | [] => []
 | e :: r => bif Nat.ble (2000000000000000000 + id * 1000000) e && Nat.blt e (2000000000000000000 + (id + 1) * 1000000) then (e - (2000000000000000000 + id * 1000000)) :: yjq id r else yjq id r
def ydy (s : St) : List Nat → List Nat
 | [] => []
 | d :: r => (s.t.getD d .dead).ids ++ (((s.t.getD d .dead).ids.flatMap fun i => match yY s.o i with
  | some ob => ob.ids
  | none => []) ++ ydy s r)
def ymP (h : List Nat) (id : Nat) (s : St) : St := match yjq id h with
 | [] => s
 | l => s.setAll (settles (yY s.o) (ydy s l))
structure Ks (R : Type) where
 exit : Nat → St → Option R
 ret : St → Option R
abbrev Lp : Type 1 := Nat → St → {R : Type} → (Option Nat → St → Option R) → Option R
def Y3 : Code → Nat
 | .region i _ _ => i
 | .seq a _ => Y3 a
 | .block _ c => Y3 c
 | .loop c => Y3 c
 | .cond _ a _ => Y3 a
 | _ => 0
def y6r (l : List Nat) : Nat → List A → List A
 | _, [] => []
 | i, a :: r => (bif Vj l i then a else .dead) :: y6r l (i + 1) r
mutual
def A.resolve (lk : Lk) : A → A
 | .own o => match lk o with
  | some (.root true _ _ _) => .own o
  | some (.root false e ts xs) => .val (.sl e ts) xs
  | _ => .dead
 | .rtp o i c => match lk o with
  | some (.root true _ _ _) => .rtp o i c
  | some (.root false e ts xs) => .elp e ts xs i c
  | _ => .dead
 | .win _ _ => .dead
 | .top _ _ _ => .dead
 | .agg l => .agg (Y8 lk l)
 | .tup l => .tup (Y8 lk l)
 | .dead => .dead
 | .und => .dead
 | .val t x => .val t x
 | .nils => .nils
 | .nilp => .nilp
 | .box b off => match lk b with
  | some (.box _) => bif Nat.blt b 10000000 then .box b off else .dead
  | _ => .dead
 | .clo f b => match lk b with
  | some (.box _) => bif Nat.blt b 10000000 then .clo f b else .dead
  | _ => .dead
 | .elp e ts xs j c => .elp e ts xs j c
 | .fn f => .fn f
def Y8 (lk : Lk) : List A → List A
 | [] => []
 | a :: r => a.resolve lk :: Y8 lk r
end
mutual
def A.ren (m : Nat → Nat) : A → A
 | .own o => .own (m o)
 | .rtp o i c => .rtp (m o) i c
 | .clo f b => .clo f (m b)
 | .win o h => .win (m o) h
 | .top e ts xs => .top e ts xs
 | .agg l => .agg (yat m l)
 | .tup l => .tup (yat m l)
 | .dead => .dead
 | .und => .und
 | .val t x => .val t x
 | .nils => .nils
 | .nilp => .nilp
 | .box b off => .box (m b) off
 | .elp e ts xs j c => .elp e ts xs j c
 | .fn f => .fn f
def yat (m : Nat → Nat) : List A → List A
 | [] => []
 | a :: r => a.ren m :: yat m r
end
def ycJ (lk : Lk) : List Nat → List (Nat × List A)
 | [] => []
 | i :: r => match lk i with
  | some (.box cs) => (i, Y8 lk cs) :: ycJ lk r
  | _ => ycJ lk r
def ymH : List (Nat × List A) → List Nat
 | [] => []
 | (_, cs) :: r => jd cs ++ ymH r
def ycK (seen : List Nat) : List Nat → List Nat
 | [] => []
 | i :: r => bif Vj seen i then ycK seen r else i :: ycK (i :: seen) r
def y2o (lk : Lk) : List Nat → List (Nat × Ob)
 | [] => []
 | i :: r => match lk i with
  | some (.root true e ts xs) => (i, .root true e ts xs) :: y2o lk r
  | _ => y2o lk r
def y1H : List (Nat × Ob) → Nat → Nat → Nat
 | [], _, i => i
 | (j, _) :: r, n, i => bif Nat.beq j i then n else y1H r (n + 1) i
def yjr (m : Nat → Nat) : List (Nat × List A) → List (Nat × Ob)
 | [] => []
 | (i, cs) :: r => (i, .box (yat m cs)) :: yjr m r
def yjs : List (Nat × Ob) → Nat → List (Nat × Ob)
 | [], _ => []
 | (_, x) :: r, n => (n, x) :: yjs r (n + 1)
def y1I (n : Nat) : List Nat → Bool
 | [] => true
 | i :: r => Nat.blt i n && y1I n r
def St.keep (s : St) (l : List Nat) : Option St :=
 match Y8 (yY s.o) (y6r l 0 s.t) with
 | t => match ycJ (yY s.o) (ycK [] (jd t)) with
  | bx => match y2o (yY s.o) (ycK [] (jd t ++ ymH bx)) with
   | rs => bif y1I 10000000 (zj bx) then some ⟨yat (y1H rs 10000000) t, yjr (y1H rs 10000000) bx ++ yjs rs 10000000⟩ else none
def zx {R T : Type} (step : (T → Option R) → T → Option R) : Nat → T → Option R
 | 0, _ => none
 | n + 1, s => step (zx step n) s
def Ks.keep {R : Type} (lx : List Nat) (κ : Option Nat → St → Option R) : Ks R := { exit := fun i s => (s.keep lx).bind (κ (some i)), ret := fun s => (s.keep lx).bind (κ none) }
def Ks.go {R : Type} (K : Ks R) : Option Nat → St → Option R
 | some i, s => K.exit i s
 | none, s => K.ret s
def y0V (lp : Lp) (fn : Nat) {R : Type} : Code → St → (St → Option R) → Ks R → Option R
 | .skip, s, k, _ => k s
 | .region id ops dr, s, k, _ => match yAe C (C.hint fn) dr ops with
  | some l => ky C call false (l.length + 1) l (bif dr then (ymP (C.hint fn) id s).forgetAll (y5B C ops.toList) else ymP (C.hint fn) id s) k
  | none => none
 | .seq a b, s, k, K => y0V lp fn a s (fun s1 => y0V lp fn b s1 k K) K
 | .cond c a b, s, k, K => match z5 s c with
  | some x => bif x then y0V lp fn a s k K else y0V lp fn b s k K
  | none => none
 | .block i c, s, k, K => y0V lp fn c s k { exit := fun j s => bif Nat.beq i j then k s else K.exit j s, ret := K.ret }
 | .loop c, s, _, K => match C.live fn (Y3 c) with
  | some (l, _) => (s.keep l).bind fun s0 => lp (Y3 c) s0 K.go
  | none => none
 | .exit i, s, _, K => K.exit i s
 | .ret, s, _, K => K.ret s
 | _, _, _, _ => none
def ydz (lp : Lp) (fn : Nat) (c : Code) (l lx : List Nat) {R : Type} (κ : Option Nat → St → Option R) (again : St → Option R) (s : St) : Option R :=
 y0V C call lp fn c s (fun s2 => (s2.keep l).bind again) (Ks.keep lx κ)
def jh : Code → List Code
 | .seq a b => jh a ++ jh b
 | .cond _ a b => jh a ++ jh b
 | .block _ c => jh c
 | .loop c => c :: jh c
 | _ => []
def y5C : List PK → List A → Nat → List A × List (Nat × Ob)
 | [], _, _ => ([], [])
 | .v agg ts _ :: ps, l, i => match y5C ps (l.drop ts.length) (i + 1) with
  | (as, obs) => ((bif agg then .agg (l.take ts.length) else (l.take ts.length).headD .dead) :: as, obs)
 | .p wr ts _ :: ps, l, i => match y5C ps (l.drop ts.length) (i + 1) with
  | (as, obs) => (yfF wr (900 + i) :: as, (900 + i, .box (l.take ts.length)) :: obs)
 | .k f :: ps, l, i => match y5C ps l (i + 1) with
  | (as, obs) => (.fn f :: as, obs)
def enter (sg : Sig) (n : Nat) (ts : List Ty) (x : zc ts) : St :=
 match ze sg.back ts (sg.ps.flatMap PK.ownsIn) x 950 with
 | (l, obs) => match y5C sg.ps l 0 with
  | (as, bx) => ⟨as ++ List.replicate (n - as.length) .dead, (((⟨[], []⟩ : St).makeAll obs).makeAll bx).o⟩
def ybJ (s : St) : List ResultVar → List RK → Option (List A)
 | [], [] => some []
 | .tmp t :: r, k :: ks => match jV k.agg (s.t.getD t .dead), ybJ s r ks with
  | some c, some l => bif Nat.beq c.length k.ts.length then some (c ++ l) else none
  | _, _ => none
 | .cell a t :: r, k :: ks => match C.info t with
  | some ti => match y4a (yY s.o) ti (s.t.getD a .dead) with
   | some x => match jV k.agg x, ybJ s r ks with
    | some c, some l => bif Nat.beq c.length k.ts.length then some (c ++ l) else none
    | _, _ => none
   | none => none
  | none => none
 | _, _ => none
def y3d (s : St) : List PK → Nat → Option (List A)
 | [], _ => some []
 | .v _ _ _ :: ps, i => y3d s ps (i + 1)
 | .k _ :: ps, i => y3d s ps (i + 1)
 | .p _ ts _ :: ps, i => match yY s.o (900 + i), y3d s ps (i + 1) with
  | some (.box cs), some l => bif Nat.beq cs.length ts.length then some (cs ++ l) else none
  | _, _ => none
def yuU (s : St) : List ResultVar → List RK → Option (List A)
 | .tmp t :: r, k :: ks => match s.t.getD t .dead with
  | .box b off => match yY s.o b with
   | some (.box cs) => bif Nat.beq off 0 && Nat.beq cs.length k.ts.length && (Nat.blt b 900 || Nat.ble 950 b) then (match ybJ C s r ks with
    | some l => some (cs ++ l)
    | none => none) else none
   | _ => none
  | _ => none
 | _, _ => none
def ybK (sg : Sig) (rs : List ResultVar) (ts : List Ty) (s : St) : Option (zc ts) :=
 match (bif sg.ptr then yuU C s rs sg.rs else ybJ C s rs sg.rs) with
 | some l => match y3d s sg.ps 0 with
  | some l2 => match VZ (yY s.o) ts sg.owns (l ++ l2) with
   | some (x, is, gs) => bif y1D gs && y0U gs is then some x else none
   | none => none
  | none => none
 | none => none
end
def yfH (C : Ctx) (call : C.Sem) (lp : Lp) (f : Nat) (fn : Func) (c : Code) (sg : Sig) (ins outs : List Ty) (x : zc ins) : Option (zc outs) :=
 y0V C call lp f c (enter sg fn.ntmps ins x) (ybK C sg fn.results.toList outs) { exit := fun _ _ => none, ret := ybK C sg fn.results.toList outs }
def tab {C : Ctx} : List (Sigma fun f : Nat => zc (C.ins f) → Option (zc (C.outs f))) → C.Sem
 | [], _, _ => none
 | ⟨f, F⟩ :: r, g, x => if h : f = g then (h ▸ F) x else tab r g x
end Go.Proofs.YthgdjjdigalckaaGreat.R
