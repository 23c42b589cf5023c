/- An evaluator of the model's code over typed plain values: no memory, no addresses. No condition. -/
import Derived.Below
import Derived.Maps.AppendAt
import Derived.Orders
import Derived.LoopN
import Derived.RowKit
import Derived.Laws.Entries
set_option linter.all false
namespace Go.Proofs.YtgediecndaheiaaGreat.R
open Go.RowKit
inductive Ty where
 | int (k : IntKind)
 | bool
 | str
 | sl (e : Nat) (ts : List Ty)
mutual
def El : Ty → Type
 | .int _ => Int
 | .bool => Bool
 | .str => ByteArray
 | .sl _ ts => List (z8 ts)
def z8 : List Ty → Type
 | [] => Unit
 | t :: [] => El t
 | t :: u :: r => El t × z8 (u :: r)
end
mutual
def Ty.eqb : Ty → Ty → Bool
 | .int k, .int k' => decide (k = k')
 | .bool, .bool => true
 | .str, .str => true
 | .sl e ts, .sl e' ts' => Nat.beq e e' && Ty.eqbs ts ts'
 | _, _ => false
def Ty.eqbs : List Ty → List Ty → Bool
 | [], [] => true
 | t :: ts, u :: us => Ty.eqb t u && Ty.eqbs ts us
 | _, _ => false
end
mutual
theorem Ty.eqb_eq : ∀ (a b : Ty), Ty.eqb a b = true → a = b
 | .int k, .int k', h => by simpa [Ty.eqb] using h
 | .bool, .bool, _ => rfl
 | .str, .str, _ => rfl
 | .sl e ts, .sl e' ts', h => by
  simp only [Ty.eqb, Bool.and_eq_true] at h
  rw [Nat.eq_of_beq_eq_true h.1, Ty.eqbs_eq ts ts' h.2]
 | .int _, .bool, h | .int _, .str, h | .int _, .sl _ _, h | .bool, .int _, h | .bool, .str, h | .bool, .sl _ _, h | .str, .int _, h | .str, .bool, h | .str, .sl _ _, h | .sl _ _, .int _, h | .sl _ _, .bool, h | .sl _ _, .str, h => by simp [Ty.eqb] at h
theorem Ty.eqbs_eq : ∀ (a b : List Ty), Ty.eqbs a b = true → a = b
 | [], [], _ => rfl
 | t :: ts, u :: us, h => by
  simp only [Ty.eqbs, Bool.and_eq_true] at h
  rw [Ty.eqb_eq t u h.1, Ty.eqbs_eq ts us h.2]
 | [], _ :: _, h | _ :: _, [], h => by simp [Ty.eqbs] at h
end
def Qh (t t' : Ty) (x : El t) : Option (El t') := if h : Ty.eqb t t' = true then some ((Ty.eqb_eq t t' h) ▸ x) else none
def y4V (ts ts' : List Ty) (xs : List (z8 ts)) : Option (List (z8 ts')) := if h : Ty.eqbs ts ts' = true then some ((Ty.eqbs_eq ts ts' h) ▸ xs) else none
mutual
def y67 : (t : Ty) → El t
 | .int _ => (0 : Int)
 | .bool => false
 | .str => (⟨#[]⟩ : ByteArray)
 | .sl _ ts => ([] : List (z8 ts))
def Vz : (ts : List Ty) → z8 ts
 | [] => ()
 | t :: [] => y67 t
 | t :: u :: r => (y67 t, Vz (u :: r))
end
inductive A where
 | dead
 | und
 | val (t : Ty) (x : El t)
 | nils
 | nilp
 | own (o : Nat)
 | agg (l : List A)
 | tup (l : List A)
 | box (b off : Nat)
 | elp (e : Nat) (ts : List Ty) (xs : List (z8 ts)) (i : Int) (c : Nat)
 | rtp (o : Nat) (i : Int) (c : Nat)
 | fn (f : Nat)
 | clo (f b : Nat)
 | win (o : Nat) (h : Int)
 | tl (o : Nat) (l : Int)
 | top (e : Nat) (ts : List Ty) (xs : List (z8 ts))
inductive Ob where
 | box (cells : List A)
 | root (own : Bool) (e : Nat) (ts : List Ty) (xs : List (z8 ts))
 | gone
structure St where
 t : List A
 o : List (Nat × Ob)
structure Eff where
 sets : List (Nat × Ob)
 adds : List (Nat × Ob)
 a : A
inductive TI where
 | c (t : Ty) (bytes : Nat)
 | s (fs : List (Nat × Nat)) (ts : List Ty) (bytes : Nat)
def TI.ts : TI → List Ty
 | .c t _ => [t]
 | .s _ ts _ => ts
def TI.isAgg : TI → Bool
 | .c _ _ => false
 | .s _ _ _ => true
def TI.bytes : TI → Nat
 | .c _ b => b
 | .s _ _ b => b
inductive PK where
 | v (agg : Bool) (ts : List Ty) (own : List Bool)
 | p (wr : Option Nat) (ts : List Ty) (own : List Bool)
 | k (f : Nat)
structure RK where
 agg : Bool
 ts : List Ty
 own : List Bool
structure Sig where
 ps : List PK
 rs : List RK
 ptr : Bool
 back : Bool
def PK.ins : PK → List Ty
 | .v _ ts _ => ts
 | .p _ ts _ => ts
 | .k _ => []
def PK.outs : PK → List Ty
 | .v _ _ _ => []
 | .p _ ts _ => ts
 | .k _ => []
def PK.owns : PK → List Bool
 | .v _ _ _ => []
 | .p _ _ os => os
 | .k _ => []
def PK.ownsIn : PK → List Bool
 | .v _ _ os => os
 | .p _ _ os => os
 | .k _ => []
def PK.isP : PK → Bool
 | .v _ _ _ => false
 | .p _ _ _ => true
 | .k _ => true
def PK.back : PK → Option Nat
 | .p _ ts _ => some ts.length
 | _ => none
def Sig.ins (s : Sig) : List Ty := s.ps.flatMap PK.ins
def Sig.outs (s : Sig) : List Ty := s.rs.flatMap RK.ts ++ s.ps.flatMap PK.outs
def Sig.owns (s : Sig) : List Bool := s.rs.flatMap RK.own ++ s.ps.flatMap PK.owns
def Ty.flat : Ty → Bool
 | .sl _ _ => false
 | _ => true
def y7Z : List Ty → Bool
 | [] => true
 | t :: r => t.flat && y7Z r
def y80 : List Ty → List Bool → Bool
 | [], _ => true
 | t :: r, os => (t.flat || (os.headD false && (match t with
  | .sl _ ts => y7Z ts
  | _ => false))) && y80 r os.tail
def Sig.hfree (s : Sig) : Bool := y80 s.outs s.owns
structure Ctx where
 info : Nat → Option TI
 sig : Nat → Option Sig
 live : Nat → Nat → Option (List Nat × List Nat)
 key : Nat → List Nat → Nat
 fid : Nat → Nat
 hint : Nat → List Nat
 gl : (Nat → Option Obj) → Prop := fun _ => True
 glm : ∀ H H' : Nat → Option Obj, (∀ k o, H k = some o → H' k = some o) → gl H → gl H' := by exact fun _ _ _ h => h
def Ctx.ins (C : Ctx) (f : Nat) : List Ty := match C.sig f with
 | some s => s.ins
 | none => []
def Ctx.outs (C : Ctx) (f : Nat) : List Ty := match C.sig f with
 | some s => s.outs
 | none => []
abbrev Ctx.Sem (C : Ctx) : Type := (f : Nat) → z8 (C.ins f) → Option (z8 (C.outs f))
def y9B {α : Type} : List (Nat × α) → Nat → Option α
 | [], _ => none
 | (j, x) :: r, i => bif Nat.beq j i then some x else y9B r i
def eqN : List Nat → List Nat → Bool
 | [], [] => true
 | i :: l, j :: m => Nat.beq i j && eqN l m
 | _, _ => false
def JU : List (Nat × List Nat × Nat) → Nat → List Nat → Nat
 | [], f, _ => f
 | (g, l, k) :: r, f, m => bif Nat.beq g f && eqN l m then k else JU r f m
def ylT : List (Nat × List Nat × Nat) → Nat → Nat
 | [], f => f
 | (g, _, k) :: r, f => bif Nat.beq k f then g else ylT r f
def yhR : List (Nat × List Nat) → Nat → List Nat
 | [], _ => []
 | (g, l) :: r, f => bif Nat.beq g f then l else yhR r f
def z4 : List (Nat × Ob) → Nat → Option Ob
 | [], _ => none
 | (j, x) :: r, i => bif Nat.beq j i then some x else z4 r i
def Vi (l : List Nat) (i : Nat) : Bool := match l with
 | [] => false
 | j :: r => Nat.beq j i || Vi r i
mutual
def A.forget (i : Nat) : A → A
 | .own o => bif Nat.beq o i then .dead else .own o
 | .box b off => bif Nat.beq b i then .dead else .box b off
 | .rtp o j c => bif Nat.beq o i then .dead else .rtp o j c
 | .clo f b => bif Nat.beq b i then .dead else .clo f b
 | .win o h => bif Nat.beq o i then .dead else .win o h
 | .tl o h => bif Nat.beq o i then .dead else .tl o h
 | .agg l => .agg (za i l)
 | .tup l => .tup (za i l)
 | .dead => .dead
 | .und => .und
 | .val t x => .val t x
 | .nils => .nils
 | .nilp => .nilp
 | .elp e ts xs j c => .elp e ts xs j c
 | .top e ts xs => .top e ts xs
 | .fn f => .fn f
def za (i : Nat) : List A → List A
 | [] => []
 | a :: r => A.forget i a :: za i r
end
def Ob.forget (i : Nat) : Ob → Ob
 | .box cs => .box (za i cs)
 | .root own e ts xs => .root own e ts xs
 | .gone => .gone
def Yk (i : Nat) : List (Nat × Ob) → List (Nat × Ob)
 | [] => []
 | (j, x) :: r => bif Nat.beq j i then Yk i r else (j, x.forget i) :: Yk i r
def St.forget (s : St) (i : Nat) : St := ⟨za i s.t, Yk i s.o⟩
def St.forgetAll (s : St) : List Nat → St
 | [] => s
 | i :: r => (s.forget i).forgetAll r
def St.make (s : St) (i : Nat) (x : Ob) : St := ⟨za i s.t, (i, x) :: Yk i s.o⟩
def St.makeAll (s : St) : List (Nat × Ob) → St
 | [] => s
 | (i, x) :: r => (s.make i x).makeAll r
def qW : List (Nat × Ob) → Nat → Ob → List (Nat × Ob)
 | [], _, _ => []
 | (j, x) :: r, i, y => bif Nat.beq j i then (j, y) :: r else (j, x) :: qW r i y
def St.set (s : St) (i : Nat) (x : Ob) : St := ⟨s.t, qW s.o i x⟩
def St.setAll (s : St) : List (Nat × Ob) → St
 | [] => s
 | (i, x) :: r => (s.set i x).setAll r
def St.put (s : St) (d : Option Nat) (a : A) : St := match d with
 | some d => ⟨s.t.set d a, s.o⟩
 | none => s
def St.apply (s : St) (d : Option Nat) (e : Eff) : St := ((s.makeAll e.adds).setAll e.sets).put d e.a
def y81 : Value → A
 | .int k n => .val (.int k) n
 | .bool b => .val .bool b
 | .string s => .val .str s
 | .slice none 0 0 => .nils
 | .pointer none => .nilp
 | _ => .dead
def y68 : Value → A
 | .agg cs => .agg (cs.toList.map y81)
 | v => y81 v
def St.opd (s : St) : Operand → A
 | .tmp i => s.t.getD i .dead
 | .const v => y68 v
 | .func f => .fn f
 | .global _ => .dead
def qX : (ts : List Ty) → z8 ts → List A
 | [], _ => []
 | t :: [], x => [.val t x]
 | t :: u :: r, x => .val t x.1 :: qX (u :: r) x.2
def A.cells : A → List A
 | .agg l => l
 | a => [a]
def A.one : A → Bool
 | .dead => false
 | .und => false
 | .agg _ => false
 | .tup _ => false
 | _ => true
def Ku : List A → Bool
 | [] => true
 | a :: r => a.one && Ku r
def mkA (agg : Bool) (l : List A) : Option A := bif agg then some (.agg l) else match l with
 | [a] => some a
 | _ => none
abbrev Lk := Nat → Option Ob
def toT (lk : Lk) (t : Ty) : A → Option (El t × List Nat)
 | .val t' x => (Qh t' t x).map fun y => (y, [])
 | .nils => match t with
  | .sl e ts => some (y67 (.sl e ts), [])
  | _ => none
 | .own o => match lk o with
  | some (.root _ e ts xs) => (Qh (.sl e ts) t xs).map fun y => (y, [o])
  | _ => none
 | .win o h => match lk o with
  | some (.root _ e ts xs) => (Qh (.sl e ts) t (xs.take (Int.toNat h))).map fun y => (y, [o])
  | _ => none
 | _ => none
def toE (lk : Lk) : (ts : List Ty) → List A → Option (z8 ts × List Nat)
 | [], [] => some ((), [])
 | t :: [], [a] => toT lk t a
 | t :: u :: r, a :: l => match toT lk t a with
  | some (x, is) => match toE lk (u :: r) l with
   | some (y, js) => some ((x, y), is ++ js)
   | none => none
  | none => none
 | _, _ => none
def settles (lk : Lk) : List Nat → List (Nat × Ob)
 | [] => []
 | o :: r => match lk o with
  | some (.root _ e ts xs) => (o, .root false e ts xs) :: settles lk r
  | _ => settles lk r
def ycx : (ts : List Ty) → z8 ts → Nat → (ys : List (Sigma El)) → Option (z8 ts)
 | _, x, _, [] => some x
 | [], _, _, _ :: _ => none
 | t :: [], _, 0, [⟨u, y⟩] => Qh u t y
 | _ :: [], _, _, _ => none
 | t :: v :: r, x, 0, ⟨u, y⟩ :: ys => match Qh u t y with
  | some z => match ycx (v :: r) x.2 0 ys with
   | some w => some (z, w)
   | none => none
  | none => none
 | t :: v :: r, x, c + 1, ys => match ycx (v :: r) x.2 c ys with
  | some w => some (x.1, w)
  | none => none
def y9x (lk : Lk) : A → Option (Sigma fun ts : List Ty => Nat × List (z8 ts))
 | .val (.sl e ts) xs => some ⟨ts, e, xs⟩
 | .top e ts xs => some ⟨ts, e, xs⟩
 | .own o => match lk o with
  | some (.root _ e ts xs) => some ⟨ts, e, xs⟩
  | _ => none
 | _ => none
def y1g (lk : Lk) (ts : List Ty) (a : A) : Option (List (z8 ts)) := match a with
 | .nils => some []
 | a => match y9x lk a with
  | some ⟨ts', _, xs⟩ => y4V ts' ts xs
  | none => none
def y3F (op : BinOp) (k : IntKind) (x y : Int) : Option A :=
 match op with
 | .add => some (.val (.int k) (k.wrap (x + y)))
 | .sub => some (.val (.int k) (k.wrap (x - y)))
 | .mul => some (.val (.int k) (k.wrap (x * y)))
 | .quo => if y = 0 then none else some (.val (.int k) (k.wrap (x.tdiv y)))
 | .rem => if y = 0 then none else some (.val (.int k) (x.tmod y))
 | .and => some (.val (.int k) (bits .and k x y))
 | .or => some (.val (.int k) (bits .or k x y))
 | .xor => some (.val (.int k) (bits .xor k x y))
 | .eql => some (.val .bool (x == y))
 | .neq => some (.val .bool (x != y))
 | .lss => some (.val .bool (decide (x < y)))
 | .leq => some (.val .bool (decide (x ≤ y)))
 | .gtr => some (.val .bool (decide (x > y)))
 | .geq => some (.val .bool (decide (x ≥ y)))
 | _ => none
def ylG (op : BinOp) (k : IntKind) (x y : Int) : Option A :=
 if y < 0 then none else match op with
 | .shl => some (.val (.int k) (k.wrap (x * 2 ^ (min y.toNat k.bits))))
 | .shr => some (.val (.int k) (x.fdiv (2 ^ (min y.toNat k.bits))))
 | _ => none
def y69 (op : BinOp) (x y : ByteArray) : Option A :=
 match op with
 | .add => if x.size + y.size < 140737488355328 then some (.val .str (x ++ y)) else none
 | .eql => some (.val .bool (x.toList == y.toList))
 | .neq => some (.val .bool (!(x.toList == y.toList)))
 | .lss => some (.val .bool (Op.bytesLess x.toList y.toList))
 | .leq => some (.val .bool (Op.bytesLess x.toList y.toList || x.toList == y.toList))
 | .gtr => some (.val .bool (!(Op.bytesLess x.toList y.toList || x.toList == y.toList)))
 | .geq => some (.val .bool (!Op.bytesLess x.toList y.toList))
 | _ => none
def y2x (op : BinOp) (x y : Bool) : Option A := match op with
 | .eql => some (.val .bool (x == y))
 | .neq => some (.val .bool (!(x == y)))
 | _ => none
def y9y (op : BinOp) : A → A → Option A
 | .val .bool x, .val .bool y => y2x op x y
 | .val (.int k) x, .val (.int k') y => match op with
  | .shl => ylG .shl k x y
  | .shr => ylG .shr k x y
  | op => if k = k' then y3F op k x y else none
 | .val .str x, .val .str y => y69 op x y
 | _, _ => none
def ylU {R : Type} (op : BinOp) : A → A → (A → Option R) → Option R
 | .val .bool x, .val .bool y, k => match y2x op x y with
  | some a => k a
  | none => none
 | .val (.int k1) x, .val (.int k2) y, k => match op with
  | .shl => if (show Int from y) < 0 then none else k (.val (.int k1) (k1.wrap ((show Int from x) * 2 ^ (min (Int.toNat y) k1.bits))))
  | .shr => if (show Int from y) < 0 then none else k (.val (.int k1) (Int.fdiv x (2 ^ (min (Int.toNat y) k1.bits))))
  | .quo => if k1 = k2 then if (show Int from y) = 0 then none else k (.val (.int k1) (k1.wrap (Int.tdiv x y))) else none
  | .rem => if k1 = k2 then if (show Int from y) = 0 then none else k (.val (.int k1) (Int.tmod x y)) else none
  | op => if k1 = k2 then match y3F op k1 x y with
   | some a => k a
   | none => none else none
 | .val .str x, .val .str y, k => match op with
  | .add => if ByteArray.size x + ByteArray.size y < 140737488355328 then k (.val .str (show ByteArray from (show ByteArray from x) ++ (show ByteArray from y))) else none
  | op => match y69 op x y with
   | some a => k a
   | none => none
 | _, _, _ => none
theorem ydA {R : Type} (op : BinOp) (x y : A) (k : A → Option R) : ylU op x y k = (y9y op x y).bind k := by
 cases x with
 | val t1 x =>
  cases y with
  | val t2 y =>
   cases t1 <;> cases t2 <;> try rfl
   ·rename_i k1 k2
    cases op <;> simp only [ylU, y9y, ylG, y3F] <;> (repeat' split) <;> first | rfl | simp_all
   ·simp only [ylU, y9y]
    cases y2x op x y <;> rfl
   ·cases op <;> simp only [ylU, y9y, y69] <;> (repeat' split) <;> first | rfl | simp_all
  | _ => cases t1 <;> rfl
 | _ => rfl
def y82 (ti : TI) : A → Bool
 | .val .bool _ => (match ti with
  | .c .bool _ => true
  | _ => false)
 | _ => true
def unA (op : UnOp) : A → Option A
 | .val .bool b => match op with
  | .not => some (.val .bool (!b))
  | _ => none
 | .val (.int k) n => match op with
  | .neg => some (.val (.int k) (k.wrap (0 - (show Int from n))))
  | _ => none
 | _ => none
def Vj (s : ByteArray) : List Int := s.data.toList.map fun b => (b.toNat : Int)
def ybe (l : List Int) : ByteArray := ⟨(l.map fun n => UInt8.ofNat n.toNat).toArray⟩
def ycy (lk : Lk) (same : Bool) (te : TI) (u : Option TI) : (ts : List Ty) → A → Option (List (z8 ts))
 | [.int .u8], y => bif same then y1g lk [.int .u8] y else match te, u, y with
  | .c (.int .u8) 1, some (.c .str _), .val .str s => some (Vj s)
  | _, _, _ => none
 | ts, y => bif same then y1g lk ts y else none
def rdE (ts : List Ty) (xs : List (z8 ts)) (i : Int) : z8 ts := xs.getD i.toNat (Vz ts)
def y0W : Ty → A → A → Option Bool
 | .int _, .val (.int k) x, .val (.int k') y => if k = k' then some ((show Int from x) == (show Int from y)) else none
 | .bool, .val .bool x, .val .bool y => some ((show Bool from x) == (show Bool from y))
 | .str, .val .str x, .val .str y => some ((show ByteArray from x).toList == (show ByteArray from y).toList)
 | _, _, _ => none
def Y4 : List Ty → List A → List A → Option Bool
 | [], [], [] => some true
 | t :: ts, a :: l, b :: m => match y0W t a b with
  | some u => (Y4 ts l m).map fun v => u && v
  | none => none
 | _, _, _ => none
def y4W (C : Ctx) : Nat → Nat → Bool
 | 0, _ => false
 | n + 1, t => match C.info t with
  | some (.c t _) => t.flat
  | some (.s fs _ _) => fs.all fun p => y4W C n p.2
  | none => false
def y9C (C : Ctx) (op : BinOp) (t : Nat) : TI → A → A → Option Bool
 | .s _ ts _, .agg l, .agg m => (match op with
  | .eql => bif y4W C 8 t then Y4 ts l m else none
  | .neq => bif y4W C 8 t then (Y4 ts l m).map fun b => !b else none
  | _ => none)
 | _, _, _ => none
def y3G (lk : Lk) (ti : TI) : A → Option A
 | .box b off => match lk b with
  | some (.box cs) => bif Nat.ble (off + ti.ts.length) cs.length then mkA ti.isAgg ((cs.drop off).take ti.ts.length) else none
  | _ => none
 | .elp _ ts xs i c => bif Nat.ble (c + ti.ts.length) ts.length then mkA ti.isAgg (((qX ts (rdE ts xs i)).drop c).take ti.ts.length) else none
 | .rtp o i c => match lk o with
  | some (.root _ _ ts xs) => bif Nat.ble (c + ti.ts.length) ts.length then mkA ti.isAgg (((qX ts (rdE ts xs i)).drop c).take ti.ts.length) else none
  | _ => none
 | _ => none
def jm {α : Type} : List α → Nat → List α → Option (List α)
 | l, _, [] => some l
 | [], _, _ :: _ => none
 | _ :: l, 0, x :: xs => match jm l 0 xs with
  | some r => some (x :: r)
  | none => none
 | y :: l, n + 1, xs => match jm l n xs with
  | some r => some (y :: r)
  | none => none
def y2U (lk : Lk) : (ts : List Ty) → Nat → List A → Option (List (Sigma El) × List Nat)
 | _, _, [] => some ([], [])
 | [], _, _ :: _ => none
 | t :: ts, 0, a :: l => match toT lk t a with
  | some (x, is) => match y2U lk ts 0 l with
   | some (r, js) => some (⟨t, x⟩ :: r, is ++ js)
   | none => none
  | none => none
 | _ :: ts, c + 1, a :: l => y2U lk ts c (a :: l)
def Jd : List Nat → List (Nat × Ob)
 | [] => []
 | i :: r => (i, .gone) :: Jd r
def y1h : List Nat → Bool
 | [] => true
 | i :: r => !Vi r i && y1h r
def ybf (lk : Lk) (p v : A) : Option (List (Nat × Ob)) := match p with
 | .box b off => match lk b with
  | some (.box cs) => match jm cs off v.cells with
   | some cs' => bif Ku v.cells then some [(b, .box cs')] else none
   | none => none
  | _ => none
 | .rtp o i c => match lk o with
  | some (.root true e ts xs) => match y2U lk ts c v.cells with
   | some (ys, is) => match ycx ts (rdE ts xs i) c ys with
    | some x => bif Vi is o then none else some (settles lk is ++ [(o, .root true e ts (xs.set i.toNat x))])
    | none => none
   | none => none
  | _ => none
 | _ => none
def ycz : Ty → A
 | .sl _ _ => .nils
 | t => .val t (y67 t)
mutual
def A.ids : A → List Nat
 | .own o => [o]
 | .box b _ => [b]
 | .rtp o _ _ => [o]
 | .clo _ b => [b]
 | .win o _ => [o]
 | .tl o _ => [o]
 | .agg l => jk l
 | .tup l => jk l
 | .dead => []
 | .und => []
 | .val _ _ => []
 | .nils => []
 | .nilp => []
 | .elp _ _ _ _ _ => []
 | .top _ _ _ => []
 | .fn _ => []
def jk : List A → List Nat
 | [] => []
 | a :: r => a.ids ++ jk r
end
def wU : List Ty → List A → Nat → List A × List (Nat × Ob)
 | .sl e us :: ts, .nils :: l, n => bif y7Z us && Nat.blt 0 us.length then (.own n :: (wU ts l (n + 1)).1, (n, .root true e us []) :: (wU ts l (n + 1)).2) else (.nils :: (wU ts l (n + 1)).1, (wU ts l (n + 1)).2)
 | _ :: ts, a :: l, n => (a :: (wU ts l (n + 1)).1, (wU ts l (n + 1)).2)
 | _, l, _ => (l, [])
def y1i (C : Ctx) (ρ : Operand → A) (fs : List (Nat × Nat)) : List A → List (Nat × Operand) → Option (List A)
 | cs, [] => some cs
 | cs, (i, x) :: r => match fs[i]? with
  | some (off, t) => match C.info t with
   | some ti => bif Nat.beq (ρ x).cells.length ti.ts.length && Ku (ρ x).cells then match jm cs off (ρ x).cells with
     | some cs' => y1i C ρ fs cs' r
     | none => none
    else none
   | none => none
  | none => none
def ycA (lk : Lk) (ρ : Operand → A) (ts : List Ty) : List (Nat × Operand) → List (z8 ts) → List Nat → Option (List (z8 ts) × List Nat)
 | [], xs, is => some (xs, is)
 | (i, x) :: r, xs, is => match toE lk ts (ρ x).cells with
  | some (y, js) => bif Nat.blt i xs.length then ycA lk ρ ts r (xs.set i y) (is ++ js) else none
  | none => none
def ycB (lk : Lk) : A → Option Int
 | .nils => some 0
 | .val .str x => some x.size
 | .own o => match lk o with
  | some (.root _ _ _ xs) => some xs.length
  | _ => none
 | a => match y9x lk a with
  | some ⟨_, _, xs⟩ => some xs.length
  | none => none
def loA (ρ : Operand → A) : Option Operand → A
 | some l => ρ l
 | none => .val (.int .i64) (0 : Int)
def hiA (ρ : Operand → A) : Option Operand → Int → A
 | some h, _ => ρ h
 | none, n => .val (.int .i64) n
def y4X (C : Ctx) (t : Nat) (a : A) : Bool := match C.info t, a with
 | some (.c .str _), .val .str _ => true
 | some (.c (.sl _ _) _), .val (.sl _ _) _ => true
 | some (.c (.sl _ _) _), .nils => true
 | some (.c (.sl _ _) _), .own _ => true
 | _, _ => false
def J7 : Bool → A → Option (List A)
 | true, .agg l => some l
 | true, _ => none
 | false, .agg _ => none
 | false, a => some [a]
def qz : Option Nat → A → Option Nat
 | none, .box b off => bif Nat.beq off 0 then some b else none
 | some f, .clo f' b => bif Nat.blt f 1000000000 && Nat.beq f f' then some b else none
 | some f, .box b off => bif Nat.beq f (1000000000 + off) then some b else none
 | _, _ => none
def yfG : Option Nat → Nat → A
 | none, b => .box b 0
 | some f, b => bif Nat.blt f 1000000000 then .clo f b else .box b (f - 1000000000)
def Je (lk : Lk) : List PK → List A → Option (List A × List (Nat × Nat))
 | [], [] => some ([], [])
 | .v agg ts _ :: ps, a :: as => match J7 agg a, Je lk ps as with
  | some c, some (l, bs) => bif Nat.beq c.length ts.length then some (c ++ l, bs) else none
  | _, _ => none
 | .p wr ts _ :: ps, a :: as => match qz wr a with
  | some b => match lk b with
   | some (.box cs) => match Je lk ps as with
    | some (l, bs) => bif Nat.beq ts.length cs.length then some (cs ++ l, (b, ts.length) :: bs) else none
    | none => none
   | _ => none
  | none => none
 | .k f :: ps, a :: as => match a with
  | .fn f' => bif Nat.beq f f' then Je lk ps as else none
  | _ => none
 | _, _ => none
def y20 : A → Option (Nat × List A)
 | .fn f => some (f, [])
 | .clo f b => some (f, [.box b 0])
 | _ => none
def yj5 (lk : Lk) : List A → List Nat
 | [] => []
 | a :: r => match a with
  | .fn f => f :: yj5 lk r
  | .clo f _ => f :: yj5 lk r
  | .box b off => (match lk b with
   | some (.box cs) => (2000000000 + cs.length * 100000 + off) :: yj5 lk r
   | _ => yj5 lk r)
  | _ => yj5 lk r
def qA (lk : Lk) (own : Bool) (t : Ty) (a : A) : Option (El t × List Nat × List Nat) := bif own then (match a, t with
  | .own o, t => match lk o with
   | some (.root true e ts xs) => (Qh (.sl e ts) t xs).map fun y => (y, [], [o])
   | _ => none
  | .nils, .sl e ts => bif Nat.blt 0 ts.length then some (y67 (.sl e ts), [], []) else none
  | .val t' x, t => bif t.flat then (Qh t' t x).map fun y => (y, [], []) else none
  | _, _ => none) else (toT lk t a).map fun (y, is) => (y, is, [])
def VT (lk : Lk) : (ts : List Ty) → List Bool → List A → Option (z8 ts × List Nat × List Nat)
 | [], _, [] => some ((), [], [])
 | t :: [], os, [a] => qA lk (os.headD false) t a
 | t :: u :: r, os, a :: l => match qA lk (os.headD false) t a with
  | some (x, is, gs) => match VT lk (u :: r) os.tail l with
   | some (y, js, hs) => some ((x, y), is ++ js, gs ++ hs)
   | none => none
  | none => none
 | _, _, _ => none
def wm (tg : Bool) : (t : Ty) → Bool → El t → Nat → A × List (Nat × Ob)
 | .sl e us, true, x, n => bif tg then (.top e us x, []) else (.own n, [(n, .root true e us x)])
 | t, _, x, _ => (.val t x, [])
def zb (tg : Bool) : (ts : List Ty) → List Bool → z8 ts → Nat → List A × List (Nat × Ob)
 | [], _, _, _ => ([], [])
 | t :: [], os, x, n => ([(wm tg t (os.headD false) x n).1], (wm tg t (os.headD false) x n).2)
 | t :: u :: r, os, x, n => ((wm tg t (os.headD false) x.1 n).1 :: (zb tg (u :: r) os.tail x.2 (n + 1)).1, (wm tg t (os.headD false) x.1 n).2 ++ (zb tg (u :: r) os.tail x.2 (n + 1)).2)
def qY : List RK → List A → Option (List A × List A)
 | [], l => some ([], l)
 | r :: rs, l => match mkA r.agg (l.take r.ts.length) with
  | some a => match qY rs (l.drop r.ts.length) with
   | some (as, l2) => some (a :: as, l2)
   | none => none
  | none => none
def y21 : List (Nat × Nat) → List A → List (Nat × Ob)
 | [], _ => []
 | (b, n) :: bs, l => (b, .box (l.take n)) :: y21 bs (l.drop n)
def y0z : List Nat → List Nat → Bool
 | [], _ => true
 | i :: r, l => !Vi l i && y0z r l
def zh {α : Type} : List (Nat × α) → List Nat
 | [] => []
 | (i, _) :: r => i :: zh r
def KZ {α : Type} : List α → Bool
 | [] => true
 | _ => false
def y6a (sg : Sig) (d : Nat) (l : List A) : Option (List (Nat × Ob) × A × List A) := bif sg.ptr then (match sg.rs with
  | q :: rs => (match qY rs (l.drop q.ts.length) with
   | some (as, rest) => some ([(1000 * (d + 1) + 500, .box (l.take q.ts.length))], (match as with | [] => .box (1000 * (d + 1) + 500) 0 | as => .tup (.box (1000 * (d + 1) + 500) 0 :: as)), rest)
   | none => none)
  | _ => none) else match qY sg.rs l with
  | some (as, rest) => some ([], (match as with | [a] => a | as => .tup as), rest)
  | none => none
section
def ydB (lk : Lk) (same : Bool) (e : Nat) (ts : List Ty) : A → A → Option (Nat × List (z8 ts) × List (z8 ts))
 | .win r h, .tl r2 l => match lk r with
  | some (.root true e1 ts1 xs) => match y4V ts1 ts xs with
   | some xs => bif same && Nat.beq r r2 && Nat.beq e1 e then some (r, xs.take (Int.toNat h), xs.drop (Int.toNat l)) else none
   | none => none
  | _ => none
 | _, _ => none
def yfH : Option Operand → Bool
 | none => true
 | some _ => false
variable {R : Type} (C : Ctx) (call : C.Sem)
def VU (lk : Lk) (sg : Sig) (bs : List (Nat × Nat)) (is gs : List Nat) (d : Nat) (ts : List Ty) (r : z8 ts) : Option Eff :=
 match zb false ts sg.owns r (1000 * (d + 1)) with
 | (l, obs) => match y6a sg d l with
  | some (ex, a, rest) => bif y0z (zh (obs ++ ex)) (is ++ (gs ++ zh bs)) && (KZ ex || Nat.ble ts.length 500) then some ⟨settles lk is ++ (Jd (bif sg.back then [] else gs) ++ y21 bs rest), obs ++ ex, a⟩ else none
  | none => none
def ydC (lk : Lk) (dst : Option Nat) (g : Nat) (as : List A) (q : Nat) (k : Eff → Option R) : Option R := match C.sig q with
 | some sg => match Je lk sg.ps as with
  | some (l, bs) => match VT lk (C.ins q) (sg.ps.flatMap PK.ownsIn) l, dst with
   | some (xs, is, gs), some d => bif y1h (zh bs) && y1h gs && y0z gs is && Nat.beq (C.fid q) g then
     (call q xs).bind fun r => match VU lk sg bs (bif sg.hfree then [] else is) gs d (C.outs q) r with
      | some e => k e
      | none => none
    else none
   | _, _ => none
  | none => none
 | none => none
def jG (ct wn : Bool) (o : Oper) (ρ : Operand → A) (lk : Lk) (k : Eff → Option R) : Option R :=
 match o.op with
 | .move x | .assign x => k ⟨[], [], ρ x⟩
 | .box t x => match C.info t, o.dst with
  | some ti, some d => bif Nat.beq (ρ x).cells.length ti.ts.length && Ku (ρ x).cells then
    k ⟨[], [(d, .box (za d (ρ x).cells))], .box d 0⟩
   else none
  | _, _ => none
 | .alloc t => match C.info t, o.dst with
  | some ti, some d => k ⟨[], [(d, .box (ti.ts.map ycz))], .box d 0⟩
  | _, _ => none
 | .build t parts => match C.info t with
  | some (.s fs ts _) => match y1i C ρ fs (ts.map ycz) parts.toList with
   | some l => bif ct then (match o.dst with
    | some d => bif y0z (zh (wU ts l (1000 * (d + 1))).2) (jk l) then k ⟨[], (wU ts l (1000 * (d + 1))).2, .agg (wU ts l (1000 * (d + 1))).1⟩ else none
    | none => none) else k ⟨[], [], .agg l⟩
   | none => none
  | _ => none
 | .buildSlice t n parts => match C.info t, o.dst with
  | some (.c (.sl e ts) _), some d => match ycA lk ρ ts parts.toList (List.replicate n (Vz ts)) [] with
   | some (xs, is) => bif Vi is d || !Nat.ble (n * ts.length) 16777216 then none else k ⟨settles lk is, [(d, .root true e ts xs)], .own d⟩
   | none => none
  | _, _ => none
 | .makeSlice t l c => match C.info t, o.dst with
  | some (.c (.sl e ts) _), some d => match C.info e, ρ l, ρ c with
   | some te, .val (.int .i64) n, .val (.int .i64) m =>
    if 0 ≤ (show Int from n) then if (show Int from n) ≤ (show Int from m) then if (show Int from m) * te.bytes ≤ 140737488351232 then
     k ⟨[], [(d, .root true e ts (List.replicate (Int.toNat n) (Vz ts)))], .own d⟩
    else none else none else none
   | _, _, _ => none
  | _, _ => none
 | .load t x => match C.info t with
  | some ti => match y3G lk ti (ρ x) with
   | some a => k ⟨[], [], a⟩
   | none => none
  | none => none
 | .store t p x => match C.info t with
  | some ti => bif Nat.beq (ρ x).cells.length ti.ts.length then match ybf lk (ρ p) (ρ x) with
    | some sets => k ⟨sets, [], .dead⟩
    | none => none
   else none
  | none => none
 | .nilCheck x => match ρ x with
  | .box b off => k ⟨[], [], .box b off⟩
  | .elp e ts xs i c => k ⟨[], [], .elp e ts xs i c⟩
  | .rtp r i c => k ⟨[], [], .rtp r i c⟩
  | _ => none
 | .binOp op t x y _ => match C.info t with
  | some ti => match y9C C op t ti (ρ x) (ρ y) with
   | some b => k ⟨[], [], .val .bool b⟩
   | none => bif y82 ti (ρ x) then ylU op (ρ x) (ρ y) fun a => k ⟨[], [], a⟩ else none
  | none => none
 | .unOp op _ x => match unA op (ρ x) with
  | some a => k ⟨[], [], a⟩
  | none => none
 | .convert src dst x => match C.info src, C.info dst, ρ x with
  | some _, some (.c (.int k2) _), .val (.int _) n => k ⟨[], [], .val (.int k2) (k2.wrap n)⟩
  | some _, some (.c .str _), .val .str x => k ⟨[], [], .val .str x⟩
  | some (.c .str _), some (.c (.sl e [.int .u8]) _), .val .str x => match C.info e with
   | some (.c (.int .u8) _) => if ByteArray.size x < 140737488351232 then k ⟨[], [], .val (.sl e [.int .u8]) (Vj x)⟩ else none
   | _ => none
  | some (.c (.sl e [.int .u8]) _), some (.c .str _), a => match C.info e, y1g lk [.int .u8] a with
   | some (.c (.int .u8) _), some l => k ⟨[], [], .val .str (ybe l)⟩
   | _, _ => none
  | _, _, _ => none
 | .slice t x lo hi none =>
  match ρ x, loA ρ lo with
  | a, .val (.int _) l => match ycB lk a with
   | some n => match hiA ρ hi n with
    | .val (.int _) h => if 0 ≤ (show Int from l) then if (show Int from l) ≤ (show Int from h) then if (show Int from h) ≤ n then
      match C.info t, a with
      | some (.c .str _), .val .str x => k ⟨[], [], .val .str (ByteArray.extract x (Int.toNat l) (Int.toNat h))⟩
      | some (.c (.sl _ us) _), .val (.sl e ts) xs => bif Nat.beq us.length ts.length then k ⟨[], [], .val (.sl e ts) (((show List (z8 ts) from xs).take (Int.toNat h)).drop (Int.toNat l))⟩ else none
      | some (.c (.sl _ us) _), .top e ts xs => bif Nat.beq us.length ts.length then k ⟨[], [], .top e ts ((xs.take (Int.toNat h)).drop (Int.toNat l))⟩ else none
      | some (.c (.sl _ us) _), .own r => match lk r with
       | some (.root own e ts xs) => bif Nat.beq us.length ts.length then (bif ct && own && yfH lo then (match o.dst with
         | some d => bif Nat.beq r d then none else k ⟨[(r, .gone)], [(d, .root true e ts (xs.take (Int.toNat h)))], .own d⟩
         | none => none)
        else bif wn && own && yfH lo then k ⟨[], [], .win r h⟩
        else bif wn && own && yfH hi then k ⟨[], [], .tl r l⟩
        else k ⟨bif own then [(r, .root false e ts xs)] else [], [], .val (.sl e ts) ((xs.take (Int.toNat h)).drop (Int.toNat l))⟩) else none
       | _ => none
      | _, _ => none
     else none else none else none
    | _ => none
   | none => none
  | _, _ => none
 | .fieldAddr t x f => match C.info t with
  | some (.s fs _ _) => match fs[f]?, ρ x with
   | some (d, _), .box b off => k ⟨[], [], .box b (off + d)⟩
   | some (d, _), .elp e ts xs i c => k ⟨[], [], .elp e ts xs i (c + d)⟩
   | some (d, _), .rtp r i c => k ⟨[], [], .rtp r i (c + d)⟩
   | _, _ => none
  | _ => none
 | .field t x f => match C.info t with
  | some (.s fs _ _) => match fs[f]? with
   | some (d, t2) => match C.info t2 with
    | some ti => match ρ x with
     | .agg l => bif Nat.ble (d + ti.ts.length) l.length then match mkA ti.isAgg ((l.drop d).take ti.ts.length) with
      | some a => k ⟨[], [], a⟩
      | none => none else none
     | _ => none
    | none => none
   | none => none
  | _ => none
 | .indexAddr t x i => match C.info t, ρ x, ρ i with
  | some (.c (.sl _ us) _), .val (.sl e ts) xs, .val (.int _) n => if 0 ≤ (show Int from n) then if (show Int from n) < (show List (z8 ts) from xs).length then bif Nat.beq us.length ts.length then k ⟨[], [], .elp e ts xs n 0⟩ else none else none else none
  | some (.c (.sl _ us) _), .own r, .val (.int _) n => match lk r with
   | some (.root _ _ ts xs) => if 0 ≤ (show Int from n) then if (show Int from n) < xs.length then bif Nat.beq us.length ts.length then k ⟨[], [], .rtp r n 0⟩ else none else none else none
   | _ => none
  | _, _, _ => none
 | .index t x i => match C.info t, ρ x, ρ i with
  | some (.c .str _), .val .str x, .val (.int _) n => if 0 ≤ (show Int from n) then if h : Int.toNat n < ByteArray.size x then k ⟨[], [], .val (.int .u8) ((ByteArray.get x (Int.toNat n) h).toNat : Int)⟩ else none else none
  | _, _, _ => none
 | .extract x i => match ρ x with
  | .tup l => match l[i]? with
   | some a => k ⟨[], [], a⟩
   | none => none
  | _ => none
 | .call c => match c.callee, c.args.toList, c.argTypes.toList with
  | .builtin .len, [x], t :: _ => match ycB lk (ρ x), y4X C t (ρ x) with
   | some n, true => k ⟨[], [], .val (.int .i64) n⟩
   | _, _ => none
  | .builtin .min, [x, y], _ => match ρ x, ρ y with
   | .val (.int k1) n, .val (.int k2) m => if k1 = k2 then k ⟨[], [], .val (.int k1) (if (show Int from m) < (show Int from n) then m else n)⟩ else none
   | _, _ => none
  | .builtin .append, [x, y], [t, t2] => match C.info t, o.dst with
   | some (.c (.sl e ts) _), some d => match C.info e with
    | some te => match ydB lk (Nat.beq t t2) e ts (ρ x) (ρ y) with
     | some (r, xs, ys) => bif Nat.beq r d then none else if (xs.length + ys.length) * te.bytes < 140737488355328 then k ⟨[(r, .gone)], [(d, .root true e ts (xs ++ ys))], .own d⟩ else none
     | none => match ρ x, ycy lk (Nat.beq t t2) te (C.info t2) ts (ρ y) with
     | .nils, some ys => if ys.length * te.bytes < 140737488355328 then k ⟨[], [(d, .root true e ts ys)], .own d⟩ else none
     | .own r, some ys => match lk r with
      | some (.root true e1 ts1 xs) => match y4V ts1 ts xs with
       | some xs => bif Nat.beq r d || !Nat.beq e1 e then none else if (xs.length + ys.length) * te.bytes < 140737488355328 then k ⟨[(r, .gone)], [(d, .root true e ts (xs ++ ys))], .own d⟩ else none
       | none => none
      | _ => none
     | _, _ => none
    | none => none
   | _, _ => none
  | .value f, as, _ => match y20 (ρ f) with
   | some (g, ex) => ydC C call lk o.dst g (as.map ρ ++ ex) (C.key g (yj5 lk (as.map ρ))) k
   | none => none
  | _, _, _ => none
 | .makeFunc (.func f) first captured => match first.toList, captured.toList with
  | [], [] => k ⟨[], [], .fn f⟩
  | [], [x] => match ρ x with
   | .box b off => bif Nat.beq off 0 then k ⟨[], [], .clo f b⟩ else none
   | _ => none
  | _, _ => none
 | _ => none
structure Dop where
 o : Oper
 g : Option (Nat × Bool)
 vis : Nat
 cls : Nat
 bad : List Nat
 later : List Nat
 mine : List Nat
 hn : Nat
 fp : List Nat
def Ob.ids : Ob → List Nat
 | .box cs => jk cs
 | _ => []
def y4S : List (Nat × Ob) → List Nat
 | [] => []
 | (i, x) :: r => i :: (x.ids ++ y4S r)
def Dop.see (x : Dop) (lk : Lk) : Lk := fun i => bif Vi x.bad i then none else match x.vis with
 | 0 => none
 | 1 => match lk i with
  | some (.box cs) => some (.box cs)
  | _ => none
 | 3 => match lk i with
  | some (.root own e ts xs) => some (.root own e ts xs)
  | _ => none
 | _ => lk i
def y1j (lk : Lk) : List (Nat × Ob) → Bool
 | [] => true
 | (i, x) :: r => (match lk i with
  | some (.root _ _ _ _) => (match x with
   | .box _ => false
   | _ => true)
  | _ => false) && y1j lk r
def Qk (lk : Lk) : List (Nat × Ob) → Bool
 | [] => true
 | (i, x) :: r => (match lk i with
  | some (.box _) => (match x with
   | .box _ => true
   | _ => false)
  | _ => false) && Qk lk r
def yhS : List Nat → List Nat → Bool
 | [], _ => true
 | i :: r, l => Vi l i && yhS r l
def Dop.ok (x : Dop) (lk : Lk) (e : Eff) : Bool :=
 (match x.cls with
  | 0 => KZ e.sets
  | 1 => y1j lk e.sets
  | 3 => Qk lk e.sets
  | 4 => yhS (zh e.sets) x.fp
  | _ => true) && yhS (zh e.adds) x.mine && (KZ x.later || y0z x.later (e.a.ids ++ (y4S e.sets ++ y4S e.adds)))
def yxm (x : Dop) (s : St) (k : St → Option R) : Option R :=
 jG C call (Nat.beq x.hn 2) (Nat.beq x.hn 3) x.o s.opd (x.see (z4 s.o)) fun e => bif x.ok (x.see (z4 s.o)) e then k (s.apply x.o.dst e) else none
def yxn (x : Dop) (s : St) (k : St → Option R) : Option R :=
 jG C call (Nat.beq x.hn 2) (Nat.beq x.hn 3) x.o s.opd (x.see (z4 s.o)) fun e => bif KZ e.sets && x.ok (x.see (z4 s.o)) e then k (s.apply x.o.dst e) else none
def Kv (c : Nat) : List Dop → List Dop → Option (List Dop × Dop × Operand × Operand × List Dop)
 | _, [] => none
 | acc, o :: r => match o.o.op, o.g with
  | .pick (.tmp j) a b, none => bif Nat.beq j c then some (acc.reverse, o, a, b, r) else Kv c (o :: acc) r
  | _, _ => Kv c (o :: acc) r
def yj6 (c : Nat) (b : Bool) : List Dop → List Dop
 | [] => []
 | x :: r => (match x.g with
  | some (c', b') => bif Nat.beq c c' && (b == b') then { x with g := none } else x
  | none => x) :: yj6 c b r
def Vk (n c : Nat) (b : Bool) : List Nat → List Dop → Bool
 | _, [] => true
 | ds, x :: r => (match x.g with
  | some (c', b') => (Nat.beq c c' && (b == b')) || Vi ds c'
  | none => false) && (match x.o.dst with
  | some d => !Nat.beq d c && Vk n c b (bif Nat.blt d n then d :: ds else ds) r
  | none => Vk n c b ds r)
def z6 (s : St) (x : Operand) : Option Bool := match s.opd x with
 | .val .bool b => some b
 | _ => none
def yR : List Dop → List Nat
 | [] => []
 | x :: r => match x.o.dst with
  | some d => d :: yR r
  | none => yR r
def ZH : List Dop → List Nat
 | [] => []
 | x :: r => x.mine ++ ZH r
def Y0 (s : St) : List Nat → St
 | [] => s
 | d :: r => Y0 (s.put (some d) .dead) r
def ylV (o : Oper) : Bool := match o.op with
 | .store _ _ _ => true
 | .call c => match c.callee with
  | .builtin .append => true
  | .value (.func f) => (match C.sig f with
   | some sg => sg.ps.any PK.isP || !sg.hfree
   | none => true)
  | _ => false
 | _ => false
def kE (pu : Bool) : {R : Type} → Nat → List Dop → St → (St → Option R) → Option R
 | _, _, [], s, k => k s
 | _, 0, _ :: _, _, _ => none
 | R, n + 1, x :: r, s, k => match x.g with
  | none => bif pu then yxn C call x s fun s1 => kE pu n r s1 k else yxm C call x s fun s1 => kE pu n r s1 k
  | some (c, want) => match z6 s (.tmp c), Kv c [] (x :: r) with
   | some v, some (grp, p, a, b, rest) => bif Vk s.t.length c want [] grp then (bif grp.any fun y => ylV C y.o || !Nat.beq y.hn 0 then
     (match want with
     | true => bif v then kE pu n (yj6 c true grp) s fun s1 => match z6 s1 a with
       | some u => kE pu n rest ((Y0 s1 (yR grp)).put p.o.dst (.val .bool u)) k
       | none => none
      else match z6 (Y0 s (yR grp)) b with
       | some u => kE pu n rest ((Y0 s (yR grp)).put p.o.dst (.val .bool u)) k
       | none => none
     | false => bif v then match z6 (Y0 s (yR grp)) a with
       | some u => kE pu n rest ((Y0 s (yR grp)).put p.o.dst (.val .bool u)) k
       | none => none
      else kE pu n (yj6 c false grp) s fun s1 => match z6 s1 b with
       | some u => kE pu n rest ((Y0 s1 (yR grp)).put p.o.dst (.val .bool u)) k
       | none => none)
     else (match want with
     | true => bif v then kE true n (yj6 c true grp) s fun s1 => z6 s1 a else z6 (Y0 s (yR grp)) b
     | false => bif v then z6 (Y0 s (yR grp)) a else kE true n (yj6 c false grp) s fun s1 => z6 s1 b).bind fun u =>
      kE pu n rest ((Y0 (s.forgetAll (ZH grp)) (yR grp)).put p.o.dst (.val .bool u)) k)
     else none
   | _, _ => none
def y9D (d : Nat) : Nat → List Nat
 | 0 => []
 | n + 1 => y9D d n ++ [1000 * (d + 1) + n]
def VV (o : Oper) : List Nat := match o.dst with
 | none => []
 | some d => match o.op with
  | .box _ _ => [d]
  | .alloc _ => [d]
  | .buildSlice _ _ _ => [d]
  | .makeSlice _ _ _ => [d]
  | .slice _ _ none _ _ => [d]
  | .build t _ => (match C.info t with
   | some ti => y9D d ti.ts.length
   | none => [])
  | .call c => match c.callee with
   | .builtin .append => [d]
   | .value (.func f) => (1000 * (d + 1) + 500) :: y9D d (match C.sig f with
    | some sg => sg.outs.length
    | none => 24)
   | _ => []
  | _ => []
def ZP (ops : Array Oper) (o : Oper) : Option (Option (Nat × Bool)) := match o.guard with
 | none => some none
 | some (j, w) => match ops[j]? with
  | some g => match g.dst with
   | some d => some (some (d, w))
   | none => none
  | none => none
def yhT (h : List Nat) (o : Oper) : Nat := match o.dst with
 | some d => bif Vi h (100000 + d) then 2 else bif Vi h (200000 + d) then 3 else bif Vi h d then 1 else 0
 | none => 0
def ycC (h : List Nat) (ops : Array Oper) : List Oper → Option (List Dop)
 | [] => some []
 | o :: r => match ZP ops o, ycC h ops r with
  | some g, some l => some ({ o, g, vis := 2, cls := 2, bad := [], later := [], mine := VV C o, hn := yhT h o, fp := [] } :: l)
  | _, _ => none
def y22 (acc : List Nat) : List Edge → Nat
 | [] => 0
 | e :: r => bif Region.binds .any e then (2 ^ e.on ||| acc.getD e.on 0) ||| y22 acc r else y22 acc r
def vh : List Oper → List Nat → List Nat
 | [], acc => acc
 | o :: r, acc => vh r (acc ++ [y22 acc o.after.toList])
def yrQ (d : Nat) : List Nat → List Nat
 | [] => []
 | e :: r => bif Nat.ble (1000000000000000 + d * 1000000000) e && Nat.blt e (1000000000000000 + (d + 1) * 1000000000) then (e - (1000000000000000 + d * 1000000000)) :: yrQ d r else yrQ d r
def fpO (h : List Nat) (o : Oper) : List Nat := match o.dst with
 | some d => yrQ d h
 | none => match o.op with
  | .store _ (.tmp p) _ => yrQ p h
  | _ => []
def yAl (h : List Nat) (o : Oper) : Nat := match o.op with
 | .store _ _ _ => 2
 | .call c => match c.callee with
  | .builtin .append => 1
  | .builtin _ => 0
  | .value (.func f) => (match C.sig f with
   | some sg => bif sg.ps.any PK.isP then (match o.dst with
     | some d => bif Vi h d then 2 else 3
     | none => bif sg.hfree && (sg.ps.flatMap PK.ownsIn).all not then 3 else 2) else bif sg.hfree then 0 else 1
   | none => 2)
  | _ => 2
 | _ => (match o.dst with
  | some d => bif Vi h d || Vi h (100000 + d) then 1 else 0
  | none => 0)
def Ql (h : List Nat) (o : Oper) : Nat := bif KZ (fpO h o) then yAl C h o else 4
def ydD (a b : Nat) : Nat := match a with
 | 0 => b
 | _ => (match b with
  | 0 => a
  | _ => bif Nat.beq a b then a else 2)
def ylH (c : Nat) : Nat := bif Nat.beq c 4 then 0 else c
def yhU : Nat → Nat
 | 0 => 2
 | 1 => 1
 | 3 => 3
 | _ => 0
def y23 (l : List Operand) : List Nat := match l with
 | [] => []
 | .tmp t :: r => t :: y23 r
 | _ :: r => y23 r
def yfI (ops : Array Oper) (o : Oper) : List Nat := (match ZP ops o with
 | some (some (c, _)) => [c]
 | _ => []) ++ y23 o.op.operands.toList
def yrR (l : List Nat) : Option Nat → Bool
 | none => false
 | some d => Vi l d
def y5k (ops : Array Oper) (x y : Oper) : Bool := !yrR (yfI ops y) x.dst && !yrR (yfI ops x) y.dst && (match x.dst, y.dst with
 | some d, some e => !Nat.beq d e
 | _, _ => true)
def y1k (o : Oper) : Bool := match o.op with
 | .pick _ _ _ => true
 | _ => false
def yhV (ms : List Nat) (i j : Nat) : Bool := (ms.getD i 0).testBit j || (ms.getD j 0).testBit i
structure Gathered where
 ok : Bool
 top : Nat
 bad : List Nat
 later : List Nat
def vi (h : List Nat) (ops : Array Oper) (ms : List Nat) (i : Nat) (o : Oper) : Nat → List Oper → Gathered
 | _, [] => ⟨true, 0, [], []⟩
 | j, y :: r => match vi h ops ms i o (j + 1) r with
  | g => bif Nat.beq i j then g else
    bif yhV ms i j then (bif (ms.getD i 0).testBit j then g else { g with later := VV C y ++ g.later })
    else ⟨g.ok && y5k ops o y && !y1k o && !y1k y && (Nat.beq (Ql C h o) 0 || Nat.beq (Ql C h y) 0 || (Nat.beq (Ql C h o) 4 && Nat.beq (Ql C h y) 4 && y0z (fpO h o) (fpO h y))), ydD (ylH (Ql C h y)) g.top, VV C y ++ (fpO h y ++ g.bad), VV C y ++ g.later⟩
def y83 (h : List Nat) (ops : Array Oper) (ms : List Nat) : Nat → List Oper → Option (List Dop)
 | _, [] => some []
 | i, o :: r => match ZP ops o, y83 h ops ms (i + 1) r, vi C h ops ms i o 0 ops.toList with
  | some g, some l, q => bif q.ok && Nat.blt (ms.getD i 0) (2 ^ i) then some ({ o, g, vis := yhU q.top, cls := Ql C h o, bad := q.bad, later := q.later, mine := VV C o, hn := yhT h o, fp := fpO h o } :: l) else none
  | _, _, _ => none
def yxo (h : List Nat) (dr : Bool) (ops : Array Oper) : Option (List Dop) := bif dr then y83 C h ops (vh ops.toList []) 0 ops.toList else ycC C h ops ops.toList
def y5l : List Oper → List Nat
 | [] => []
 | o :: r => VV C o ++ y5l r
def yj7 (id : Nat) : List Nat → List Nat
 | [] => []
 | e :: r => bif Nat.ble (2000000000000000000 + id * 1000000) e && Nat.blt e (2000000000000000000 + (id + 1) * 1000000) then (e - (2000000000000000000 + id * 1000000)) :: yj7 id r else yj7 id r
def ydE (s : St) : List Nat → List Nat
 | [] => []
 | d :: r => (s.t.getD d .dead).ids ++ (((s.t.getD d .dead).ids.flatMap fun i => match z4 s.o i with
  | some ob => ob.ids
  | none => []) ++ ydE s r)
def ylW (h : List Nat) (id : Nat) (s : St) : St := match yj7 id h with
 | [] => s
 | l => s.setAll (settles (z4 s.o) (ydE s l))
structure Ks (R : Type) where
 exit : Nat → St → Option R
 ret : St → Option R
abbrev Lp : Type 1 := Nat → St → {R : Type} → (Option Nat → St → Option R) → Option R
def Yl : Code → Nat
 | .region i _ _ => i
 | .seq a _ => Yl a
 | .block _ c => Yl c
 | .loop c => Yl c
 | .cond _ a _ => Yl a
 | _ => 0
def y6b (l : List Nat) : Nat → List A → List A
 | _, [] => []
 | i, a :: r => (bif Vi l i then a else .dead) :: y6b l (i + 1) r
mutual
def A.resolve (lk : Lk) : A → A
 | .own o => match lk o with
  | some (.root true _ _ _) => .own o
  | some (.root false e ts xs) => .val (.sl e ts) xs
  | _ => .dead
 | .rtp o i c => match lk o with
  | some (.root true _ _ _) => .rtp o i c
  | some (.root false e ts xs) => .elp e ts xs i c
  | _ => .dead
 | .win _ _ => .dead
 | .tl _ _ => .dead
 | .top _ _ _ => .dead
 | .agg l => .agg (Ys lk l)
 | .tup l => .tup (Ys lk l)
 | .dead => .dead
 | .und => .dead
 | .val t x => .val t x
 | .nils => .nils
 | .nilp => .nilp
 | .box b off => match lk b with
  | some (.box _) => bif Nat.blt b 10000000 then .box b off else .dead
  | _ => .dead
 | .clo f b => match lk b with
  | some (.box _) => bif Nat.blt b 10000000 then .clo f b else .dead
  | _ => .dead
 | .elp e ts xs j c => .elp e ts xs j c
 | .fn f => .fn f
def Ys (lk : Lk) : List A → List A
 | [] => []
 | a :: r => a.resolve lk :: Ys lk r
end
mutual
def A.ren (m : Nat → Nat) : A → A
 | .own o => .own (m o)
 | .rtp o i c => .rtp (m o) i c
 | .clo f b => .clo f (m b)
 | .win o h => .win (m o) h
 | .tl o h => .tl (m o) h
 | .top e ts xs => .top e ts xs
 | .agg l => .agg (y9E m l)
 | .tup l => .tup (y9E m l)
 | .dead => .dead
 | .und => .und
 | .val t x => .val t x
 | .nils => .nils
 | .nilp => .nilp
 | .box b off => .box (m b) off
 | .elp e ts xs j c => .elp e ts xs j c
 | .fn f => .fn f
def y9E (m : Nat → Nat) : List A → List A
 | [] => []
 | a :: r => a.ren m :: y9E m r
end
def ycD (lk : Lk) : List Nat → List (Nat × List A)
 | [] => []
 | i :: r => match lk i with
  | some (.box cs) => (i, Ys lk cs) :: ycD lk r
  | _ => ycD lk r
def ylI : List (Nat × List A) → List Nat
 | [] => []
 | (_, cs) :: r => jk cs ++ ylI r
def ycE (seen : List Nat) : List Nat → List Nat
 | [] => []
 | i :: r => bif Vi seen i then ycE seen r else i :: ycE (i :: seen) r
def y24 (lk : Lk) : List Nat → List (Nat × Ob)
 | [] => []
 | i :: r => match lk i with
  | some (.root true e ts xs) => (i, .root true e ts xs) :: y24 lk r
  | _ => y24 lk r
def y1l : List (Nat × Ob) → Nat → Nat → Nat
 | [], _, i => i
 | (j, _) :: r, n, i => bif Nat.beq j i then n else y1l r (n + 1) i
def yj8 (m : Nat → Nat) : List (Nat × List A) → List (Nat × Ob)
 | [] => []
 | (i, cs) :: r => (i, .box (y9E m cs)) :: yj8 m r
def yj9 : List (Nat × Ob) → Nat → List (Nat × Ob)
 | [], _ => []
 | (_, x) :: r, n => (n, x) :: yj9 r (n + 1)
def y1m (n : Nat) : List Nat → Bool
 | [] => true
 | i :: r => Nat.blt i n && y1m n r
def St.keep (s : St) (l : List Nat) : Option St :=
 match Ys (z4 s.o) (y6b l 0 s.t) with
 | t => match ycD (z4 s.o) (ycE [] (jk t)) with
  | bx => match y24 (z4 s.o) (ycE [] (jk t ++ ylI bx)) with
   | rs => bif y1m 10000000 (zh bx) then some ⟨y9E (y1l rs 10000000) t, yj8 (y1l rs 10000000) bx ++ yj9 rs 10000000⟩ else none
def zV {R T : Type} (step : (T → Option R) → T → Option R) : Nat → T → Option R
 | 0, _ => none
 | n + 1, s => step (zV step n) s
def Ks.keep {R : Type} (lx : List Nat) (κ : Option Nat → St → Option R) : Ks R := { exit := fun i s => (s.keep lx).bind (κ (some i)), ret := fun s => (s.keep lx).bind (κ none) }
def Ks.go {R : Type} (K : Ks R) : Option Nat → St → Option R
 | some i, s => K.exit i s
 | none, s => K.ret s
def y0A (lp : Lp) (fn : Nat) {R : Type} : Code → St → (St → Option R) → Ks R → Option R
 | .skip, s, k, _ => k s
 | .region id ops dr, s, k, _ => match yxo C (C.hint fn) dr ops with
  | some l => kE C call false (l.length + 1) l (bif dr then (ylW (C.hint fn) id s).forgetAll (y5l C ops.toList) else ylW (C.hint fn) id s) k
  | none => none
 | .seq a b, s, k, K => y0A lp fn a s (fun s1 => y0A lp fn b s1 k K) K
 | .cond c a b, s, k, K => match z6 s c with
  | some x => bif x then y0A lp fn a s k K else y0A lp fn b s k K
  | none => none
 | .block i c, s, k, K => y0A lp fn c s k { exit := fun j s => bif Nat.beq i j then k s else K.exit j s, ret := K.ret }
 | .loop c, s, _, K => match C.live fn (Yl c) with
  | some (l, _) => (s.keep l).bind fun s0 => lp (Yl c) s0 K.go
  | none => none
 | .exit i, s, _, K => K.exit i s
 | .ret, s, _, K => K.ret s
 | _, _, _, _ => none
def ydF (lp : Lp) (fn : Nat) (c : Code) (l lx : List Nat) {R : Type} (κ : Option Nat → St → Option R) (again : St → Option R) (s : St) : Option R :=
 y0A C call lp fn c s (fun s2 => (s2.keep l).bind again) (Ks.keep lx κ)
def jn : Code → List Code
 | .seq a b => jn a ++ jn b
 | .cond _ a b => jn a ++ jn b
 | .block _ c => jn c
 | .loop c => c :: jn c
 | _ => []
def y5m : List PK → List A → Nat → List A × List (Nat × Ob)
 | [], _, _ => ([], [])
 | .v agg ts _ :: ps, l, i => match y5m ps (l.drop ts.length) (i + 1) with
  | (as, obs) => ((bif agg then .agg (l.take ts.length) else (l.take ts.length).headD .dead) :: as, obs)
 | .p wr ts _ :: ps, l, i => match y5m ps (l.drop ts.length) (i + 1) with
  | (as, obs) => (yfG wr (900 + i) :: as, (900 + i, .box (l.take ts.length)) :: obs)
 | .k f :: ps, l, i => match y5m ps l (i + 1) with
  | (as, obs) => (.fn f :: as, obs)
def enter (sg : Sig) (n : Nat) (ts : List Ty) (x : z8 ts) : St :=
 match zb sg.back ts (sg.ps.flatMap PK.ownsIn) x 950 with
 | (l, obs) => match y5m sg.ps l 0 with
  | (as, bx) => ⟨as ++ List.replicate (n - as.length) .dead, (((⟨[], []⟩ : St).makeAll obs).makeAll bx).o⟩
def ybg (s : St) : List ResultVar → List RK → Option (List A)
 | [], [] => some []
 | .tmp t :: r, k :: ks => match J7 k.agg (s.t.getD t .dead), ybg s r ks with
  | some c, some l => bif Nat.beq c.length k.ts.length then some (c ++ l) else none
  | _, _ => none
 | .cell a t :: r, k :: ks => match C.info t with
  | some ti => match y3G (z4 s.o) ti (s.t.getD a .dead) with
   | some x => match J7 k.agg x, ybg s r ks with
    | some c, some l => bif Nat.beq c.length k.ts.length then some (c ++ l) else none
    | _, _ => none
   | none => none
  | none => none
 | _, _ => none
def y2V (s : St) : List PK → Nat → Option (List A)
 | [], _ => some []
 | .v _ _ _ :: ps, i => y2V s ps (i + 1)
 | .k _ :: ps, i => y2V s ps (i + 1)
 | .p _ ts _ :: ps, i => match z4 s.o (900 + i), y2V s ps (i + 1) with
  | some (.box cs), some l => bif Nat.beq cs.length ts.length then some (cs ++ l) else none
  | _, _ => none
def yrS (s : St) : List ResultVar → List RK → Option (List A)
 | .tmp t :: r, k :: ks => match s.t.getD t .dead with
  | .box b off => match z4 s.o b with
   | some (.box cs) => bif Nat.beq off 0 && Nat.beq cs.length k.ts.length && (Nat.blt b 900 || Nat.ble 950 b) then (match ybg C s r ks with
    | some l => some (cs ++ l)
    | none => none) else none
   | _ => none
  | _ => none
 | _, _ => none
def ybh (sg : Sig) (rs : List ResultVar) (ts : List Ty) (s : St) : Option (z8 ts) :=
 match (bif sg.ptr then yrS C s rs sg.rs else ybg C s rs sg.rs) with
 | some l => match y2V s sg.ps 0 with
  | some l2 => match VT (z4 s.o) ts sg.owns (l ++ l2) with
   | some (x, is, gs) => bif y1h gs && y0z gs is then some x else none
   | none => none
  | none => none
 | none => none
end
def yfJ (C : Ctx) (call : C.Sem) (lp : Lp) (f : Nat) (fn : Func) (c : Code) (sg : Sig) (ins outs : List Ty) (x : z8 ins) : Option (z8 outs) :=
 y0A C call lp f c (enter sg fn.ntmps ins x) (ybh C sg fn.results.toList outs) { exit := fun _ _ => none, ret := ybh C sg fn.results.toList outs }
def tab {C : Ctx} : List (Sigma fun f : Nat => z8 (C.ins f) → Option (z8 (C.outs f))) → C.Sem
 | [], _, _ => none
 | ⟨f, F⟩ :: r, g, x => if h : f = g then (h ▸ F) x else tab r g x
end Go.Proofs.YtgediecndaheiaaGreat.R
