/- The evaluator and its soundness, a part. No condition. -/
import Derived.Below
import Derived.Maps.AppendAt
import Derived.Orders
import Derived.LoopN
import Derived.RowKit
import Derived.Laws.Entries
import Derived.Laws.StructEq
import Derived.DataElems
import Derived.Laws.Strings
import Derived.Lib.ConvBytes
import Derived.Laws.IdiomCopy
import Derived.Lib.AppendStr
import Derived.Laws.Tables
import Derived.Great.BuildSlice
import Derived.Laws.BytesString
set_option linter.all false
namespace Go.Proofs.YtekbnpmmjciloaaGreat.R
open Go.RowKit
section
abbrev zzal0:=@Option.bind_some
abbrev ym:=@decide_eq_true_eq
abbrev yl:=@Bool.cond_eq_ite
abbrev yp:=@List.length_cons
abbrev yr:=@List.length_nil
abbrev y0:=@if_pos
abbrev yi:=@cond_false
abbrev yg:=@cond_true
abbrev yU:=@List.length_append
abbrev y9:=@if_neg
abbrev zzal10:=@Bool.and_eq_true
abbrev yG:=@decide_eq_true
abbrev zo:=@Nat.eq_of_beq_eq_true
abbrev yJ:=@Bool.not_true
abbrev z8:=@Option.some.injEq
abbrev yX:=@decide_eq_false
abbrev yR:=@List.mem_cons
abbrev Zr:=@List.getD_eq_getElem?_getD
abbrev Yc:=@Option.bind_eq_some_iff
abbrev yo:=@if_true
abbrev yP:=@Int.le_refl
abbrev Ys:=@Option.map_eq_some_iff
abbrev zB:=@List.mem_append
abbrev ZF:=@List.getElem?_eq_some_iff
abbrev Yt:=@List.length_set
abbrev Yd:=@Bool.not_false
abbrev jF:=@List.append_assoc
abbrev Za:=@List.length_take
abbrev WW:=@Bool.or_eq_false_iff
abbrev jG:=@Array.length_toList
abbrev WX:=@List.getElem?_eq_getElem
abbrev Zl:=@List.foldl_cons
abbrev Vo:=@List.mem_or_eq_of_mem_set
abbrev YI:=@Nat.le_trans
abbrev aE:=@List.drop_of_length_le
abbrev J6:=@Bool.false_eq_true
abbrev wS:=@Nat.mul_le_mul_right
abbrev jj:=@List.nil_append
abbrev zP:=@if_false
abbrev zzal39:=@Array.getElem?_eq_some_iff
abbrev jH:=@Bool.true_and
abbrev wT:=@Option.bind_none
abbrev wU:=@List.length_drop
abbrev jI:=@Prod.mk.injEq
abbrev J7:=@List.map_cons
abbrev zzal45:=@Bool.not_eq_true'
abbrev wV:=@List.length_map
abbrev jk:=@Nat.le_refl
abbrev Vp:=@List.getElem?_take
abbrev fZ:=@Array.getD_eq_getD_getElem?
abbrev aF:=@List.mem_of_getElem?
abbrev cJ:=@Array.toArray_toList
abbrev lm:=@List.getElem?_append_right
abbrev cK:=@Array.getElem?_toList
abbrev aG:=@List.mem_map_of_mem
abbrev eQ:=@List.getElem?_set_ne
abbrev aH:=@List.pairwise_cons
abbrev aI:=@List.mem_singleton
abbrev WY:=@Nat.zero_add
abbrev f_:=@List.length_eq_zero_iff
abbrev cM:=@List.getElem?_map
abbrev ln:=@List.getElem?_append_left
abbrev rT:=@List.take_of_length_le
abbrev nM:=@List.getElem?_set_self
abbrev aJ:=@List.mem_nil_iff
abbrev aK:=@List.cons_append
abbrev g6:=@List.mem_append_right
abbrev g7:=@List.length_replicate
abbrev g8:=@Int.toNat_natCast
abbrev lq:=@List.getElem?_cons_zero
abbrev eR:=@Bool.not_eq_false'
abbrev lr:=@List.mem_of_mem_take
abbrev Mi:=@List.take_succ_eq_append_getElem
abbrev ls:=@beq_eq_false_iff_ne
abbrev Vq:=@Nat.add_mul
abbrev nN:=@Nat.le_of_ble_eq_true
abbrev vM:=@beq_iff_eq
abbrev g9:=@beq_self_eq_true
abbrev Mj:=@Array.eq_empty_of_size_eq_zero
abbrev cN:=@Nat.add_assoc
abbrev eS:=@Bool.false_and
abbrev Ep:=@Int.eq_ofNat_of_zero_le
abbrev rU:=@List.getD_cons_succ
abbrev rX:=@Nat.mod_eq_of_lt
abbrev lu:=@List.append_nil
abbrev eU:=@List.mem_map
abbrev xM:=@List.getElem?_replicate
abbrev xN:=@List.getElem?_cons_succ
abbrev eV:=@Nat.one_mul
abbrev lw:=@Int.le_trans
abbrev Vr:=@or_false
abbrev nO:=@Option.map_some
abbrev nP:=@Option.map_none
abbrev nQ:=@List.map_append
abbrev nR:=@Bool.or_eq_true
abbrev xO:=@List.mem_of_mem_drop
abbrev Er:=@List.mem_cons_of_mem
abbrev xP:=@List.mem_append_left
abbrev Es:=@Int.tmod_eq_emod_of_nonneg
abbrev Et:=@Int.fdiv_eq_ediv_of_nonneg
abbrev zzal100:=@List.all_eq_true
abbrev Eu:=@List.map_congr_left
abbrev Ev:=@of_decide_eq_false
abbrev NK:=@Nat.xor_lt_two_pow
abbrev oz:=@Nat.lt_of_lt_of_le
abbrev ga:=@Nat.add_zero
abbrev gb:=@List.map_nil
abbrev oA:=@List.flatMap_cons
abbrev uG:=@List.mem_iff_getElem?
abbrev uH:=@List.getElem?_eq_none
abbrev mv:=@Bool.and_self
abbrev gd:=@Nat.zero_le
abbrev uI:=@Nat.pow_le_pow_right
abbrev oB:=@List.nodup_cons
abbrev gf:=@Nat.not_lt
abbrev oC:=@Nat.testBit_or
abbrev uJ:=@List.getElem?_drop
abbrev uK:=@Int.natCast_nonneg
abbrev uL:=@List.pairwise_map
abbrev oD:=@Bool.false_or
abbrev uM:=@Bool.and_true
abbrev uN:=@List.getElem_mem
abbrev Ew:=@Array.toList_map
abbrev Ex:=@Nat.min_eq_left
abbrev Ey:=@List.take_take
abbrev NL:=@List.take_left
abbrev uO:=@List.drop_drop
inductive Ty where
 |int (k:IntKind)
 |bool
 |str
 |sl (e:Nat) (ts:List Ty)
mutual
def El:Ty→Type
 | .int _=>Int
 | .bool=>Bool
 | .str=>ByteArray
 | .sl _ ts=>List (Elts ts)
def Elts:List Ty→Type
 |[]=>Unit
 |t::[]=>El t
 |t::u::r=>El t×Elts (u::r)
end
mutual
def Ty.eqb:Ty→Ty→Bool
 | .int k,.int k'=>decide (k=k')
 | .bool,.bool=>true
 | .str,.str=>true
 | .sl e ts,.sl e' ts'=>Nat.beq e e'&&Ty.Gd ts ts'
 |_,_=>false
def Ty.Gd:List Ty→List Ty→Bool
 |[],[]=>true
 |t::ts,u::us=>Ty.eqb t u&&Ty.Gd ts us
 |_,_=>false
end
mutual
theorem Ty.nS: ∀ (a b:Ty),Ty.eqb a b=true→a=b
 | .int k,.int k',h=>by simpa [Ty.eqb] using h
 | .bool,.bool,_=>rfl
 | .str,.str,_=>rfl
 | .sl e ts,.sl e' ts',h=>by simp only [Ty.eqb,zzal10] at h;rw [zo h.1,Ty.mw ts ts' h.2]
 | .int _,.bool,h| .int _,.str,h| .int _,.sl _ _,h| .bool,.int _,h| .bool,.str,h| .bool,.sl _ _,h| .str,.int _,h| .str,.bool,h| .str,.sl _ _,h| .sl _ _,.int _,h| .sl _ _,.bool,h| .sl _ _,.str,h=>by simp [Ty.eqb] at h
theorem Ty.mw: ∀ (a b:List Ty),Ty.Gd a b=true→a=b
 |[],[],_=>rfl
 |t::ts,u::us,h=>by simp only [Ty.Gd,zzal10] at h;rw [Ty.nS t u h.1,Ty.mw ts us h.2]
 |[],_::_,h|_::_,[],h=>by simp [Ty.Gd] at h
end
def qT (t t':Ty) (x:El t):Option (El t'):=if h:Ty.eqb t t'=true then some ((Ty.nS t t' h) ▸ x) else none
def na (ts ts':List Ty) (xs:List (Elts ts)):Option (List (Elts ts')):=if h:Ty.Gd ts ts'=true then some ((Ty.mw ts ts' h) ▸ xs) else none
mutual
def oE:(t:Ty)→El t
 | .int _=>(0:Int)
 | .bool=>false
 | .str=>(⟨#[]⟩:ByteArray)
 | .sl _ ts=>([]:List (Elts ts))
def zeroE:(ts:List Ty)→Elts ts
 |[]=>()
 |t::[]=>oE t
 |t::u::r=>(oE t,zeroE (u::r))
end
inductive A where
 |dead
 |und
 |val (t:Ty) (x:El t)
 |JX
 |aj
 |own (o:Nat)
 |agg (l:List A)
 |oF (l:List A)
 |box (b off:Nat)
 |ly (e:Nat) (ts:List Ty) (xs:List (Elts ts)) (i:Int) (c:Nat)
 |lj (o:Nat) (i:Int) (c:Nat)
 |fn (f:Nat)
 |nc (f b:Nat)
 |win (o:Nat) (h:Int)
 |tl (o:Nat) (l:Int)
 |top (e:Nat) (ts:List Ty) (xs:List (Elts ts))
inductive Ob where
 |box (cells:List A)
 |root (own:Bool) (e:Nat) (ts:List Ty) (xs:List (Elts ts))
 |gone
structure St where
 t:List A
 o:List (Nat×Ob)
structure Eff where
 sets:List (Nat×Ob)
 adds:List (Nat×Ob)
 a:A
inductive TI where
 |c (t:Ty) (bytes:Nat)
 |s (fs:List (Nat×Nat)) (ts:List Ty) (bytes:Nat)
def TI.ts:TI→List Ty
 | .c t _=>[t]
 | .s _ ts _=>ts
def TI.isAgg:TI→Bool
 | .c _ _=>false
 | .s _ _ _=>true
def TI.bytes:TI→Nat
 | .c _ b=>b
 | .s _ _ b=>b
inductive PK where
 |v (agg:Bool) (ts:List Ty) (own:List Bool)
 |p (wr:Option Nat) (ts:List Ty) (own:List Bool)
 |k (f:Nat)
structure RK where
 agg:Bool
 ts:List Ty
 own:List Bool
structure Sig where
 ps:List PK
 rs:List RK
 ptr:Bool
 back:Bool
def PK.ins:PK→List Ty
 | .v _ ts _=>ts
 | .p _ ts _=>ts
 | .k _=>[]
def PK.outs:PK→List Ty
 | .v _ _ _=>[]
 | .p _ ts _=>ts
 | .k _=>[]
def PK.owns:PK→List Bool
 | .v _ _ _=>[]
 | .p _ _ os=>os
 | .k _=>[]
def PK.ownsIn:PK→List Bool
 | .v _ _ os=>os
 | .p _ _ os=>os
 | .k _=>[]
def PK.isP:PK→Bool
 | .v _ _ _=>false
 | .p _ _ _=>true
 | .k _=>true
def PK.back:PK→Option Nat
 | .p _ ts _=>some ts.length
 |_=>none
def Sig.ins (s:Sig):List Ty:=s.ps.flatMap PK.ins
def Sig.outs (s:Sig):List Ty:=s.rs.flatMap RK.ts++s.ps.flatMap PK.outs
def Sig.owns (s:Sig):List Bool:=s.rs.flatMap RK.own++s.ps.flatMap PK.owns
def Ty.flat:Ty→Bool
 | .sl _ _=>false
 |_=>true
def flats:List Ty→Bool
 |[]=>true
 |t::r=>t.flat&&flats r
def xQ:List Ty→List Bool→Bool
 |[],_=>true
 |t::r,os=>(t.flat||(os.headD false&&(match t with
  | .sl _ ts=>flats ts
  |_=>false)))&&xQ r os.tail
def Sig.hfree (s:Sig):Bool:=xQ s.outs s.owns
structure Ctx where
 info:Nat→Option TI
 sig:Nat→Option Sig
 live:Nat→Nat→Option (List Nat×List Nat)
 key:Nat→List Nat→Nat
 fid:Nat→Nat
 hint:Nat→List Nat
 gl:(Nat→Option Obj)→Prop:=fun _=>True
 glm: ∀ H H':Nat→Option Obj,(∀ k o,H k=some o→H' k=some o)→gl H→gl H':=by exact fun _ _ _ h=>h
def Ctx.ins (C:Ctx) (f:Nat):List Ty:=match C.sig f with
 |some s=>s.ins
 |none=>[]
def Ctx.outs (C:Ctx) (f:Nat):List Ty:=match C.sig f with
 |some s=>s.outs
 |none=>[]
abbrev Ctx.Sem (C:Ctx):Type:=(f:Nat)→Elts (C.ins f)→Option (Elts (C.outs f))
def xR {α:Type}:List (Nat×α)→Nat→Option α
 |[],_=>none
 |(j,x)::r,i=>bif Nat.beq j i then some x else xR r i
def eqN:List Nat→List Nat→Bool
 |[],[]=>true
 |i::l,j::m=>Nat.beq i j&&eqN l m
 |_,_=>false
def ZN:List (Nat×List Nat×Nat)→Nat→List Nat→Nat
 |[],f,_=>f
 |(g,l,k)::r,f,m=>bif Nat.beq g f&&eqN l m then k else ZN r f m
def y5i:List (Nat×List Nat×Nat)→Nat→Nat
 |[],f=>f
 |(g,_,k)::r,f=>bif Nat.beq k f then g else y5i r f
def U0:List (Nat×List Nat)→Nat→List Nat
 |[],_=>[]
 |(g,l)::r,f=>bif Nat.beq g f then l else U0 r f
def look:List (Nat×Ob)→Nat→Option Ob
 |[],_=>none
 |(j,x)::r,i=>bif Nat.beq j i then some x else look r i
def Jj (l:List Nat) (i:Nat):Bool:=match l with
 |[]=>false
 |j::r=>Nat.beq j i||Jj r i
mutual
def A.forget (i:Nat):A→A
 | .own o=>bif Nat.beq o i then .dead else .own o
 | .box b off=>bif Nat.beq b i then .dead else .box b off
 | .lj o j c=>bif Nat.beq o i then .dead else .lj o j c
 | .nc f b=>bif Nat.beq b i then .dead else .nc f b
 | .win o h=>bif Nat.beq o i then .dead else .win o h
 | .tl o h=>bif Nat.beq o i then .dead else .tl o h
 | .agg l=> .agg (zv i l)
 | .oF l=> .oF (zv i l)
 | .dead=> .dead
 | .und=> .und
 | .val t x=> .val t x
 | .JX=> .JX
 | .aj=> .aj
 | .ly e ts xs j c=> .ly e ts xs j c
 | .top e ts xs=> .top e ts xs
 | .fn f=> .fn f
def zv (i:Nat):List A→List A
 |[]=>[]
 |a::r=>A.forget i a::zv i r
end
def Ob.forget (i:Nat):Ob→Ob
 | .box cs=> .box (zv i cs)
 | .root own e ts xs=> .root own e ts xs
 | .gone=> .gone
def YJ (i:Nat):List (Nat×Ob)→List (Nat×Ob)
 |[]=>[]
 |(j,x)::r=>bif Nat.beq j i then YJ i r else (j,x.forget i)::YJ i r
def St.forget (s:St) (i:Nat):St:=⟨zv i s.t,YJ i s.o⟩
def St.yA (s:St):List Nat→St
 |[]=>s
 |i::r=>(s.forget i).yA r
def St.make (s:St) (i:Nat) (x:Ob):St:=⟨zv i s.t,(i,x)::YJ i s.o⟩
def St.makeAll (s:St):List (Nat×Ob)→St
 |[]=>s
 |(i,x)::r=>(s.make i x).makeAll r
def Wg:List (Nat×Ob)→Nat→Ob→List (Nat×Ob)
 |[],_,_=>[]
 |(j,x)::r,i,y=>bif Nat.beq j i then (j,y)::r else (j,x)::Wg r i y
def St.set (s:St) (i:Nat) (x:Ob):St:=⟨s.t,Wg s.o i x⟩
def St.yB (s:St):List (Nat×Ob)→St
 |[]=>s
 |(i,x)::r=>(s.set i x).yB r
def St.put (s:St) (d:Option Nat) (a:A):St:=match d with
 |some d=>⟨s.t.set d a,s.o⟩
 |none=>s
def St.apply (s:St) (d:Option Nat) (e:Eff):St:=((s.makeAll e.adds).yB e.sets).put d e.a
def xS:Value→A
 | .int k n=> .val (.int k) n
 | .bool b=> .val .bool b
 | .string s=> .val .str s
 | .slice none 0 0=> .JX
 | .pointer none=> .aj
 |_=> .dead
def ofConst:Value→A
 | .agg cs=> .agg (cs.toList.map xS)
 |v=>xS v
def St.Yw (s:St):Operand→A
 | .tmp i=>s.t.getD i .dead
 | .const v=>ofConst v
 | .func f=> .fn f
 | .global _=> .dead
def cellsE:(ts:List Ty)→Elts ts→List A
 |[],_=>[]
 |t::[],x=>[.val t x]
 |t::u::r,x=> .val t x.1::cellsE (u::r) x.2
def A.cells:A→List A
 | .agg l=>l
 |a=>[a]
def A.one:A→Bool
 | .dead=>false
 | .und=>false
 | .agg _=>false
 | .oF _=>false
 |_=>true
def km:List A→Bool
 |[]=>true
 |a::r=>a.one&&km r
def Ez (agg:Bool) (l:List A):Option A:=bif agg then some (.agg l) else match l with
 |[a]=>some a
 |_=>none
abbrev Lk:=Nat→Option Ob
def oG (lk:Lk) (t:Ty):A→Option (El t×List Nat)
 | .val t' x=>(qT t' t x).map fun y=>(y,[])
 | .JX=>match t with
  | .sl e ts=>some (oE (.sl e ts),[])
  |_=>none
 | .own o=>match lk o with
  |some (.root _ e ts xs)=>(qT (.sl e ts) t xs).map fun y=>(y,[o])
  |_=>none
 | .win o h=>match lk o with
  |some (.root _ e ts xs)=>(qT (.sl e ts) t (xs.take (Int.toNat h))).map fun y=>(y,[o])
  |_=>none
 |_=>none
def Me (lk:Lk):(ts:List Ty)→List A→Option (Elts ts×List Nat)
 |[],[]=>some ((),[])
 |t::[],[a]=>oG lk t a
 |t::u::r,a::l=>match oG lk t a with
  |some (x,is)=>match Me lk (u::r) l with
   |some (y,js)=>some ((x,y),is++js)
   |none=>none
  |none=>none
 |_,_=>none
def settles (lk:Lk):List Nat→List (Nat×Ob)
 |[]=>[]
 |o::r=>match lk o with
  |some (.root _ e ts xs)=>(o,.root false e ts xs)::settles lk r
  |_=>settles lk r
def rY:(ts:List Ty)→Elts ts→Nat→(ys:List (Sigma El))→Option (Elts ts)
 |_,x,_,[]=>some x
 |[],_,_,_::_=>none
 |t::[],_,0,[⟨u,y⟩]=>qT u t y
 |_::[],_,_,_=>none
 |t::v::r,x,0,⟨u,y⟩::ys=>match qT u t y with
  |some z=>match rY (v::r) x.2 0 ys with
   |some w=>some (z,w)
   |none=>none
  |none=>none
 |t::v::r,x,c+1,ys=>match rY (v::r) x.2 c ys with
  |some w=>some (x.1,w)
  |none=>none
def n8 (lk:Lk):A→Option (Sigma fun ts:List Ty=>Nat×List (Elts ts))
 | .val (.sl e ts) xs=>some ⟨ts,e,xs⟩
 | .top e ts xs=>some ⟨ts,e,xs⟩
 | .own o=>match lk o with
  |some (.root _ e ts xs)=>some ⟨ts,e,xs⟩
  |_=>none
 |_=>none
def rowOf (lk:Lk) (ts:List Ty) (a:A):Option (List (Elts ts)):=match a with
 | .JX=>some []
 |a=>match n8 lk a with
  |some ⟨ts',_,xs⟩=>na ts' ts xs
  |none=>none
def lz (op:BinOp) (k:IntKind) (x y:Int):Option A:=
 match op with
 | .add=>some (.val (.int k) (k.wrap (x+y)))
 | .sub=>some (.val (.int k) (k.wrap (x - y)))
 | .mul=>some (.val (.int k) (k.wrap (x*y)))
 | .quo=>if y=0 then none else some (.val (.int k) (k.wrap (x.tdiv y)))
 | .rem=>if y=0 then none else some (.val (.int k) (x.tmod y))
 | .and=>some (.val (.int k) (bits .and k x y))
 | .or=>some (.val (.int k) (bits .or k x y))
 | .xor=>some (.val (.int k) (bits .xor k x y))
 | .eql=>some (.val .bool (x==y))
 | .neq=>some (.val .bool (x !=y))
 | .lss=>some (.val .bool (decide (x<y)))
 | .leq=>some (.val .bool (decide (x≤y)))
 | .gtr=>some (.val .bool (decide (x>y)))
 | .geq=>some (.val .bool (decide (x≥y)))
 |_=>none
def Sa (op:BinOp) (k:IntKind) (x y:Int):Option A:=
 if y<0 then none else match op with
 | .shl=>some (.val (.int k) (k.wrap (x*2 ^ (min y.toNat k.bits))))
 | .shr=>some (.val (.int k) (x.fdiv (2 ^ (min y.toNat k.bits))))
 |_=>none
def oH (op:BinOp) (x y:ByteArray):Option A:=
 match op with
 | .add=>if x.size+y.size<140737488355328 then some (.val .str (x++y)) else none
 | .eql=>some (.val .bool (x.toList==y.toList))
 | .neq=>some (.val .bool (!(x.toList==y.toList)))
 | .lss=>some (.val .bool (Op.bytesLess x.toList y.toList))
 | .leq=>some (.val .bool (Op.bytesLess x.toList y.toList||x.toList==y.toList))
 | .gtr=>some (.val .bool (!(Op.bytesLess x.toList y.toList||x.toList==y.toList)))
 | .geq=>some (.val .bool (!Op.bytesLess x.toList y.toList))
 |_=>none
def lA (op:BinOp) (x y:Bool):Option A:=match op with
 | .eql=>some (.val .bool (x==y))
 | .neq=>some (.val .bool (!(x==y)))
 |_=>none
def n9 (op:BinOp):A→A→Option A
 | .val .bool x,.val .bool y=>lA op x y
 | .val (.int k) x,.val (.int k') y=>match op with
  | .shl=>Sa .shl k x y
  | .shr=>Sa .shr k x y
  |op=>if k=k' then lz op k x y else none
 | .val .str x,.val .str y=>oH op x y
 |_,_=>none
def U1 {R:Type} (op:BinOp):A→A→(A→Option R)→Option R
 | .val .bool x,.val .bool y,k=>match lA op x y with
  |some a=>k a
  |none=>none
 | .val (.int k1) x,.val (.int k2) y,k=>match op with
  | .shl=>if (show Int from y)<0 then none else k (.val (.int k1) (k1.wrap ((show Int from x)*2 ^ (min (Int.toNat y) k1.bits))))
  | .shr=>if (show Int from y)<0 then none else k (.val (.int k1) (Int.fdiv x (2 ^ (min (Int.toNat y) k1.bits))))
  | .quo=>if k1=k2 then if (show Int from y)=0 then none else k (.val (.int k1) (k1.wrap (Int.tdiv x y))) else none
  | .rem=>if k1=k2 then if (show Int from y)=0 then none else k (.val (.int k1) (Int.tmod x y)) else none
  |op=>if k1=k2 then match lz op k1 x y with
   |some a=>k a
   |none=>none else none
 | .val .str x,.val .str y,k=>match op with
  | .add=>if ByteArray.size x+ByteArray.size y<140737488355328 then k (.val .str (show ByteArray from (show ByteArray from x)++(show ByteArray from y))) else none
  |op=>match oH op x y with
   |some a=>k a
   |none=>none
 |_,_,_=>none
theorem NN {R:Type} (op:BinOp) (x y:A) (k:A→Option R):U1 op x y k=(n9 op x y).bind k:=by
 cases x with
 |val t1 x=>
  cases y with
  |val t2 y=>
   cases t1<;>cases t2<;>try rfl
   ·rename_i k1 k2;cases op<;>simp only [U1,n9,Sa,lz]<;>(repeat' split)<;>first|rfl|simp_all
   ·simp only [U1,n9];cases lA op x y<;>rfl
   ·cases op<;>simp only [U1,n9,oH]<;>(repeat' split)<;>first|rfl|simp_all
  |_=>cases t1<;>rfl
 |_=>rfl
def boolTy (ti:TI):A→Bool
 | .val .bool _=>(match ti with
  | .c .bool _=>true
  |_=>false)
 |_=>true
def unA (op:UnOp):A→Option A
 | .val .bool b=>match op with
  | .not=>some (.val .bool (!b))
  |_=>none
 | .val (.int k) n=>match op with
  | .neg=>some (.val (.int k) (k.wrap (0 - (show Int from n))))
  |_=>none
 |_=>none
def Z_ (s:ByteArray):List Int:=s.data.toList.map fun b=>(b.toNat:Int)
def textOf (l:List Int):ByteArray:=⟨(l.map fun n=>UInt8.ofNat n.toNat).toArray⟩
def CN (lk:Lk) (same:Bool) (te:TI) (u:Option TI):(ts:List Ty)→A→Option (List (Elts ts))
 |[.int .u8],y=>bif same then rowOf lk [.int .u8] y else match te,u,y with
  | .c (.int .u8) 1,some (.c .str _),.val .str s=>some (Z_ s)
  |_,_,_=>none
 |ts,y=>bif same then rowOf lk ts y else none
def Cn (ts:List Ty) (xs:List (Elts ts)) (i:Int):Elts ts:=xs.getD i.toNat (zeroE ts)
def gh:Ty→A→A→Option Bool
 | .int _,.val (.int k) x,.val (.int k') y=>if k=k' then some ((show Int from x)==(show Int from y)) else none
 | .bool,.val .bool x,.val .bool y=>some ((show Bool from x)==(show Bool from y))
 | .str,.val .str x,.val .str y=>some ((show ByteArray from x).toList==(show ByteArray from y).toList)
 |_,_,_=>none
def YA:List Ty→List A→List A→Option Bool
 |[],[],[]=>some true
 |t::ts,a::l,b::m=>match gh t a b with
  |some u=>(YA ts l m).map fun v=>u&&v
  |none=>none
 |_,_,_=>none
def ng (C:Ctx):Nat→Nat→Bool
 |0,_=>false
 |n+1,t=>match C.info t with
  |some (.c t _)=>t.flat
  |some (.s fs _ _)=>fs.all fun p=>ng C n p.2
  |none=>false
def xT (C:Ctx) (op:BinOp) (t:Nat):TI→A→A→Option Bool
 | .s _ ts _,.agg l,.agg m=>(match op with
  | .eql=>bif ng C 8 t then YA ts l m else none
  | .neq=>bif ng C 8 t then (YA ts l m).map fun b=> !b else none
  |_=>none)
 |_,_,_=>none
def lB (lk:Lk) (ti:TI):A→Option A
 | .box b off=>match lk b with
  |some (.box cs)=>bif Nat.ble (off+ti.ts.length) cs.length then Ez ti.isAgg ((cs.drop off).take ti.ts.length) else none
  |_=>none
 | .ly _ ts xs i c=>bif Nat.ble (c+ti.ts.length) ts.length then Ez ti.isAgg (((cellsE ts (Cn ts xs i)).drop c).take ti.ts.length) else none
 | .lj o i c=>match lk o with
  |some (.root _ _ ts xs)=>bif Nat.ble (c+ti.ts.length) ts.length then Ez ti.isAgg (((cellsE ts (Cn ts xs i)).drop c).take ti.ts.length) else none
  |_=>none
 |_=>none
def jJ {α:Type}:List α→Nat→List α→Option (List α)
 |l,_,[]=>some l
 |[],_,_::_=>none
 |_::l,0,x::xs=>match jJ l 0 xs with
  |some r=>some (x::r)
  |none=>none
 |y::l,n+1,xs=>match jJ l n xs with
  |some r=>some (y::r)
  |none=>none
def ib (lk:Lk):(ts:List Ty)→Nat→List A→Option (List (Sigma El)×List Nat)
 |_,_,[]=>some ([],[])
 |[],_,_::_=>none
 |t::ts,0,a::l=>match oG lk t a with
  |some (x,is)=>match ib lk ts 0 l with
   |some (r,js)=>some (⟨t,x⟩::r,is++js)
   |none=>none
  |none=>none
 |_::ts,c+1,a::l=>ib lk ts c (a::l)
def jK:List Nat→List (Nat×Ob)
 |[]=>[]
 |i::r=>(i,.gone)::jK r
def gi:List Nat→Bool
 |[]=>true
 |i::r=> !Jj r i&&gi r
def EA (lk:Lk) (p v:A):Option (List (Nat×Ob)):=match p with
 | .box b off=>match lk b with
  |some (.box cs)=>match jJ cs off v.cells with
   |some cs'=>bif km v.cells then some [(b,.box cs')] else none
   |none=>none
  |_=>none
 | .lj o i c=>match lk o with
  |some (.root true e ts xs)=>match ib lk ts c v.cells with
   |some (ys,is)=>match rY ts (Cn ts xs i) c ys with
    |some x=>bif Jj is o then none else some (settles lk is++[(o,.root true e ts (xs.set i.toNat x))])
    |none=>none
   |none=>none
  |_=>none
 |_=>none
def CO:Ty→A
 | .sl _ _=> .JX
 |t=> .val t (oE t)
mutual
def A.ids:A→List Nat
 | .own o=>[o]
 | .box b _=>[b]
 | .lj o _ _=>[o]
 | .nc _ b=>[b]
 | .win o _=>[o]
 | .tl o _=>[o]
 | .agg l=>Ya l
 | .oF l=>Ya l
 | .dead=>[]
 | .und=>[]
 | .val _ _=>[]
 | .JX=>[]
 | .aj=>[]
 | .ly _ _ _ _ _=>[]
 | .top _ _ _=>[]
 | .fn _=>[]
def Ya:List A→List Nat
 |[]=>[]
 |a::r=>a.ids++Ya r
end
def jL:List Ty→List A→Nat→List A×List (Nat×Ob)
 | .sl e us::ts,.JX::l,n=>bif flats us&&Nat.blt 0 us.length then (.own n::(jL ts l (n+1)).1,(n,.root true e us [])::(jL ts l (n+1)).2) else (.JX::(jL ts l (n+1)).1,(jL ts l (n+1)).2)
 |_::ts,a::l,n=>(a::(jL ts l (n+1)).1,(jL ts l (n+1)).2)
 |_,l,_=>(l,[])
def gj (C:Ctx) (ρ:Operand→A) (fs:List (Nat×Nat)):List A→List (Nat×Operand)→Option (List A)
 |cs,[]=>some cs
 |cs,(i,x)::r=>match fs[i]? with
  |some (off,t)=>match C.info t with
   |some ti=>bif Nat.beq (ρ x).cells.length ti.ts.length&&km (ρ x).cells then match jJ cs off (ρ x).cells with
     |some cs'=>gj C ρ fs cs' r
     |none=>none
    else none
   |none=>none
  |none=>none
def rZ (lk:Lk) (ρ:Operand→A) (ts:List Ty):List (Nat×Operand)→List (Elts ts)→List Nat→Option (List (Elts ts)×List Nat)
 |[],xs,is=>some (xs,is)
 |(i,x)::r,xs,is=>match Me lk ts (ρ x).cells with
  |some (y,js)=>bif Nat.blt i xs.length then rZ lk ρ ts r (xs.set i y) (is++js) else none
  |none=>none
def r_ (lk:Lk):A→Option Int
 | .JX=>some 0
 | .val .str x=>some x.size
 | .own o=>match lk o with
  |some (.root _ _ _ xs)=>some xs.length
  |_=>none
 |a=>match n8 lk a with
  |some ⟨_,_,xs⟩=>some xs.length
  |none=>none
def loA (ρ:Operand→A):Option Operand→A
 |some l=>ρ l
 |none=> .val (.int .i64) (0:Int)
def hiA (ρ:Operand→A):Option Operand→Int→A
 |some h,_=>ρ h
 |none,n=> .val (.int .i64) n
def nh (C:Ctx) (t:Nat) (a:A):Bool:=match C.info t,a with
 |some (.c .str _),.val .str _=>true
 |some (.c (.sl _ _) _),.val (.sl _ _) _=>true
 |some (.c (.sl _ _) _),.JX=>true
 |some (.c (.sl _ _) _),.own _=>true
 |_,_=>false
def Jk:Bool→A→Option (List A)
 |true,.agg l=>some l
 |true,_=>none
 |false,.agg _=>none
 |false,a=>some [a]
def c8:Option Nat→A→Option Nat
 |none,.box b off=>bif Nat.beq off 0 then some b else none
 |some f,.nc f' b=>bif Nat.blt f 1000000000&&Nat.beq f f' then some b else none
 |some f,.box b off=>bif Nat.beq f (1000000000+off) then some b else none
 |_,_=>none
def NO:Option Nat→Nat→A
 |none,b=> .box b 0
 |some f,b=>bif Nat.blt f 1000000000 then .nc f b else .box b (f - 1000000000)
def gather (lk:Lk):List PK→List A→Option (List A×List (Nat×Nat))
 |[],[]=>some ([],[])
 | .v agg ts _::ps,a::as=>match Jk agg a,gather lk ps as with
  |some c,some (l,bs)=>bif Nat.beq c.length ts.length then some (c++l,bs) else none
  |_,_=>none
 | .p wr ts _::ps,a::as=>match c8 wr a with
  |some b=>match lk b with
   |some (.box cs)=>match gather lk ps as with
    |some (l,bs)=>bif Nat.beq ts.length cs.length then some (cs++l,(b,ts.length)::bs) else none
    |none=>none
   |_=>none
  |none=>none
 | .k f::ps,a::as=>match a with
  | .fn f'=>bif Nat.beq f f' then gather lk ps as else none
  |_=>none
 |_,_=>none
def my:A→Option (Nat×List A)
 | .fn f=>some (f,[])
 | .nc f b=>some (f,[.box b 0])
 |_=>none
def Mk (lk:Lk):List A→List Nat
 |[]=>[]
 |a::r=>match a with
  | .fn f=>f::Mk lk r
  | .nc f _=>f::Mk lk r
  | .box b off=>(match lk b with
   |some (.box cs)=>(2000000000+cs.length*100000+off)::Mk lk r
   |_=>Mk lk r)
  |_=>Mk lk r
def Vs (lk:Lk) (own:Bool) (t:Ty) (a:A):Option (El t×List Nat×List Nat):=bif own then (match a,t with
  | .own o,t=>match lk o with
   |some (.root true e ts xs)=>(qT (.sl e ts) t xs).map fun y=>(y,[],[o])
   |_=>none
  | .JX,.sl e ts=>bif Nat.blt 0 ts.length then some (oE (.sl e ts),[],[]) else none
  | .val t' x,t=>bif t.flat then (qT t' t x).map fun y=>(y,[],[]) else none
  |_,_=>none) else (oG lk t a).map fun (y,is)=>(y,is,[])
def V2 (lk:Lk):(ts:List Ty)→List Bool→List A→Option (Elts ts×List Nat×List Nat)
 |[],_,[]=>some ((),[],[])
 |t::[],os,[a]=>Vs lk (os.headD false) t a
 |t::u::r,os,a::l=>match Vs lk (os.headD false) t a with
  |some (x,is,gs)=>match V2 lk (u::r) os.tail l with
   |some (y,js,hs)=>some ((x,y),is++js,gs++hs)
   |none=>none
  |none=>none
 |_,_,_=>none
def jr (tg:Bool):(t:Ty)→Bool→El t→Nat→A×List (Nat×Ob)
 | .sl e us,true,x,n=>bif tg then (.top e us x,[]) else (.own n,[(n,.root true e us x)])
 |t,_,x,_=>(.val t x,[])
def zC (tg:Bool):(ts:List Ty)→List Bool→Elts ts→Nat→List A×List (Nat×Ob)
 |[],_,_,_=>([],[])
 |t::[],os,x,n=>([(jr tg t (os.headD false) x n).1],(jr tg t (os.headD false) x n).2)
 |t::u::r,os,x,n=>((jr tg t (os.headD false) x.1 n).1::(zC tg (u::r) os.tail x.2 (n+1)).1,(jr tg t (os.headD false) x.1 n).2++(zC tg (u::r) os.tail x.2 (n+1)).2)
def aL:List RK→List A→Option (List A×List A)
 |[],l=>some ([],l)
 |r::rs,l=>match Ez r.agg (l.take r.ts.length) with
  |some a=>match aL rs (l.drop r.ts.length) with
   |some (as,l2)=>some (a::as,l2)
   |none=>none
  |none=>none
def fh:List (Nat×Nat)→List A→List (Nat×Ob)
 |[],_=>[]
 |(b,n)::bs,l=>(b,.box (l.take n))::fh bs (l.drop n)
def bZ:List Nat→List Nat→Bool
 |[],_=>true
 |i::r,l=> !Jj l i&&bZ r l
def yN {α:Type}:List (Nat×α)→List Nat
 |[]=>[]
 |(i,_)::r=>i::yN r
def isNil {α:Type}:List α→Bool
 |[]=>true
 |_=>false
def uP (sg:Sig) (d:Nat) (l:List A):Option (List (Nat×Ob)×A×List A):=bif sg.ptr then (match sg.rs with
  |q::rs=>(match aL rs (l.drop q.ts.length) with
   |some (as,rest)=>some ([(1000*(d+1)+500,.box (l.take q.ts.length))],(match as with|[]=> .box (1000*(d+1)+500) 0|as=> .oF (.box (1000*(d+1)+500) 0::as)),rest)
   |none=>none)
  |_=>none) else match aL sg.rs l with
  |some (as,rest)=>some ([],(match as with|[a]=>a|as=> .oF as),rest)
  |none=>none
section
def Ge (lk:Lk) (same:Bool) (e:Nat) (ts:List Ty):A→A→Option (Nat×List (Elts ts)×List (Elts ts))
 | .win r h,.tl r2 l=>match lk r with
  |some (.root true e1 ts1 xs)=>match na ts1 ts xs with
   |some xs=>bif same&&Nat.beq r r2&&Nat.beq e1 e then some (r,xs.take (Int.toNat h),xs.drop (Int.toNat l)) else none
   |none=>none
  |_=>none
 |_,_=>none
def EB:Option Operand→Bool
 |none=>true
 |some _=>false
variable {R:Type} (C:Ctx) (call:C.Sem)
def cF (lk:Lk) (sg:Sig) (bs:List (Nat×Nat)) (is gs:List Nat) (d:Nat) (ts:List Ty) (r:Elts ts):Option Eff:=
 match zC false ts sg.owns r (1000*(d+1)) with
 |(l,obs)=>match uP sg d l with
  |some (ex,a,rest)=>bif bZ (yN (obs++ex)) (is++(gs++yN bs))&&(isNil ex||Nat.ble ts.length 500) then some ⟨settles lk is++(jK (bif sg.back then [] else gs)++fh bs rest),obs++ex,a⟩ else none
  |none=>none
def Gf (lk:Lk) (dst:Option Nat) (g:Nat) (as:List A) (q:Nat) (k:Eff→Option R):Option R:=match C.sig q with
 |some sg=>match gather lk sg.ps as with
  |some (l,bs)=>match V2 lk (C.ins q) (sg.ps.flatMap PK.ownsIn) l,dst with
   |some (xs,is,gs),some d=>bif gi (yN bs)&&gi gs&&bZ gs is&&Nat.beq (C.fid q) g then
     (call q xs).bind fun r=>match cF lk sg bs (bif sg.hfree then [] else is) gs d (C.outs q) r with
      |some e=>k e
      |none=>none
    else none
   |_,_=>none
  |none=>none
 |none=>none
def Yg (ct wn:Bool) (o:Oper) (ρ:Operand→A) (lk:Lk) (k:Eff→Option R):Option R:=
 match o.op with
 | .move x| .assign x=>k ⟨[],[],ρ x⟩
 | .box t x=>match C.info t,o.dst with
  |some ti,some d=>bif Nat.beq (ρ x).cells.length ti.ts.length&&km (ρ x).cells then
    k ⟨[],[(d,.box (zv d (ρ x).cells))],.box d 0⟩
   else none
  |_,_=>none
 | .alloc t=>match C.info t,o.dst with
  |some ti,some d=>k ⟨[],[(d,.box (ti.ts.map CO))],.box d 0⟩
  |_,_=>none
 | .build t parts=>match C.info t with
  |some (.s fs ts _)=>match gj C ρ fs (ts.map CO) parts.toList with
   |some l=>bif ct then (match o.dst with
    |some d=>bif bZ (yN (jL ts l (1000*(d+1))).2) (Ya l) then k ⟨[],(jL ts l (1000*(d+1))).2,.agg (jL ts l (1000*(d+1))).1⟩ else none
    |none=>none) else k ⟨[],[],.agg l⟩
   |none=>none
  |_=>none
 | .buildSlice t n parts=>match C.info t,o.dst with
  |some (.c (.sl e ts) _),some d=>match rZ lk ρ ts parts.toList (List.replicate n (zeroE ts)) [] with
   |some (xs,is)=>bif Jj is d|| !Nat.ble (n*ts.length) 16777216 then none else k ⟨settles lk is,[(d,.root true e ts xs)],.own d⟩
   |none=>none
  |_,_=>none
 | .makeSlice t l c=>match C.info t,o.dst with
  |some (.c (.sl e ts) _),some d=>match C.info e,ρ l,ρ c with
   |some te,.val (.int .i64) n,.val (.int .i64) m=>
    if 0≤(show Int from n) then if (show Int from n)≤(show Int from m) then if (show Int from m)*te.bytes≤140737488351232 then
     k ⟨[],[(d,.root true e ts (List.replicate (Int.toNat n) (zeroE ts)))],.own d⟩
    else none else none else none
   |_,_,_=>none
  |_,_=>none
 | .load t x=>match C.info t with
  |some ti=>match lB lk ti (ρ x) with
   |some a=>k ⟨[],[],a⟩
   |none=>none
  |none=>none
 | .store t p x=>match C.info t with
  |some ti=>bif Nat.beq (ρ x).cells.length ti.ts.length then match EA lk (ρ p) (ρ x) with
    |some sets=>k ⟨sets,[],.dead⟩
    |none=>none
   else none
  |none=>none
 | .nilCheck x=>match ρ x with
  | .box b off=>k ⟨[],[],.box b off⟩
  | .ly e ts xs i c=>k ⟨[],[],.ly e ts xs i c⟩
  | .lj r i c=>k ⟨[],[],.lj r i c⟩
  |_=>none
 | .binOp op t x y _=>match C.info t with
  |some ti=>match xT C op t ti (ρ x) (ρ y) with
   |some b=>k ⟨[],[],.val .bool b⟩
   |none=>bif boolTy ti (ρ x) then U1 op (ρ x) (ρ y) fun a=>k ⟨[],[],a⟩ else none
  |none=>none
 | .unOp op _ x=>match unA op (ρ x) with
  |some a=>k ⟨[],[],a⟩
  |none=>none
 | .convert src dst x=>match C.info src,C.info dst,ρ x with
  |some _,some (.c (.int k2) _),.val (.int _) n=>k ⟨[],[],.val (.int k2) (k2.wrap n)⟩
  |some _,some (.c .str _),.val .str x=>k ⟨[],[],.val .str x⟩
  |some (.c .str _),some (.c (.sl e [.int .u8]) _),.val .str x=>match C.info e with
   |some (.c (.int .u8) _)=>if ByteArray.size x<140737488351232 then k ⟨[],[],.val (.sl e [.int .u8]) (Z_ x)⟩ else none
   |_=>none
  |some (.c (.sl e [.int .u8]) _),some (.c .str _),a=>match C.info e,rowOf lk [.int .u8] a with
   |some (.c (.int .u8) _),some l=>k ⟨[],[],.val .str (textOf l)⟩
   |_,_=>none
  |_,_,_=>none
 | .slice t x lo hi none=>
  match ρ x,loA ρ lo with
  |a,.val (.int _) l=>match r_ lk a with
   |some n=>match hiA ρ hi n with
    | .val (.int _) h=>if 0≤(show Int from l) then if (show Int from l)≤(show Int from h) then if (show Int from h)≤n then
      match C.info t,a with
      |some (.c .str _),.val .str x=>k ⟨[],[],.val .str (ByteArray.extract x (Int.toNat l) (Int.toNat h))⟩
      |some (.c (.sl _ us) _),.val (.sl e ts) xs=>bif Nat.beq us.length ts.length then k ⟨[],[],.val (.sl e ts) (((show List (Elts ts) from xs).take (Int.toNat h)).drop (Int.toNat l))⟩ else none
      |some (.c (.sl _ us) _),.top e ts xs=>bif Nat.beq us.length ts.length then k ⟨[],[],.top e ts ((xs.take (Int.toNat h)).drop (Int.toNat l))⟩ else none
      |some (.c (.sl _ us) _),.own r=>match lk r with
       |some (.root own e ts xs)=>bif Nat.beq us.length ts.length then (bif ct&&own&&EB lo then (match o.dst with
         |some d=>bif Nat.beq r d then none else k ⟨[(r,.gone)],[(d,.root true e ts (xs.take (Int.toNat h)))],.own d⟩
         |none=>none)
        else bif wn&&own&&EB lo then k ⟨[],[],.win r h⟩
        else bif wn&&own&&EB hi then k ⟨[],[],.tl r l⟩
        else k ⟨bif own then [(r,.root false e ts xs)] else [],[],.val (.sl e ts) ((xs.take (Int.toNat h)).drop (Int.toNat l))⟩) else none
       |_=>none
      |_,_=>none
     else none else none else none
    |_=>none
   |none=>none
  |_,_=>none
 | .fieldAddr t x f=>match C.info t with
  |some (.s fs _ _)=>match fs[f]?,ρ x with
   |some (d,_),.box b off=>k ⟨[],[],.box b (off+d)⟩
   |some (d,_),.ly e ts xs i c=>k ⟨[],[],.ly e ts xs i (c+d)⟩
   |some (d,_),.lj r i c=>k ⟨[],[],.lj r i (c+d)⟩
   |_,_=>none
  |_=>none
 | .field t x f=>match C.info t with
  |some (.s fs _ _)=>match fs[f]? with
   |some (d,t2)=>match C.info t2 with
    |some ti=>match ρ x with
     | .agg l=>bif Nat.ble (d+ti.ts.length) l.length then match Ez ti.isAgg ((l.drop d).take ti.ts.length) with
      |some a=>k ⟨[],[],a⟩
      |none=>none else none
     |_=>none
    |none=>none
   |none=>none
  |_=>none
 | .indexAddr t x i=>match C.info t,ρ x,ρ i with
  |some (.c (.sl _ us) _),.val (.sl e ts) xs,.val (.int _) n=>if 0≤(show Int from n) then if (show Int from n)<(show List (Elts ts) from xs).length then bif Nat.beq us.length ts.length then k ⟨[],[],.ly e ts xs n 0⟩ else none else none else none
  |some (.c (.sl _ us) _),.own r,.val (.int _) n=>match lk r with
   |some (.root _ _ ts xs)=>if 0≤(show Int from n) then if (show Int from n)<xs.length then bif Nat.beq us.length ts.length then k ⟨[],[],.lj r n 0⟩ else none else none else none
   |_=>none
  |_,_,_=>none
 | .index t x i=>match C.info t,ρ x,ρ i with
  |some (.c .str _),.val .str x,.val (.int _) n=>if 0≤(show Int from n) then if h:Int.toNat n<ByteArray.size x then k ⟨[],[],.val (.int .u8) ((ByteArray.get x (Int.toNat n) h).toNat:Int)⟩ else none else none
  |_,_,_=>none
 | .extract x i=>match ρ x with
  | .oF l=>match l[i]? with
   |some a=>k ⟨[],[],a⟩
   |none=>none
  |_=>none
 | .call c=>match c.callee,c.args.toList,c.argTypes.toList with
  | .builtin .len,[x],t::_=>match r_ lk (ρ x),nh C t (ρ x) with
   |some n,true=>k ⟨[],[],.val (.int .i64) n⟩
   |_,_=>none
  | .builtin .min,[x,y],_=>match ρ x,ρ y with
   | .val (.int k1) n,.val (.int k2) m=>if k1=k2 then k ⟨[],[],.val (.int k1) (if (show Int from m)<(show Int from n) then m else n)⟩ else none
   |_,_=>none
  | .builtin .append,[x,y],[t,t2]=>match C.info t,o.dst with
   |some (.c (.sl e ts) _),some d=>match C.info e with
    |some te=>match Ge lk (Nat.beq t t2) e ts (ρ x) (ρ y) with
     |some (r,xs,ys)=>bif Nat.beq r d then none else if (xs.length+ys.length)*te.bytes<140737488355328 then k ⟨[(r,.gone)],[(d,.root true e ts (xs++ys))],.own d⟩ else none
     |none=>match ρ x,CN lk (Nat.beq t t2) te (C.info t2) ts (ρ y) with
     | .JX,some ys=>if ys.length*te.bytes<140737488355328 then k ⟨[],[(d,.root true e ts ys)],.own d⟩ else none
     | .own r,some ys=>match lk r with
      |some (.root true e1 ts1 xs)=>match na ts1 ts xs with
       |some xs=>bif Nat.beq r d|| !Nat.beq e1 e then none else if (xs.length+ys.length)*te.bytes<140737488355328 then k ⟨[(r,.gone)],[(d,.root true e ts (xs++ys))],.own d⟩ else none
       |none=>none
      |_=>none
     |_,_=>none
    |none=>none
   |_,_=>none
  | .value f,as,_=>match my (ρ f) with
   |some (g,ex)=>Gf C call lk o.dst g (as.map ρ++ex) (C.key g (Mk lk (as.map ρ))) k
   |none=>none
  |_,_,_=>none
 | .makeFunc (.func f) first captured=>match first.toList,captured.toList with
  |[],[]=>k ⟨[],[],.fn f⟩
  |[],[x]=>match ρ x with
   | .box b off=>bif Nat.beq off 0 then k ⟨[],[],.nc f b⟩ else none
   |_=>none
  |_,_=>none
 |_=>none
structure Wf where
 o:Oper
 g:Option (Nat×Bool)
 vis:Nat
 cls:Nat
 bad:List Nat
 later:List Nat
 mine:List Nat
 hn:Nat
 fp:List Nat
def Ob.ids:Ob→List Nat
 | .box cs=>Ya cs
 |_=>[]
def dR:List (Nat×Ob)→List Nat
 |[]=>[]
 |(i,x)::r=>i::(x.ids++dR r)
def Wf.see (x:Wf) (lk:Lk):Lk:=fun i=>bif Jj x.bad i then none else match x.vis with
 |0=>none
 |1=>match lk i with
  |some (.box cs)=>some (.box cs)
  |_=>none
 |3=>match lk i with
  |some (.root own e ts xs)=>some (.root own e ts xs)
  |_=>none
 |_=>lk i
def lC (lk:Lk):List (Nat×Ob)→Bool
 |[]=>true
 |(i,x)::r=>(match lk i with
  |some (.root _ _ _ _)=>(match x with
   | .box _=>false
   |_=>true)
  |_=>false)&&lC lk r
def fi (lk:Lk):List (Nat×Ob)→Bool
 |[]=>true
 |(i,x)::r=>(match lk i with
  |some (.box _)=>(match x with
   | .box _=>true
   |_=>false)
  |_=>false)&&fi lk r
def Gg:List Nat→List Nat→Bool
 |[],_=>true
 |i::r,l=>Jj l i&&Gg r l
def Wf.ok (x:Wf) (lk:Lk) (e:Eff):Bool:=
 (match x.cls with
  |0=>isNil e.sets
  |1=>lC lk e.sets
  |3=>fi lk e.sets
  |4=>Gg (yN e.sets) x.fp
  |_=>true)&&Gg (yN e.adds) x.mine&&(isNil x.later||bZ x.later (e.a.ids++(dR e.sets++dR e.adds)))
def yek (x:Wf) (s:St) (k:St→Option R):Option R:=
 Yg C call (Nat.beq x.hn 2) (Nat.beq x.hn 3) x.o s.Yw (x.see (look s.o)) fun e=>bif x.ok (x.see (look s.o)) e then k (s.apply x.o.dst e) else none
def yel (x:Wf) (s:St) (k:St→Option R):Option R:=
 Yg C call (Nat.beq x.hn 2) (Nat.beq x.hn 3) x.o s.Yw (x.see (look s.o)) fun e=>bif isNil e.sets&&x.ok (x.see (look s.o)) e then k (s.apply x.o.dst e) else none
def V3 (c:Nat):List Wf→List Wf→Option (List Wf×Wf×Operand×Operand×List Wf)
 |_,[]=>none
 |acc,o::r=>match o.o.op,o.g with
  | .pick (.tmp j) a b,none=>bif Nat.beq j c then some (acc.reverse,o,a,b,r) else V3 c (o::acc) r
  |_,_=>V3 c (o::acc) r
def bare (c:Nat) (b:Bool):List Wf→List Wf
 |[]=>[]
 |x::r=>(match x.g with
  |some (c',b')=>bif Nat.beq c c'&&(b==b') then {x with g:=none} else x
  |none=>x)::bare c b r
def ak (n c:Nat) (b:Bool):List Nat→List Wf→Bool
 |_,[]=>true
 |ds,x::r=>(match x.g with
  |some (c',b')=>(Nat.beq c c'&&(b==b'))||Jj ds c'
  |none=>false)&&(match x.o.dst with
  |some d=> !Nat.beq d c&&ak n c b (bif Nat.blt d n then d::ds else ds) r
  |none=>ak n c b ds r)
def zd (s:St) (x:Operand):Option Bool:=match s.Yw x with
 | .val .bool b=>some b
 |_=>none
def dstsOf:List Wf→List Nat
 |[]=>[]
 |x::r=>match x.o.dst with
  |some d=>d::dstsOf r
  |none=>dstsOf r
def Zy:List Wf→List Nat
 |[]=>[]
 |x::r=>x.mine++Zy r
def Yi (s:St):List Nat→St
 |[]=>s
 |d::r=>Yi (s.put (some d) .dead) r
def y5j (o:Oper):Bool:=match o.op with
 | .store _ _ _=>true
 | .call c=>match c.callee with
  | .builtin .append=>true
  | .value (.func f)=>(match C.sig f with
   |some sg=>sg.ps.any PK.isP|| !sg.hfree
   |none=>true)
  |_=>false
 |_=>false
def JZ (pu:Bool): {R:Type}→Nat→List Wf→St→(St→Option R)→Option R
 |_,_,[],s,k=>k s
 |_,0,_::_,_,_=>none
 |R,n+1,x::r,s,k=>match x.g with
  |none=>bif pu then yel C call x s fun s1=>JZ pu n r s1 k else yek C call x s fun s1=>JZ pu n r s1 k
  |some (c,want)=>match zd s (.tmp c),V3 c [] (x::r) with
   |some v,some (ni,p,a,b,rest)=>bif ak s.t.length c want [] ni then (bif ni.any fun y=>y5j C y.o|| !Nat.beq y.hn 0 then
     (match want with
     |true=>bif v then JZ pu n (bare c true ni) s fun s1=>match zd s1 a with
       |some u=>JZ pu n rest ((Yi s1 (dstsOf ni)).put p.o.dst (.val .bool u)) k
       |none=>none
      else match zd (Yi s (dstsOf ni)) b with
       |some u=>JZ pu n rest ((Yi s (dstsOf ni)).put p.o.dst (.val .bool u)) k
       |none=>none
     |false=>bif v then match zd (Yi s (dstsOf ni)) a with
       |some u=>JZ pu n rest ((Yi s (dstsOf ni)).put p.o.dst (.val .bool u)) k
       |none=>none
      else JZ pu n (bare c false ni) s fun s1=>match zd s1 b with
       |some u=>JZ pu n rest ((Yi s1 (dstsOf ni)).put p.o.dst (.val .bool u)) k
       |none=>none)
     else (match want with
     |true=>bif v then JZ true n (bare c true ni) s fun s1=>zd s1 a else zd (Yi s (dstsOf ni)) b
     |false=>bif v then zd (Yi s (dstsOf ni)) a else JZ true n (bare c false ni) s fun s1=>zd s1 b).bind fun u=>
      JZ pu n rest ((Yi (s.yA (Zy ni)) (dstsOf ni)).put p.o.dst (.val .bool u)) k)
     else none
   |_,_=>none
def EC (d:Nat):Nat→List Nat
 |0=>[]
 |n+1=>EC d n++[1000*(d+1)+n]
def qV (o:Oper):List Nat:=match o.dst with
 |none=>[]
 |some d=>match o.op with
  | .box _ _=>[d]
  | .alloc _=>[d]
  | .buildSlice _ _ _=>[d]
  | .makeSlice _ _ _=>[d]
  | .slice _ _ none _ _=>[d]
  | .build t _=>(match C.info t with
   |some ti=>EC d ti.ts.length
   |none=>[])
  | .call c=>match c.callee with
   | .builtin .append=>[d]
   | .value (.func f)=>(1000*(d+1)+500)::EC d (match C.sig f with
    |some sg=>sg.outs.length
    |none=>24)
   |_=>[]
  |_=>[]
def guardOf (ops:Array Oper) (o:Oper):Option (Option (Nat×Bool)):=match o.guard with
 |none=>some none
 |some (j,w)=>match ops[j]? with
  |some g=>match g.dst with
   |some d=>some (some (d,w))
   |none=>none
  |none=>none
def hintOf (h:List Nat) (o:Oper):Nat:=match o.dst with
 |some d=>bif Jj h (100000+d) then 2 else bif Jj h (200000+d) then 3 else bif Jj h d then 1 else 0
 |none=>0
def CP (h:List Nat) (ops:Array Oper):List Oper→Option (List Wf)
 |[]=>some []
 |o::r=>match guardOf ops o,CP h ops r with
  |some g,some l=>some ({o,g,vis:=2,cls:=2,bad:=[],later:=[],mine:=qV C o,hn:=hintOf h o,fp:=[]}::l)
  |_,_=>none
def fj (acc:List Nat):List Edge→Nat
 |[]=>0
 |e::r=>bif Region.binds .any e then (2 ^ e.on|||acc.getD e.on 0)|||fj acc r else fj acc r
def masks:List Oper→List Nat→List Nat
 |[],acc=>acc
 |o::r,acc=>masks r (acc++[fj acc o.after.toList])
def y2P (d:Nat):List Nat→List Nat
 |[]=>[]
 |e::r=>bif Nat.ble (1000000000000000+d*1000000000) e&&Nat.blt e (1000000000000000+(d+1)*1000000000) then (e - (1000000000000000+d*1000000000))::y2P d r else y2P d r
def TP (h:List Nat) (o:Oper):List Nat:=match o.dst with
 |some d=>y2P d h
 |none=>match o.op with
  | .store _ (.tmp p) _=>y2P p h
  |_=>[]
def yk0 (h:List Nat) (o:Oper):Nat:=match o.op with
 | .store _ _ _=>2
 | .call c=>match c.callee with
  | .builtin .append=>1
  | .builtin _=>0
  | .value (.func f)=>(match C.sig f with
   |some sg=>bif sg.ps.any PK.isP then (match o.dst with
     |some d=>bif Jj h d then 2 else 3
     |none=>bif sg.hfree&&(sg.ps.flatMap PK.ownsIn).all not then 3 else 2) else bif sg.hfree then 0 else 1
   |none=>2)
  |_=>2
 |_=>(match o.dst with
  |some d=>bif Jj h d||Jj h (100000+d) then 1 else 0
  |none=>0)
def al (h:List Nat) (o:Oper):Nat:=bif isNil (TP h o) then yk0 C h o else 4
def Gi (a b:Nat):Nat:=match a with
 |0=>b
 |_=>(match b with
  |0=>a
  |_=>bif Nat.beq a b then a else 2)
def Sb (c:Nat):Nat:=bif Nat.beq c 4 then 0 else c
def Gj:Nat→Nat
 |0=>2
 |1=>1
 |3=>3
 |_=>0
def slotsOf (l:List Operand):List Nat:=match l with
 |[]=>[]
 | .tmp t::r=>t::slotsOf r
 |_::r=>slotsOf r
def asked (ops:Array Oper) (o:Oper):List Nat:=(match guardOf ops o with
 |some (some (c,_))=>[c]
 |_=>[])++slotsOf o.op.operands.toList
def y2Q (l:List Nat):Option Nat→Bool
 |none=>false
 |some d=>Jj l d
def sb (ops:Array Oper) (x y:Oper):Bool:= !y2Q (asked ops y) x.dst&& !y2Q (asked ops x) y.dst&&(match x.dst,y.dst with
 |some d,some e=> !Nat.beq d e
 |_,_=>true)
def gk (o:Oper):Bool:=match o.op with
 | .pick _ _ _=>true
 |_=>false
def tied (ms:List Nat) (i j:Nat):Bool:=(ms.getD i 0).testBit j||(ms.getD j 0).testBit i
structure Gl where
 ok:Bool
 top:Nat
 bad:List Nat
 later:List Nat
def others (h:List Nat) (ops:Array Oper) (ms:List Nat) (i:Nat) (o:Oper):Nat→List Oper→Gl
 |_,[]=>⟨true,0,[],[]⟩
 |j,y::r=>match others h ops ms i o (j+1) r with
  |g=>bif Nat.beq i j then g else
    bif tied ms i j then (bif (ms.getD i 0).testBit j then g else {g with later:=qV C y++g.later})
    else ⟨g.ok&&sb ops o y&& !gk o&& !gk y&&(Nat.beq (al C h o) 0||Nat.beq (al C h y) 0||(Nat.beq (al C h o) 4&&Nat.beq (al C h y) 4&&bZ (TP h o) (TP h y))),Gi (Sb (al C h y)) g.top,qV C y++(TP h y++g.bad),qV C y++g.later⟩
def tr (h:List Nat) (ops:Array Oper) (ms:List Nat):Nat→List Oper→Option (List Wf)
 |_,[]=>some []
 |i,o::r=>match guardOf ops o,tr h ops ms (i+1) r,others C h ops ms i o 0 ops.toList with
  |some g,some l,q=>bif q.ok&&Nat.blt (ms.getD i 0) (2 ^ i) then some ({o,g,vis:=Gj q.top,cls:=al C h o,bad:=q.bad,later:=q.later,mine:=qV C o,hn:=hintOf h o,fp:=TP h o}::l) else none
  |_,_,_=>none
def yem (h:List Nat) (dr:Bool) (ops:Array Oper):Option (List Wf):=bif dr then tr C h ops (masks ops.toList []) 0 ops.toList else CP C h ops ops.toList
def se:List Oper→List Nat
 |[]=>[]
 |o::r=>qV C o++se r
def U2 (id:Nat):List Nat→List Nat
 |[]=>[]
 |e::r=>bif Nat.ble (2000000000000000000+id*1000000) e&&Nat.blt e (2000000000000000000+(id+1)*1000000) then (e - (2000000000000000000+id*1000000))::U2 id r else U2 id r
def Ml (s:St):List Nat→List Nat
 |[]=>[]
 |d::r=>(s.t.getD d .dead).ids++(((s.t.getD d .dead).ids.flatMap fun i=>match look s.o i with
  |some ob=>ob.ids
  |none=>[])++Ml s r)
def preS (h:List Nat) (id:Nat) (s:St):St:=match U2 id h with
 |[]=>s
 |l=>s.yB (settles (look s.o) (Ml s l))
structure Ks (R:Type) where
 exit:Nat→St→Option R
 ret:St→Option R
abbrev Lp:Type 1:=Nat→St→ {R:Type}→(Option Nat→St→Option R)→Option R
def Z4:Code→Nat
 | .region i _ _=>i
 | .seq a _=>Z4 a
 | .block _ c=>Z4 c
 | .loop c=>Z4 c
 | .cond _ a _=>Z4 a
 |_=>0
def oI (l:List Nat):Nat→List A→List A
 |_,[]=>[]
 |i,a::r=>(bif Jj l i then a else .dead)::oI l (i+1) r
mutual
def A.resolve (lk:Lk):A→A
 | .own o=>match lk o with
  |some (.root true _ _ _)=> .own o
  |some (.root false e ts xs)=> .val (.sl e ts) xs
  |_=> .dead
 | .lj o i c=>match lk o with
  |some (.root true _ _ _)=> .lj o i c
  |some (.root false e ts xs)=> .ly e ts xs i c
  |_=> .dead
 | .win _ _=> .dead
 | .tl _ _=> .dead
 | .top _ _ _=> .dead
 | .agg l=> .agg (YX lk l)
 | .oF l=> .oF (YX lk l)
 | .dead=> .dead
 | .und=> .dead
 | .val t x=> .val t x
 | .JX=> .JX
 | .aj=> .aj
 | .box b off=>match lk b with
  |some (.box _)=>bif Nat.blt b 10000000 then .box b off else .dead
  |_=> .dead
 | .nc f b=>match lk b with
  |some (.box _)=>bif Nat.blt b 10000000 then .nc f b else .dead
  |_=> .dead
 | .ly e ts xs j c=> .ly e ts xs j c
 | .fn f=> .fn f
def YX (lk:Lk):List A→List A
 |[]=>[]
 |a::r=>a.resolve lk::YX lk r
end
mutual
def A.ren (m:Nat→Nat):A→A
 | .own o=> .own (m o)
 | .lj o i c=> .lj (m o) i c
 | .nc f b=> .nc f (m b)
 | .win o h=> .win (m o) h
 | .tl o h=> .tl (m o) h
 | .top e ts xs=> .top e ts xs
 | .agg l=> .agg (nT m l)
 | .oF l=> .oF (nT m l)
 | .dead=> .dead
 | .und=> .und
 | .val t x=> .val t x
 | .JX=> .JX
 | .aj=> .aj
 | .box b off=> .box (m b) off
 | .ly e ts xs j c=> .ly e ts xs j c
 | .fn f=> .fn f
def nT (m:Nat→Nat):List A→List A
 |[]=>[]
 |a::r=>a.ren m::nT m r
end
def CQ (lk:Lk):List Nat→List (Nat×List A)
 |[]=>[]
 |i::r=>match lk i with
  |some (.box cs)=>(i,YX lk cs)::CQ lk r
  |_=>CQ lk r
def Sc:List (Nat×List A)→List Nat
 |[]=>[]
 |(_,cs)::r=>Ya cs++Sc r
def sf (seen:List Nat):List Nat→List Nat
 |[]=>[]
 |i::r=>bif Jj seen i then sf seen r else i::sf (i::seen) r
def fk (lk:Lk):List Nat→List (Nat×Ob)
 |[]=>[]
 |i::r=>match lk i with
  |some (.root true e ts xs)=>(i,.root true e ts xs)::fk lk r
  |_=>fk lk r
def dT:List (Nat×Ob)→Nat→Nat→Nat
 |[],_,i=>i
 |(j,_)::r,n,i=>bif Nat.beq j i then n else dT r (n+1) i
def Mm (m:Nat→Nat):List (Nat×List A)→List (Nat×Ob)
 |[]=>[]
 |(i,cs)::r=>(i,.box (nT m cs))::Mm m r
def Mn:List (Nat×Ob)→Nat→List (Nat×Ob)
 |[],_=>[]
 |(_,x)::r,n=>(n,x)::Mn r (n+1)
def lD (n:Nat):List Nat→Bool
 |[]=>true
 |i::r=>Nat.blt i n&&lD n r
def St.keep (s:St) (l:List Nat):Option St:=
 match YX (look s.o) (oI l 0 s.t) with
 |t=>match CQ (look s.o) (sf [] (Ya t)) with
  |bx=>match fk (look s.o) (sf [] (Ya t++Sc bx)) with
   |rs=>bif lD 10000000 (yN bx) then some ⟨nT (dT rs 10000000) t,Mm (dT rs 10000000) bx++Mn rs 10000000⟩ else none
def iter {R T:Type} (step:(T→Option R)→T→Option R):Nat→T→Option R
 |0,_=>none
 |n+1,s=>step (iter step n) s
def Ks.keep {R:Type} (lx:List Nat) (κ:Option Nat→St→Option R):Ks R:= {exit:=fun i s=>(s.keep lx).bind (κ (some i)),ret:=fun s=>(s.keep lx).bind (κ none)}
def Ks.go {R:Type} (K:Ks R):Option Nat→St→Option R
 |some i,s=>K.exit i s
 |none,s=>K.ret s
def b_ (lp:Lp) (fn:Nat) {R:Type}:Code→St→(St→Option R)→Ks R→Option R
 | .skip,s,k,_=>k s
 | .region id ops dr,s,k,_=>match yem C (C.hint fn) dr ops with
  |some l=>JZ C call false (l.length+1) l (bif dr then (preS (C.hint fn) id s).yA (se C ops.toList) else preS (C.hint fn) id s) k
  |none=>none
 | .seq a b,s,k,K=>b_ lp fn a s (fun s1=>b_ lp fn b s1 k K) K
 | .cond c a b,s,k,K=>match zd s c with
  |some x=>bif x then b_ lp fn a s k K else b_ lp fn b s k K
  |none=>none
 | .block i c,s,k,K=>b_ lp fn c s k {exit:=fun j s=>bif Nat.beq i j then k s else K.exit j s,ret:=K.ret}
 | .loop c,s,_,K=>match C.live fn (Z4 c) with
  |some (l,_)=>(s.keep l).bind fun s0=>lp (Z4 c) s0 K.go
  |none=>none
 | .exit i,s,_,K=>K.exit i s
 | .ret,s,_,K=>K.ret s
 |_,_,_,_=>none
def Gm (lp:Lp) (fn:Nat) (c:Code) (l lx:List Nat) {R:Type} (κ:Option Nat→St→Option R) (again:St→Option R) (s:St):Option R:=
 b_ C call lp fn c s (fun s2=>(s2.keep l).bind again) (Ks.keep lx κ)
def jm:Code→List Code
 | .seq a b=>jm a++jm b
 | .cond _ a b=>jm a++jm b
 | .block _ c=>jm c
 | .loop c=>c::jm c
 |_=>[]
def si:List PK→List A→Nat→List A×List (Nat×Ob)
 |[],_,_=>([],[])
 | .v agg ts _::ps,l,i=>match si ps (l.drop ts.length) (i+1) with
  |(as,obs)=>((bif agg then .agg (l.take ts.length) else (l.take ts.length).headD .dead)::as,obs)
 | .p wr ts _::ps,l,i=>match si ps (l.drop ts.length) (i+1) with
  |(as,obs)=>(NO wr (900+i)::as,(900+i,.box (l.take ts.length))::obs)
 | .k f::ps,l,i=>match si ps l (i+1) with
  |(as,obs)=>(.fn f::as,obs)
def enter (sg:Sig) (n:Nat) (ts:List Ty) (x:Elts ts):St:=
 match zC sg.back ts (sg.ps.flatMap PK.ownsIn) x 950 with
 |(l,obs)=>match si sg.ps l 0 with
  |(as,bx)=>⟨as++List.replicate (n - as.length) .dead,(((⟨[],[]⟩:St).makeAll obs).makeAll bx).o⟩
def oJ (s:St):List ResultVar→List RK→Option (List A)
 |[],[]=>some []
 | .tmp t::r,k::ks=>match Jk k.agg (s.t.getD t .dead),oJ s r ks with
  |some c,some l=>bif Nat.beq c.length k.ts.length then some (c++l) else none
  |_,_=>none
 | .cell a t::r,k::ks=>match C.info t with
  |some ti=>match lB (look s.o) ti (s.t.getD a .dead) with
   |some x=>match Jk k.agg x,oJ s r ks with
    |some c,some l=>bif Nat.beq c.length k.ts.length then some (c++l) else none
    |_,_=>none
   |none=>none
  |none=>none
 |_,_=>none
def ic (s:St):List PK→Nat→Option (List A)
 |[],_=>some []
 | .v _ _ _::ps,i=>ic s ps (i+1)
 | .k _::ps,i=>ic s ps (i+1)
 | .p _ ts _::ps,i=>match look s.o (900+i),ic s ps (i+1) with
  |some (.box cs),some l=>bif Nat.beq cs.length ts.length then some (cs++l) else none
  |_,_=>none
def y2R (s:St):List ResultVar→List RK→Option (List A)
 | .tmp t::r,k::ks=>match s.t.getD t .dead with
  | .box b off=>match look s.o b with
   |some (.box cs)=>bif Nat.beq off 0&&Nat.beq cs.length k.ts.length&&(Nat.blt b 900||Nat.ble 950 b) then (match oJ C s r ks with
    |some l=>some (cs++l)
    |none=>none) else none
   |_=>none
  |_=>none
 |_,_=>none
def finish (sg:Sig) (rs:List ResultVar) (ts:List Ty) (s:St):Option (Elts ts):=
 match (bif sg.ptr then y2R C s rs sg.rs else oJ C s rs sg.rs) with
 |some l=>match ic s sg.ps 0 with
  |some l2=>match V2 (look s.o) ts sg.owns (l++l2) with
   |some (x,is,gs)=>bif gi gs&&bZ gs is then some x else none
   |none=>none
  |none=>none
 |none=>none
end
def NP (C:Ctx) (call:C.Sem) (lp:Lp) (f:Nat) (fn:Func) (c:Code) (sg:Sig) (ins outs:List Ty) (x:Elts ins):Option (Elts outs):=
 b_ C call lp f c (enter sg fn.ntmps ins x) (finish C sg fn.results.toList outs) {exit:=fun _ _=>none,ret:=finish C sg fn.results.toList outs}
def tab {C:Ctx}:List (Sigma fun f:Nat=>Elts (C.ins f)→Option (Elts (C.outs f)))→C.Sem
 |[],_,_=>none
 |⟨f,F⟩::r,g,x=>if h:f=g then (h ▸ F) x else tab r g x
end
abbrev Hp:=Nat→Option Obj
def Hp.le (H H':Hp):Prop:= ∀ k o,H k=some o→H' k=some o
theorem Hp.le.refl (H:Hp):H.le H:=fun _ _ h=>h
theorem Hp.le.trans {H H' H'':Hp} (h:H.le H') (h':H'.le H''):H.le H'':=fun k o hk=>h' k o (h k o hk)
def heapOf (w:World):Hp:=fun k=>w.heap[k]?
def cO (H:Hp) (a:Addr):Option Value:=match H a.block with
 |some (.cells c _ _)=>if a.spot.isSome then none else c[a.off]?
 |_=>none
theorem Mo (w:World) (a:Addr):cO (heapOf w) a=w.cell? a:=rfl
theorem cP {H H':Hp} (h:H.le H') {a:Addr} {v:Value} (hc:cO H a=some v):cO H' a=some v:=by
 unfold cO at*;cases hk:H a.block with
 |none=>simp [hk] at hc
 |some o=>rw [h _ _ hk];rw [hk] at hc;exact hc
mutual
def RdT (H:Hp):(t:Ty)→El t→Value→Prop
 | .int k,n,v=>v= .int k n
 | .bool,b,v=>v= .bool b
 | .str,s,v=>v= .string s
 | .sl _ ts,xs,v=> ∃ (A:Option Addr) (c:Nat),v= .slice A (List.length xs) c∧List.length xs≤c∧List.length xs≤9223372036854775807∧
   (0<List.length xs→ ∃ ad,A=some ad∧ ∀ (j:Nat) (x:Elts ts),(show List (Elts ts) from xs)[j]? =some x→RdE H ts x (fun i=>cO H (ad.add (j*ts.length+i))))
def RdE (H:Hp):(ts:List Ty)→Elts ts→(Nat→Option Value)→Prop
 |[],_,_=>True
 |t::[],x,f=> ∃ v,f 0=some v∧RdT H t x v
 |t::u::r,x,f=>(∃ v,f 0=some v∧RdT H t x.1 v)∧RdE H (u::r) x.2 (fun i=>f (i+1))
end
mutual
theorem RdT.mono {H H':Hp} (h:H.le H'): ∀ (t:Ty) (x:El t) (v:Value),RdT H t x v→RdT H' t x v
 | .int _,_,_,hr=>hr
 | .bool,_,_,hr=>hr
 | .str,_,_,hr=>hr
 | .sl _ ts,xs,v,hr=>by obtain ⟨A,c,e,h1,h2,h3⟩:=hr;refine ⟨A,c,e,h1,h2,fun hp=> ?_⟩;obtain ⟨ad,ea,hx⟩:=h3 hp;exact ⟨ad,ea,fun j x hj=>RdE.mono h ts x _ _ (fun i v hv=>cP h hv) (hx j x hj)⟩
theorem RdE.mono {H H':Hp} (h:H.le H'): ∀ (ts:List Ty) (x:Elts ts) (f f':Nat→Option Value),(∀ i v,f i=some v→f' i=some v)→RdE H ts x f→RdE H' ts x f'
 |[],_,_,_,_,_=>trivial
 |t::[],x,f,f',hf,⟨v,hv,hr⟩=>⟨v,hf 0 v hv,RdT.mono h t x v hr⟩
 |t::u::r,x,f,f',hf,⟨⟨v,hv,hr⟩,hs⟩=>⟨⟨v,hf 0 v hv,RdT.mono h t x.1 v hr⟩,RdE.mono h (u::r) x.2 _ _ (fun i v hv=>hf (i+1) v hv) hs⟩
end
theorem RdT.one {H:Hp}: ∀ {t:Ty} {x:El t} {v:Value},RdT H t x v→v.oneCell'=true
 | .int _,_,_,hr=>by rw [show _=_ from hr];rfl
 | .bool,_,_,hr=>by rw [show _=_ from hr];rfl
 | .str,_,_,hr=>by rw [show _=_ from hr];rfl
 | .sl _ _,_,_,hr=>by obtain ⟨A,c,rfl,_⟩:=hr;rfl
theorem add_plain (g j:Nat):(⟨g,0,none⟩:Addr).add j=⟨g,j,none⟩:=by unfold Addr.add;split<;>simp_all
structure Gh where
 H:Hp
 g:Nat→Nat×Nat
 sv:Nat→Value
 sz:Nat→Nat×Nat
 pv:Hp
def NQ (H Ht:Hp) (ts:List Ty) (xs:List (Elts ts)) (v:Value):Prop:=
 ∃ (A:Option Addr) (c:Nat),v= .slice A xs.length c∧xs.length≤c∧xs.length≤9223372036854775807∧
  (0<xs.length→ ∃ ad,A=some ad∧ ∀ (j:Nat) (x:Elts ts),xs[j]? =some x→RdE H ts x (fun i=>cO Ht (ad.add (j*ts.length+i))))
theorem NQ.mono {H H' Ht:Hp} (h:H.le H') {ts:List Ty} {xs:List (Elts ts)} {v:Value} (hr:NQ H Ht ts xs v):NQ H' Ht ts xs v:=by obtain ⟨A,c,e,h1,h2,h3⟩:=hr;refine ⟨A,c,e,h1,h2,fun hp=> ?_⟩;obtain ⟨ad,ea,hx⟩:=h3 hp;exact ⟨ad,ea,fun j x hj=>RdE.mono h ts x _ _ (fun _ _ hv=>hv) (hx j x hj)⟩
mutual
def RA (G:Gh):A→Value→Prop
 | .dead,_=>True
 | .und,v=>v=undef
 | .val t x,v=>RdT G.H t x v
 | .JX,v=>v= .slice none 0 0
 | .aj,v=>v= .pointer none
 | .own o,v=>v=G.sv o∧ ∃ A n c,v= .slice A n c
 | .agg l,v=> ∃ cs:List Value,v= .agg cs.toArray∧RL G l cs
 | .oF l,v=> ∃ cs:List Value,v= .tuple cs.toArray∧RL G l cs
 | .box b off,v=>v= .pointer (some ⟨(G.g b).1,(G.g b).2+off,none⟩)
 | .ly _ ts xs i c,v=> ∃ ad:Addr,v= .pointer (some (ad.add (i.toNat*ts.length+c)))∧i.toNat<xs.length∧ ∀ (j:Nat) (x:Elts ts),xs[j]? =some x→RdE G.H ts x (fun k=>cO G.H (ad.add (j*ts.length+k)))
 | .lj o i c,v=>v= .pointer (some ⟨(G.g o).1,i.toNat*(G.sz o).1+c,none⟩)∧i.toNat<(G.sz o).2
 | .fn f,v=>v= .func (.func f) #[] #[]
 | .nc f b,v=>v= .func (.func f) #[] #[.pointer (some ⟨(G.g b).1,(G.g b).2+0,none⟩)]
 | .top _ ts xs,v=>NQ G.H G.pv ts xs v
 | .win o h,v=> ∃ A n c,G.sv o= .slice A n c∧v= .slice A (Int.toNat h) c∧Int.toNat h≤n
 | .tl o l,v=> ∃ A n c,G.sv o= .slice A n c∧Int.toNat l≤n∧v= .slice (if c=Int.toNat l then A else A.map (·.add (Int.toNat l*(G.sz o).1))) (n - Int.toNat l) (c - Int.toNat l)
def RL (G:Gh):List A→List Value→Prop
 |[],[]=>True
 |a::l,v::vs=>RA G a v∧RL G l vs
 |_,_=>False
end
theorem RL.length {G:Gh}: ∀ {l:List A} {vs:List Value},RL G l vs→l.length=vs.length
 |[],[],_=>rfl
 |a::l,v::vs,h=>by simp [RL.length h.2]
theorem RL.get {G:Gh}: ∀ {l:List A} {vs:List Value},RL G l vs→ ∀ (i:Nat) (a:A),l[i]? =some a→ ∃ v,vs[i]? =some v∧RA G a v
 |a::l,v::vs,h,0,b,hb=>by
  have:a=b:=by simpa using hb
  subst this;exact ⟨v,rfl,h.1⟩
 |a::l,v::vs,h,i+1,b,hb=>by
  have hb':l[i]? =some b:=by simpa using hb
  obtain ⟨u,hu,hr⟩:=RL.get h.2 i b hb';exact ⟨u,by simpa using hu,hr⟩
theorem RL.of {G:Gh}: ∀ {l:List A} {vs:List Value},l.length=vs.length→(∀ (i:Nat) (a:A) (v:Value),l[i]? =some a→vs[i]? =some v→RA G a v)→RL G l vs
 |[],[],_,_=>trivial
 |a::l,v::vs,hl,h=>⟨h 0 a v rfl rfl,RL.of (by simpa using hl) (fun i b u hb hu=>h (i+1) b u (by simpa using hb) (by simpa using hu))⟩
theorem RL.append {G:Gh}: ∀ {l:List A} {vs:List Value} {l':List A} {vs':List Value},RL G l vs→RL G l' vs'→RL G (l++l') (vs++vs')
 |[],[],_,_,_,h=>h
 |a::l,v::vs,_,_,h,h'=>⟨h.1,RL.append h.2 h'⟩
theorem RL.drop {G:Gh}: ∀ {l:List A} {vs:List Value} (n:Nat),RL G l vs→RL G (l.drop n) (vs.drop n)
 |_,_,0,h=>by simpa using h
 |[],[],n+1,h=>by simpa using h
 |a::l,v::vs,n+1,h=>by simpa using RL.drop n h.2
theorem RL.take {G:Gh}: ∀ {l:List A} {vs:List Value} (n:Nat),RL G l vs→RL G (l.take n) (vs.take n)
 |_,_,0,h=>by simp [RL]
 |[],[],n+1,h=>by simpa using h
 |a::l,v::vs,n+1,h=>by simpa [RL] using ⟨h.1,RL.take n h.2⟩
def RO (G:Gh) (w:World) (i:Nat):Ob→Prop
 | .box cells=>(G.g i).1<w.heap.size∧ ∀ (j:Nat) (a:A),cells[j]? =some a→w.frozen? ⟨(G.g i).1,(G.g i).2+j,none⟩=false∧ ∃ v,w.cell? ⟨(G.g i).1,(G.g i).2+j,none⟩=some v∧v.oneCell'=true∧RA G a v
 | .root true e ts xs=>G.sz i=(ts.length,xs.length)∧0<ts.length∧ ∃ cells,w.ownsRow 0 e ts.length (G.sv i) xs.length cells∧(∀ u∈cells,u.oneCell'=true)∧(∀ k,(G.sv i).ownBlock=some k→k=(G.g i).1)∧
   (∀ (j:Nat) (x:Elts ts),xs[j]? =some x→RdE G.H ts x (fun k=>cells[j*ts.length+k]?))
 | .root false e ts xs=>G.sz i=(ts.length,xs.length)∧0<ts.length∧RdT G.H (.sl e ts) xs (G.sv i)∧(0<xs.length→ ∃ cap,G.sv i= .slice (some ⟨(G.g i).1,0,none⟩) xs.length cap)
 | .gone=>True
def zS (G:Gh) (i:Nat):Ob→Nat→Prop
 | .box _,k=>(G.g i).1=k
 | .root true _ _ _,k=>(G.sv i).ownBlock=some k
 | .root false _ _ _,_=>False
 | .gone,_=>False
structure Base where
 H:Hp
 pin:Nat→Option (Nat×Nat)
 ok: ∀ i b,pin i=some b→900≤i∧i<950
 pv:Hp
theorem Base.none (B:Base) {d:Nat} (h:d<900∨950≤d):B.pin d= .none:=by
 cases hp:B.pin d with
 |none=>rfl
 |some b=>have:=B.ok d b hp;omega
structure Rel (P:Program) (w0:World) (yu:Nat→Prop) (H0:Base) (s:St) (a:Act) (w:World) (G:Gh):Prop where
 os:w.os=w0.os
 tape:w.tape=w0.tape
 output:w.output=w0.output
 size:w0.heap.size≤w.heap.size
 old: ∀ k,k<w0.heap.size→ ¬ yu k→w.heap[k]? =w0.heap[k]?
 uQ:G.H.le (heapOf w)
 base:H0.H.le G.H
 pv:G.pv=H0.pv
 top: ∀ k ob,H0.pv k=some ob→k<w0.heap.size∧ ¬ yu k∧w0.heap[k]? =some ob
 hnew: ∀ k ob,G.H k=some ob→H0.H k=some ob∨w0.heap.size≤k∨yu k
 defers:a.defers=[]
 len:s.t.length≤a.tmps.size
 slots: ∀ (i:Nat) (x:A),s.t[i]? =some x→RA G x (a.tmps.getD i undef)
 objs: ∀ (i:Nat) (ob:Ob),look s.o i=some ob→RO G w i ob
 away: ∀ (i:Nat) (ob:Ob) (k:Nat),look s.o i=some ob→zS G i ob k→G.H k=none∧(w0.heap.size≤k∨yu k)
 apart: ∀ (i j:Nat) (oi oj:Ob) (k:Nat),look s.o i=some oi→look s.o j=some oj→zS G i oi k→zS G j oj k→i=j
 pin: ∀ (i:Nat) (ob:Ob) (b:Nat×Nat),look s.o i=some ob→H0.pin i=some b→G.g i=b
section
theorem yO {a b:Nat} (h:a≠b):Nat.beq a b=false:=by
 cases hb:Nat.beq a b with
 |false=>rfl
 |true=>exact absurd (zo hb) h
theorem yH (a:Nat):Nat.beq a a=true:=Nat.beq_refl a
structure Agree (G G':Gh) (i:Nat):Prop where
 H:G.H.le G'.H
 g: ∀ j,j≠i→G'.g j=G.g j
 sv: ∀ j,j≠i→G'.sv j=G.sv j
 sz: ∀ j,j≠i→G'.sz j=G.sz j
 pv:G'.pv=G.pv
mutual
theorem RA.forget {G G':Gh} {i:Nat} (h:Agree G G' i): ∀ (x:A) (v:Value),RA G x v→RA G' (x.forget i) v
 | .dead,_,_=>trivial
 | .und,_,hr=>hr
 | .val t x,v,hr=>RdT.mono h.H t x v hr
 | .JX,_,hr=>hr
 | .aj,_,hr=>hr
 | .fn _,_,hr=>hr
 | .own o,v,hr=>by
  by_cases ho:o=i
  ·subst ho;simp [A.forget,yH,RA]
  ·simp only [A.forget,yO ho,yi,RA] at*;rw [h.sv o ho];exact hr
 | .box b off,v,hr=>by
  by_cases ho:b=i
  ·subst ho;simp [A.forget,yH,RA]
  ·simp only [A.forget,yO ho,yi,RA] at*;rw [h.g b ho,hr]
 | .nc f b,v,hr=>by
  by_cases ho:b=i
  ·subst ho;simp [A.forget,yH,RA]
  ·simp only [A.forget,yO ho,yi,RA] at*;rw [h.g b ho,hr]
 | .lj o j c,v,hr=>by
  by_cases ho:o=i
  ·subst ho;simp [A.forget,yH,RA]
  ·simp only [A.forget,yO ho,yi,RA] at*;rw [h.g o ho,h.sz o ho];exact hr
 | .top e ts xs,v,hr=>by show NQ G'.H G'.pv ts xs v;rw [h.pv];exact NQ.mono h.H hr
 | .win o q,v,hr=>by
  by_cases ho:o=i
  ·subst ho;simp [A.forget,yH,RA]
  ·simp only [A.forget,yO ho,yi,RA] at*;rw [h.sv o ho];exact hr
 | .tl o q,v,hr=>by
  by_cases ho:o=i
  ·subst ho;simp [A.forget,yH,RA]
  ·simp only [A.forget,yO ho,yi,RA] at*;rw [h.sv o ho,h.sz o ho];exact hr
 | .ly e ts xs j c,v,hr=>by obtain ⟨ad,e1,hlt,h1⟩:=hr;exact ⟨ad,e1,hlt,fun k x hk=>RdE.mono h.H ts x _ _ (fun m u hu=>cP h.H hu) (h1 k x hk)⟩
 | .agg l,v,hr=>by obtain ⟨cs,rfl,hl⟩:=hr;exact ⟨cs,rfl,RL.forget h l cs hl⟩
 | .oF l,v,hr=>by obtain ⟨cs,rfl,hl⟩:=hr;exact ⟨cs,rfl,RL.forget h l cs hl⟩
theorem RL.forget {G G':Gh} {i:Nat} (h:Agree G G' i): ∀ (l:List A) (vs:List Value),RL G l vs→RL G' (zv i l) vs
 |[],[],_=>trivial
 |a::l,v::vs,hr=>⟨RA.forget h a v hr.1,RL.forget h l vs hr.2⟩
end
mutual
theorem RA.mono {G G':Gh} (hH:G.H.le G'.H) (hg:G'.g=G.g) (hs:G'.sv=G.sv) (hz:G'.sz=G.sz) (hp:G'.pv=G.pv): ∀ (x:A) (v:Value),RA G x v→RA G' x v
 | .dead,_,_=>trivial
 | .und,_,hr=>hr
 | .val t x,v,hr=>RdT.mono hH t x v hr
 | .JX,_,hr=>hr
 | .aj,_,hr=>hr
 | .fn _,_,hr=>hr
 | .own o,v,hr=>by simp only [RA] at*;rw [hs];exact hr
 | .box b off,v,hr=>by simp only [RA] at*;rw [hg,hr]
 | .nc f b,v,hr=>by simp only [RA] at*;rw [hg,hr]
 | .lj o j c,v,hr=>by simp only [RA] at*;rw [hg,hz];exact hr
 | .win o q,v,hr=>by simp only [RA] at*;rw [hs];exact hr
 | .tl o q,v,hr=>by simp only [RA] at*;rw [hs,hz];exact hr
 | .top e ts xs,v,hr=>by show NQ G'.H G'.pv ts xs v;rw [hp];exact NQ.mono hH hr
 | .ly e ts xs j c,v,hr=>by obtain ⟨ad,e1,hlt,h1⟩:=hr;exact ⟨ad,e1,hlt,fun k x hk=>RdE.mono hH ts x _ _ (fun m u hu=>cP hH hu) (h1 k x hk)⟩
 | .agg l,v,hr=>by obtain ⟨cs,rfl,hl⟩:=hr;exact ⟨cs,rfl,RL.mono hH hg hs hz hp l cs hl⟩
 | .oF l,v,hr=>by obtain ⟨cs,rfl,hl⟩:=hr;exact ⟨cs,rfl,RL.mono hH hg hs hz hp l cs hl⟩
theorem RL.mono {G G':Gh} (hH:G.H.le G'.H) (hg:G'.g=G.g) (hs:G'.sv=G.sv) (hz:G'.sz=G.sz) (hp:G'.pv=G.pv): ∀ (l:List A) (vs:List Value),RL G l vs→RL G' l vs
 |[],[],_=>trivial
 |a::l,v::vs,hr=>⟨RA.mono hH hg hs hz hp a v hr.1,RL.mono hH hg hs hz hp l vs hr.2⟩
end
theorem ED (g o j:Nat):(⟨g,o,none⟩:Addr).add j=⟨g,o+j,none⟩:=by unfold Addr.add;split<;>simp_all
theorem V4 (i j:Nat): ∀ (o:List (Nat×Ob)),look (YJ i o) j=if j=i then none else (look o j).map (·.forget i)
 |[]=>by simp [YJ,look]
 |(m,x)::r=>by
  have ih:=V4 i j r;by_cases hm:m=i
  ·subst hm;simp only [YJ,yH,yg,ih];by_cases hj:j=m
   ·simp [hj]
   ·simp only [hj,zP,look,yO (show m≠j from fun h=>hj h.symm),yi]
  ·simp only [YJ,yO hm,yi,look];by_cases hj:m=j
   ·subst hj;simp [yH,hm]
   ·simp only [yO hj,yi,ih]
theorem Wh (i j:Nat) (y:Ob): ∀ (o:List (Nat×Ob)),look (Wg o i y) j=if j=i then (look o i).map (fun _=>y) else look o j
 |[]=>by simp [Wg,look]
 |(m,x)::r=>by
  have ih:=Wh i j y r;by_cases hm:m=i
  ·subst hm;simp only [Wg,yH,yg,look];by_cases hj:m=j
   ·subst hj;simp [yH]
   ·simp [yO hj,show j≠m from fun h=>hj h.symm]
  ·simp only [Wg,yO hm,yi,look];by_cases hj:m=j
   ·subst hj;simp [yH,hm]
   ·simp only [yO hj,yi,ih]
theorem Vt (i:Nat): ∀ l:List A,(zv i l).length=l.length
 |[]=>rfl
 |a::l=>by simp [zv,Vt i l]
theorem V5 (i:Nat): ∀ (l:List A) (j:Nat),(zv i l)[j]? =(l[j]?).map (A.forget i)
 |[],j=>by simp [zv]
 |a::l,0=>by simp [zv]
 |a::l,j+1=>by simpa [zv] using V5 i l j
theorem Sd {w w':World} {b:Nat} (h:w'.heap[b]? =w.heap[b]?) (o:Nat):w'.cell? ⟨b,o,none⟩=w.cell? ⟨b,o,none⟩:=by simp only [World.cell?,h]
theorem Gn {w w':World} {b:Nat} (h:w'.heap[b]? =w.heap[b]?) (o:Nat):w'.frozen? ⟨b,o,none⟩=w.frozen? ⟨b,o,none⟩:=by simp only [World.frozen?,h]
theorem RO.heap {G:Gh} {w w':World} {i:Nat} (hsz:w.heap.size≤w'.heap.size): ∀ {ob:Ob},(∀ k,zS G i ob k→w'.heap[k]? =w.heap[k]?)→RO G w i ob→RO G w' i ob
 | .box cells,h,hr=>⟨oz hr.1 hsz,fun j a ha=>by have hb:=h _ rfl;rw [Sd hb,Gn hb];exact hr.2 j a ha⟩
 | .root true e ts xs,h,hr=>by
  obtain ⟨h1,h2,cells,hown,h3,h4,h5⟩:=hr;refine ⟨h1,h2,cells,⟨hown.1,?_⟩,h3,h4,h5⟩;rcases hown.2 with h6|⟨g,cap,cur,hv,hg,hh,r⟩
  ·exact .inl h6
  ·exact .inr ⟨g,cap,cur,hv,hg,(h g (by simp [zS,hv,Value.ownBlock])).trans hh,r⟩
 | .root false e ts xs,h,hr=>hr
 | .gone,_,_=>trivial
theorem ca {G G':Gh} {i j:Nat} (h:Agree G G' i) (hj:j≠i): ∀ (ob:Ob),zS G' j (ob.forget i)=zS G j ob
 | .box _=>by funext k;simp [zS,Ob.forget,h.g j hj]
 | .root true _ _ _=>by funext k;simp [zS,Ob.forget,h.sv j hj]
 | .root false _ _ _=>rfl
 | .gone=>rfl
theorem RO.forget {G G':Gh} {w:World} {i j:Nat} (h:Agree G G' i) (hj:j≠i): ∀ {ob:Ob},RO G w j ob→RO G' w j (ob.forget i)
 | .box cells,hr=>⟨by rw [h.g j hj];exact hr.1,fun m a ha=>by rw [V5] at ha;obtain ⟨b,hb,rfl⟩:=Ys.1 ha;obtain ⟨h1,v,h2,h3,h4⟩:=hr.2 m b hb;rw [h.g j hj];exact ⟨h1,v,h2,h3,RA.forget h b v h4⟩⟩
 | .root true e ts xs,hr=>by obtain ⟨h1,h2,cells,hown,h3,h4,h5⟩:=hr;refine ⟨by rw [h.sz j hj];exact h1,h2,cells,by rw [h.sv j hj];exact hown,h3,by rw [h.sv j hj,h.g j hj];exact h4,fun m x hm=>RdE.mono h.H ts x _ _ (fun _ _ hu=>hu) (h5 m x hm)⟩
 | .root false e ts xs,hr=>by obtain ⟨h1,h2,h3,h4⟩:=hr;exact ⟨by rw [h.sz j hj];exact h1,h2,by rw [h.sv j hj];exact RdT.mono h.H _ _ _ h3,by rw [h.sv j hj,h.g j hj];exact h4⟩
 | .gone,_=>trivial
theorem qW {G G':Gh} (hg:G'.g=G.g) (hs:G'.sv=G.sv) {j:Nat}: ∀ (ob:Ob),zS G' j ob=zS G j ob
 | .box _=>by funext k;simp [zS,hg]
 | .root true _ _ _=>by funext k;simp [zS,hs]
 | .root false _ _ _=>rfl
 | .gone=>rfl
theorem RO.mono {G G':Gh} {w:World} {j:Nat} (hH:G.H.le G'.H) (hg:G'.g=G.g) (hs:G'.sv=G.sv) (hz:G'.sz=G.sz) (hp:G'.pv=G.pv): ∀ {ob:Ob},RO G w j ob→RO G' w j ob
 | .box cells,hr=>⟨by rw [hg];exact hr.1,fun m a ha=>by obtain ⟨h1,v,h2,h3,h4⟩:=hr.2 m a ha;rw [hg];exact ⟨h1,v,h2,h3,RA.mono hH hg hs hz hp a v h4⟩⟩
 | .root true e' ts' xs',hr=>by obtain ⟨h1,h2,cells,hown,h3,h4,h5⟩:=hr;refine ⟨by rw [hz];exact h1,h2,cells,by rw [hs];exact hown,h3,by rw [hs,hg];exact h4,fun m x hm=>RdE.mono hH ts' x _ _ (fun _ _ hu=>hu) (h5 m x hm)⟩
 | .root false e' ts' xs',hr=>by obtain ⟨h1,h2,h3,h4⟩:=hr;exact ⟨by rw [hz];exact h1,h2,by rw [hs];exact RdT.mono hH _ _ _ h3,by rw [hs,hg];exact h4⟩
 | .gone,_=>trivial
theorem RO.blk {G:Gh} {w:World} {i:Nat}: ∀ {ob:Ob} {k:Nat},RO G w i ob→zS G i ob k→k<w.heap.size
 | .box cells,k,hr,hb=>by
  have:(G.g i).1=k:=by simpa [zS] using hb
  exact this ▸ hr.1
 | .root true e ts xs,k,hr,hb=>by
  obtain ⟨_,_,cells,hown,_,_,_⟩:=hr;rcases hown.2 with ⟨hv,_⟩|⟨g,cap,cur,hv,_,hh,_⟩
  ·simp [zS,hv,Value.ownBlock] at hb
  ·have:g=k:=by simpa [zS,hv,Value.ownBlock] using hb
   subst this;exact (zzal39.1 hh).1
 | .root false _ _ _,_,_,hb=>by simp [zS] at hb
 | .gone,_,_,hb=>by simp [zS] at hb
section
variable {P:Program} {w0:World} {yu:Nat→Prop} {H0:Base} {s:St} {a:Act} {w:World} {G:Gh}
theorem NR {l:List A} {i:Nat} {x:A} (h:l.getD i .dead=x):l[i]? =some x∨x= .dead:=by
 rw [Zr] at h;cases hl:l[i]? with
 |none=>exact .inr (by simpa [hl] using h.symm)
 |some y=>exact .inl (by simpa [hl] using h)
theorem Rel.tmp (h:Rel P w0 yu H0 s a w G) (i:Nat):RA G (s.t.getD i .dead) (a.tmps.getD i undef):=by
 rcases NR (rfl:s.t.getD i .dead=_) with h1|h1
 ·exact h.slots i _ h1
 ·rw [h1];trivial
theorem NT {G:Gh}: ∀ v:Value,RA G (xS v) v:=by intro v;unfold xS;split<;>first|rfl|trivial
theorem Gp {G:Gh}: ∀ l:List Value,RL G (l.map xS) l
 |[]=>trivial
 |v::l=>⟨NT v,Gp l⟩
theorem U3 {G:Gh} (v:Value):RA G (ofConst v) v:=by
 unfold ofConst;split
 ·rename_i cs;exact ⟨cs.toList,by simp,Gp _⟩
 ·exact NT v
theorem Rel.Yw (h:Rel P w0 yu H0 s a w G): ∀ (x:Operand),RA G (s.Yw x) (a.eval x)
 | .tmp i=>h.tmp i
 | .const v=>U3 v
 | .func f=>rfl
 | .global g=>trivial
theorem Rel.put (h:Rel P w0 yu H0 s a w G) (d:Option Nat) {x:A} {v:Value} (hx:RA G x v):Rel P w0 yu H0 (s.put d x) (a.put d v) w G:=by
 cases d with
 |none=>exact h
 |some d=>
  refine {h with defers:=h.defers,len:=by simpa [St.put,Act.put] using h.len,slots:=fun i y hy=> ?_};have hy':(s.t.set d x)[i]? =some y:=hy;show RA G y ((a.tmps.setIfInBounds d v).getD i undef);by_cases hi:i=d
  ·subst hi;have hlt:i<s.t.length:=by
    have:=(ZF.1 hy').1;simpa using this
   have hxy:x=y:=by simpa [nM hlt] using hy'
   subst hxy;have hlt':i<a.tmps.size:=oz hlt h.len;simpa [fZ,hlt'] using hx
  ·rw [eQ (Ne.symm hi)] at hy';have:=h.slots i y hy';simpa [fZ,Array.getElem?_setIfInBounds_ne (Ne.symm hi)] using this
def Free (w0:World) (yu:Nat→Prop) (s:St) (G:Gh) (k:Nat):Prop:=
 G.H k=none∧(w0.heap.size≤k∨yu k)∧ ∀ (j:Nat) (oj:Ob),look s.o j=some oj→ ¬ zS G j oj k
theorem Rel.am (h:Rel P w0 yu H0 s a w G) {k:Nat} (hk:w.heap.size≤k):Free w0 yu s G k:=by
 refine ⟨?_,.inl (YI h.size hk),fun j oj hj hb=> ?_⟩
 ·cases hH:G.H k with
  |none=>rfl
  |some o=>exact absurd (zzal39.1 (h.uQ k o hH)).1 (gf.2 hk)
 ·exact absurd ((h.objs j oj hj).blk hb) (gf.2 hk)
theorem Rel.heap (h:Rel P w0 yu H0 s a w G) {w':World} (hos:w'.os=w.os) (cQ:w'.tape=w.tape) (hout:w'.output=w.output) (hsz:w.heap.size≤w'.heap.size)
  (hk: ∀ k,k<w.heap.size→w'.heap[k]? =w.heap[k]? ∨Free w0 yu s G k):Rel P w0 yu H0 s a w' G:=by
 refine {h with os:=hos.trans h.os,tape:=cQ.trans h.tape,output:=hout.trans h.output,size:=YI h.size hsz,old:=fun k hlt hl=> ?_,uQ:=fun k o hH=> ?_,defers:=h.defers,len:=h.len,slots:=h.slots,objs:=fun i ob hi=>(h.objs i ob hi).heap hsz fun k hb=> ?_}
 ·rcases hk k (oz hlt h.size) with h1|h1
  ·rw [h1];exact h.old k hlt hl
  ·rcases h1.2.1 with h2|h2
   ·exact absurd hlt (gf.2 h2)
   ·exact absurd h2 hl
 ·have hw:=h.uQ k o hH;rcases hk k (zzal39.1 hw).1 with h1|h1
  ·show w'.heap[k]? =_;rw [h1];exact hw
  ·rw [h1.1] at hH;cases hH
 ·rcases hk k ((h.objs i ob hi).blk hb) with h1|h1
  ·exact h1
  ·exact absurd hb (h1.2.2 i ob hi)
theorem Rel.forget (h:Rel P w0 yu H0 s a w G) {i:Nat} {G':Gh} (hag:Agree G G' i) (hH:G'.H=G.H):Rel P w0 yu H0 (s.forget i) a w G':=by
 have hl: ∀ (j:Nat) (ob:Ob),look (YJ i s.o) j=some ob→j≠i∧ ∃ o1,look s.o j=some o1∧ob=o1.forget i:=by
  intro j ob hj;rw [V4] at hj;by_cases hji:j=i
  ·simp [hji] at hj
  ·simp only [hji,zP] at hj;obtain ⟨o1,h1,rfl⟩:=Ys.1 hj;exact ⟨hji,o1,h1,rfl⟩
 refine {h with uQ:=by rw [hH];exact h.uQ,base:=by rw [hH];exact h.base,pv:=hag.pv.trans h.pv,hnew:=by rw [hH];exact h.hnew,defers:=h.defers,len:=by simpa [St.forget,Vt] using h.len,slots:=fun j x hx=> ?_,objs:=fun j ob hj=> ?_,away:=fun j ob k hj hb=> ?_,apart:=fun j m oj om k hj hm hb hb'=> ?_,pin:=fun j ob b hj hp=> ?_}
 ·have hx':(zv i s.t)[j]? =some x:=hx;rw [V5] at hx';obtain ⟨y,hy,rfl⟩:=Ys.1 hx';exact RA.forget hag y _ (h.slots j y hy)
 ·obtain ⟨hji,o1,h1,rfl⟩:=hl j ob hj;exact RO.forget hag hji (h.objs j o1 h1)
 ·obtain ⟨hji,o1,h1,rfl⟩:=hl j ob hj;rw [ca hag hji] at hb;rw [hH];exact h.away j o1 k h1 hb
 ·obtain ⟨hji,o1,h1,rfl⟩:=hl j oj hj;obtain ⟨hmi,o2,h2,rfl⟩:=hl m om hm;rw [ca hag hji] at hb;rw [ca hag hmi] at hb';exact h.apart j m o1 o2 k h1 h2 hb hb'
 ·obtain ⟨hji,o1,h1,rfl⟩:=hl j ob hj;rw [hag.g j hji];exact h.pin j o1 b h1 hp
theorem Rel.add (h:Rel P w0 yu H0 s a w G) {i:Nat} {ob:Ob} (hn:look s.o i=none) (hro:RO G w i ob) (hb: ∀ k,zS G i ob k→Free w0 yu s G k) (hp: ∀ b,H0.pin i=some b→G.g i=b):
  Rel P w0 yu H0 ⟨s.t,(i,ob)::s.o⟩ a w G:=by
 have hl: ∀ (j:Nat) (oj:Ob),look ((i,ob)::s.o) j=some oj→(j=i∧oj=ob)∨(j≠i∧look s.o j=some oj):=by
  intro j oj hj;by_cases hji:i=j
  ·subst hji;simp only [look,yH,yg,z8] at hj;exact .inl ⟨rfl,hj.symm⟩
  ·simp only [look,yO hji,yi] at hj;exact .inr ⟨fun e=>hji e.symm,hj⟩
 refine {h with defers:=h.defers,len:=h.len,slots:=h.slots,objs:=fun j oj hj=> ?_,away:=fun j oj k hj hbj=> ?_,apart:=fun j m oj om k hj hm hbj hbm=> ?_,pin:=fun j oj b hj hpb=> ?_}
 ·rcases hl j oj hj with ⟨rfl,rfl⟩|⟨_,h1⟩
  ·exact hro
  ·exact h.objs j oj h1
 ·rcases hl j oj hj with ⟨rfl,rfl⟩|⟨_,h1⟩
  ·exact ⟨(hb k hbj).1,(hb k hbj).2.1⟩
  ·exact h.away j oj k h1 hbj
 ·rcases hl j oj hj with ⟨rfl,rfl⟩|⟨hji,h1⟩<;>rcases hl m om hm with ⟨rfl,rfl⟩|⟨hmi,h2⟩
  ·rfl
  ·exact absurd hbm ((hb k hbj).2.2 m om h2)
  ·exact absurd hbj ((hb k hbm).2.2 j oj h1)
  ·exact h.apart j m oj om k h1 h2 hbj hbm
 ·rcases hl j oj hj with ⟨rfl,rfl⟩|⟨_,h1⟩
  ·exact hp b hpb
  ·exact h.pin j oj b h1 hpb
theorem Rel.set (h:Rel P w0 yu H0 s a w G) {i:Nat} {ob:Ob} (hro:RO G w i ob)
  (hb: ∀ k,zS G i ob k→G.H k=none∧(w0.heap.size≤k∨yu k)∧ ∀ (j:Nat) (oj:Ob),j≠i→look s.o j=some oj→ ¬ zS G j oj k):Rel P w0 yu H0 (s.set i ob) a w G:=by
 have hl: ∀ (j:Nat) (oj:Ob),look (Wg s.o i ob) j=some oj→(j=i∧oj=ob)∨(j≠i∧look s.o j=some oj):=by
  intro j oj hj;rw [Wh] at hj;by_cases hji:j=i
  ·simp only [hji,yo] at hj;obtain ⟨_,_,h2⟩:=Ys.1 hj;exact .inl ⟨hji,h2.symm⟩
  ·simp only [hji,zP] at hj;exact .inr ⟨hji,hj⟩
 refine {h with defers:=h.defers,len:=h.len,slots:=h.slots,objs:=fun j oj hj=> ?_,away:=fun j oj k hj hbj=> ?_,apart:=fun j m oj om k hj hm hbj hbm=> ?_,pin:=fun j oj b hj hpb=> ?_}
 ·rcases hl j oj hj with ⟨rfl,rfl⟩|⟨_,h1⟩
  ·exact hro
  ·exact h.objs j oj h1
 ·rcases hl j oj hj with ⟨rfl,rfl⟩|⟨_,h1⟩
  ·exact ⟨(hb k hbj).1,(hb k hbj).2.1⟩
  ·exact h.away j oj k h1 hbj
 ·rcases hl j oj hj with ⟨rfl,rfl⟩|⟨hji,h1⟩<;>rcases hl m om hm with ⟨rfl,rfl⟩|⟨hmi,h2⟩
  ·rfl
  ·exact absurd hbm ((hb k hbj).2.2 m om hmi h2)
  ·exact absurd hbj ((hb k hbm).2.2 j oj hji h1)
  ·exact h.apart j m oj om k h1 h2 hbj hbm
 ·have hj':look (Wg s.o i ob) j=some oj:=hj;rw [Wh] at hj';by_cases hji:j=i
  ·subst hji;simp only [yo] at hj';obtain ⟨o1,h1,_⟩:=Ys.1 hj';exact h.pin j o1 b h1 hpb
  ·simp only [hji,zP] at hj';exact h.pin j oj b hj' hpb
theorem Rel.gone (h:Rel P w0 yu H0 s a w G) (i:Nat):Rel P w0 yu H0 (s.set i .gone) a w G:=h.set trivial (fun k hk=>by simp [zS] at hk)
theorem CR (i:Nat) (x y:Ob): ∀ o:List (Nat×Ob),Wg (Wg o i x) i y=Wg o i y
 |[]=>rfl
 |(j,z)::r=>by
  by_cases hj:j=i
  ·subst hj;simp [Wg,yH]
  ·simp [Wg,yO hj,CR i x y r]
theorem St.set_set (s:St) (i:Nat) (x y:Ob):(s.set i x).set i y=s.set i y:=by simp [St.set,CR]
theorem Rel.grow (h:Rel P w0 yu H0 s a w G) {H':Hp} (hH:G.H.le H') (hin:H'.le (heapOf w)) (haw: ∀ (j:Nat) (oj:Ob) (k:Nat),look s.o j=some oj→zS G j oj k→H' k=none) (hnw: ∀ k ob,H' k=some ob→G.H k=some ob∨w0.heap.size≤k∨yu k):
  Rel P w0 yu H0 s a w {G with H:=H'}:=by
 refine {h with uQ:=hin,base:=h.base.trans hH,hnew:=fun k ob hk=>(hnw k ob hk).elim (h.hnew k ob) .inr,defers:=h.defers,len:=h.len,slots:=fun i x hx=>RA.mono (G':= {G with H:=H'}) hH rfl rfl rfl rfl x _ (h.slots i x hx),objs:=fun i ob hi=>RO.mono (G':= {G with H:=H'}) hH rfl rfl rfl rfl (h.objs i ob hi),away:=fun i ob k hi hb=> ?_,apart:=fun i j oi oj k hi hj hb hb'=> ?_}
 ·rw [qW (G:=G) (G':= {G with H:=H'}) rfl rfl] at hb;exact ⟨haw i ob k hi hb,(h.away i ob k hi hb).2⟩
 ·rw [qW (G:=G) (G':= {G with H:=H'}) rfl rfl] at hb hb';exact h.apart i j oi oj k hi hj hb hb'
end
end
section
def zeroV:Ty→Value
 | .int k=> .int k 0
 | .bool=> .bool false
 | .str=> .string ⟨#[]⟩
 | .sl _ _=> .slice none 0 0
def xU (C:Ctx) (P:Program):TI→TypeDesc→Prop
 | .c (.int k) _,d=>d= .int k
 | .c .bool _,d=>d= .bool
 | .c .str _,d=>d= .string
 | .c (.sl e ts) _,d=>d= .slice e∧ ∃ te,C.info e=some te∧te.ts=ts
 | .s fs ts _,d=> ∃ F:Array Field,d= .struct F∧F.size=fs.length∧ ∀ (f:Nat) (off t:Nat),fs[f]? =some (off,t)→ ∃ fl,F[f]? =some fl∧fl.offset=off∧fl.type=t∧ ∃ ti,C.info t=some ti∧off+ti.ts.length≤ts.length
def cR (C:Ctx):List (Nat×Nat)→List Field→List Ty→Nat→Prop
 |[],[],ts,_=>ts=[]
 |(off,t)::fs,f::F,ts,n=>off=n∧f.offset=n∧f.type=t∧ ∃ ti ts',C.info t=some ti∧ts=ti.ts++ts'∧cR C fs F ts' (n+ti.ts.length)
 |_,_,_,_=>False
def TEq (C:Ctx) (P:Program):Prop:= ∀ t fs ts b,C.info t=some (.s fs ts b)→P.stoodInHeld t=false∧P.eqGuardType P.depth t=false∧ ∀ f∈(P.fieldsOf t).toList,f.name≠ "_"
structure Jl (C:Ctx) (P:Program):Prop where
 info: ∀ t ti,C.info t=some ti→ ∃ i z,P.info? t=some i∧i.size=ti.ts.length∧i.bytes=ti.bytes∧i.zero=some z∧z.cells.toList=ti.ts.map zeroV∧0<ti.ts.length∧0<ti.bytes
 und: ∀ t ti,C.info t=some ti→ ∃ d,P.underlying t=some d∧xU C P ti d
 yen: ∀ t fs ts b,C.info t=some (.s fs ts b)→ ∃ F,P.underlying t=some (.struct F)∧cR C fs F.toList ts 0
 eqs:TEq C P
variable {P:Program} {C:Ctx} {w0:World} {yu:Nat→Prop} {H0:Base} {s:St} {a:Act} {w:World} {G:Gh} {o:Oper} {K:Act→World→Prop} {Q:Exit→Act→World→Prop}
theorem jM {v:Value} {w':World} (h:(execOp a.eval o).run P w= .ok (.value v) w') (hK:K (a.put o.dst v) w'):o.wp P a w K Q:=by simp only [Oper.wp,h,Oper.upon];exact hK
theorem wp_skip {w':World} (h:(execOp a.eval o).run P w= .ok .skip w') (hK:K (a.put o.dst undef) w'):o.wp P a w K Q:=by simp only [Oper.wp,h,Oper.upon];exact hK
theorem mz (hT:Jl C P) {t:Nat} {ti:TI} (ht:C.info t=some ti) (w:World):(isAgg t).run P w= .ok ti.isAgg w:=by
 obtain ⟨d,hd,h⟩:=hT.und t ti ht;cases ti with
 |c ty b=>cases ty<;>simp only [xU] at h<;>first|(subst h;simp [isAgg,run_underlying hd,TI.isAgg])|(obtain ⟨rfl,_⟩:=h;simp [isAgg,run_underlying hd,TI.isAgg])
 |s fs ts b=>obtain ⟨F,rfl,_⟩:=h;simp [isAgg,run_underlying hd,TI.isAgg]
theorem ao (hT:Jl C P) {t:Nat} {ti:TI} (ht:C.info t=some ti) (w:World):(sizeOf t).run P w= .ok ti.ts.length w:=by obtain ⟨i,z,hi,hs,_⟩:=hT.info t ti ht;simp [sizeOf,typeInfo,hi,hs]
theorem uR {H:Hp}: ∀ (ts:List Ty) (x:Elts ts) (f:Nat→Option Value),RdE H ts x f→ ∀ (i:Nat) (c:A),(cellsE ts x)[i]? =some c→ ∃ v,f i=some v∧v.oneCell'=true∧ ∀ G:Gh,G.H=H→RA G c v
 |[],_,_,_,i,c,hc=>by simp [cellsE] at hc
 |t::[],x,f,⟨v,hv,hr⟩,i,c,hc=>by
  cases i with
  |zero=>
   have:A.val t x=c:=by simpa [cellsE] using hc
   subst this;exact ⟨v,hv,hr.one,fun G hG=>by rw [← hG] at hr;exact hr⟩
  |succ i=>simp [cellsE] at hc
 |t::u::r,x,f,⟨⟨v,hv,hr⟩,hs⟩,i,c,hc=>by
  cases i with
  |zero=>
   have:A.val t x.1=c:=by simpa [cellsE] using hc
   subst this;exact ⟨v,hv,hr.one,fun G hG=>by rw [← hG] at hr;exact hr⟩
  |succ i=>exact uR (u::r) x.2 _ hs i c (by simpa [cellsE] using hc)
theorem Qw: ∀ (ts:List Ty) (x:Elts ts),(cellsE ts x).length=ts.length
 |[],_=>rfl
 |t::[],_=>rfl
 |t::u::r,x=>by simp [cellsE,Qw (u::r) x.2]
theorem lE {G:Gh}: ∀ (l:List A) (f:Nat→Option Value),(∀ (i:Nat) (c:A),l[i]? =some c→ ∃ v,f i=some v∧v.oneCell'=true∧RA G c v)→ ∃ vs:List Value,vs.length=l.length∧(∀ j v,vs[j]? =some v→f j=some v)∧(∀ v∈vs,v.oneCell'=true)∧RL G l vs
 |[],f,_=>⟨[],rfl,fun j v hv=>by simp at hv,fun v hv=>by simp at hv,trivial⟩
 |c::l,f,h=>by
  obtain ⟨v,hv,h1,hr⟩:=h 0 c rfl;obtain ⟨vs,hl,hf,h1',hrl⟩:=lE l (fun i=>f (i+1)) (fun i c hc=>h (i+1) c (by simpa using hc));refine ⟨v::vs,by simp [hl],fun j u hu=> ?_,fun u hu=> ?_,hr,hrl⟩
  ·cases j with
   |zero=>
    have:v=u:=by simpa using hu
    subst this;exact hv
   |succ j=>exact hf j u (by simpa using hu)
  ·rcases yR.1 hu with rfl|hu
   ·exact h1
   ·exact h1' u hu
theorem EE {G:Gh} {b:Bool} {l:List A} {x:A} {vs:List Value} (h:Ez b l=some x) (hr:RL G l vs):RA G x (if b then .agg vs.toArray else vs.headD undef):=by
 cases b with
 |true=>
  have:A.agg l=x:=by simpa [Ez] using h
  subst this;exact ⟨vs,rfl,hr⟩
 |false=>
  cases l with
  |nil=>simp [Ez] at h
  |cons c l=>
   cases l with
   |nil=>
    have:c=x:=by simpa [Ez] using h
    subst this;cases vs with
    |nil=>exact hr.elim
    |cons v vs=>exact hr.1
   |cons _ _=>simp [Ez] at h
theorem tu {G:Gh}: ∀ {x:A} {v:Value},x.one=true→RA G x v→v.oneCell'=true∧v.cells= #[v]
 | .val t x,v,_,h=>by have h1:=RdT.one h;cases v<;>simp_all [Value.oneCell',Value.cells]
 | .JX,v,_,h=>by rw [show v=_ from h];exact ⟨rfl,rfl⟩
 | .aj,v,_,h=>by rw [show v=_ from h];exact ⟨rfl,rfl⟩
 | .box b off,v,_,h=>by rw [show v=_ from h];exact ⟨rfl,rfl⟩
 | .lj o i c,v,_,h=>by rw [show v=_ from h.1];exact ⟨rfl,rfl⟩
 | .fn f,v,_,h=>by rw [show v=_ from h];exact ⟨rfl,rfl⟩
 | .nc f b,v,_,h=>by rw [show v=_ from h];exact ⟨rfl,rfl⟩
 | .ly e ts xs i c,v,_,h=>by obtain ⟨ad,rfl,_⟩:=h;exact ⟨rfl,rfl⟩
 | .own o,v,_,h=>by obtain ⟨_,A,n,c,rfl⟩:=h;exact ⟨rfl,rfl⟩
 | .win o q,v,_,h=>by obtain ⟨A,n,c,_,rfl,_⟩:=h;exact ⟨rfl,rfl⟩
 | .tl o q,v,_,h=>by obtain ⟨A,n,c,_,_,rfl⟩:=h;exact ⟨rfl,rfl⟩
 | .top e ts xs,v,_,h=>by obtain ⟨A,c,rfl,_⟩:=h;exact ⟨rfl,rfl⟩
 | .dead,_,h,_| .und,_,h,_| .agg _,_,h,_| .oF _,_,h,_=>by simp [A.one] at h
theorem U4 (hT:Jl C P) {t:Nat} {ti:TI} (ht:C.info t=some ti) (ad:Addr) (vs:List Value) (hl:vs.length=ti.ts.length) (hc: ∀ j v,vs[j]? =some v→w.cell? (ad.add j)=some v):
  (Instr.loadAt t (.pointer (some ad))).run P w= .ok (if ti.isAgg then .agg vs.toArray else vs.headD undef) w:=by
 have h1:=run_loadCells_list (P:=P) w ad vs hc;rw [hl] at h1;cases hb:ti.isAgg with
 |true=>simp [Instr.loadAt,Instr.sureAddr,loadVar,mz hT ht,ao hT ht,hb,h1]
 |false=>
  have hlen:0<vs.length:=by rw [hl];obtain ⟨_,_,_,_,_,_,_,h,_⟩:=hT.info t ti ht;exact h
  cases vs with
  |nil=>simp at hlen
  |cons v vs=>have hv:=hc 0 v rfl;rw [show ad.add 0=ad from rfl] at hv;simp [Instr.loadAt,Instr.sureAddr,loadVar,mz hT ht,hb,run_load,hv]
def dS (lk:Lk) (s:St):Prop:= ∀ i ob,lk i=some ob→look s.o i=some ob
theorem WZ {a b:Nat} (h:Nat.ble a b=true):a≤b:=nN h
theorem eX {α:Type} {l:List α} {c n i:Nat} {x:α} (h:((l.drop c).take n)[i]? =some x):l[c+i]? =some x∧i<n:=by
 rw [Vp] at h;split at h
 ·exact ⟨by rw [uJ] at h;exact h,by assumption⟩
 ·cases h
theorem RdE.ext {H:Hp}: ∀ (ts:List Ty) (x:Elts ts) (f f':Nat→Option Value),(∀ i v,i<ts.length→f i=some v→f' i=some v)→RdE H ts x f→RdE H ts x f'
 |[],_,_,_,_,_=>trivial
 |t::[],x,f,f',hf,⟨v,hv,hr⟩=>⟨v,hf 0 v (by simp) hv,hr⟩
 |t::u::r,x,f,f',hf,⟨⟨v,hv,hr⟩,hs⟩=>⟨⟨v,hf 0 v (by simp) hv,hr⟩,RdE.ext (u::r) x.2 _ _ (fun i v hi hv=>hf (i+1) v (by simpa using hi) hv) hs⟩
theorem cS (h:Rel P w0 yu H0 s a w G) {i e:Nat} {own:Bool} {ts:List Ty} {xs:List (Elts ts)} (hi:look s.o i=some (.root own e ts xs)):
  G.sz i=(ts.length,xs.length)∧0<ts.length∧(∃ A c,G.sv i= .slice A xs.length c∧xs.length≤c∧xs.length≤9223372036854775807∧(0<xs.length→A=some ⟨(G.g i).1,0,none⟩))∧
  ∀ (j:Nat) (x:Elts ts),xs[j]? =some x→RdE G.H ts x (fun k=>if k<ts.length then w.cell? ⟨(G.g i).1,j*ts.length+k,none⟩ else none):=by
 have hro:=h.objs i _ hi;cases own with
 |true=>
  obtain ⟨h1,h2,cells,hown,h3,h4,h5⟩:=hro;refine ⟨h1,h2,?_,fun j x hx=>RdE.ext ts x _ _ (fun k v hk hv=> ?_) (h5 j x hx)⟩
  ·rcases hown.2 with ⟨hv,hn⟩|⟨g,cap,cur,hv,_,hh,hc,hm,_⟩
   ·exact ⟨none,0,by rw [hv,hn],by omega,by omega,fun hp=>by omega⟩
   ·have hg:g=(G.g i).1:=h4 g (by simp [hv,Value.ownBlock]);refine ⟨_,cap,hv,hc,?_,fun _=>by rw [hg]⟩;simp only [maxLen] at hm;omega
  ·rw [y0 hk];cases hb:(G.sv i).ownBlock with
   |none=>
    rcases hown.2 with ⟨hv2,hn⟩|⟨g,cap,cur,hv2,_⟩
    ·have:xs=[]:=f_.1 hn;simp [this] at hx
    ·simp [hv2,Value.ownBlock] at hb
   |some g=>have:=hown.cells hb _ v hv;rw [add_plain,h4 g hb] at this;exact this
 |false=>
  obtain ⟨h1,h2,⟨A,c,e1,hc,hm,hr⟩,h4⟩:=hro;refine ⟨h1,h2,⟨A,c,e1,hc,hm,fun hp=> ?_⟩,fun j x hx=> ?_⟩
  ·obtain ⟨cap,e2⟩:=h4 hp;rw [e1] at e2;injection e2
  ·have hp:0<xs.length:=by
    have:=(ZF.1 hx).1;omega
   obtain ⟨cap,e2⟩:=h4 hp;obtain ⟨ad,ea,hrd⟩:=hr hp;have had:ad=⟨(G.g i).1,0,none⟩:=by rw [e1] at e2;injection e2 with e3;rw [ea] at e3;injection e3
   refine RdE.ext ts x _ _ (fun k v hk hv=> ?_) (hrd j x hx);rw [y0 hk];rw [had,add_plain] at hv;exact cP h.uQ hv
theorem xV (hT:Jl C P) (h:Rel P w0 yu H0 s a w G) {lk:Lk} (hlk:dS lk s) {t:Nat} {ti:TI} (ht:C.info t=some ti) {p x:A} (hx:lB lk ti p=some x) {v:Value} (hv:RA G p v):
  ∃ u,(Instr.loadAt t v).run P w= .ok u w∧RA G x u:=by
 have main: ∀ (ad:Addr) (l:List A),v= .pointer (some ad)→l.length=ti.ts.length→Ez ti.isAgg l=some x→(∀ (i:Nat) (c:A),l[i]? =some c→ ∃ v,w.cell? (ad.add i)=some v∧v.oneCell'=true∧RA G c v)→ ∃ u,(Instr.loadAt t v).run P w= .ok u w∧RA G x u:=by intro ad l hv hl hm hc;obtain ⟨vs,h1,h2,h3,h4⟩:=lE (G:=G) l (fun i=>w.cell? (ad.add i)) hc;exact ⟨_,by rw [hv];exact U4 hT ht ad vs (h1.trans hl) h2,EE hm h4⟩
 cases p with
 |box b off=>
  simp only [lB] at hx;cases hb:lk b with
  |none=>simp [hb] at hx
  |some ob=>
   cases ob with
   |box cs=>
    simp only [hb] at hx;cases hle:Nat.ble (off+ti.ts.length) cs.length with
    |false=>simp [hle] at hx
    |true=>simp only [hle,yg] at hx;have hro:=(h.objs b _ (hlk b _ hb)).2;refine main _ _ hv (by have:=WZ hle;simp;omega) hx fun i c hc=> ?_;obtain ⟨hc',hi⟩:=eX hc;obtain ⟨_,v,h1,h2,h3⟩:=hro (off+i) c hc';exact ⟨v,by rw [ED,cN];exact h1,h2,h3⟩
   |_=>simp [hb] at hx
 |ly e ts xs i c=>
  simp only [lB] at hx;cases hle:Nat.ble (c+ti.ts.length) ts.length with
  |false=>simp [hle] at hx
  |true=>
   simp only [hle,yg] at hx;obtain ⟨ad,rfl,hlt,hr⟩:=hv;have hg:xs[i.toNat]? =some (Cn ts xs i):=by simp [Cn,hlt]
   have hrd:=hr i.toNat _ hg;refine main _ _ rfl (by have:=WZ hle;simp [Qw];omega) hx fun j d hd=> ?_;obtain ⟨hd',hj⟩:=eX hd;obtain ⟨v,h1,h2,h3⟩:=uR ts _ _ hrd (c+j) d hd';refine ⟨v,?_,h2,h3 G rfl⟩;rw [Addr.add_add,cN];exact cP h.uQ h1
 |lj o i c=>
  simp only [lB] at hx;cases hb:lk o with
  |none=>simp [hb] at hx
  |some ob=>
   cases ob with
   |root own e ts xs=>
    simp only [hb] at hx;cases hle:Nat.ble (c+ti.ts.length) ts.length with
    |false=>simp [hle] at hx
    |true=>
     simp only [hle,yg] at hx;obtain ⟨hsz,hpos,_,hr⟩:=cS h (hlk o _ hb);obtain ⟨rfl,hlt⟩:=hv;rw [hsz] at hlt;have hg:xs[i.toNat]? =some (Cn ts xs i):=by simp [Cn,show i.toNat<xs.length from hlt]
     have hrd:=hr i.toNat _ hg;refine main _ _ rfl (by have:=WZ hle;simp [Qw];omega) hx fun j d hd=> ?_;obtain ⟨hd',hj⟩:=eX hd;obtain ⟨v,h1,h2,h3⟩:=uR ts _ _ hrd (c+j) d hd';refine ⟨v,?_,h2,h3 G rfl⟩;have:=WZ hle;rw [y0 (by omega)] at h1;rw [hsz,ED,cN];exact h1
   |_=>simp [hb] at hx
 |_=>simp [lB] at hx
theorem Se (op:BinOp) (t:Nat) (X Y:Operand) (k l:IntKind) (n m:Int):(eqGuard op t X Y (.int k n) (.int l m)).run P w= .ok () w:=by cases op<;>simp [eqGuard]
theorem Mp (op:BinOp) (t:Nat) (X Y:Operand) (n m:Bool):(eqGuard op t X Y (.bool n) (.bool m)).run P w= .ok () w:=by cases op<;>simp [eqGuard]
theorem Sf (op:BinOp) (t:Nat) (X Y:Operand) (n m:ByteArray):(eqGuard op t X Y (.string n) (.string m)).run P w= .ok () w:=by cases op<;>simp [eqGuard]
theorem Gq {op:BinOp} {k:IntKind} {n m:Int} {z:A} (h:lz op k n m=some z) (t:Nat) (h1:op≠ .shl) (h2:op≠ .shr): ∃ r,(binOp op t (.int k n) (.int k m):Sem Value).run P w= .ok r w∧RA G z r:=by
 have hkk: ¬ (k≠k):=fun h=>h rfl;cases op with
 |shl=>exact absurd rfl h1
 |shr=>exact absurd rfl h2
 |andNot=>simp [lz] at h
 |quo=>
  by_cases hm:m=0
  ·simp [lz,hm] at h
  ·simp only [lz,hm,zP,z8] at h;subst h;refine ⟨.int k (k.wrap (n.tdiv m)),by simp [binOp,Op.intDiv,hm],rfl⟩
 |rem=>
  by_cases hm:m=0
  ·simp [lz,hm] at h
  ·simp only [lz,hm,zP,z8] at h;subst h;refine ⟨.int k (n.tmod m),by simp [binOp,Op.intDiv,hm],rfl⟩
 |_=>simp only [lz,z8] at h;subst h;simp only [binOp,y9 hkk];exact ⟨_,rfl,rfl⟩
theorem xW {op:BinOp} {k l:IntKind} {n m:Int} {z:A} (h:Sa op k n m=some z) (t:Nat) (h1:op= .shl∨op= .shr): ∃ r,(binOp op t (.int k n) (.int l m):Sem Value).run P w= .ok r w∧RA G z r:=by
 by_cases hm:m<0
 ·simp [Sa,hm] at h
 ·rcases h1 with rfl|rfl<;>simp only [Sa,y9 hm,z8] at h<;>subst h<;>simp only [binOp,Op.shift,y9 hm]<;>exact ⟨_,rfl,rfl⟩
theorem Gr {op:BinOp} {x y:ByteArray} {z:A} (h:oH op x y=some z) (t:Nat): ∃ r,(binOp op t (.string x) (.string y):Sem Value).run P w= .ok r w∧RA G z r:=by
 cases op with
 |add=>
  by_cases hm:x.size+y.size<140737488355328
  ·simp only [oH,y0 hm,z8] at h;subst h;have: ¬ ((x.size+y.size:Nat):Int)>IntKind.i64.max:=by simp [IntKind.max,IntKind.bits,IntKind.signed];omega
   simp only [binOp,Op.stringOp,y9 this];exact ⟨_,rfl,rfl⟩
  ·simp [oH,hm] at h
 |eql|neq|lss|leq|gtr|geq=>simp only [oH,z8] at h;subst h;simp only [binOp,Op.stringOp];exact ⟨_,rfl,rfl⟩
 |_=>simp [oH] at h
theorem xX {t:Nat} (ht:P.underlying t=some .bool) (x y:Bool):(Op.equal t (.bool x) (.bool y)).run P w= .ok (x==y) w:=by show (Op.equalIn (9999+1) t (.bool x) (.bool y)).run P w=_;rw [Op.equalIn];simp only [Sem.run_bind,run_underlying ht,Result.andThen_ok];rfl
theorem EF (hT:Jl C P) {t b:Nat} (ht:C.info t=some (.c .bool b)) {op:BinOp} {x y:Bool} {z:A} (h:lA op x y=some z): ∃ r,(binOp op t (.bool x) (.bool y):Sem Value).run P w= .ok r w∧RA G z r:=by
 obtain ⟨d,hd,hdd⟩:=hT.und t _ ht;simp only [xU] at hdd;subst hdd;cases op with
 |eql=>simp only [lA,z8] at h;subst h;exact ⟨.bool (x==y),by simp only [binOp,Sem.run_bind,xX hd,Result.andThen_ok];rfl,rfl⟩
 |neq=>simp only [lA,z8] at h;subst h;exact ⟨.bool (!(x==y)),by simp only [binOp,Sem.run_bind,xX hd,Result.andThen_ok];rfl,rfl⟩
 |_=>simp [lA] at h
theorem y2S {op:BinOp} {k l:IntKind} {n m:Int} {z:A} (hz:n9 op (.val (.int k) n) (.val (.int l) m)=some z) (t:Nat) (X Y:Operand): ∃ r,(do eqGuard op t X Y (.int k n) (.int l m);binOp op t (.int k n) (.int l m):Sem Value).run P w= .ok r w∧RA G z r:=by
 simp only [Sem.run_bind,Se,Result.andThen_ok];by_cases h1:op= .shl∨op= .shr
 ·rcases h1 with rfl|rfl
  ·exact xW (by simpa [n9] using hz) t (.inl rfl)
  ·exact xW (by simpa [n9] using hz) t (.inr rfl)
 ·have h2:(if k=l then lz op k n m else none)=some z:=by
   cases op<;>simp_all [n9]
  by_cases hk:k=l
  ·subst hk;rw [y0 rfl] at h2;exact Gq h2 t (fun e=>h1 (.inl e)) (fun e=>h1 (.inr e))
  ·rw [y9 hk] at h2;cases h2
theorem U5 (hT:Jl C P) {t b:Nat} (ht:C.info t=some (.c .bool b)) {op:BinOp} {x y:Bool} {z:A} (h:lA op x y=some z) (X Y:Operand): ∃ r,(do eqGuard op t X Y (.bool x) (.bool y);binOp op t (.bool x) (.bool y):Sem Value).run P w= .ok r w∧RA G z r:=by simp only [Sem.run_bind,Mp,Result.andThen_ok];exact EF hT ht h
theorem y2T {op:BinOp} {x y:ByteArray} {z:A} (h:oH op x y=some z) (t:Nat) (X Y:Operand): ∃ r,(do eqGuard op t X Y (.string x) (.string y);binOp op t (.string x) (.string y):Sem Value).run P w= .ok r w∧RA G z r:=by simp only [Sem.run_bind,Sf,Result.andThen_ok];exact Gr h t
theorem Sg (hT:Jl C P) {t:Nat} {ti:TI} (ht:C.info t=some ti) {op:BinOp} {x y z:A} {v u:Value} (hz:n9 op x y=some z) (hb:boolTy ti x=true) (hx:RA G x v) (hy:RA G y u) (X Y:Operand):
  ∃ r,(do eqGuard op t X Y v u;binOp op t v u:Sem Value).run P w= .ok r w∧RA G z r:=by
 cases x with
 |val tx xv=>
  cases y with
  |val ty yv=>
   cases tx with
   |int k=>
    cases ty with
    |int l=>rw [show v= .int k xv from hx,show u= .int l yv from hy];exact y2S (n:=xv) (m:=yv) hz t X Y
    |_=>simp [n9] at hz
   |bool=>
    cases ty with
    |bool=>
     rw [show v= .bool xv from hx,show u= .bool yv from hy];cases ti with
     |c tt b=>
      cases tt with
      |bool=>exact U5 (x:=xv) (y:=yv) hT ht hz X Y
      |_=>simp [boolTy] at hb
     |s _ _ _=>simp [boolTy] at hb
    |_=>simp [n9] at hz
   |str=>
    cases ty with
    |str=>rw [show v= .string xv from hx,show u= .string yv from hy];exact y2T (x:=xv) (y:=yv) hz t X Y
    |_=>simp [n9] at hz
   |sl e ts=>simp [n9] at hz
  |_=>cases tx<;>simp [n9] at hz
 |_=>simp [n9] at hz
theorem U6 {op:UnOp} {x z:A} {v:Value} (hz:unA op x=some z) (hx:RA G x v): ∃ r,(Op.unary op v).run P w= .ok r w∧RA G z r:=by
 cases x with
 |val tx xv=>
  cases tx with
  |bool=>rw [show v= .bool xv from hx];cases op<;>simp only [unA,z8,reduceCtorEq] at hz;subst hz;exact ⟨_,rfl,rfl⟩
  |int k=>rw [show v= .int k xv from hx];cases op<;>simp only [unA,z8,reduceCtorEq] at hz;subst hz;exact ⟨_,rfl,rfl⟩
  |_=>simp [unA] at hz
 |_=>simp [unA] at hz
end
section
variable {P:Program} {C:Ctx} {w0:World} {yu:Nat→Prop} {H0:Base} {s:St} {a:Act} {w:World} {G:Gh} {o:Oper} {K:Act→World→Prop} {Q:Exit→Act→World→Prop}
theorem Gs (hT:Jl C P) {t f d t2 b:Nat} {fs:List (Nat×Nat)} {ts:List Ty} {ti:TI} (ht:C.info t=some (.s fs ts b)) (hf:fs[f]? =some (d,t2)) (ht2:C.info t2=some ti)
  {l:List A} {x:A} (hle:Nat.ble (d+ti.ts.length) l.length=true) (hx:Ez ti.isAgg ((l.drop d).take ti.ts.length)=some x) {v:Value} (hv:RA G (.agg l) v):
  ∃ u,(Instr.field t v f).run P w= .ok u w∧RA G x u:=by
 obtain ⟨cs,rfl,hr⟩:=hv;obtain ⟨D,hD,F,rfl,hsz,hF⟩:=hT.und t _ ht;obtain ⟨fl,hfl,rfl,rfl,_⟩:=hF f d t2 hf;have hr':=RL.take ti.ts.length (RL.drop fl.offset hr);have hlen:=hr.length;have h1:=WZ hle;have hm:=EE hx hr';refine ⟨_,?_,hm⟩;simp only [Instr.field,Sem.run_bind,run_underlying hD,Result.andThen_ok,hfl,part,mz hT ht2,ao hT ht2,asAgg];cases hb:ti.isAgg with
 |true=>simp [ao hT ht2,List.take_drop]
 |false=>
  have hone:ti.ts.length=1:=by
   cases ti with
   |c _ _=>rfl
   |s _ _ _=>simp [TI.isAgg] at hb
  rw [hone] at h1 ⊢;have hlt:fl.offset<cs.length:=by omega
  simp [hlt,WX hlt,List.take_one,List.head?_drop]
theorem lF (hT:Jl C P) {t f d t2 b:Nat} {fs:List (Nat×Nat)} {ts:List Ty} (ht:C.info t=some (.s fs ts b)) (hf:fs[f]? =some (d,t2)) (ad:Addr):
  (Instr.fieldAt t (.pointer (some ad)) f).run P w= .ok (.pointer (some (ad.add d))) w:=by
 obtain ⟨D,hD,F,rfl,hsz,hF⟩:=hT.und t _ ht;obtain ⟨fl,hfl,rfl,rfl,ti,hti,_⟩:=hF f d t2 hf;have hpos: ¬ ti.ts.length=0:=by obtain ⟨_,_,_,_,_,_,_,h,_⟩:=hT.info _ ti hti;omega
 simp [Instr.fieldAt,run_underlying hD,hfl,Instr.sureAddr,fieldPlace,ao hT hti,hpos]
theorem tv (hT:Jl C P) {t e b:Nat} {us:List Ty} (ht:C.info t=some (.c (.sl e us) b)) (ad:Addr) (len cap:Nat) (k:IntKind) (n:Int) (h0:0≤n) (h1:n<len):
  (Instr.indexAt t (.slice (some ad) len cap) (.int k n)).run P w= .ok (.pointer (some (ad.add (n.toNat*us.length)))) w:=by
 obtain ⟨D,hD,rfl,te,hte,rfl⟩:=hT.und t _ ht;simp [Instr.indexAt,run_underlying hD,asIntOf,h0,h1,ao hT hte]
theorem Sh (hT:Jl C P) {t b:Nat} (ht:C.info t=some (.c .str b)) (x:ByteArray) (k:IntKind) (n:Int) (h0:0≤n) (h1:n.toNat<x.size):
  (Instr.index t (.string x) (.int k n)).run P w= .ok (.int .u8 (x.get n.toNat h1).toNat) w:=by
 obtain ⟨D,hD,TR⟩:=hT.und t _ ht;have hDs:P.underlying t=some .string:=by rw [hD,show D= .string from TR]
 rw [run_index_string w t x k n hDs];have hh:0≤n∧n<x.size:=⟨h0,by omega⟩
 rw [dif_pos hh];rfl
theorem Si (hT:Jl C P) (h:Rel P w0 yu H0 s a w G) {lk:Lk} (hlk:dS lk s) {t ty:Nat} {x:A} {n:Int} (hn:r_ lk x=some n) (hty:nh C t x=true) {v:Value} (hv:RA G x v):
  (Builtin.len_ #[t] ty #[v]).run P w= .ok (.int .i64 n) w:=by
 cases hi:C.info t with
 |none=>simp [nh,hi] at hty
 |some ti=>
  obtain ⟨D,hD,TR⟩:=hT.und t _ hi;cases ti with
  |s _ _ _=>simp [nh,hi] at hty
  |c ct b=>
   cases ct with
   |int _=>simp [nh,hi] at hty
   |bool=>simp [nh,hi] at hty
   |str=>
    have hDs:P.underlying t=some .string:=by rw [hD,show D= .string from TR]
    cases x with
    |val tx xv=>
     cases tx with
     |str=>
      rw [show v= .string xv from hv];have hn':((ByteArray.size xv:Nat):Int)=n:=by simpa [r_] using hn
      subst hn';simp [Builtin.len_,run_underlying hDs,goInt]
     |_=>simp [nh,hi] at hty
    |_=>simp [nh,hi] at hty
   |sl e ts=>
    obtain ⟨rfl,_⟩:=TR;have key: ∀ (A:Option Addr) (m c:Nat),v= .slice A m c→(m:Int)=n→(Builtin.len_ #[t] ty #[v]).run P w= .ok (.int .i64 n) w:=by intro A m c hv hm;subst hv hm;simp [Builtin.len_,run_underlying hD,goInt]
    cases x with
    |JX=>exact key none 0 0 hv (by simpa [r_] using hn)
    |val tx xv=>
     cases tx with
     |sl e2 ts2=>obtain ⟨A,c,hv,_⟩:=hv;exact key A _ c hv (by simpa [r_,n8] using hn)
     |_=>simp [nh,hi] at hty
    |own r=>
     cases hr:lk r with
     |none=>simp [r_,n8,hr] at hn
     |some ob=>
      cases ob with
      |root own e2 ts2 xs=>obtain ⟨_,_,⟨A,c,hsv,_⟩,_⟩:=cS h (hlk r _ hr);exact key A _ c (hv.1.trans hsv) (by simpa [r_,n8,hr] using hn)
      |_=>simp [r_,n8,hr] at hn
    |_=>simp [nh,hi] at hty
theorem sj {k:IntKind} {n:Int} {y:Nat} {cd:BoundsCode} (h0:0≤n) (h1:n≤y):(Instr.sliceBound (.int k n) y cd).run P w= .ok n.toNat w:=by simp [Instr.sliceBound,asIntOf,h0,h1]
def y2U (v:Option Value) (l:Int):Prop:=v=none∧l=0∨ ∃ k,v=some (.int k l)
def y2V (v:Option Value) (h:Int) (len:Nat):Prop:=v=none∧h=len∨ ∃ k,v=some (.int k h)
theorem xY {b:Bool} {len cap:Nat} {lo hi:Option Value} {l h:Int} (hlo:y2U lo l) (hhi:y2V hi h len) (h0:0≤l) (h1:l≤h) (h2:h≤len) (h3:len≤cap):
  (Instr.sliceBounds b len cap lo hi none).run P w= .ok (l.toNat,h.toNat,cap) w:=by
 have hh: ∀ k cd,(Instr.sliceBound (.int k h) cap cd).run P w= .ok h.toNat w:=fun k cd=>sj (by omega) (by omega);have hl: ∀ k cd,(Instr.sliceBound (.int k l) h.toNat cd).run P w= .ok l.toNat w:=fun k cd=>sj h0 (by omega);rcases hlo with ⟨rfl,rfl⟩|⟨k,rfl⟩<;>rcases hhi with ⟨rfl,rfl⟩|⟨k',rfl⟩
 ·simp [Instr.sliceBounds]
 ·simp [Instr.sliceBounds,hh]
 ·have hl': ∀ k cd,(Instr.sliceBound (.int k l) len cd).run P w= .ok l.toNat w:=fun k cd=>sj h0 (by omega);simp [Instr.sliceBounds,hl']
 ·simp [Instr.sliceBounds,hh,hl]
theorem Sj (hT:Jl C P) {t b:Nat} (ht:C.info t=some (.c .str b)) (x:ByteArray) {lo hi:Option Value} {l h:Int} (hlo:y2U lo l) (hhi:y2V hi h x.size) (h0:0≤l) (h1:l≤h) (h2:h≤x.size):
  (Instr.sliceAt t (.string x) lo hi none).run P w= .ok (.string (x.extract l.toNat h.toNat)) w:=by
 obtain ⟨D,hD,TR⟩:=hT.und t _ ht;have hDs:P.underlying t=some .string:=by rw [hD,show D= .string from TR]
 simp [Instr.sliceAt,Instr.slice,run_underlying hDs,xY hlo hhi h0 h1 h2 (jk _)]
theorem cG (hT:Jl C P) {t e b:Nat} {us:List Ty} (ht:C.info t=some (.c (.sl e us) b)) (A:Option Addr) (len cap:Nat) {lo hi:Option Value} {l h:Int} (hlo:y2U lo l) (hhi:y2V hi h len) (h0:0≤l) (h1:l≤h) (h2:h≤len) (h3:len≤cap):
  (Instr.sliceAt t (.slice A len cap) lo hi none).run P w= .ok (.slice (if cap=l.toNat then A else A.map (·.add (l.toNat*us.length))) (h.toNat - l.toNat) (cap - l.toNat)) w:=by
 obtain ⟨D,hD,rfl,te,hte,rfl⟩:=hT.und t _ ht;simp [Instr.sliceAt,Instr.slice,run_underlying hD,xY hlo hhi h0 h1 h2 h3,ao hT hte]
theorem NU {H Ht:Hp} {ts:List Ty} {xs:List (Elts ts)} {A:Option Addr} {len cap:Nat} (hr:NQ H Ht ts xs (.slice A len cap)) {l h:Nat} (h1:l≤h) (h2:h≤len):
  NQ H Ht ts ((xs.take h).drop l) (.slice (if cap=l then A else A.map (·.add (l*ts.length))) (h - l) (cap - l)):=by
 obtain ⟨A',c',e1,hc,hm,hx⟩:=hr;injection e1 with e1 e2 e3;subst e1 e3;have hlen:((xs.take h).drop l).length=h - l:=by simp;omega
 refine ⟨_,_,by rw [show List.length ((xs.take h).drop l)=h - l from hlen],by simp at hlen ⊢;omega,by simp at hlen ⊢;omega,fun hp=> ?_⟩;have hp':l<h:=by have:0<((xs.take h).drop l).length:=hp;omega
 obtain ⟨ad,rfl,hrd⟩:=hx (by omega);have hne:cap≠l:=by omega
 refine ⟨ad.add (l*ts.length),by simp [hne],fun j x hj=> ?_⟩;have hj':xs[l+j]? =some x:=by
  have:((xs.take h).drop l)[j]? =some x:=hj;rw [uJ,Vp] at this;split at this
  ·exact this
  ·cases this
 have:=hrd (l+j) x hj';refine RdE.mono (Hp.le.refl H) ts x _ _ (fun k v hv=> ?_) this;rw [Addr.add_add];rw [show l*ts.length+(j*ts.length+k)=(l+j)*ts.length+k by rw [Vq];omega];exact hv
theorem U7 {H:Hp} {e:Nat} {ts:List Ty} {xs:List (Elts ts)} {A:Option Addr} {len cap:Nat} (hr:RdT H (.sl e ts) xs (.slice A len cap)) {l h:Nat} (h1:l≤h) (h2:h≤len):
  RdT H (.sl e ts) ((xs.take h).drop l) (.slice (if cap=l then A else A.map (·.add (l*ts.length))) (h - l) (cap - l)):=NU (H:=H) (Ht:=H) hr h1 h2
end
section
variable {P:Program} {C:Ctx} {w0:World} {yu:Nat→Prop} {H0:Base} {s:St} {a:Act} {w:World} {G:Gh} {o:Oper} {K:Act→World→Prop} {Q:Exit→Act→World→Prop}
def Gh.upd (G:Gh) (d:Nat) (gg:Nat×Nat) (v:Value) (z:Nat×Nat):Gh:=
 {H:=G.H,g:=fun j=>if j=d then gg else G.g j,sv:=fun j=>if j=d then v else G.sv j,sz:=fun j=>if j=d then z else G.sz j,pv:=G.pv}
theorem Gh.J_ (G:Gh) (d:Nat) (gg:Nat×Nat) (v:Value) (z:Nat×Nat):Agree G (G.upd d gg v z) d:=
 ⟨Hp.le.refl _,fun j hj=>by simp [Gh.upd,hj],fun j hj=>by simp [Gh.upd,hj],fun j hj=>by simp [Gh.upd,hj],rfl⟩
theorem Free.forget {k d:Nat} (hf:Free w0 yu s G k) {G':Gh} (hag:Agree G G' d) (hH:G'.H=G.H):Free w0 yu (s.forget d) G' k:=by
 refine ⟨by rw [hH];exact hf.1,hf.2.1,fun j oj hj hb=> ?_⟩;have hj':look (YJ d s.o) j=some oj:=hj;rw [V4] at hj';by_cases hjd:j=d
 ·simp [hjd] at hj'
 ·simp only [hjd,zP] at hj';obtain ⟨o1,h1,rfl⟩:=Ys.1 hj';rw [ca hag hjd] at hb;exact hf.2.2 j o1 h1 hb
theorem fm (s:St) (d:Nat):look (s.forget d).o d=none:=by show look (YJ d s.o) d=none;rw [V4];simp
theorem Rel.y5k (h:Rel P w0 yu H0 s a w G) {d:Nat} {ob:Ob} {w':World} {G':Gh} (hag:Agree G G' d) (hH:G'.H=G.H) (hos:w'.os=w.os) (cQ:w'.tape=w.tape) (hout:w'.output=w.output) (hsz:w.heap.size≤w'.heap.size)
  (hk: ∀ k,k<w.heap.size→w'.heap[k]? =w.heap[k]? ∨Free w0 yu s G k) (hro:RO G' w' d ob) (hb: ∀ k,zS G' d ob k→Free w0 yu s G k) (hp: ∀ b,H0.pin d=some b→G'.g d=b):
  Rel P w0 yu H0 (s.make d ob) a w' G':=by
 have h1:=(h.heap hos cQ hout hsz hk).forget hag hH;exact h1.add (fm s d) hro (fun k hk'=>(hb k hk').forget hag hH) hp
theorem Rel.make (h:Rel P w0 yu H0 s a w G) {d:Nat} {ob:Ob} {w':World} {gg:Nat×Nat} {v:Value} {z:Nat×Nat} (hos:w'.os=w.os) (cQ:w'.tape=w.tape) (hout:w'.output=w.output) (hsz:w.heap.size≤w'.heap.size)
  (hk: ∀ k,k<w.heap.size→w'.heap[k]? =w.heap[k]? ∨Free w0 yu s G k) (hro:RO (G.upd d gg v z) w' d ob) (hb: ∀ k,zS (G.upd d gg v z) d ob k→Free w0 yu s G k) (hp: ∀ b,H0.pin d=some b→gg=b):
  Rel P w0 yu H0 (s.make d ob) a w' (G.upd d gg v z):=by
 have h1:=(h.heap hos cQ hout hsz hk).forget (G.J_ d gg v z) rfl;exact h1.add (fm s d) hro (fun k hk'=>(hb k hk').forget (G.J_ d gg v z) rfl) fun b hb'=>by show (if d=d then gg else G.g d)=b;rw [y0 rfl];exact hp b hb'
theorem U8 (w:World) (cs:Array Value) (t j:Nat):(w.alloc (.cells cs t)).cell? ⟨w.heap.size,j,none⟩=cs[j]? :=by simp [World.cell?,World.alloc,-World.alloc_eq]
theorem Mq (w:World) (cs:Array Value) (t j:Nat):(w.alloc (.cells cs t)).frozen? ⟨w.heap.size,j,none⟩=false:=by simp [World.frozen?,World.alloc,-World.alloc_eq]
theorem eY (w:World) (ob:Obj) {k:Nat} (hk:k<w.heap.size):(w.alloc ob).heap[k]? =w.heap[k]? :=heap_alloc_old w ob k hk
theorem Rel.U9 (h:Rel P w0 yu H0 s a w G) (d t:Nat) (hd:H0.pin d=none) {l:List A} {cs:List Value} (hl:RL G l cs) (h1: ∀ v∈cs,v.oneCell'=true):
  ∃ G',G'.H=G.H∧Rel P w0 yu H0 (s.make d (.box (zv d l))) a (w.alloc (.cells cs.toArray t)) G'∧RA G' (.box d 0) (.pointer (some ⟨w.heap.size,0,none⟩)):=by
 refine ⟨G.upd d (w.heap.size,0) undef (0,0),rfl,h.make rfl rfl rfl (by simp [World.alloc,-World.alloc_eq]) (fun k hk=> .inl (eY w _ hk)) ⟨by simp [Gh.upd,World.alloc,-World.alloc_eq],fun j x hx=> ?_⟩ (fun k hk=> ?_) (fun b hb=>by rw [hd] at hb;cases hb),by simp [RA,Gh.upd]⟩
 ·rw [V5] at hx;obtain ⟨y,hy,rfl⟩:=Ys.1 hx;obtain ⟨v,hv,hr⟩:=hl.get j y hy;simp only [Gh.upd,yo,WY];refine ⟨Mq w _ _ _,v,by rw [U8];simpa using hv,h1 v (aF hv),?_⟩;exact RA.forget (G.J_ d (w.heap.size,0) undef (0,0)) y v hr
 ·have:w.heap.size=k:=by simpa [zS,Gh.upd] using hk
  exact h.am (by omega)
theorem Rel.xZ (h:Rel P w0 yu H0 s a w G) (d:Nat) (hd:H0.pin d=none) {e:Nat} {ts:List Ty} {xs:List (Elts ts)} {v:Value} {w':World} {cells:List Value} (hos:w'.os=w.os) (cQ:w'.tape=w.tape) (hout:w'.output=w.output) (hsz:w.heap.size≤w'.heap.size)
  (hk: ∀ k,k<w.heap.size→w'.heap[k]? =w.heap[k]? ∨Free w0 yu s G k) (hpos:0<ts.length) (hown:w'.ownsRow 0 e ts.length v xs.length cells) (hone: ∀ u∈cells,u.oneCell'=true)
  (hb: ∀ k,v.ownBlock=some k→Free w0 yu s G k) (hrd: ∀ (j:Nat) (x:Elts ts),xs[j]? =some x→RdE G.H ts x (fun k=>cells[j*ts.length+k]?)):
  Rel P w0 yu H0 (s.make d (.root true e ts xs)) a w' (G.upd d ((v.ownBlock).getD 0,0) v (ts.length,xs.length))∧RA (G.upd d ((v.ownBlock).getD 0,0) v (ts.length,xs.length)) (.own d) v:=by
 refine ⟨h.make hos cQ hout hsz hk ⟨by simp [Gh.upd],hpos,cells,by simpa [Gh.upd] using hown,hone,fun k hk'=> ?_,fun j x hx=>hrd j x hx⟩ (fun k hk'=>hb k (by simpa [zS,Gh.upd] using hk')) (fun b hb=>by rw [hd] at hb;cases hb),?_⟩
 ·have hk2:v.ownBlock=some k:=by simpa [Gh.upd] using hk'
  simp [Gh.upd,hk2]
 ·refine ⟨by simp [Gh.upd],?_⟩;rcases hown.2 with ⟨rfl,_⟩|⟨g,cap,cur,rfl,_⟩
  ·exact ⟨_,_,_,rfl⟩
  ·exact ⟨_,_,_,rfl⟩
theorem Rel.dU (h:Rel P w0 yu H0 s a w G) (d:Nat) (hd:H0.pin d=none) {e:Nat} {ts:List Ty} {xs:List (Elts ts)} {v:Value} {w':World} {cells:List Value} (hos:w'.os=w.os) (cQ:w'.tape=w.tape) (hout:w'.output=w.output) (hsz:w.heap.size≤w'.heap.size)
  (hk: ∀ k,k<w.heap.size→w'.heap[k]? =w.heap[k]? ∨Free w0 yu s G k) (hpos:0<ts.length) (hown:w'.ownsRow 0 e ts.length v xs.length cells) (hone: ∀ u∈cells,u.oneCell'=true)
  (hb: ∀ k,v.ownBlock=some k→Free w0 yu s G k) (hrd: ∀ (j:Nat) (x:Elts ts),xs[j]? =some x→RdE G.H ts x (fun k=>cells[j*ts.length+k]?)):
  ∃ G',G'.H=G.H∧Rel P w0 yu H0 (s.make d (.root true e ts xs)) a w' G'∧RA G' (.own d) v:=
 ⟨G.upd d ((v.ownBlock).getD 0,0) v (ts.length,xs.length),rfl,h.xZ d hd hos cQ hout hsz hk hpos hown hone hb hrd⟩
theorem Rel.newH (h:Rel P w0 yu H0 s a w G) {w':World} (hos:w'.os=w.os) (cQ:w'.tape=w.tape) (hout:w'.output=w.output) (hsz:w.heap.size≤w'.heap.size)
  (hk: ∀ k,k<w.heap.size→w'.heap[k]? =w.heap[k]?): ∃ G',Rel P w0 yu H0 s a w' G'∧G.H.le G'.H∧ ∀ k,w.heap.size≤k→G'.H k=w'.heap[k]? :=by
 have h1:=h.heap hos cQ hout hsz fun k hk'=> .inl (hk k hk');have hlt: ∀ k ob,G.H k=some ob→k<w.heap.size:=fun k ob hH=>(zzal39.1 (h.uQ k ob hH)).1;refine ⟨_,h1.grow (H':=fun k=>if w.heap.size≤k then w'.heap[k]? else G.H k) (fun k ob hH=> ?_) (fun k ob hH=> ?_) (fun j oj k hj hbk=> ?_) (fun k ob hH=> ?_),fun k ob hH=> ?_,fun k hk'=> ?_⟩
 ·show (if w.heap.size≤k then w'.heap[k]? else G.H k)=some ob;rw [y9 (by have:=hlt k ob hH;omega)];exact hH
 ·have Cq:(if w.heap.size≤k then w'.heap[k]? else G.H k)=some ob:=hH;by_cases hle:w.heap.size≤k
  ·rw [y0 hle] at Cq;exact Cq
  ·rw [y9 hle] at Cq;exact h1.uQ k ob Cq
 ·have:=(h.objs j oj hj).blk hbk;show (if w.heap.size≤k then w'.heap[k]? else G.H k)=none;rw [y9 (by omega)];exact (h.away j oj k hj hbk).1
 ·have Cq:(if w.heap.size≤k then w'.heap[k]? else G.H k)=some ob:=hH;split at Cq
  ·rename_i hle;exact .inr (.inl (YI h.size hle))
  ·exact .inl Cq
 ·show (if w.heap.size≤k then w'.heap[k]? else G.H k)=some ob;rw [y9 (by have:=hlt k ob hH;omega)];exact hH
 ·show (if w.heap.size≤k then w'.heap[k]? else G.H k)=_;rw [y0 hk']
structure Grown (G G':Gh):Prop where
 H:G.H.le G'.H
 g:G'.g=G.g
 sv:G'.sv=G.sv
 sz:G'.sz=G.sz
 pv:G'.pv=G.pv
theorem Grown.refl (G:Gh):Grown G G:=⟨Hp.le.refl _,rfl,rfl,rfl,rfl⟩
theorem Grown.trans {G G' G'':Gh} (h:Grown G G') (h':Grown G' G''):Grown G G'':=⟨h.H.trans h'.H,h'.g.trans h.g,h'.sv.trans h.sv,h'.sz.trans h.sz,h'.pv.trans h.pv⟩
theorem RA.grown {G G':Gh} (h:Grown G G') {x:A} {v:Value} (hr:RA G x v):RA G' x v:=RA.mono h.H h.g h.sv h.sz h.pv x v hr
theorem RL.grown {G G':Gh} (h:Grown G G') {x:List A} {v:List Value} (hr:RL G x v):RL G' x v:=RL.mono h.H h.g h.sv h.sz h.pv x v hr
def Rw (ob:Ob) (e:Nat) (ts:List Ty) (xs:List (Elts ts)):Prop:=(∃ own,ob= .root own e ts xs)∨False
theorem Rw.same {ob:Ob} {e e':Nat} {ts ts':List Ty} {xs:List (Elts ts)} {xs':List (Elts ts')} (h:Rw ob e ts xs) (h':Rw ob e' ts' xs'): ∃ he:e=e',∃ ht:ts=ts',ht ▸ xs=xs':=by
 rcases h with ⟨own,rfl⟩|⟨fin,tag,rfl⟩<;>rcases h' with ⟨own',h'⟩|⟨fin',tag',h'⟩
 ·injection h' with _ h3 h4 h5;subst h3 h4;exact ⟨rfl,rfl,eq_of_heq h5⟩
theorem Rel.settle (h:Rel P w0 yu H0 s a w G) {i e:Nat} {own:Bool} {ts:List Ty} {xs:List (Elts ts)} (hi:look s.o i=some (.root own e ts xs)):
  ∃ G',Grown G G'∧Rel P w0 yu H0 (s.set i (.root false e ts xs)) a w G'∧RdT G'.H (.sl e ts) xs (G'.sv i):=by
 obtain ⟨hsz,hpos,⟨A,c,hsv,hc,hm,hA⟩,hrow⟩:=cS h hi;have hro:=h.objs i _ hi;cases own with
 |false=>exact ⟨G,Grown.refl G,h.set hro (fun k hk=>by simp [zS] at hk),hro.2.2.1⟩
 |true=>
  obtain ⟨_,_,cells,hown,hone,hg,hcells⟩:=hro;have ie:=h.gone i
  let H':Hp:=fun k=>if (G.sv i).ownBlock=some k then w.heap[k]? else G.H k
  have hle:G.H.le H':=fun k ob hH=>by
   show (if (G.sv i).ownBlock=some k then w.heap[k]? else G.H k)=some ob;split
   ·exact h.uQ k ob hH
   ·exact hH
  have hin:H'.le (heapOf w):=fun k ob hH=>by
   have Cq:(if (G.sv i).ownBlock=some k then w.heap[k]? else G.H k)=some ob:=hH;split at Cq
   ·exact Cq
   ·exact h.uQ k ob Cq
  have h2:=ie.grow hle hin (fun j oj k hj hb=>by
   have hj':look (Wg s.o i .gone) j=some oj:=hj;rw [Wh] at hj';by_cases hji:j=i
   ·simp only [hji,yo] at hj';obtain ⟨_,_,rfl⟩:=Ys.1 hj';simp [zS] at hb
   ·simp only [hji,zP] at hj';have hne:(G.sv i).ownBlock≠some k:=fun he=>hji (h.apart j i oj _ k hj' hi hb he);show (if (G.sv i).ownBlock=some k then w.heap[k]? else G.H k)=none;rw [y9 hne];exact (h.away j oj k hj' hb).1) (fun k ob hH=>by
   have Cq:(if (G.sv i).ownBlock=some k then w.heap[k]? else G.H k)=some ob:=hH;split at Cq
   ·rename_i he;exact .inr (h.away i _ k hi he).2
   ·exact .inl Cq)
  have hrd:RdT H' (.sl e ts) xs (G.sv i):=by
   refine ⟨A,c,hsv,hc,hm,fun hp=>⟨_,hA hp,fun j x hx=> ?_⟩⟩;have hb:(G.sv i).ownBlock=some (G.g i).1:=by rw [hsv,hA hp];rfl
   refine RdE.ext ts x _ _ (fun k v hk hv=> ?_) (RdE.mono hle ts x _ _ (fun _ _ hv=>hv) (hrow j x hx));rw [y0 hk] at hv;rw [add_plain];show cO H' _=_;unfold cO;have:H' (G.g i).1=w.heap[(G.g i).1]? :=by show (if (G.sv i).ownBlock=some (G.g i).1 then _ else _)=_;rw [y0 hb]
   rw [this];exact hv
  have h3:=h2.set (i:=i) (ob:= .root false e ts xs) ⟨hsz,hpos,hrd,fun hp=>⟨c,by rw [← hA hp];exact hsv⟩⟩ (fun k hk=>by simp [zS] at hk);rw [St.set_set] at h3;exact ⟨{G with H:=H'},⟨hle,rfl,rfl,rfl,rfl⟩,h3,hrd⟩
theorem Rel.y2W (h:Rel P w0 yu H0 s a w G) {i e:Nat} {ob:Ob} {ts:List Ty} {xs:List (Elts ts)} (hi:look s.o i=some ob) (hw:Rw ob e ts xs):
  ∃ G',Grown G G'∧Rel P w0 yu H0 (s.set i (.root false e ts xs)) a w G'∧RdT G'.H (.sl e ts) xs (G'.sv i):=by
 rcases hw with ⟨own,rfl⟩|⟨fin,tag,rfl⟩
 ·exact h.settle hi
end
section
variable {P:Program} {C:Ctx} {w0:World} {yu:Nat→Prop} {H0:Base} {s:St} {a:Act} {w:World} {G:Gh} {o:Oper} {K:Act→World→Prop} {Q:Exit→Act→World→Prop}
def J2 (cur:Array Value) (o:Nat):List Value→Array Value
 |[]=>cur
 |v::r=>J2 (cur.setIfInBounds o v) (o+1) r
theorem Vu: ∀ (vs:List Value) (cur:Array Value) (o:Nat),(J2 cur o vs).size=cur.size
 |[],_,_=>rfl
 |v::r,cur,o=>by simp [J2,Vu r]
theorem dV: ∀ (vs:List Value) (cur:Array Value) (o j:Nat),o+vs.length≤cur.size→(J2 cur o vs)[j]? =if o≤j∧j<o+vs.length then vs[j - o]? else cur[j]?
 |[],cur,o,j,_=>by simp only [J2,yr,ga];rw [y9 (by omega)]
 |v::r,cur,o,j,h=>by
  simp only [yp] at h;rw [J2,dV r _ (o+1) j (by simp;omega)];by_cases h1:o+1≤j∧j<o+1+r.length
  ·rw [y0 h1,y0 (by simp;omega),show j - o=(j - (o+1))+1 by omega,xN]
  ·rw [y9 h1];by_cases h2:j=o
   ·subst h2;rw [y0 (by simp),Array.getElem?_setIfInBounds_self_of_lt (by omega)];simp
   ·rw [y9 (by simp;omega),Array.getElem?_setIfInBounds_ne (fun e=>h2 e.symm)]
theorem nj (b:Nat) {e:Nat} {fz:Nat×Nat}: ∀ (vs:List Value) (o:Nat) (w:World) (cur:Array Value),w.heap[b]? =some (.cells cur e fz)→(w.setCells b o vs).heap[b]? =some (.cells (J2 cur o vs) e fz)
 |[],_,_,_,h=>h
 |v::r,o,w,cur,h=>nj b r (o+1) _ _ (by have hlt:=(zzal39.1 h).1;simp only [World.setCell,Array.getElem?_modify,yo,h,nO];rfl)
theorem cT (b:Nat): ∀ (vs:List Value) (o:Nat) (w:World) (k:Nat),k≠b→(w.setCells b o vs).heap[k]? =w.heap[k]?
 |[],_,_,_,_=>rfl
 |v::r,o,w,k,h=>by rw [World.setCells,cT b r (o+1) _ k h];simp only [World.setCell,Array.getElem?_modify];rw [y9 (Ne.symm h)]
theorem eZ (b:Nat): ∀ (vs:List Value) (o:Nat) (w:World),(w.setCells b o vs).os=w.os∧(w.setCells b o vs).tape=w.tape∧(w.setCells b o vs).output=w.output∧(w.setCells b o vs).heap.size=w.heap.size
 |[],_,_=>⟨rfl,rfl,rfl,rfl⟩
 |v::r,o,w=>by obtain ⟨h1,h2,h3,h4⟩:=eZ b r (o+1) (w.setCell ⟨b,o,none⟩ v);exact ⟨h1,h2,h3,h4.trans (by simp [World.setCell])⟩
theorem KF {α:Type}: ∀ (l:List α) (o:Nat) (xs l':List α),jJ l o xs=some l'→l'.length=l.length∧(xs=[]∨o+xs.length≤l.length)∧ ∀ j:Nat,l'[j]? =if o≤j∧j<o+xs.length then xs[j - o]? else l[j]?
 |l,o,[],l',h=>by
  have:l=l':=by simpa [jJ] using h
  subst this;refine ⟨rfl,.inl rfl,fun j=> ?_⟩;rw [y9 (by simp only [yr];omega)]
 |[],o,_::_,l',h=>by simp [jJ] at h
 |a::l,0,x::xs,l',h=>by
  simp only [jJ] at h;cases hr:jJ l 0 xs with
  |none=>simp [hr] at h
  |some r=>
   simp only [hr,z8] at h;subst h;obtain ⟨h1,h2,h3⟩:=KF l 0 xs r hr;refine ⟨by simp [h1],.inr ?_,fun j=> ?_⟩
   ·rcases h2 with rfl|h2
    ·simp
    ·simp only [yp];omega
   ·cases j with
    |zero=>simp
    |succ j=>
     simp only [xN,h3 j];by_cases hj:0≤j∧j<0+xs.length
     ·rw [y0 hj,y0 (by simp;omega)];simp
     ·rw [y9 hj,y9 (by simp;omega)]
 |a::l,o+1,x::xs,l',h=>by
  simp only [jJ] at h;cases hr:jJ l o (x::xs) with
  |none=>simp [hr] at h
  |some r=>
   simp only [hr,z8] at h;subst h;obtain ⟨h1,h2,h3⟩:=KF l o (x::xs) r hr;refine ⟨by simp [h1],.inr ?_,fun j=> ?_⟩
   ·rcases h2 with h2|h2
    ·simp at h2
    ·simp only [yp] at h2 ⊢;omega
   ·cases j with
    |zero=>simp
    |succ j=>
     simp only [xN,h3 j];by_cases hj:o≤j∧j<o+(x::xs).length
     ·rw [y0 hj,y0 (by simp at hj ⊢;omega),show j+1 - (o+1)=j - o by omega]
     ·rw [y9 hj,y9 (by simp at hj ⊢;omega)]
theorem fo {G:Gh}: ∀ {l:List A} {vs:List Value},km l=true→RL G l vs→ ∀ v∈vs,v.oneCell'=true
 |[],[],_,_,v,hv=>by simp at hv
 |x::l,u::vs,h,hr,v,hv=>by
  simp only [km,zzal10] at h;rcases yR.1 hv with rfl|hv
  ·exact (tu h.1 hr.1).1
  ·exact fo h.2 hr.2 v hv
theorem fq {G:Gh} {x:A} {v:Value} (h1:km x.cells=true) (hr:RA G x v):RL G x.cells v.cells.toList:=by
 cases x with
 |agg l=>obtain ⟨cs,rfl,hl⟩:=hr;simpa [A.cells,Value.cells] using hl
 |_=>simp only [A.cells,km,uM] at h1;have:=(tu h1 hr).2;rw [this];exact ⟨hr,trivial⟩
theorem V6 (h:Rel P w0 yu H0 s a w G) {i k:Nat} {ob:Ob} (hi:look s.o i=some ob) (hb:zS G i ob k):Free w0 yu (s.set i .gone) G k:=by
 obtain ⟨h1,h2⟩:=h.away i ob k hi hb;refine ⟨h1,h2,fun j oj hj hbj=> ?_⟩;have hj':look (Wg s.o i .gone) j=some oj:=hj;rw [Wh] at hj';by_cases hji:j=i
 ·simp only [hji,yo] at hj';obtain ⟨_,_,rfl⟩:=Ys.1 hj';simp [zS] at hbj
 ·simp only [hji,zP] at hj';exact hji (h.apart j i oj ob k hj' hi hbj hb)
theorem Rel.ybw (h:Rel P w0 yu H0 s a w G) {b off:Nat} {cs cs' l:List A} {vs:List Value} (hb:look s.o b=some (.box cs)) (hr:jJ cs off l=some cs') (hl:RL G l vs) (h1: ∀ v∈vs,v.oneCell'=true):
  Rel P w0 yu H0 (s.set b (.box cs')) a (w.setCells (G.g b).1 ((G.g b).2+off) vs) G∧
  (∀ j,j<vs.length→(w.cell? ⟨(G.g b).1,(G.g b).2+off+j,none⟩).isSome=true∧w.frozen? ⟨(G.g b).1,(G.g b).2+off+j,none⟩=false):=by
 obtain ⟨hlen,hfit,hget⟩:=KF cs off l cs' hr;have hro:=h.objs b _ hb;have hll:=hl.length;have hin: ∀ j,j<vs.length→(w.cell? ⟨(G.g b).1,(G.g b).2+off+j,none⟩).isSome=true∧w.frozen? ⟨(G.g b).1,(G.g b).2+off+j,none⟩=false:=by
  intro j hj;have hlt:off+j<cs.length:=by
   rcases hfit with rfl|hfit
   ·simp at hll;omega
   ·omega
  obtain ⟨hf,v,hv,_⟩:=hro.2 (off+j) _ (WX hlt);rw [← cN] at hf hv;exact ⟨by rw [hv];rfl,hf⟩
 refine ⟨?_,hin⟩;obtain ⟨e1,e2,e3,e4⟩:=eZ (G.g b).1 vs ((G.g b).2+off) w;have h2:=(h.gone b).heap (w':=w.setCells (G.g b).1 ((G.g b).2+off) vs) e1 e2 e3 (by omega) (fun k hk=>by
  by_cases hkb:k=(G.g b).1
  ·subst hkb;exact .inr (V6 h hb rfl)
  ·exact .inl (cT _ _ _ _ _ hkb))
 have h3:=h2.set (i:=b) (ob:= .box cs') ⟨by rw [e4];exact hro.1,fun j x hx=> ?_⟩ (fun k hk=> ?_)
 ·rw [St.set_set] at h3;exact h3
 ·rw [World.frozen?_setCells];rw [hget j] at hx;by_cases hj:off≤j∧j<off+l.length
  ·rw [y0 hj] at hx;obtain ⟨v,hv,hrv⟩:=hl.get (j - off) x hx;have hlt:j - off<vs.length:=by omega
   have hcell:=World.cell?_setCells_in (G.g b).1 vs ((G.g b).2+off) w (fun i hi=>(hin i hi).1) (j - off) hlt;rw [show (G.g b).2+off+(j - off)=(G.g b).2+j by omega] at hcell;have hvv:vs[j - off]=v:=by rw [WX hlt] at hv;injection hv
   rw [hvv] at hcell;refine ⟨?_,v,hcell,h1 v (aF hv),hrv⟩;have:=(hin (j - off) hlt).2
   rwa [show (G.g b).2+off+(j - off)=(G.g b).2+j by omega] at this
  ·rw [y9 hj] at hx;obtain ⟨hf,v,hv,h1v,hrv⟩:=hro.2 j x hx;refine ⟨hf,v,?_,h1v,hrv⟩;rw [World.cell?_setCells_out (G.g b).1 vs ((G.g b).2+off) w _ (fun _ _=>by simp only;omega)];exact hv
 ·have hk':(G.g b).1=k:=by simpa [zS] using hk
  subst hk';obtain ⟨f1,f2,f3⟩:=V6 h hb rfl;exact ⟨f1,f2,fun j oj _ hj=>f3 j oj hj⟩
theorem CS (hT:Jl C P) {t:Nat} {ti:TI} (ht:C.info t=some ti) (b o:Nat) (v:Value) (hl:v.cells.toList.length=ti.ts.length) (hin: ∀ j,j<v.cells.toList.length→(w.cell? ⟨b,o+j,none⟩).isSome=true∧w.frozen? ⟨b,o+j,none⟩=false) (h1: ∀ u∈v.cells.toList,u.oneCell'=true):
  (Instr.storeAt t (.pointer (some ⟨b,o,none⟩)) v).run P w= .ok () (w.setCells b o v.cells.toList):=by
 have h2:=run_storeCells_cells (P:=P) b o v.cells.toList 0 w (fun j hj=>by simpa using (hin j hj).1) (fun j hj=>by simpa using (hin j hj).2) h1;have hl':v.cells.size=ti.ts.length:=by simpa using hl
 simp only [ga] at h2;simp [Instr.storeAt,Instr.sureAddr,storeVar,ao hT ht,hl',h2]
end
section
variable {P:Program} {C:Ctx} {w:World} {G:Gh}
theorem ig: ∀ (ts us:List Ty) (l m:List A) (r:Bool),YA (ts++us) l m=some r→ ∃ r1 r2,YA ts (l.take ts.length) (m.take ts.length)=some r1∧YA us (l.drop ts.length) (m.drop ts.length)=some r2∧r=(r1&&r2)∧ts.length≤l.length∧ts.length≤m.length
 |[],us,l,m,r,h=>⟨true,r,by simp [YA],by simpa using h,by simp,by simp,by simp⟩
 |t::ts,us,a::l,b::m,r,h=>by
  simp only [aK,YA] at h;cases hc:gh t a b with
  |none=>simp [hc] at h
  |some u=>
   simp only [hc] at h;cases hr:YA (ts++us) l m with
   |none=>simp [hr] at h
   |some v=>simp only [hr,nO,z8] at h;obtain ⟨r1,r2,e1,e2,e3,e4,e5⟩:=ig ts us l m v hr;refine ⟨u&&r1,r2,by simp [YA,hc,e1],by simpa using e2,?_,by simpa using e4,by simpa using e5⟩;subst h e3;cases u<;>simp
 |t::ts,us,[],_,r,h=>by simp [YA] at h
 |t::ts,us,_::_,[],r,h=>by simp [YA] at h
def NV (ti:TI) (cs:List Value):Value:=if ti.isAgg then .agg cs.toArray else cs.headD undef
theorem Gt (hT:Jl C P) {t:Nat} {ti:TI} (ht:C.info t=some ti) (cs:List Value) (off:Nat) (h:off+ti.ts.length≤cs.length):(part t cs.toArray off).run P w= .ok (NV ti ((cs.drop off).take ti.ts.length)) w:=by
 simp only [part,Sem.run_bind,mz hT ht,Result.andThen_ok];unfold NV;cases hb:ti.isAgg with
 |true=>simp [ao hT ht,List.take_drop]
 |false=>
  have hone:ti.ts.length=1:=by
   cases ti with
   |c _ _=>rfl
   |s _ _ _=>simp [TI.isAgg] at hb
  rw [hone] at h ⊢;have hlt:off<cs.length:=by omega
  simp [hlt,WX hlt,List.take_one,List.head?_drop]
theorem Mr (hT:Jl C P) {t b:Nat} {ty:Ty} (ht:C.info t=some (.c ty b)) {x y:A} {v u:Value} {r:Bool} (h:gh ty x y=some r) (hx:RA G x v) (hy:RA G y u) (d:Nat):(Op.equalIn (d+1) t v u).run P w= .ok r w:=by
 obtain ⟨D,hD,TR⟩:=hT.und t _ ht;unfold gh at h;split at h
 ·rename_i k0 k1 x k2 y;split at h
  ·rename_i hk;injection h with h;subst h;subst hk;rw [show v= .int _ x from hx,show u= .int _ y from hy];exact run_equalIn_int w d t _ _ _ _ (by rw [hD,show D=_ from TR])
  ·cases h
 ·rename_i x y;injection h with h;subst h;rw [show v= .bool x from hx,show u= .bool y from hy];exact run_equalIn_bool' w d t _ _ (by rw [hD,show D=_ from TR])
 ·rename_i x y;injection h with h;subst h;rw [show v= .string x from hx,show u= .string y from hy];exact run_equalIn_string w d t _ _ (by rw [hD,show D=_ from TR])
 ·cases h
theorem tw (hT:Jl C P): ∀ (n t:Nat) (ti:TI) (l m:List A) (cs ds:List Value) (r:Bool) (d:Nat),ng C n t=true→C.info t=some ti→YA ti.ts l m=some r→RL G l cs→RL G m ds→n≤d→(Op.equalIn d t (NV ti cs) (NV ti ds)).run P w= .ok r w
 |0,t,ti,l,m,cs,ds,r,d,hr,_,_,_,_,_=>by simp [ng] at hr
 |n+1,t,ti,l,m,cs,ds,r,0,hr,ht,he,hl,hm,hn=>by omega
 |n+1,t,.c ty b,l,m,cs,ds,r,d+1,hr,ht,he,hl,hm,hn=>by
  match l,m,cs,ds,he,hl,hm with
  |[x],[y],[v],[u],he,hl,hm=>
   simp only [TI.ts,YA] at he;cases hc:gh ty x y with
   |none=>simp [hc] at he
   |some q=>simp [hc] at he;subst he;exact Mr hT ht hc hl.1 hm.1 d
  |[],_,_,_,he,_,_=>simp [TI.ts,YA] at he
  |[_],[],_,_,he,_,_=>simp [TI.ts,YA] at he
  |[x],y::_::_,_,_,he,_,_=>exfalso;simp only [TI.ts,YA] at he;cases hq:gh ty x y<;>simp [hq] at he
  |x::_::_,[],_,_,he,_,_=>simp [TI.ts,YA] at he
  |x::_::_,y::_,_,_,he,_,_=>exfalso;simp only [TI.ts,YA] at he;cases hq:gh ty x y<;>simp [hq] at he
  |[_],[_],[],_,_,hl,_=>exact hl.elim
  |[_],[_],_::_::_,_,_,hl,_=>exact hl.2.elim
  |[_],[_],[_],[],_,_,hm=>exact hm.elim
  |[_],[_],[_],_::_::_,_,_,hm=>exact hm.2.elim
 |n+1,t,.s fs ts b,l,m,cs,ds,r,d+1,hr,ht,he,hl,hm,hn=>by
  obtain ⟨F,hF,hfo⟩:=hT.yen t fs ts b ht;obtain ⟨e1,_,e3⟩:=hT.eqs t fs ts b ht;have hfl:P.fieldsOf t=F:=by simp [Program.fieldsOf,hF]
  simp only [ng,ht,zzal100] at hr;show (Op.equalIn (d+1) t (.agg cs.toArray) (.agg ds.toArray)).run P w=_;rw [run_equalIn_agg w d t _ _ (by rw [hfl];exact hF) e1,hfl];rw [hfl] at e3;have key: ∀ (fs:List (Nat×Nat)) (F:List Field) (ts:List Ty) (off:Nat) (r:Bool),cR C fs F ts off→(∀ p∈fs,ng C n p.2=true)→(∀ f∈F,f.name≠ "_")→off≤l.length→off≤m.length→YA ts (l.drop off) (m.drop off)=some r→(Op.eqFields d cs.toArray ds.toArray F).run P w= .ok r w:=by
   intro fs;induction fs with
   |nil=>
    intro F ts off r hF _ _ _ _ h;cases F with
    |nil=>
     have:ts=[]:=hF;subst this;have:r=true:=by unfold YA at h;split at h<;>simp_all
     subst this;simp [Op.eqFields]
    |cons _ _=>exact hF.elim
   |cons p fs ih=>
    intro F ts off r hF hrk hnm o1 o2 h;obtain ⟨o,tt⟩:=p;cases F with
    |nil=>exact hF.elim
    |cons f F=>
     obtain ⟨rfl,q2,q3,ti,ts',q4,rfl,q5⟩:=hF;obtain ⟨r1,r2,g1,g2,rfl,g4,g5⟩:=ig ti.ts ts' _ _ r h;simp only [wU] at g4 g5;have hlen:=hl.length;have CT:=hm.length;have hc:=tw hT n tt ti _ _ _ _ r1 d (hrk (o,tt) (by simp)) q4 g1 (RL.take ti.ts.length (RL.drop o hl)) (RL.take ti.ts.length (RL.drop o hm)) (by omega);subst q3;simp only [Op.eqFields,y0 (hnm f (by simp)),Sem.run_bind,q2,Gt hT q4 cs o (by omega),Gt hT q4 ds o (by omega),hc,Result.andThen_ok];rw [uO,uO] at g2;have:=ih F ts' (o+ti.ts.length) r2 q5 (fun p hp=>hrk p (by simp [hp])) (fun f hf=>hnm f (by simp [hf])) (by omega) (by omega) g2;cases r1 with
     |true=>simpa using this
     |false=>simp
  exact key fs F.toList ts 0 r hfo hr e3 (by omega) (by omega) (by simpa [TI.ts] using he)
theorem Sk (hT:Jl C P) {t:Nat} {ti:TI} (ht:C.info t=some ti) {op:BinOp} {x y:A} {b:Bool} {v u:Value} (hz:xT C op t ti x y=some b) (hx:RA G x v) (hy:RA G y u) (X Y:Operand):
  ∃ r,(do eqGuard op t X Y v u;binOp op t v u:Sem Value).run P w= .ok r w∧RA G (.val .bool b) r:=by
 cases ti with
 |c _ _=>simp [xT] at hz
 |s fs ts bb=>
  cases x<;>try (simp [xT] at hz;done)
  cases y<;>try (simp [xT] at hz;done)
  rename_i l m;obtain ⟨cs,rfl,hl⟩:=hx;obtain ⟨ds,rfl,hm⟩:=hy;obtain ⟨_,e2,_⟩:=hT.eqs t fs ts bb ht;have main: ∀ r,ng C 8 t=true→YA ts l m=some r→(Op.equalIn 10000 t (.agg cs.toArray) (.agg ds.toArray)).run P w= .ok r w:=fun r hr he=>tw hT 8 t (.s fs ts bb) l m cs ds r 10000 hr ht he hl hm (by omega);simp only [Sem.run_bind,run_eqGuard_agg w op t X Y _ _ e2,Result.andThen_ok];simp only [xT] at hz;cases op<;>try (simp at hz;done)
  ·cases hr:ng C 8 t with
   |false=>simp [hr] at hz
   |true=>simp only [hr,yg] at hz;refine ⟨.bool b,?_,rfl⟩;rw [run_eql_struct,main b hr hz];rfl
  ·cases hr:ng C 8 t with
   |false=>simp [hr] at hz
   |true=>
    simp only [hr,yg] at hz;cases hq:YA ts l m with
    |none=>simp [hq] at hz
    |some q=>simp only [hq,nO,z8] at hz;subst hz;refine ⟨.bool (!q),?_,rfl⟩;rw [run_neq_struct,main q hr hq];rfl
end
section
variable {P:Program} {C:Ctx} {w0:World} {yu:Nat→Prop} {H0:Base} {s:St} {a:Act} {w:World} {G:Gh} {o:Oper} {K:Act→World→Prop} {Q:Exit→Act→World→Prop} {R:Type} {k:Eff→Option R} {r:R} {lk:Lk} {call:C.Sem} {ct wn:Bool}
def Out (o:Oper):Prop:= ∀ d,o.dst=some d→d<900∨950≤d
def Next (P:Program) (w0:World) (yu:Nat→Prop) (H0:Base) (s:St) (o:Oper) (k:Eff→Option R) (r:R) (K:Act→World→Prop):Prop:=
 ∀ e a1 w1 G1,k e=some r→Rel P w0 yu H0 (s.apply o.dst e) a1 w1 G1→K a1 w1
theorem quiet (h:Rel P w0 yu H0 s a w G) (hK:Next P w0 yu H0 s o k r K) {x:A} {v:Value} (hk:k ⟨[],[],x⟩=some r) (hrun:(execOp a.eval o).run P w= .ok (.value v) w) (hx:RA G x v):o.wp P a w K Q:=
 jM hrun (hK _ _ _ G hk (h.put o.dst hx))
theorem NW (h:Rel P w0 yu H0 s a w G) (hK:Next P w0 yu H0 s o k r K) {x:Operand} (hop:o.op= .move x∨o.op= .assign x) (he:Yg C call ct wn o s.Yw lk k=some r):o.wp P a w K Q:=by rcases hop with hop|hop<;>simp only [Yg,hop] at he<;>exact quiet h hK he (by simp only [execOp,hop];rfl) (h.Yw x)
theorem Gu (h:Rel P w0 yu H0 s a w G) (hK:Next P w0 yu H0 s o k r K) {fn:Fn} {first captured:Array Operand} (hop:o.op= .makeFunc fn first captured) (he:Yg C call ct wn o s.Yw lk k=some r):o.wp P a w K Q:=by
 simp only [Yg,hop] at he;cases fn with
 |func f=>
  simp only at he;cases hfi:first.toList with
  |cons _ _=>simp [hfi] at he
  |nil=>
   have hfa:first= #[]:=by simpa using congrArg List.toArray hfi
   cases hca:captured.toList with
   |nil=>
    have hcc:captured= #[]:=by simpa using congrArg List.toArray hca
    simp only [hfi,hca] at he;exact quiet h hK he (v:= .func (.func f) #[] #[]) (by simp [execOp,hop,hfa,hcc,Instr.makeFunc]) rfl
   |cons x l=>
    cases l with
    |cons _ _=>simp [hfi,hca] at he
    |nil=>
     have hcc:captured= #[x]:=by simpa using congrArg List.toArray hca
     simp only [hfi,hca] at he;have hx:=h.Yw x;cases hxa:s.Yw x with
     |box b off=>
      rw [hxa] at hx he;simp only at he;cases hb:Nat.beq off 0 with
      |false=>simp [hb] at he
      |true=>simp only [hb,yg] at he;have:=zo hb;subst this;refine quiet h hK he (v:= .func (.func f) #[] #[a.eval x]) (by simp [execOp,hop,hfa,hcc,Instr.makeFunc]) ?_;rw [show a.eval x=_ from hx];rfl
     |_=>simp [hxa] at he
 |_=>simp at he
theorem y2X (hT:Jl C P) (h:Rel P w0 yu H0 s a w G) (hK:Next P w0 yu H0 s o k r K) (hlk:dS lk s) {t:Nat} {x:Operand} (hop:o.op= .load t x) (he:Yg C call ct wn o s.Yw lk k=some r):o.wp P a w K Q:=by
 simp only [Yg,hop] at he;cases ht:C.info t with
 |none=>simp [ht] at he
 |some ti=>
  simp only [ht] at he;cases hl:lB lk ti (s.Yw x) with
  |none=>simp [hl] at he
  |some y=>simp only [hl] at he;obtain ⟨u,hu,hr⟩:=xV hT h hlk ht hl (h.Yw x);exact quiet h hK he (by simp [execOp,hop,hu]) hr
theorem Gv (h:Rel P w0 yu H0 s a w G) (hK:Next P w0 yu H0 s o k r K) {x:Operand} (hop:o.op= .nilCheck x) (he:Yg C call ct wn o s.Yw lk k=some r):o.wp P a w K Q:=by
 have hx:=h.Yw x;simp only [Yg,hop] at he;cases hxa:s.Yw x with
 |box b off=>rw [hxa] at hx he;exact quiet h hK he (v:=a.eval x) (by simp only [execOp,hop];rw [show a.eval x=_ from hx];rfl) hx
 |lj b i c=>rw [hxa] at hx he;exact quiet h hK he (v:=a.eval x) (by simp only [execOp,hop];rw [show a.eval x=_ from hx.1];rfl) hx
 |ly e ts xs i c=>rw [hxa] at hx he;obtain ⟨ad,hv,_⟩:=id hx;exact quiet h hK he (v:=a.eval x) (by simp only [execOp,hop];rw [hv];rfl) hx
 |_=>simp [hxa] at he
theorem Ua (hT:Jl C P) (h:Rel P w0 yu H0 s a w G) (hK:Next P w0 yu H0 s o k r K) {op:BinOp} {t ty:Nat} {x y:Operand} (hop:o.op= .binOp op t x y ty) (he:Yg C call ct wn o s.Yw lk k=some r):o.wp P a w K Q:=by
 simp only [Yg,hop] at he;cases ht:C.info t with
 |none=>simp [ht] at he
 |some ti=>
  simp only [ht] at he;cases hag:xT C op t ti (s.Yw x) (s.Yw y) with
  |some b=>simp only [hag] at he;obtain ⟨u,hu,hr⟩:=Sk (P:=P) (w:=w) hT ht hag (h.Yw x) (h.Yw y) x y;refine quiet h hK he ?_ hr;simp only [execOp,hop];rw [Sem.run_bind,hu];rfl
  |none=>
  simp only [hag] at he;cases hbt:boolTy ti (s.Yw x) with
  |false=>simp [hbt] at he
  |true=>
   simp only [hbt,yg,NN] at he;cases hb:n9 op (s.Yw x) (s.Yw y) with
   |none=>simp [hb] at he
   |some z=>simp only [hb,zzal0] at he;obtain ⟨u,hu,hr⟩:=Sg (P:=P) (w:=w) hT ht hb hbt (h.Yw x) (h.Yw y) x y;refine quiet h hK he ?_ hr;simp only [execOp,hop];rw [Sem.run_bind,hu];rfl
theorem y2Y (h:Rel P w0 yu H0 s a w G) (hK:Next P w0 yu H0 s o k r K) {op:UnOp} {t:Nat} {x:Operand} (hop:o.op= .unOp op t x) (he:Yg C call ct wn o s.Yw lk k=some r):o.wp P a w K Q:=by
 simp only [Yg,hop] at he;cases hb:unA op (s.Yw x) with
 |none=>simp [hb] at he
 |some z=>simp only [hb] at he;obtain ⟨u,hu,hr⟩:=U6 (P:=P) (w:=w) hb (h.Yw x);exact quiet h hK he (by simp [execOp,hop,hu]) hr
theorem Ms (h:Rel P w0 yu H0 s a w G) (hK:Next P w0 yu H0 s o k r K) {x:Operand} {i:Nat} (hop:o.op= .extract x i) (he:Yg C call ct wn o s.Yw lk k=some r):o.wp P a w K Q:=by
 have hx:=h.Yw x;simp only [Yg,hop] at he;cases hxa:s.Yw x with
 |oF l=>
  rw [hxa] at hx he;simp only at he;cases hi:l[i]? with
  |none=>simp [hi] at he
  |some y=>simp only [hi] at he;obtain ⟨cs,hv,hr⟩:=hx;obtain ⟨u,hu,hru⟩:=hr.get i y hi;refine quiet h hK he (v:=u) ?_ hru;simp [execOp,hop,hv,Instr.extract,hu]
 |_=>simp [hxa] at he
theorem EG (hT:Jl C P) (h:Rel P w0 yu H0 s a w G) (hK:Next P w0 yu H0 s o k r K) {t f:Nat} {x:Operand} (hop:o.op= .fieldAddr t x f) (he:Yg C call ct wn o s.Yw lk k=some r):o.wp P a w K Q:=by
 have hx:=h.Yw x;simp only [Yg,hop] at he;cases ht:C.info t with
 |none=>simp [ht] at he
 |some ti=>
  cases ti with
  |c _ _=>simp [ht] at he
  |s fs ts b=>
   simp only [ht] at he;cases hf:fs[f]? with
   |none=>simp [hf] at he
   |some dt=>
    obtain ⟨d,t2⟩:=dt;simp only [hf] at he;cases hxa:s.Yw x with
    |box b off=>rw [hxa] at hx he;refine quiet h hK he (v:= .pointer (some ⟨(G.g b).1,(G.g b).2+(off+d),none⟩)) ?_ rfl;have:=lF (P:=P) (w:=w) hT ht hf ⟨(G.g b).1,(G.g b).2+off,none⟩;rw [ED] at this;simp [execOp,hop,show a.eval x=_ from hx,this,cN]
    |lj b i c=>rw [hxa] at hx he;refine quiet h hK he (v:= .pointer (some ⟨(G.g b).1,i.toNat*(G.sz b).1+(c+d),none⟩)) ?_ ⟨rfl,hx.2⟩;have:=lF (P:=P) (w:=w) hT ht hf ⟨(G.g b).1,i.toNat*(G.sz b).1+c,none⟩;rw [ED] at this;simp [execOp,hop,show a.eval x=_ from hx.1,this,cN]
    |ly e us xs i c=>rw [hxa] at hx he;obtain ⟨ad,hv,hlt,hrd⟩:=hx;refine quiet h hK he (v:= .pointer (some (ad.add (i.toNat*us.length+(c+d))))) ?_ ⟨ad,rfl,hlt,hrd⟩;have:=lF (P:=P) (w:=w) hT ht hf (ad.add (i.toNat*us.length+c));rw [Addr.add_add] at this;simp [execOp,hop,hv,this,cN]
    |_=>simp [hxa] at he
theorem Ub (hT:Jl C P) (h:Rel P w0 yu H0 s a w G) (hK:Next P w0 yu H0 s o k r K) {t f:Nat} {x:Operand} (hop:o.op= .field t x f) (he:Yg C call ct wn o s.Yw lk k=some r):o.wp P a w K Q:=by
 have hx:=h.Yw x;simp only [Yg,hop] at he;cases ht:C.info t with
 |none=>simp [ht] at he
 |some ti=>
  cases ti with
  |c _ _=>simp [ht] at he
  |s fs ts b=>
   simp only [ht] at he;cases hf:fs[f]? with
   |none=>simp [hf] at he
   |some dt=>
    obtain ⟨d,t2⟩:=dt;simp only [hf] at he;cases ht2:C.info t2 with
    |none=>simp [ht2] at he
    |some ti=>
     simp only [ht2] at he;cases hxa:s.Yw x with
     |agg l=>
      rw [hxa] at hx he;simp only at he;cases hle:Nat.ble (d+ti.ts.length) l.length with
      |false=>simp [hle] at he
      |true=>
       simp only [hle,yg] at he;cases hm:Ez ti.isAgg ((l.drop d).take ti.ts.length) with
       |none=>simp [hm] at he
       |some y=>simp only [hm] at he;obtain ⟨u,hu,hr⟩:=Gs (P:=P) (w:=w) hT ht hf ht2 hle hm hx;exact quiet h hK he (by simp [execOp,hop,hu]) hr
     |_=>simp [hxa] at he
theorem Uc (hT:Jl C P) (h:Rel P w0 yu H0 s a w G) (hK:Next P w0 yu H0 s o k r K) {t:Nat} {x i:Operand} (hop:o.op= .index t x i) (he:Yg C call ct wn o s.Yw lk k=some r):o.wp P a w K Q:=by
 have hx:=h.Yw x;have hi:=h.Yw i;simp only [Yg,hop] at he;split at he
 ·rename_i b xv kk n ht hxa hia;rw [hxa] at hx;rw [hia] at hi;split at he
  ·rename_i h0;split at he
   ·rename_i h1;refine quiet h hK he (v:= .int .u8 (ByteArray.get xv (Int.toNat n) h1).toNat) ?_ rfl;simp only [execOp,hop];rw [show a.eval x= .string xv from hx,show a.eval i= .int kk n from hi,Sem.run_bind,Sh hT ht xv kk n h0 h1];rfl
   ·cases he
  ·cases he
 ·cases he
theorem EH (hT:Jl C P) (h:Rel P w0 yu H0 s a w G) (hK:Next P w0 yu H0 s o k r K) (hlk:dS lk s) {t:Nat} {x i:Operand} (hop:o.op= .indexAddr t x i) (he:Yg C call ct wn o s.Yw lk k=some r):o.wp P a w K Q:=by
 have hx:=h.Yw x;have hi:=h.Yw i;simp only [Yg,hop] at he;split at he
 ·rename_i e2 us b e ts xs kk n ht hxa hia;rw [hxa] at hx;rw [hia] at hi;split at he
  ·rename_i h0;split at he
   ·rename_i h1;cases hb:Nat.beq us.length ts.length with
    |false=>simp [hb] at he
    |true=>simp only [hb,yg] at he;obtain ⟨A,c,hv,hc,hm,hrd⟩:=hx;obtain ⟨ad,rfl,yk1⟩:=hrd (by omega);refine quiet h hK he (v:= .pointer (some (ad.add (Int.toNat n*ts.length+0)))) ?_ ⟨ad,rfl,by show Int.toNat n<List.length xs;omega,yk1⟩;simp only [execOp,hop];rw [hv,show a.eval i= .int kk n from hi,Sem.run_bind,tv hT ht ad _ c kk n h0 h1,zo hb];rfl
   ·cases he
  ·cases he
 ·rename_i e2 us b q kk n ht hxa hia;rw [hxa] at hx;rw [hia] at hi;cases hq:lk q with
  |none=>simp [hq] at he
  |some ob=>
   cases ob with
   |root own e ts xs=>
    simp only [hq] at he;split at he
    ·rename_i h0;split at he
     ·rename_i h1;cases hb:Nat.beq us.length ts.length with
      |false=>simp [hb] at he
      |true=>simp only [hb,yg] at he;obtain ⟨hsz,hpos,⟨A,c,hsv,hc,hm,hA⟩,_⟩:=cS h (hlk q _ hq);have hA':=hA (by omega);subst hA';refine quiet h hK he (v:= .pointer (some ⟨(G.g q).1,Int.toNat n*(G.sz q).1+0,none⟩)) ?_ ⟨rfl,by rw [hsz];show Int.toNat n<xs.length;omega⟩;simp only [execOp,hop];rw [hx.1,hsv,show a.eval i= .int kk n from hi,Sem.run_bind,tv hT ht _ _ c kk n h0 h1,zo hb,hsz,add_plain];rfl
     ·cases he
    ·cases he
   |_=>simp [hq] at he
 ·cases he
theorem ybx (hT:Jl C P) (h:Rel P w0 yu H0 s a w G) (hK:Next P w0 yu H0 s o k r K) (hout:Out o) {t:Nat} {x:Operand} (hop:o.op= .box t x) (he:Yg C call ct wn o s.Yw lk k=some r):o.wp P a w K Q:=by
 have hx:=h.Yw x;simp only [Yg,hop] at he;split at he
 ·rename_i ti d ht hd;cases hb:Nat.beq (s.Yw x).cells.length ti.ts.length&&km (s.Yw x).cells with
  |false=>simp [hb] at he
  |true=>
   simp only [hb,yg] at he;simp only [zzal10] at hb;have hl:=fq hb.2 hx;obtain ⟨G',_,hrel,hra⟩:=h.U9 d t (H0.none (hout d hd)) hl (fo hb.2 hl);refine jM (v:= .pointer (some ⟨w.heap.size,0,none⟩)) (w':=w.alloc (.cells (a.eval x).cells t)) ?_ (hK _ _ _ G' he ?_)
   ·simp [execOp,hop,Instr.box,newVar,newRow]
   ·have:=hrel.put o.dst hra;simpa [St.apply,St.makeAll,St.yB] using this
 ·cases he
theorem EI {G:Gh}: ∀ ts:List Ty,RL G (ts.map CO) (ts.map zeroV)
 |[]=>trivial
 |t::ts=>⟨by cases t<;>rfl,EI ts⟩
theorem Ud: ∀ ts:List Ty,∀ v∈ts.map zeroV,v.oneCell'=true:=by intro ts v hv;obtain ⟨t,_,rfl⟩:=eU.1 hv;cases t<;>rfl
theorem tz (d:Nat): ∀ ts:List Ty,zv d (ts.map CO)=ts.map CO
 |[]=>rfl
 |t::ts=>by simp only [J7,zv,tz d ts];cases t<;>rfl
theorem Ue (hT:Jl C P) (h:Rel P w0 yu H0 s a w G) (hK:Next P w0 yu H0 s o k r K) (hout:Out o) {t:Nat} (hop:o.op= .alloc t) (he:Yg C call ct wn o s.Yw lk k=some r):o.wp P a w K Q:=by
 simp only [Yg,hop] at he;split at he
 ·rename_i ti d ht hd;obtain ⟨i,z,hi,hs,hby,hz,hzc,hp,hbp⟩:=hT.info t ti ht;obtain ⟨G',_,hrel,hra⟩:=h.U9 d t (H0.none (hout d hd)) (EI ti.ts) (Ud ti.ts);refine jM (v:= .pointer (some ⟨w.heap.size,0,none⟩)) (w':=w.alloc (.cells z.cells t)) ?_ (hK _ _ _ G' he ?_)
  ·simp [execOp,hop,Instr.alloc,zeroValue,typeInfo,hi,hz,newVar,newRow]
  ·have:=hrel.put o.dst hra;rw [tz,← hzc] at this;simpa [St.apply,St.makeAll,St.yB] using this
 ·cases he
theorem yby (hT:Jl C P) (h:Rel P w0 yu H0 s a w G) (hK:Next P w0 yu H0 s o k r K) (hlk:dS lk s) {c:Call} {x:Operand} {t:Nat} {ts:List Nat} (hop:o.op= .call c) (hc:c.callee= .builtin .len) (hx:c.args.toList=[x]) (ht:c.argTypes.toList=t::ts) (he:Yg C call ct wn o s.Yw lk k=some r):o.wp P a w K Q:=by
 simp only [Yg,hop,hc,hx,ht] at he;split at he
 ·rename_i n hn hty;have:=Si (P:=P) (ty:=o.type) hT h hlk hn hty (h.Yw x);refine quiet h hK he (v:= .int .i64 n) ?_ rfl;have e1:c.args= #[x]:=by rw [← cJ (xs:=c.args),hx]
  have e2:c.argTypes=(t::ts).toArray:=by rw [← cJ (xs:=c.argTypes),ht]
  have e3:Builtin.len_ (t::ts).toArray o.type #[a.eval x]=Builtin.len_ #[t] o.type #[a.eval x]:=by simp [Builtin.len_]
  simp [execOp,hop,resolve,hc,invoke,builtin,e1,e2,e3,this]
 ·cases he
end
section
variable {P:Program} {C:Ctx} {w0:World} {yu:Nat→Prop} {H0:Base} {s:St} {a:Act} {w:World} {G:Gh} {o:Oper} {K:Act→World→Prop} {Q:Exit→Act→World→Prop} {R:Type} {k:Eff→Option R} {r:R} {lk:Lk} {call:C.Sem}
def Gw (lk:Lk) (s:St):Prop:= ∀ i ob e ts xs,lk i=some ob→Rw ob e ts xs→ ∃ TT,look s.o i=some TT∧Rw TT e ts xs
theorem dS.rows (h:dS lk s):Gw lk s:=fun i ob e ts xs hi hw=>⟨ob,h i _ hi,hw⟩
def jn (lk:Lk) (G:Gh) (is:List Nat):Prop:= ∀ i∈is,∀ ob e ts xs,lk i=some ob→Rw ob e ts xs→RdT G.H (.sl e ts) xs (G.sv i)
theorem jn.grown {G G':Gh} {is:List Nat} (h:jn lk G is) (hg:Grown G G'):jn lk G' is:=fun i hi ob e ts xs hl hw=>by rw [hg.sv];exact RdT.mono hg.H _ _ _ (h i hi ob e ts xs hl hw)
theorem Gw.set {i e:Nat} {ob:Ob} {ts:List Ty} {xs:List (Elts ts)} (h:Gw lk s) (hi:look s.o i=some ob) (hw:Rw ob e ts xs):Gw lk (s.set i (.root false e ts xs)):=by
 intro j TT e' ts' xs' hj hw';obtain ⟨ob2,h2,hw2⟩:=h j TT e' ts' xs' hj hw';show ∃ TT,look (Wg s.o i _) j=_∧_;rw [Wh];by_cases hji:j=i
 ·subst hji;rw [hi] at h2;injection h2 with h2;subst h2;obtain ⟨rfl,rfl,rfl⟩:=hw.same hw2;exact ⟨_,by simp [hi],.inl ⟨false,rfl⟩⟩
 ·exact ⟨ob2,by simp [hji,h2],hw2⟩
theorem Rel.settles (hs:Gw lk s) (h:Rel P w0 yu H0 s a w G): ∀ (is:List Nat),∃ G',Grown G G'∧Rel P w0 yu H0 (s.yB (settles lk is)) a w G'∧jn lk G' is:=by
 intro is;induction is generalizing s G with
 |nil=>exact ⟨G,Grown.refl G,h,fun i hi=>by simp at hi⟩
 |cons i is ih=>
  have row: ∀ (ob:Ob) (e:Nat) (ts:List Ty) (xs:List (Elts ts)),lk i=some ob→Rw ob e ts xs→Go.Proofs.YtekbnpmmjciloaaGreat.R.settles lk (i::is)=(i,.root false e ts xs)::Go.Proofs.YtekbnpmmjciloaaGreat.R.settles lk is→ ∃ G',Grown G G'∧Rel P w0 yu H0 (s.yB (Go.Proofs.YtekbnpmmjciloaaGreat.R.settles lk (i::is))) a w G'∧jn lk G' (i::is):=by
   intro ob e ts xs hi hw he;obtain ⟨TT,hl,hw'⟩:=hs i ob e ts xs hi hw;obtain ⟨G1,hg1,hr1,hrd⟩:=h.y2W hl hw';obtain ⟨G',hg,hr,hset⟩:=ih (hs.set hl hw') hr1;refine ⟨G',hg1.trans hg,by rw [he];exact hr,fun j hj ob2 e2 ts2 xs2 hl2 hw2=> ?_⟩;rcases yR.1 hj with rfl|hj
   ·rw [hi] at hl2;injection hl2 with hl2;subst hl2;obtain ⟨rfl,rfl,rfl⟩:=hw.same hw2;rw [hg.sv];exact RdT.mono hg.H _ _ _ hrd
   ·exact hset j hj ob2 e2 ts2 xs2 hl2 hw2
  have no:(∀ ob e ts (xs:List (Elts ts)),lk i=some ob→ ¬ Rw ob e ts xs)→Go.Proofs.YtekbnpmmjciloaaGreat.R.settles lk (i::is)=Go.Proofs.YtekbnpmmjciloaaGreat.R.settles lk is→ ∃ G',Grown G G'∧Rel P w0 yu H0 (s.yB (Go.Proofs.YtekbnpmmjciloaaGreat.R.settles lk (i::is))) a w G'∧jn lk G' (i::is):=by
   intro hn he;obtain ⟨G',hg,hr,hset⟩:=ih hs h;refine ⟨G',hg,by rw [he];exact hr,fun j hj ob e ts xs hl hw=> ?_⟩;rcases yR.1 hj with rfl|hj
   ·exact absurd hw (hn ob e ts xs hl)
   ·exact hset j hj ob e ts xs hl hw
  cases hi:lk i with
  |none=>exact no (fun ob e ts xs hl=>by rw [hi] at hl;cases hl) (by simp [Go.Proofs.YtekbnpmmjciloaaGreat.R.settles,hi])
  |some ob=>
   cases ob with
   |root own e ts xs=>exact row _ e ts xs hi (.inl ⟨own,rfl⟩) (by simp [Go.Proofs.YtekbnpmmjciloaaGreat.R.settles,hi])
   |_=>refine no (fun ob e ts xs hl hw=> ?_) (by simp [Go.Proofs.YtekbnpmmjciloaaGreat.R.settles,hi]);rw [hi] at hl;injection hl with hl;subst hl;rcases hw with ⟨_,hw⟩|⟨_,_,hw⟩<;>cases hw
theorem ft {H:Hp} {t t':Ty} {x:El t} {y:El t'} {v:Value} (h:qT t t' x=some y) (hr:RdT H t x v):RdT H t' y v:=by
 unfold qT at h;split at h
 ·rename_i he;have:=Ty.nS t t' he;subst this;injection h with h;subst h;exact hr
 ·cases h
theorem EJ {H:Hp}: ∀ t:Ty,RdT H t (oE t) (zeroV t)
 | .int _=>rfl
 | .bool=>rfl
 | .str=>rfl
 | .sl e ts=>⟨none,0,rfl,jk _,by simp [oE],fun h=>by simp [oE] at h⟩
theorem mA {t:Ty} {x:A} {y:El t} {is:List Nat} (h:oG lk t x=some (y,is)) (hs:jn lk G is) {v:Value} (hr:RA G x v):RdT G.H t y v:=by
 cases x with
 |val t' x=>simp only [oG,Ys] at h;obtain ⟨z,hz,he⟩:=h;injection he with he _;subst he;exact ft hz hr
 |JX=>
  cases t with
  |sl e ts=>simp only [oG,z8,jI] at h;rw [← h.1,show v= .slice none 0 0 from hr];exact EJ (.sl e ts)
  |_=>simp [oG] at h
 |win q m=>
  cases hq:lk q with
  |none=>simp [oG,hq] at h
  |some ob=>
   cases ob with
   |root own e ts xs=>
    simp only [oG,hq,Ys] at h;obtain ⟨z,hz,he⟩:=h;injection he with he hi;subst he hi;have hrd:=hs q (by simp) _ e ts xs hq (.inl ⟨own,rfl⟩);obtain ⟨A,n,c,e1,e2,e3⟩:=hr;obtain ⟨A2,c2,f1,f2,f3,f4⟩:=hrd;rw [e1] at f1;injection f1 with g1 g2 g3;subst g1 g2 g3;refine ft hz ?_;rw [e2];have hlen:(xs.take (Int.toNat m)).length=Int.toNat m:=by rw [Za];omega
    refine ⟨A,c,by rw [show List.length (List.take (Int.toNat m) xs)=Int.toNat m from hlen],by rw [show List.length (List.take (Int.toNat m) xs)=Int.toNat m from hlen];omega,by rw [show List.length (List.take (Int.toNat m) xs)=Int.toNat m from hlen];omega,fun hp=> ?_⟩;rw [show List.length (List.take (Int.toNat m) xs)=Int.toNat m from hlen] at hp;obtain ⟨ad,ea,hx⟩:=f4 (by omega);refine ⟨ad,ea,fun j x hj=>hx j x ?_⟩;have hj':(xs.take (Int.toNat m))[j]? =some x:=hj;rw [Vp] at hj';split at hj'
    ·exact hj'
    ·cases hj'
   |_=>simp [oG,hq] at h
 |own q=>
  cases hq:lk q with
  |none=>simp [oG,hq] at h
  |some ob=>
   cases ob with
   |root own e ts xs=>simp only [oG,hq,Ys] at h;obtain ⟨z,hz,he⟩:=h;injection he with he hi;subst he hi;rw [show v=G.sv q from hr.1];exact ft hz (hs q (by simp) _ e ts xs hq (.inl ⟨own,rfl⟩))
   |_=>simp [oG,hq] at h
 |_=>simp [oG] at h
theorem jn.left {is js:List Nat} (h:jn lk G (is++js)):jn lk G is:=fun i hi=>h i (by simp [hi])
theorem jn.right {is js:List Nat} (h:jn lk G (is++js)):jn lk G js:=fun i hi=>h i (by simp [hi])
theorem Sl: ∀ (ts:List Ty) (l:List A) (y:Elts ts) (is:List Nat),Me lk ts l=some (y,is)→jn lk G is→ ∀ (vs:List Value),RL G l vs→RdE G.H ts y (fun i=>vs[i]?)∧vs.length=ts.length:=by
 intro ts;induction ts with
 |nil=>
  intro l y is h hs vs hr;cases l with
  |nil=>
   cases vs with
   |nil=>exact ⟨trivial,rfl⟩
   |cons _ _=>exact hr.elim
  |cons x l=>exact absurd h (by rw [show Me lk [] (x::l)=none from rfl];exact fun h=>by cases h)
 |cons t ts ih=>
  intro l y is h hs vs hr;cases ts with
  |nil=>
   cases l with
   |nil=>exact absurd h (by rw [show Me lk [t] []=none from rfl];exact fun h=>by cases h)
   |cons x l=>
    cases l with
    |nil=>
     have h':oG lk t x=some (y,is):=h;cases vs with
     |nil=>exact hr.elim
     |cons v vs=>
      cases vs with
      |nil=>exact ⟨⟨v,rfl,mA h' hs hr.1⟩,rfl⟩
      |cons _ _=>exact hr.2.elim
    |cons x2 l=>exact absurd h (by rw [show Me lk [t] (x::x2::l)=none from rfl];exact fun h=>by cases h)
  |cons u r=>
   cases l with
   |nil=>exact absurd h (by rw [show Me lk (t::u::r) []=none from rfl];exact fun h=>by cases h)
   |cons x l=>
    have h':(match oG lk t x with
     |some (x,is)=>match Me lk (u::r) l with
      |some (y,js)=>some (((x,y):Elts (t::u::r)),is++js)
      |none=>none
     |none=>none)=some (y,is):=h
    cases hx:oG lk t x with
    |none=>rw [hx] at h';cases h'
    |some p=>
     obtain ⟨x',js⟩:=p;rw [hx] at h';cases hl:Me lk (u::r) l with
     |none=>rw [hl] at h';cases h'
     |some q=>
      obtain ⟨y',js'⟩:=q;rw [hl] at h';injection h' with h';injection h' with h1 h2;subst h1 h2;cases vs with
      |nil=>exact hr.elim
      |cons v vs=>obtain ⟨h1,h2⟩:=ih l y' js' hl hs.right vs hr.2;exact ⟨⟨⟨v,rfl,mA hx hs.left hr.1⟩,h1⟩,by simp [h2]⟩
end
section
variable {P:Program} {C:Ctx} {w0:World} {yu:Nat→Prop} {H0:Base} {s:St} {a:Act} {w:World} {G:Gh} {o:Oper} {K:Act→World→Prop} {Q:Exit→Act→World→Prop} {R:Type} {k:Eff→Option R} {r:R} {lk:Lk} {call:C.Sem} {ct wn:Bool}
theorem jN {i:Nat}: ∀ (l:List (Nat×Ob)) (s:St),Jj (yN l) i=false→look (s.yB l).o i=look s.o i
 |[],_,_=>rfl
 |(j,x)::l,s,h=>by simp only [yN,Jj,WW] at h;rw [St.yB,jN l (s.set j x) h.2];show look (Wg s.o j x) i=_;rw [Wh,y9];intro e;subst e;rw [yH] at h;exact absurd h.1 (by simp)
theorem oK (lk:Lk) {i:Nat}: ∀ is:List Nat,Jj is i=false→Jj (yN (settles lk is)) i=false
 |[],_=>rfl
 |j::is,h=>by
  simp only [Jj,WW] at h;have ih:=oK lk is h.2;unfold settles;split
  ·simp only [yN,Jj,h.1,ih,Bool.or_false]
  ·simp only [yN,Jj,h.1,ih,Bool.or_false]
theorem St.Qx: ∀ (l l':List (Nat×Ob)) (s:St),s.yB (l++l')=(s.yB l).yB l'
 |[],_,_=>rfl
 |(i,x)::l,l',s=>St.Qx l l' (s.set i x)
theorem w6 {l:List Nat} {i:Nat}:Jj l i=true↔i∈l:=by
 induction l with
 |nil=>simp [Jj]
 |cons j r ih=>
  simp only [Jj,nR,ih,yR];constructor
  ·rintro (h|h)
   ·exact .inl (zo h).symm
   ·exact .inr h
  ·rintro (rfl|h)
   ·exact .inl (yH _)
   ·exact .inr h
theorem gm: ∀ {l:List Nat},gi l=true→l.Nodup
 |[],_=>List.nodup_nil
 |i::r,h=>by simp only [gi,zzal10,zzal45] at h;refine oB.2 ⟨fun hi=> ?_,gm h.2⟩;rw [w6.2 hi] at h;exact absurd h.1 (by simp)
theorem Rel.y5l: ∀ (gs:List Nat) {s:St},Rel P w0 yu H0 s a w G→Rel P w0 yu H0 (s.yB (jK gs)) a w G
 |[],_,h=>h
 |i::gs,_,h=>Rel.y5l gs (h.gone i)
theorem nU: ∀ (gs:List Nat) (s:St) (i:Nat),look (s.yB (jK gs)).o i=if i∈gs then (look s.o i).map (fun _=> .gone) else look s.o i
 |[],s,i=>by simp [jK,St.yB]
 |j::gs,s,i=>by
  have hs:look (s.set j .gone).o i=if i=j then (look s.o j).map (fun _=> .gone) else look s.o i:=Wh j i .gone s.o
  rw [jK,St.yB,nU gs,hs];by_cases hij:i=j
  ·subst hij;by_cases hg:i∈gs
   ·cases look s.o i<;>simp [hg]
   ·simp [hg]
  ·simp [hij]
def In (bs:List (Nat→Prop)) (k:Nat):Prop:= ∃ b∈bs,b k
def Apart (bs:List (Nat→Prop)):Prop:=bs.Pairwise fun b c=> ∀ k,b k→ ¬ c k
def Given (s:St) (G:Gh) (gs:List Nat) (bs:List (Nat→Prop)):Prop:= ∀ k,In bs k→ ∃ q∈gs,∃ ob,look s.o q=some ob∧zS G q ob k
theorem In.cons {b:Nat→Prop} {bs:List (Nat→Prop)} {k:Nat}:In (b::bs) k↔b k∨In bs k:=by simp [In]
theorem In.append {bs cs:List (Nat→Prop)} {k:Nat}:In (bs++cs) k↔In bs k∨In cs k:=by simp [In,or_and_right,exists_or]
theorem In.nil {k:Nat}: ¬ In [] k:=by simp [In]
theorem Gx (h:Rel P w0 yu H0 s a w G) {gs hs:List Nat} {bs cs:List (Nat→Prop)} (hb:Given s G gs bs) (hc:Given s G hs cs) (hd: ∀ q∈gs,q∉hs): ∀ k,In bs k→ ¬ In cs k:=by intro k h1 h2;obtain ⟨q,hq,ob,hl,hbq⟩:=hb k h1;obtain ⟨q',hq',TT,hl',yk2⟩:=hc k h2;have:=h.apart q q' _ _ k hl hl' hbq yk2;subst this;exact hd q hq hq'
theorem Given.mono {gs hs:List Nat} {bs:List (Nat→Prop)} (h:Given s G gs bs) (hm: ∀ q∈gs,q∈hs):Given s G hs bs:=fun k hk=>by obtain ⟨q,hq,r⟩:=h k hk;exact ⟨q,hm q hq,r⟩
end
section
variable {P:Program} {C:Ctx} {w0:World} {yu:Nat→Prop} {H0:Base} {s:St} {a:Act} {w:World} {G:Gh} {o:Oper} {K:Act→World→Prop} {Q:Exit→Act→World→Prop} {R:Type} {k:Eff→Option R} {r:R} {lk:Lk} {call:C.Sem} {ct wn:Bool}
def RdS (H:Hp):List (Sigma El)→List Value→Prop
 |[],[]=>True
 |y::ys,v::vs=>RdT H y.1 y.2 v∧RdS H ys vs
 |_,_=>False
theorem Gy: ∀ (ts:List Ty) (c:Nat) (l:List A) (ys:List (Sigma El)) (is:List Nat),ib lk ts c l=some (ys,is)→jn lk G is→ ∀ (vs:List Value),RL G l vs→RdS G.H ys vs:=by
 intro ts;induction ts with
 |nil=>
  intro c l ys is h hs vs hr;cases l with
  |nil=>
   have:some (([]:List (Sigma El)),([]:List Nat))=some (ys,is):=by cases c<;>exact h
   injection this with this;injection this with h1 h2;subst h1;cases vs with
   |nil=>trivial
   |cons _ _=>exact hr.elim
  |cons x l=>cases c<;>exact absurd h (by simp [ib])
 |cons t ts ih=>
  intro c l ys is h hs vs hr;cases l with
  |nil=>
   have:some (([]:List (Sigma El)),([]:List Nat))=some (ys,is):=by cases c<;>exact h
   injection this with this;injection this with h1 h2;subst h1;cases vs with
   |nil=>trivial
   |cons _ _=>exact hr.elim
  |cons x l=>
   cases c with
   |succ c=>exact ih c (x::l) ys is h hs vs hr
   |zero=>
    have h':(match oG lk t x with
     |some (x,is)=>match ib lk ts 0 l with
      |some (r,js)=>some ((⟨t,x⟩:Sigma El)::r,is++js)
      |none=>none
     |none=>none)=some (ys,is):=h
    cases hx:oG lk t x with
    |none=>rw [hx] at h';cases h'
    |some p=>
     obtain ⟨x',js⟩:=p;rw [hx] at h';cases hl:ib lk ts 0 l with
     |none=>rw [hl] at h';cases h'
     |some q=>
      obtain ⟨r',js'⟩:=q;rw [hl] at h';injection h' with h';injection h' with h1 h2;subst h1 h2;cases vs with
      |nil=>exact hr.elim
      |cons v vs=>exact ⟨mA hx hs.left hr.1,ih 0 l r' js' hl hs.right vs hr.2⟩
theorem EK {t:Ty} {x:A} {p:El t×List Nat} (h:oG lk t x=some p):x.one=true:=by cases x<;>first|rfl|(simp [oG] at h)
theorem y2Z: ∀ (ts:List Ty) (c:Nat) (l:List A) (ys:List (Sigma El)) (is:List Nat),ib lk ts c l=some (ys,is)→km l=true:=by
 intro ts;induction ts with
 |nil=>
  intro c l ys is h;cases l with
  |nil=>rfl
  |cons x l=>cases c<;>exact absurd h (by simp [ib])
 |cons t ts ih=>
  intro c l ys is h;cases l with
  |nil=>rfl
  |cons x l=>
   cases c with
   |succ c=>exact ih c (x::l) ys is h
   |zero=>
    have h':(match oG lk t x with
     |some (x,is)=>match ib lk ts 0 l with
      |some (r,js)=>some ((⟨t,x⟩:Sigma El)::r,is++js)
      |none=>none
     |none=>none)=some (ys,is):=h
    cases hx:oG lk t x with
    |none=>rw [hx] at h';cases h'
    |some p=>
     rw [hx] at h';cases hl:ib lk ts 0 l with
     |none=>rw [hl] at h';cases h'
     |some q=>simp [km,EK hx,ih 0 l q.1 q.2 hl]
theorem Mt {H:Hp}: ∀ (ts:List Ty) (x:Elts ts) (c:Nat) (ys:List (Sigma El)) (x':Elts ts),rY ts x c ys=some x'→ ∀ (vs:List Value) (f:Nat→Option Value),RdS H ys vs→RdE H ts x f→
  RdE H ts x' (fun i=>if c≤i∧i<c+vs.length then vs[i - c]? else f i)∧(vs=[]∨c+vs.length≤ts.length):=by
 intro ts;induction ts with
 |nil=>
  intro x c ys x' h vs f hy hr;cases ys with
  |nil=>
   cases vs with
   |nil=>exact ⟨trivial,.inl rfl⟩
   |cons _ _=>exact hy.elim
  |cons y ys=>cases c<;>exact absurd h (by rw [show rY [] x _ (y::ys)=none from rfl];exact fun h=>by cases h)
 |cons t ts ih=>
  intro x c ys x' h vs f hy hr;cases ys with
  |nil=>
   cases vs with
   |cons _ _=>exact hy.elim
   |nil=>
    have hxx:some x=some x':=by cases ts<;>cases c<;>exact h
    injection hxx with hxx;subst hxx;refine ⟨RdE.mono (Hp.le.refl H) _ x _ _ (fun i v hv=> ?_) hr,.inl rfl⟩;rw [y9 (by simp only [yr];omega)];exact hv
  |cons y ys=>
   obtain ⟨u,y⟩:=y;cases vs with
   |nil=>exact hy.elim
   |cons v vs=>
    cases ts with
    |nil=>
     cases c with
     |succ c=>exact absurd h (by rw [show rY [t] x (c+1) (⟨u,y⟩::ys)=none by cases ys<;>rfl];exact fun h=>by cases h)
     |zero=>
      cases ys with
      |cons y2 ys=>exact absurd h (by rw [show rY [t] x 0 (⟨u,y⟩::y2::ys)=none from rfl];exact fun h=>by cases h)
      |nil=>
       have h':qT u t y=some x':=h;cases vs with
       |cons _ _=>exact hy.2.elim
       |nil=>exact ⟨⟨v,by simp,ft h' hy.1⟩,.inr (by simp)⟩
    |cons t2 ts=>
     obtain ⟨⟨v0,hv0,hr0⟩,hrs⟩:=hr;cases c with
     |zero=>
      have h':(match qT u t y with
       |some z=>match rY (t2::ts) x.2 0 ys with
        |some w=>some ((z,w):Elts (t::t2::ts))
        |none=>none
       |none=>none)=some x':=h
      cases hc:qT u t y with
      |none=>rw [hc] at h';cases h'
      |some z=>
       rw [hc] at h';cases hs:rY (t2::ts) x.2 0 ys with
       |none=>rw [hs] at h';cases h'
       |some w=>
        rw [hs] at h';injection h' with h';subst h';obtain ⟨h1,h2⟩:=ih x.2 0 ys w hs vs _ hy.2 hrs;refine ⟨⟨⟨v,by simp,ft hc hy.1⟩,RdE.mono (Hp.le.refl H) _ w _ _ (fun i v' hv'=> ?_) h1⟩,.inr ?_⟩
        ·show (if 0≤i+1∧i+1<0+(v::vs).length then (v::vs)[i+1 - 0]? else f (i+1))=some v';by_cases hi:0≤i∧i<0+vs.length
         ·rw [y0 hi] at hv';rw [y0 (by simp only [yp];omega)];simpa using hv'
         ·rw [y9 hi] at hv';rw [y9 (by simp only [yp];omega)];exact hv'
        ·rcases h2 with rfl|h2
         ·simp
         ·simp only [yp] at h2 ⊢;omega
     |succ c=>
      have h':(match rY (t2::ts) x.2 c (⟨u,y⟩::ys) with
       |some w=>some ((x.1,w):Elts (t::t2::ts))
       |none=>none)=some x':=h
      cases hs:rY (t2::ts) x.2 c (⟨u,y⟩::ys) with
      |none=>rw [hs] at h';cases h'
      |some w=>
       rw [hs] at h';injection h' with h';subst h';obtain ⟨h1,h2⟩:=ih x.2 c (⟨u,y⟩::ys) w hs (v::vs) _ hy hrs;refine ⟨⟨⟨v0,by simpa using hv0,hr0⟩,RdE.mono (Hp.le.refl H) _ w _ _ (fun i v' hv'=> ?_) h1⟩,.inr ?_⟩
       ·show (if c+1≤i+1∧i+1<c+1+(v::vs).length then (v::vs)[i+1 - (c+1)]? else f (i+1))=some v';by_cases hi:c≤i∧i<c+(v::vs).length
        ·rw [y0 hi] at hv';rw [y0 (by simp only [yp] at hi ⊢;omega),show i+1 - (c+1)=i - c by omega];exact hv'
        ·rw [y9 hi] at hv';rw [y9 (by simp only [yp] at hi ⊢;omega)];exact hv'
       ·rcases h2 with h2|h2
        ·cases h2
        ·simp only [yp] at h2 ⊢;omega
theorem Rel.y2_ (h:Rel P w0 yu H0 s a w G) {q e:Nat} {ts:List Ty} {xs:List (Elts ts)} (hq:look s.o q=some (.root true e ts xs)) {i c:Nat} (hi:i<xs.length) {x x':Elts ts} {ys:List (Sigma El)} {vs:List Value}
  (hx:xs[i]? =some x) (hs:rY ts x c ys=some x') (hy:RdS G.H ys vs) (h1: ∀ v∈vs,v.oneCell'=true) (hne:vs≠[]):
  Rel P w0 yu H0 (s.set q (.root true e ts (xs.set i x'))) a (w.setCells (G.g q).1 (i*ts.length+c) vs) G∧
  (∀ j,j<vs.length→(w.cell? ⟨(G.g q).1,i*ts.length+c+j,none⟩).isSome=true∧w.frozen? ⟨(G.g q).1,i*ts.length+c+j,none⟩=false):=by
 obtain ⟨hsz,hpos,cells,hown,hone,hblk,hrd⟩:=h.objs q _ hq;rcases hown.2 with ⟨_,hn⟩|⟨g,cap,cur,hv,_,hh,hcap,hmax,hcs,htk⟩
 ·omega
 have hg:g=(G.g q).1:=hblk g (by simp [hv,Value.ownBlock]);subst hg;obtain ⟨hE,hfit⟩:=Mt (H:=G.H) ts x c ys x' hs vs _ hy (hrd i x hx);have hfit':c+vs.length≤ts.length:=hfit.resolve_left hne;have hi1:(i+1)*ts.length≤xs.length*ts.length:=wS _ hi;rw [Vq,eV] at hi1;have hn2:xs.length*ts.length≤cap*ts.length:=wS _ hcap;have hbound:i*ts.length+c+vs.length≤cur.size:=by omega
 have hin: ∀ j,j<vs.length→(w.cell? ⟨(G.g q).1,i*ts.length+c+j,none⟩).isSome=true∧w.frozen? ⟨(G.g q).1,i*ts.length+c+j,none⟩=false:=by
  intro j hj;constructor
  ·rw [cell_of_row w _ _ cur e (0,0) hh];have hlt:i*ts.length+c+j<cur.size:=by omega
   simp [hlt]
  ·simp [World.frozen?,hh]
 refine ⟨?_,hin⟩;obtain ⟨e1,e2,e3,e4⟩:=eZ (G.g q).1 vs (i*ts.length+c) w;have hbq:zS G q (.root true e ts xs) (G.g q).1:=by simp [zS,hv,Value.ownBlock]
 have h2:=(h.gone q).heap (w':=w.setCells (G.g q).1 (i*ts.length+c) vs) e1 e2 e3 (by omega) (fun k hk=>by
  by_cases hkb:k=(G.g q).1
  ·subst hkb;exact .inr (V6 h hq hbq)
  ·exact .inl (cT _ _ _ _ _ hkb))
 have hh':=nj (G.g q).1 vs (i*ts.length+c) w cur hh;have hget:=fun j=>dV vs cur (i*ts.length+c) j hbound;have hold: ∀ m,m<xs.length*ts.length→cells[m]? =cur[m]? :=by intro m hm;rw [← htk,Vp,y0 hm];simp
 have hnew: ∀ m,m<xs.length*ts.length→((J2 cur (i*ts.length+c) vs).toList.take (xs.length*ts.length))[m]? =if i*ts.length+c≤m∧m<i*ts.length+c+vs.length then vs[m - (i*ts.length+c)]? else cells[m]? :=by intro m hm;rw [Vp,y0 hm,hold m hm,cK,hget m]
 have h3:=h2.set (i:=q) (ob:= .root true e ts (xs.set i x')) (by
  refine ⟨by rw [Yt];exact hsz,hpos,(J2 cur (i*ts.length+c) vs).toList.take (xs.length*ts.length),⟨?_,.inr ⟨(G.g q).1,cap,J2 cur (i*ts.length+c) vs,by rw [Yt];exact hv,gd _,hh',by rw [Yt];exact hcap,hmax,by rw [Vu];exact hcs,by rw [Yt]⟩⟩,fun u hu=> ?_,hblk,fun j y hj=> ?_⟩
  ·simp [Vu,Yt];omega
  ·obtain ⟨m,hm⟩:=uG.1 hu;have hml:m<xs.length*ts.length:=by
    have:=(ZF.1 hm).1;rw [Za] at this;omega
   rw [hnew m hml] at hm;split at hm
   ·exact h1 u (aF hm)
   ·exact hone u (aF hm)
  ·have hjl:j<xs.length:=by
    have:=(ZF.1 hj).1
    rwa [Yt] at this
   have hj1:(j+1)*ts.length≤xs.length*ts.length:=wS _ hjl;rw [Vq,eV] at hj1;by_cases hji:j=i
   ·subst hji;rw [nM hi] at hj;injection hj with hj;subst hj;refine RdE.ext ts x' _ _ (fun m v hm hv=> ?_) hE;rw [hnew _ (by omega)];by_cases hc:c≤m∧m<c+vs.length
    ·have hv':(if c≤m∧m<c+vs.length then vs[m - c]? else cells[j*ts.length+m]?)=some v:=hv;rw [y0 hc] at hv';rw [y0 (by omega),show j*ts.length+m - (j*ts.length+c)=m - c by omega];exact hv'
    ·have hv':(if c≤m∧m<c+vs.length then vs[m - c]? else cells[j*ts.length+m]?)=some v:=hv;rw [y9 hc] at hv';rw [y9 (by omega)];exact hv'
   ·rw [eQ (fun e=>hji e.symm)] at hj;refine RdE.ext ts y _ _ (fun m v hm hv=> ?_) (hrd j y hj);rw [hnew _ (by omega),y9 ?_]
    ·exact hv
    ·intro hc;rcases Nat.lt_or_gt_of_ne hji with hlt|hlt
     ·have:(j+1)*ts.length≤i*ts.length:=wS _ hlt;rw [Vq,eV] at this;omega
     ·have:(i+1)*ts.length≤j*ts.length:=wS _ hlt;rw [Vq,eV] at this;omega) (fun k hk=> ?_)
 ·rw [St.set_set] at h3;exact h3
 ·have hk':(G.g q).1=k:=by simpa [zS,hv,Value.ownBlock] using hk
  subst hk';obtain ⟨f1,f2,f3⟩:=V6 h hq hbq;exact ⟨f1,f2,fun j oj _ hj=>f3 j oj hj⟩
theorem Uf (hT:Jl C P) (h:Rel P w0 yu H0 s a w G) (hK:Next P w0 yu H0 s o k r K) (hlk:dS lk s) {t:Nat} {p x:Operand} (hop:o.op= .store t p x) (he:Yg C call ct wn o s.Yw lk k=some r):o.wp P a w K Q:=by
 have hp:=h.Yw p;have hx:=h.Yw x;simp only [Yg,hop] at he;cases ht:C.info t with
 |none=>simp [ht] at he
 |some ti=>
  simp only [ht] at he;cases hb:Nat.beq (s.Yw x).cells.length ti.ts.length with
  |false=>simp [hb] at he
  |true=>
   simp only [hb,yg] at he;have hbl:=zo hb;cases hpa:s.Yw p with
   |box b off=>
    rw [hpa] at hp he;simp only [EA] at he;cases hl:lk b with
    |none=>simp [hl] at he
    |some ob=>
     cases ob with
     |box cs=>
      simp only [hl] at he;cases hs:jJ cs off (s.Yw x).cells with
      |none=>simp [hs] at he
      |some cs'=>
       simp only [hs] at he;cases h1:km (s.Yw x).cells with
       |false=>simp [h1] at he
       |true=>
        simp only [h1,yg] at he;have hlr:=fq h1 hx;have hone:=fo h1 hlr;obtain ⟨hrel,hin⟩:=h.ybw (hlk b _ hl) hs hlr hone;refine wp_skip (w':=w.setCells (G.g b).1 ((G.g b).2+off) (a.eval x).cells.toList) ?_ (hK _ _ _ G he ?_)
        ·have:=CS (P:=P) hT ht (G.g b).1 ((G.g b).2+off) (a.eval x) (by rw [← hlr.length];exact hbl) hin hone;simp [execOp,hop,show a.eval p=_ from hp,this]
        ·exact hrel.put o.dst (x:= .dead) trivial
     |_=>simp [hl] at he
   |lj q i c=>
    rw [hpa] at hp he;simp only [EA] at he;cases hl:lk q with
    |none=>simp [hl] at he
    |some ob=>
     cases ob with
     |root own e ts xs=>
      cases own with
      |false=>simp [hl] at he
      |true=>
       simp only [hl] at he;cases hts:ib lk ts c (s.Yw x).cells with
       |none=>simp [hts] at he
       |some q2=>
        obtain ⟨ys,is⟩:=q2;simp only [hts] at he;cases hse:rY ts (Cn ts xs i) c ys with
        |none=>simp [hse] at he
        |some x'=>
         simp only [hse] at he;cases hm:Jj is q with
         |true=>simp [hm] at he
         |false=>
          simp only [hm,yi] at he;obtain ⟨G1,hg1,hr1,hset⟩:=h.settles hlk.rows is;have hq1:look (s.yB (settles lk is)).o q=some (.root true e ts xs):=by rw [jN _ _ (oK lk is hm)];exact hlk q _ hl
          obtain ⟨hsz,hpos,_,_⟩:=cS h (hlk q _ hl);obtain ⟨hpv,hlt⟩:=hp;rw [hsz] at hlt hpv;have hlt':i.toNat<xs.length:=hlt;have hxi:xs[i.toNat]? =some (Cn ts xs i):=by simp [Cn,hlt']
          have h1:km (s.Yw x).cells=true:=y2Z ts c _ ys is hts;have hlr:=fq h1 hx;have hone:=fo h1 hlr;have hyr:=Gy ts c _ ys is hts hset _ (hlr.grown hg1);have hne:(a.eval x).cells.toList≠[]:=by intro e0;have:=hlr.length;rw [hbl,e0] at this;obtain ⟨_,_,_,_,_,_,_,hp0,_⟩:=hT.info t ti ht;rw [this] at hp0;exact absurd hp0 (Nat.lt_irrefl 0)
          obtain ⟨hrel,hin⟩:=hr1.y2_ hq1 hlt' hxi hse hyr hone hne;rw [hg1.g] at hrel hin;refine wp_skip (w':=w.setCells (G.g q).1 (i.toNat*ts.length+c) (a.eval x).cells.toList) ?_ (hK _ _ _ G1 he ?_)
          ·have:=CS (P:=P) hT ht (G.g q).1 (i.toNat*ts.length+c) (a.eval x) (by rw [← hlr.length];exact hbl) hin hone;simp [execOp,hop,show a.eval p=_ from hpv,this]
          ·have:=hrel.put o.dst (x:= .dead) (v:=undef) trivial;simpa [St.apply,St.makeAll,St.Qx,St.yB] using this
     |_=>simp [hl] at he
   |_=>simp [hpa,EA] at he
end
section
variable {P:Program} {C:Ctx} {w0:World} {yu:Nat→Prop} {H0:Base} {s:St} {a:Act} {w:World} {G:Gh} {o:Oper} {K:Act→World→Prop} {Q:Exit→Act→World→Prop} {R:Type} {k:Eff→Option R} {r:R} {lk:Lk} {call:C.Sem} {ct wn:Bool}
theorem yeo (h:Rel P w0 yu H0 s a w G) {lo:Option Operand} {kk:IntKind} {l:Int} (hl:loA s.Yw lo= .val (.int kk) l):y2U (lo.map a.eval) l:=by
 cases lo with
 |none=>simp only [loA,hiA] at hl;injection hl with h1 h2;injection h1 with h1;subst h1;exact .inl ⟨rfl,h2.symm⟩
 |some x=>have hx:=h.Yw x;have hl':s.Yw x= .val (.int kk) l:=hl;rw [hl'] at hx;exact .inr ⟨kk,by rw [nO,show a.eval x= .int kk l from hx]⟩
theorem NX (h:Rel P w0 yu H0 s a w G) {hi:Option Operand} {kk:IntKind} {m:Int} {n:Int} {len:Nat} (hn:n=len) (hl:hiA s.Yw hi n= .val (.int kk) m):y2V (hi.map a.eval) m len:=by
 cases hi with
 |none=>simp only [loA,hiA] at hl;injection hl with h1 h2;injection h1 with h1;subst h1;exact .inl ⟨rfl,by rw [← hn];exact h2.symm⟩
 |some x=>have hx:=h.Yw x;have hl':s.Yw x= .val (.int kk) m:=hl;rw [hl'] at hx;exact .inr ⟨kk,by rw [nO,show a.eval x= .int kk m from hx]⟩
theorem Qy (s:St) {q d:Nat} (hne:q≠d) (ob:Ob):(s.set q .gone).make d ob=(s.make d ob).set q .gone:=by
 have key: ∀ l:List (Nat×Ob),YJ d (Wg l q .gone)=Wg (YJ d l) q .gone:=by
  intro l;induction l with
  |nil=>rfl
  |cons p l ih=>
   obtain ⟨j,x⟩:=p;by_cases hj:j=q
   ·subst hj;simp [Wg,YJ,yH,yO hne,Ob.forget]
   ·by_cases hd:j=d
    ·subst hd;simp [Wg,YJ,yH,yO hj,ih]
    ·simp [Wg,YJ,yO hj,yO hd,ih]
 simp [St.set,St.make,key,Wg,yO (fun e:d=q=>hne e.symm)]
theorem Ug (hT:Jl C P) (h:Rel P w0 yu H0 s a w G) (hK:Next P w0 yu H0 s o k r K) (hout:Out o) (hlk:dS lk s) {t:Nat} {x:Operand} {lo hi:Option Operand} (hop:o.op= .slice t x lo hi none) (he:Yg C call ct wn o s.Yw lk k=some r):o.wp P a w K Q:=by
 have hx:=h.Yw x;simp only [Yg,hop] at he;split at he
 ·rename_i l0 k1 l hlo;have Mu:=yeo h hlo;split at he
  ·rename_i n hn;split at he
   ·rename_i k2 m hhi;split at he
    ·rename_i h0;split at he
     ·rename_i h1;split at he
      ·rename_i h2;split at he
       ·rename_i b xv ht hxa;rw [hxa] at hx hn;have hnn:n=(ByteArray.size xv:Nat):=by have:=hn;simp only [r_,z8] at this;exact this.symm
        subst hnn;have Cr:=NX h rfl hhi;refine quiet h hK he (v:= .string (ByteArray.extract xv (Int.toNat l) (Int.toNat m))) ?_ rfl;simp only [execOp,hop,nP];rw [show a.eval x= .string xv from hx,Sem.run_bind,Sj hT ht xv Mu Cr h0 h1 h2];rfl
       ·rename_i e2 us b e ts xs ht hxa;rw [hxa] at hx hn;have hnn:n=(List.length xs:Nat):=by have:=hn;simp only [r_,n8,z8] at this;exact this.symm
        subst hnn;have Cr:=NX h rfl hhi;cases hb:Nat.beq us.length ts.length with
        |false=>simp [hb] at he
        |true=>simp only [hb,yg] at he;have hx':RdT G.H (.sl e ts) xs (a.eval x):=hx;obtain ⟨A,c,hv,hc,hm,hrd⟩:=id hx';rw [hv] at hx';have hcut:=U7 hx' (l:=Int.toNat l) (h:=Int.toNat m) (by omega) (by omega);refine quiet h hK he ?_ hcut;simp only [execOp,hop,nP];rw [hv,Sem.run_bind,cG hT ht A _ c Mu Cr h0 h1 h2 hc,zo hb];rfl
       ·rename_i e2 us b e ts xs ht hxa;rw [hxa] at hx hn;have hnn:n=(List.length xs:Nat):=by have:=hn;simp only [r_,n8,z8] at this;exact this.symm
        subst hnn;have Cr:=NX h rfl hhi;cases hb:Nat.beq us.length ts.length with
        |false=>simp [hb] at he
        |true=>simp only [hb,yg] at he;have hx':NQ G.H G.pv ts xs (a.eval x):=hx;obtain ⟨A,c,hv,hc,hm,hrd⟩:=id hx';rw [hv] at hx';have hcut:=NU hx' (l:=Int.toNat l) (h:=Int.toNat m) (by omega) (by omega);refine quiet h hK he ?_ hcut;simp only [execOp,hop,nP];rw [hv,Sem.run_bind,cG hT ht A _ c Mu Cr h0 h1 h2 hc,zo hb];rfl
       ·rename_i e2 us b q ht hxa;rw [hxa] at hx hn;cases hq:lk q with
        |none=>simp [hq] at he
        |some ob=>
         cases ob with
         |root own e ts xs=>
          simp only [hq] at he;have hnn:n=(List.length xs:Nat):=by have:=hn;simp only [r_,n8,hq,z8] at this;exact this.symm
          subst hnn;have Cr:=NX h rfl hhi;cases hb:Nat.beq us.length ts.length with
          |false=>simp [hb] at he
          |true=>
           simp only [hb,yg] at he;obtain ⟨_,_,⟨A,c,hsv,hc,hm,_⟩,_⟩:=cS h (hlk q _ hq);cases Gz:ct&&own&&EB lo with
           |true=>
            simp only [Gz,yg] at he;simp only [zzal10] at Gz;cases hd:o.dst with
            |none=>simp [hd] at he
            |some d=>
             simp only [hd] at he;cases EL:Nat.beq q d with
             |true=>simp [EL] at he
             |false=>
              simp only [EL,yi] at he;have hqd:q≠d:=fun e=>by subst e;rw [yH] at EL;cases EL
              have hown1:own=true:=Gz.1.2;subst hown1;have hl0:Int.toNat l=0:=by
               cases lo with
               |none=>simp only [loA] at hlo;cases hlo;rfl
               |some _=>simp [EB] at Gz
              have hlq:=hlk q _ hq;obtain ⟨_,hpos,cells,hown,hone,hblk,hrd⟩:=h.objs q _ hlq;have ie:=h.gone q;have hfree: ∀ k,(G.sv q).ownBlock=some k→Free w0 yu (s.set q .gone) G k:=fun k hk=>V6 h hlq hk;have hmn:Int.toNat m≤xs.length:=by omega
              have hlen:(xs.take (Int.toNat m)).length=Int.toNat m:=by rw [Za];omega
              have hrow:w.ownsRow 0 e ts.length (.slice (if c=Int.toNat l then A else A.map (·.add (Int.toNat l*ts.length))) (Int.toNat m - Int.toNat l) (c - Int.toNat l)) (xs.take (Int.toNat m)).length (cells.take (Int.toNat m*ts.length))∧
                ∀ k,(Value.slice (if c=Int.toNat l then A else A.map (·.add (Int.toNat l*ts.length))) (Int.toNat m - Int.toNat l) (c - Int.toNat l)).ownBlock=some k→(G.sv q).ownBlock=some k:=by
               rw [hlen,hl0];have hmm:Int.toNat m*ts.length≤xs.length*ts.length:=wS _ hmn;have hcl:=hown.1;rcases hown.2 with ⟨hv,hn0⟩|⟨g,cap,cur,hv,hb0,hg,hnc,hcm,hcs,htk⟩
               ·rw [hsv] at hv;injection hv with hA _ hc0;subst hA hc0;have hm0:Int.toNat m=0:=by omega
                rw [hm0];refine ⟨⟨by simp,.inl ⟨by simp,rfl⟩⟩,fun k hk=> ?_⟩;simp [Value.ownBlock] at hk
               ·rw [hsv] at hv;injection hv with hA _ hc0;subst hA hc0;have hadd:(if c=0 then (some (⟨g,0,none⟩:Addr)) else (some (⟨g,0,none⟩:Addr)).map (·.add (0*ts.length)))=some ⟨g,0,none⟩:=by
                 split
                 ·rfl
                 ·simp [Addr.add]
                rw [hadd];refine ⟨⟨by rw [Za];omega,.inr ⟨g,c,cur,by simp,hb0,hg,by omega,hcm,hcs,?_⟩⟩,fun k hk=>by rw [hsv];exact hk⟩;rw [← htk,Ey,Ex hmm]
              obtain ⟨G',_,hrel,hra⟩:=ie.dU d (H0.none (hout d hd)) (e:=e) (ts:=ts) (xs:=xs.take (Int.toNat m)) (w':=w) rfl rfl rfl (jk _) (fun k _=> .inl rfl) hpos hrow.1 (fun u hu=>hone u (lr hu)) (fun k hk=>hfree k (hrow.2 k hk))
               (fun j x hx=>by
                have hj:j<Int.toNat m:=by have:=(ZF.1 hx).1;rw [hlen] at this;exact this
                rw [Vp,y0 hj] at hx;refine RdE.ext ts x _ _ (fun k v hk hv=> ?_) (hrd j x hx);have hjm:j*ts.length+k<Int.toNat m*ts.length:=by have:=wS ts.length (show j+1≤Int.toNat m by omega);rw [Vq] at this;omega
                rw [Vp,y0 hjm];exact hv)
              refine jM (v:= .slice (if c=Int.toNat l then A else A.map (·.add (Int.toNat l*ts.length))) (Int.toNat m - Int.toNat l) (c - Int.toNat l)) (w':=w) ?_ (hK _ _ _ G' he ?_)
              ·simp only [execOp,hop,nP];rw [hx.1,hsv,Sem.run_bind,cG hT ht A _ c Mu Cr h0 h1 h2 hc,zo hb];rfl
              ·have:=hrel.put o.dst hra;rw [Qy s hqd,hd] at this;simpa [St.apply,St.makeAll,St.yB,hd] using this
           |false=>
           simp only [Gz,yi] at he;cases hwin:wn&&own&&EB lo with
           |true=>
            simp only [hwin,yg] at he;simp only [zzal10] at hwin;have hl0:Int.toNat l=0:=by
             cases lo with
             |none=>simp only [loA] at hlo;cases hlo;rfl
             |some _=>simp [EB] at hwin
            have hadd:(if c=0 then A else A.map (·.add (0*ts.length)))=A:=by
             split
             ·rfl
             ·rw [Nat.zero_mul];cases A<;>rfl
            have hrun:=cG (P:=P) (w:=w) hT ht A (List.length xs) c Mu Cr h0 h1 h2 hc;refine quiet h hK he (v:= .slice A (Int.toNat m) c) ?_ ⟨A,_,c,hsv,rfl,by omega⟩;simp only [execOp,hop,nP];rw [hx.1,hsv,Sem.run_bind,hrun,zo hb,hl0,hadd,Nat.sub_zero,Nat.sub_zero];rfl
           |false=>
           simp only [hwin,yi] at he;cases htl:wn&&own&&EB hi with
           |true=>
            simp only [htl,yg] at he;simp only [zzal10] at htl;have hm0:Int.toNat m=List.length xs:=by
             cases hi with
             |none=>simp only [hiA] at hhi;cases hhi;exact g8 _
             |some _=>simp [EB] at htl
            have yk3:(G.sz q).1=ts.length:=by
             have:=h.objs q _ (hlk q _ hq);cases own with
             |true=>exact congrArg Prod.fst this.1
             |false=>exact congrArg Prod.fst this.1
            have hrun:=cG (P:=P) (w:=w) hT ht A (List.length xs) c Mu Cr h0 h1 h2 hc;refine quiet h hK he (v:= .slice (if c=Int.toNat l then A else A.map (·.add (Int.toNat l*(G.sz q).1))) (List.length xs - Int.toNat l) (c - Int.toNat l)) ?_ ⟨A,_,c,hsv,by omega,rfl⟩;simp only [execOp,hop,nP];rw [hx.1,hsv,Sem.run_bind,hrun,zo hb,hm0,yk3];rfl
           |false=>
           simp only [htl,yi] at he;have hset: ∃ G1,Grown G G1∧Rel P w0 yu H0 (s.yB (bif own then [(q,.root false e ts xs)] else [])) a w G1∧RdT G1.H (.sl e ts) xs (G1.sv q):=by
            cases own with
            |true=>obtain ⟨G1,hg1,hr1,hrd⟩:=h.settle (hlk q _ hq);exact ⟨G1,hg1,by simpa [St.yB] using hr1,hrd⟩
            |false=>exact ⟨G,Grown.refl G,by simpa [St.yB] using h,(h.objs q _ (hlk q _ hq)).2.2.1⟩
           obtain ⟨G1,hg1,hr1,hrd⟩:=hset;rw [hg1.sv,hsv] at hrd;have hcut:=U7 hrd (l:=Int.toNat l) (h:=Int.toNat m) (by omega) (by omega);refine jM (v:= .slice (if c=Int.toNat l then A else A.map (·.add (Int.toNat l*ts.length))) (Int.toNat m - Int.toNat l) (c - Int.toNat l)) (w':=w) ?_ (hK _ _ _ G1 he ?_)
           ·simp only [execOp,hop,nP];rw [hx.1,hsv,Sem.run_bind,cG hT ht A _ c Mu Cr h0 h1 h2 hc,zo hb];rfl
           ·have:=hr1.put o.dst (x:= .val (.sl e ts) ((xs.take (Int.toNat m)).drop (Int.toNat l))) hcut;simpa [St.apply,St.makeAll] using this
         |_=>simp [hq] at he
       ·cases he
      ·cases he
     ·cases he
    ·cases he
   ·cases he
  ·cases he
 ·cases he
theorem ybz (h:Rel P w0 yu H0 s a w G) (hK:Next P w0 yu H0 s o k r K) {c:Call} {x y:Operand} (hop:o.op= .call c) (hc:c.callee= .builtin .min) (hx:c.args.toList=[x,y]) (he:Yg C call ct wn o s.Yw lk k=some r):o.wp P a w K Q:=by
 have h1:=h.Yw x;have h2:=h.Yw y;simp only [Yg,hop,hc,hx] at he;split at he
 ·rename_i k1 n k2 m hxa hya;rw [hxa] at h1;rw [hya] at h2;split at he
  ·rename_i hk;subst hk;refine quiet h hK he (v:= .int k1 (if (show Int from m)<(show Int from n) then m else n)) ?_ rfl;have e1:c.args= #[x,y]:=by rw [← cJ (xs:=c.args),hx]
   simp [execOp,hop,resolve,hc,invoke,builtin,e1,Builtin.min_,Builtin.min2,show a.eval x= .int k1 n from h1,show a.eval y= .int k1 m from h2]
  ·cases he
 ·cases he
end
section
variable {P:Program} {C:Ctx} {w0:World} {yu:Nat→Prop} {H0:Base} {s:St} {a:Act} {w:World} {G:Gh} {o:Oper} {K:Act→World→Prop} {Q:Exit→Act→World→Prop} {R:Type} {k:Eff→Option R} {r:R} {lk:Lk} {call:C.Sem} {ct wn:Bool}
theorem fu {ts ts':List Ty} {xs:List (Elts ts)} {ys:List (Elts ts')} (h:na ts ts' xs=some ys): ∃ e:ts=ts',ys=e ▸ xs:=by
 unfold na at h;split at h
 ·rename_i he;exact ⟨Ty.mw ts ts' he,by injection h with h;exact h.symm⟩
 ·cases h
theorem Uh {H:Hp}: ∀ (ts:List Ty) (x:Elts ts) (f:Nat→Option Value),RdE H ts x f→ ∀ k,k<ts.length→ ∃ v,f k=some v∧v.oneCell'=true:=by
 intro ts x f h k hk;have hk':k<(cellsE ts x).length:=by rw [Qw];exact hk
 obtain ⟨v,hv,h1,_⟩:=uR ts x f h k _ (WX hk');exact ⟨v,hv,h1⟩
theorem mB (h:Rel P w0 yu H0 s a w G) (hlk:dS lk s) {ts:List Ty} {x:A} {ys:List (Elts ts)} (hx:rowOf lk ts x=some ys) {u:Value} (hu:RA G x u):
  ∃ A c,u= .slice A ys.length c∧ys.length≤9223372036854775807∧(0<ys.length→ ∃ ad:Addr,A=some ad∧ ∀ (j:Nat) (y:Elts ts),ys[j]? =some y→RdE G.H ts y (fun k=>if k<ts.length then w.cell? (ad.add (j*ts.length+k)) else none)):=by
 cases x with
 |JX=>
  have:([]:List (Elts ts))=ys:=by simpa [rowOf] using hx
  subst this;exact ⟨none,0,hu,by simp,fun h=>absurd h (by simp)⟩
 |val t xv=>
  cases t with
  |sl e ts'=>
   have hx':na ts' ts xv=some ys:=by simpa [rowOf,n8] using hx
   obtain ⟨e1,rfl⟩:=fu hx';subst e1;obtain ⟨A,c,hv,hc,hm,hr⟩:=hu;refine ⟨A,c,hv,hm,fun hp=> ?_⟩;obtain ⟨ad,ea,hrd⟩:=hr hp;exact ⟨ad,ea,fun j y hy=>RdE.ext ts' y _ _ (fun k v hk hv=>by rw [y0 hk];exact cP h.uQ hv) (hrd j y hy)⟩
  |_=>simp [rowOf,n8] at hx
 |top e ts' xv=>
  have hx':na ts' ts xv=some ys:=by simpa [rowOf,n8] using hx
  obtain ⟨e1,rfl⟩:=fu hx';subst e1;obtain ⟨A,c,hv,hc,hm,hr⟩:=hu;refine ⟨A,c,hv,hm,fun hp=> ?_⟩;obtain ⟨ad,ea,hrd⟩:=hr hp;exact ⟨ad,ea,fun j y hy=>RdE.ext ts' y _ _ (fun k v hk hv=>by rw [y0 hk];refine cP (H':=heapOf w) (fun b ob hb=> ?_) hv;rw [h.pv] at hb;obtain ⟨t1,t2,t3⟩:=h.top b ob hb;exact (h.old b t1 t2).trans t3) (hrd j y hy)⟩
 |own q=>
  cases hq:lk q with
  |none=>simp [rowOf,n8,hq] at hx
  |some ob=>
   cases ob with
   |root own e ts' xs=>
    have hx':na ts' ts xs=some ys:=by simpa [rowOf,n8,hq] using hx
    obtain ⟨e1,rfl⟩:=fu hx';subst e1;obtain ⟨_,_,⟨A,c,hsv,hc,hm,hA⟩,hrd⟩:=cS h (hlk q _ hq);refine ⟨A,c,hu.1.trans hsv,hm,fun hp=>⟨_,hA hp,fun j y hy=> ?_⟩⟩;have:=hrd j y hy;simp only [add_plain];exact this
   |_=>simp [rowOf,n8,hq] at hx
 |_=>simp [rowOf,n8] at hx
theorem Mv {H:Hp} {ts:List Ty} {ys:List (Elts ts)} {f:Nat→Option Value} (hpos:0<ts.length) (hr: ∀ (j:Nat) (y:Elts ts),ys[j]? =some y→RdE H ts y (fun k=>if k<ts.length then f (j*ts.length+k) else none)):
  ∃ news:List Value,news.length=ys.length*ts.length∧(∀ j u,news[j]? =some u→f j=some u)∧(∀ u∈news,u.oneCell'=true)∧ ∀ (j:Nat) (y:Elts ts),ys[j]? =some y→RdE H ts y (fun k=>news[j*ts.length+k]?):=by
 have hcell: ∀ i,i<ys.length*ts.length→ ∃ v,f i=some v∧v.oneCell'=true:=by intro i hi;have hj:i / ts.length<ys.length:=Nat.div_lt_of_lt_mul (by rw [Nat.mul_comm];exact hi);obtain ⟨v,hv,h1⟩:=Uh ts _ _ (hr (i / ts.length) _ (WX hj)) (i % ts.length) (Nat.mod_lt _ hpos);rw [y0 (Nat.mod_lt _ hpos),show i / ts.length*ts.length+i % ts.length=i by rw [Nat.mul_comm];exact Nat.div_add_mod i ts.length] at hv;exact ⟨v,hv,h1⟩
 refine ⟨(List.range (ys.length*ts.length)).map fun i=>(f i).getD undef,by simp,fun j u hu=> ?_,fun u hu=> ?_,fun j y hy=> ?_⟩
 ·rw [cM] at hu;obtain ⟨i,hi,rfl⟩:=Ys.1 hu;have hlt:=(ZF.1 hi).1;have:j=i:=by simpa [List.getElem?_range (by simpa using hlt)] using hi
  subst this;obtain ⟨v,hv,_⟩:=hcell j (by simpa using hlt);rw [hv];rfl
 ·obtain ⟨i,hi,rfl⟩:=eU.1 hu;obtain ⟨v,hv,h1⟩:=hcell i (by simpa using hi);rw [hv];exact h1
 ·have hjl:=(ZF.1 hy).1;have hj1:(j+1)*ts.length≤ys.length*ts.length:=wS _ hjl;rw [Vq,eV] at hj1;refine RdE.ext ts y _ _ (fun k v hk hv=> ?_) (hr j y hy);rw [y0 hk] at hv;rw [cM,List.getElem?_range (by omega),nO,hv];rfl
theorem GA (t ty e:TypeId) (i:TypeInfo) (size c:Nat) (ht:P.underlying t=some (.slice e)) (hi:P.info? e=some i)
  (v:Value) (n:Nat) (xs:List Value) (hown:w.ownsRow 0 e size v n xs):
  (Builtin.append_ #[t,t] ty #[v,.slice none 0 c]).run P w= .ok v w:=by
 rcases hown.2 with ⟨rfl,rfl⟩|⟨g,cap,cur,rfl,_,_,hnc,_⟩
 ·simp [Builtin.append_,run_underlying ht,sizeOf,typeInfo,hi,Builtin.lenOf,Builtin.firstCells]
 ·simp [Builtin.append_,run_underlying ht,sizeOf,typeInfo,hi,Builtin.lenOf,Builtin.firstCells,hnc,storeCells]
theorem gn (hT:Jl C P) {t e b ty:Nat} {ts:List Ty} (ht:C.info t=some (.c (.sl e ts) b)) {te:TI} (hte:C.info e=some te) {xs ys:List (Elts ts)} {H:Hp} (hpos:0<ts.length) {v u:Value} {cells:List Value} (hown:w.ownsRow 0 e ts.length v xs.length cells)
  (hone: ∀ u∈cells,u.oneCell'=true) (hrd: ∀ (j:Nat) (x:Elts ts),xs[j]? =some x→RdE H ts x (fun k=>cells[j*ts.length+k]?))
  {A:Option Addr} {c:Nat} (hu:u= .slice A ys.length c) (hy:0<ys.length→ ∃ ad:Addr,A=some ad∧ ∀ (j:Nat) (y:Elts ts),ys[j]? =some y→RdE H ts y (fun k=>if k<ts.length then w.cell? (ad.add (j*ts.length+k)) else none))
  (hsize:(xs.length+ys.length)*te.bytes<140737488355328):
  ∃ v' w' cells',(Builtin.append_ #[t,t] ty #[v,u]).run P w= .ok v' w'∧w'.ownsRow 0 e ts.length v' (xs++ys).length cells'∧w.grownBy w' v.ownBlock∧(v'.ownBlock=v.ownBlock∨v'.ownBlock=some w.heap.size)∧
   (∀ u∈cells',u.oneCell'=true)∧ ∀ (j:Nat) (x:Elts ts),(xs++ys)[j]? =some x→RdE H ts x (fun k=>cells'[j*ts.length+k]?):=by
 obtain ⟨D,hD,rfl,te',nV,hts⟩:=hT.und t _ ht;rw [hte] at nV;injection nV with nV;subst nV;subst hts;obtain ⟨i,z,hi,hs,hby,hz,hzc,hp,hb0⟩:=hT.info e te hte;subst hu;by_cases h0:ys.length=0
 ·have hys:ys=[]:=f_.1 h0;subst hys;cases A with
  |none=>exact ⟨v,w,cells,GA t ty e i te.ts.length c hD hi v xs.length cells hown,by simpa using hown,⟨rfl,rfl,rfl,jk _,fun _ _ _=>rfl⟩,.inl rfl,hone,by simpa using hrd⟩
  |some ad=>
   obtain ⟨v',w',h1,h2,h3,_,h5⟩:=run_append_own_at (P:=P) w 0 t ty e i z te.ts.length te.bytes hD hi hz hs hby (by rw [← jG,hzc];simp) hpos v xs.length cells hown ad 0 c [] (by simp) (by simp) (by simp)
    (by simp only [maxLen];simp only [yr,ga] at hsize;have:=Nat.le_mul_of_pos_right xs.length hb0;omega) (by simpa using Nat.le_of_lt hsize) (gd _)
   exact ⟨v',w',cells,h1,by simpa using h2,h3,h5,hone,by simpa using hrd⟩
 ·obtain ⟨ad,rfl,hyr⟩:=hy (by omega);obtain ⟨news,hnl,hnc,hn1,hnr⟩:=Mv (f:=fun i=>w.cell? (ad.add i)) hpos hyr;have hsz2:=Nat.le_mul_of_pos_right (xs.length+ys.length) hb0;obtain ⟨v',w',h1,h2,h3,_,h5⟩:=run_append_own_at (P:=P) w 0 t ty e i z te.ts.length te.bytes hD hi hz hs hby (by rw [← jG,hzc];simp) hpos v xs.length cells hown ad ys.length c news hnl hnc hn1
   (by simp only [maxLen];omega) (Nat.le_of_lt hsize) (gd _)
  refine ⟨v',w',cells++news,h1,by simpa using h2,h3,h5,fun u hu=> ?_,fun j x hx=> ?_⟩
  ·rcases zB.1 hu with hu|hu
   ·exact hone u hu
   ·exact hn1 u hu
  ·have hcl:cells.length=xs.length*te.ts.length:=hown.1;by_cases hj:j<xs.length
   ·rw [ln hj] at hx;refine RdE.ext te.ts x _ _ (fun k v hk hv=> ?_) (hrd j x hx);rw [ln (by exact (ZF.1 hv).1)];exact hv
   ·rw [lm (by omega)] at hx;have hm:xs.length*te.ts.length≤j*te.ts.length:=wS _ (by omega);refine RdE.ext te.ts x _ _ (fun k v hk hv=> ?_) (hnr _ x hx);rw [lm (by omega),hcl,show j*te.ts.length+k - xs.length*te.ts.length=(j - xs.length)*te.ts.length+k by rw [Nat.sub_mul];omega];exact hv
theorem Mw {t u ty e:TypeId} {i:TypeInfo} {z:Value} (ht:P.underlying t=some (.slice e)) (hu:P.underlying u=some .string) (hi:P.info? e=some i) (hz:i.zero=some z) (hs1:i.size=1) (hb1:i.bytes=1) (hz1:z.cells.size=1)
  {v:Value} {n:Nat} {xs:List Value} (hown:w.ownsRow 0 e 1 v n xs) (s:ByteArray) (hsize:n+s.size<140737488355328):
  ∃ v' w',(Builtin.append_ #[t,u] ty #[v,.string s]).run P w= .ok v' w'∧w'.ownsRow 0 e 1 v' (n+s.size) (xs++Lib.strCells s)∧w.grownBy w' v.ownBlock∧(v'.ownBlock=v.ownBlock∨v'.ownBlock=some w.heap.size):=by
 have hxl:xs.length=n:=by simpa using hown.1
 have hsl:=Lib.strCells_length s;have hlen:(xs++Lib.strCells s).length=(n+s.size)*1:=by rw [yU,hxl,hsl,Nat.mul_one]
 have h63:n+s.size≤maxLen:=by simp only [maxLen];omega
 have fresh: ∀ (old:Nat) (cur:Array Value),old<n+s.size→cur.toList=xs++(Lib.strCells s++(Builtin.zeroCells z.cells (grownCap w (n+s.size) old e - (n+s.size))).toList)→ ∀ (row:Option Nat),
   (w.drew.alloc (.cells cur e)).ownsRow 0 e 1 (.slice (some ⟨w.heap.size,0,none⟩) (n+s.size) (grownCap w (n+s.size) old e)) (n+s.size) (xs++Lib.strCells s)∧w.grownBy (w.drew.alloc (.cells cur e)) row:=by
  intro old cur ho hc row;have hge:=grownCap_ge w (n+s.size) old e;have hcm:grownCap w (n+s.size) old e≤maxLen:=grownCap_le_maxLen w (n+s.size) old e h63;refine ⟨⟨hlen,.inr ⟨w.heap.size,_,_,rfl,gd _,heap_alloc_new w.drew _,hge,hcm,?_,?_⟩⟩,⟨rfl,rfl,rfl,by simp,fun k hk _=>heap_alloc_old w.drew _ k hk⟩⟩
  ·rw [← jG,hc];simp only [yU,jG,size_zeroCells,hz1,hxl,hsl];omega
  ·rw [hc,← jF,← hlen];exact NL
 rcases hown.2 with ⟨rfl,rfl⟩|⟨g,cap,cur,rfl,hbg,hg,hnc,hcm,hcs,htake⟩
 ·have hx:xs=[]:=List.eq_nil_of_length_eq_zero hxl;subst hx;by_cases hm:s.size=0
  ·have hn:Lib.strCells s=[]:=List.eq_nil_of_length_eq_zero (by rw [hsl];exact hm);refine ⟨.slice none 0 0,w,?_,by rw [hm,hn];exact World.ownsRow_nil w 0 e 1,⟨rfl,rfl,rfl,jk _,fun _ _ _=>rfl⟩,.inl rfl⟩;have hf:=Lib.run_firstCells_string (P:=P) w 1 s;rw [hm] at hf;simp [Builtin.append_,run_underlying ht,run_underlying hu,sizeOf,typeInfo,hi,hs1,Builtin.lenOf,hm,hf]
  ·have hr:=run_append_nil_string (P:=P) w t u ty e i z ht hu hi hz s (by omega) (by omega) (by rw [hb1];omega);have hgr:=fresh 0 (s.data.map (fun b=>Value.int .u8 b.toNat)++Builtin.zeroCells z.cells (grownCap w s.size 0 e - s.size)) (by omega) (by simp [Lib.strCells]) (Value.ownBlock (.slice none 0 0));simp only [WY] at hgr ⊢;exact ⟨_,_,hr,hgr.1,hgr.2,.inr rfl⟩
 ·by_cases hroom:n+s.size≤cap
  ·have hcs':cur.size=cap:=by simpa using hcs
   have hr:=Lib.run_append_room_string (P:=P) w t u ty e i ht hu hi hs1 g n cap cur hg s hroom (by omega);refine ⟨_,_,hr,⟨hlen,.inr ⟨g,cap,_,rfl,hbg,setRow_heap w g cur _ e _ hg,hroom,hcm,?_,?_⟩⟩,⟨rfl,rfl,rfl,by simp,fun k _ hk=>setRow_other w g k _ (fun e=>hk (by simp [Value.ownBlock,e]))⟩,.inl rfl⟩
   ·simp only [List.size_toArray,yU,Za,wU,jG,hsl];omega
   ·have ht':cur.toList.take n=xs:=by simpa using htake
    rw [ht',← hlen];exact NL
  ·have hr:=Lib.run_append_grow_string (P:=P) w t u ty e i z ht hu hi hz ⟨g,0,none⟩ n cap xs (by rw [hs1];simpa using hxl) (hown.cells (g:=g) rfl) s (by omega) (by omega) (by rw [hb1];exact growslice_fits (by omega) (by omega));have hgr:=fresh cap (xs.toArray++(Lib.strCells s).toArray++Builtin.zeroCells z.cells (grownCap w (n+s.size) cap e - (n+s.size))) (by omega) (by simp) (Value.ownBlock (.slice (some ⟨g,0,none⟩) n cap));exact ⟨_,_,hr,hgr.1,hgr.2,.inr rfl⟩
def sk (s:ByteArray):List (Elts [.int .u8]):=Z_ s
theorem Qz (x:ByteArray):(sk x).length=x.size:=by show (Z_ x).length=x.size;unfold Z_;rw [wV,jG];rfl
theorem tA (hT:Jl C P) {t e b b1 b2 t2 ty:Nat} (ht:C.info t=some (.c (.sl e [.int .u8]) b)) (hte:C.info e=some (.c (.int .u8) b1)) (hb:b1=1) (ht2:C.info t2=some (.c .str b2)) {xs:List (Elts [.int .u8])} {H:Hp} {v:Value} {cells:List Value} (hown:w.ownsRow 0 e 1 v xs.length cells)
  (hone: ∀ u∈cells,u.oneCell'=true) (hrd: ∀ (j:Nat) (x:Elts [.int .u8]),xs[j]? =some x→RdE H [.int .u8] x (fun k=>cells[j*1+k]?)) (s:ByteArray) (hsize:xs.length+s.size<140737488355328):
  ∃ v' w' cells',(Builtin.append_ #[t,t2] ty #[v,.string s]).run P w= .ok v' w'∧w'.ownsRow 0 e 1 v' (xs.length+s.size) cells'∧w.grownBy w' v.ownBlock∧(v'.ownBlock=v.ownBlock∨v'.ownBlock=some w.heap.size)∧
   (∀ u∈cells',u.oneCell'=true)∧ ∀ (j:Nat) (x:Elts [.int .u8]),(xs++sk s)[j]? =some x→RdE H [.int .u8] x (fun k=>cells'[j*1+k]?):=by
 obtain ⟨D,hD,rfl,te',nV,hts⟩:=hT.und t _ ht;obtain ⟨D2,hD2,hd2⟩:=hT.und t2 _ ht2;obtain ⟨i,z,hi,hs,hby,hz,hzc,hp,hb0⟩:=hT.info e _ hte;have hs1:i.size=1:=hs;have hb1:i.bytes=1:=by rw [hby];exact hb
 have hz1:z.cells.size=1:=by rw [← jG,hzc];rfl
 have yk4:D2= .string:=by simpa [xU] using hd2
 subst yk4;obtain ⟨v',w',h1,h2,h3,h4⟩:=Mw (P:=P) (ty:=ty) hD hD2 hi hz hs1 hb1 hz1 hown s hsize;have hcl:cells.length=xs.length:=by simpa using hown.1
 refine ⟨v',w',_,h1,h2,h3,h4,fun u hu=>(zB.1 hu).elim (hone u) (Lib.strCells_oneCell s u),fun j x hx=> ?_⟩;by_cases hj:j<xs.length
 ·rw [ln hj] at hx;refine RdE.ext _ x _ _ (fun k v hk hv=> ?_) (hrd j x hx);rw [ln (by exact (ZF.1 hv).1)];exact hv
 ·rw [lm (by omega)] at hx;refine ⟨.int .u8 x,?_,rfl⟩;show (cells++Lib.strCells s)[j*1+0]? =_;rw [lm (by omega),show j*1+0 - cells.length=j - xs.length by omega];have hx':(Z_ s)[j - xs.length]? =some x:=hx;rw [Z_,cM] at hx';obtain ⟨b',hb',he⟩:=Ys.1 hx';rw [Lib.strCells,cM,hb'];exact congrArg (fun n=>some (Value.int .u8 n)) he
theorem Ui {te:TI} {u:Option TI} {ts:List Ty} {y:A}:CN lk true te u ts y=rowOf lk ts y:=by unfold CN;split<;>rfl
theorem Uj {te:TI} {u:Option TI} {ts:List Ty} {y:A} {ys:List (Elts ts)} (h:CN lk false te u ts y=some ys):
  ∃ (x:ByteArray) (b2:Nat) (e:ts=[.int .u8]),te= .c (.int .u8) 1∧u=some (.c .str b2)∧y= .val .str x∧ys=e ▸ sk x:=by
 unfold CN at h;split at h
 ·simp only [yi] at h;split at h
  ·injection h with h;exact ⟨_,_,rfl,rfl,rfl,rfl,h.symm⟩
  ·cases h
 ·cases h
theorem Sm {same:Bool} {e q:Nat} {ts:List Ty} {x y:A} {xs ys:List (Elts ts)} (h:Ge lk same e ts x y=some (q,xs,ys)):same=true∧ ∃ m l zs,x= .win q m∧y= .tl q l∧lk q=some (.root true e ts zs)∧xs=zs.take (Int.toNat m)∧ys=zs.drop (Int.toNat l):=by
 unfold Ge at h;split at h
 ·rename_i r m r2 l;split at h
  ·rename_i e1 ts1 zs hq;split at h
   ·rename_i zs' hcr;obtain ⟨ee,rfl⟩:=fu hcr;subst ee;cases hb:same&&Nat.beq r r2&&Nat.beq e1 e with
    |false=>simp [hb] at h
    |true=>simp only [hb,yg,z8,jI] at h;simp only [zzal10] at hb;have e2:=zo hb.1.2;have e3:=zo hb.2;subst e2 e3;obtain ⟨rfl,rfl,rfl⟩:=h;exact ⟨hb.1.1,m,l,_,rfl,rfl,hq,rfl,rfl⟩
   ·cases h
  ·cases h
 ·cases h
theorem Mx (hT:Jl C P) (h:Rel P w0 yu H0 s a w G) (hK:Next P w0 yu H0 s o k r K) (hout:Out o) (hlk:dS lk s) {c:Call} {x y:Operand} {t t2:Nat} (hop:o.op= .call c) (hc:c.callee= .builtin .append) (hargs:c.args.toList=[x,y]) (Sn:c.argTypes.toList=[t,t2]) {d e b q:Nat} {ts:List Ty} (hd:o.dst=some d)
  (ht:C.info t=some (.c (.sl e ts) b)) {te:TI} (hte:C.info e=some te) {xs ys:List (Elts ts)} (hcut:Ge lk (Nat.beq t t2) e ts (s.Yw x) (s.Yw y)=some (q,xs,ys))
  (he:(bif Nat.beq q d then none else if (xs.length+ys.length)*te.bytes<140737488355328 then k ⟨[(q,.gone)],[(d,.root true e ts (xs++ys))],.own d⟩ else none)=some r):o.wp P a w K Q:=by
 obtain ⟨hbt,m,l,zs,hxa,hya,hq,rfl,rfl⟩:=Sm hcut;have htt:=zo hbt;subst htt;have hx:=h.Yw x;have hy:=h.Yw y;rw [hxa] at hx;rw [hya] at hy;cases EL:Nat.beq q d with
 |true=>simp [EL] at he
 |false=>
  simp only [EL,yi] at he;have hqd:q≠d:=fun e=>by subst e;rw [yH] at EL;cases EL
  split at he
  ·rename_i hsize;have e1:c.args= #[x,y]:=by rw [← cJ (xs:=c.args),hargs]
   have e2:c.argTypes= #[t,t]:=by rw [← cJ (xs:=c.argTypes),Sn]
   have x_: ∀ (v:Value) (w':World),(Builtin.append_ #[t,t] o.type #[a.eval x,a.eval y]).run P w= .ok v w'→(execOp a.eval o).run P w= .ok (.value v) w':=by intro v w' hr;simp [execOp,hop,resolve,hc,invoke,builtin,e1,e2,hr]
   have hlq:=hlk q _ hq;obtain ⟨hsz,hpos,cells,hown,hone,hblk,hrd⟩:=h.objs q _ hlq;obtain ⟨A1,n1,c1,s1,hxv,hm1⟩:=hx;obtain ⟨A2,n2,c2,s2,hl2,hyv⟩:=hy;rw [s1] at s2;injection s2 with s2 s3 s4;subst s2 s3 s4;have hn:n1=zs.length:=by
    rcases hown.2 with ⟨hv,hn0⟩|⟨g,cap,cur,hv,_⟩
    ·rw [s1] at hv;injection hv with _ hv _;rw [hv,hn0]
    ·rw [s1] at hv;injection hv
   subst hn;have hlen:(zs.take (Int.toNat m)).length=Int.toNat m:=by rw [Za];omega
   have hcl:=hown.1;have hmm:Int.toNat m*ts.length≤zs.length*ts.length:=wS _ hm1;have hrow:w.ownsRow 0 e ts.length (.slice A1 (Int.toNat m) c1) (zs.take (Int.toNat m)).length (cells.take (Int.toNat m*ts.length)):=by
    rw [hlen];rcases hown.2 with ⟨hv,hn0⟩|⟨g,cap,cur,hv,hb0,hg,hnc,hcm,hcs,htk⟩
    ·rw [s1] at hv;injection hv with hA _ hc0;subst hA hc0;have hm0:Int.toNat m=0:=by omega
     rw [hm0];exact ⟨by simp,.inl ⟨rfl,rfl⟩⟩
    ·rw [s1] at hv;injection hv with hA _ hc0;subst hA hc0;refine ⟨by rw [Za];omega,.inr ⟨g,c1,cur,rfl,hb0,hg,by omega,hcm,hcs,?_⟩⟩;rw [← htk,Ey,Ex hmm]
   obtain ⟨v',w',cells',h1,h2,h3,h4,h5,h6⟩:=gn (P:=P) (ty:=o.type) (H:=G.H) (xs:=zs.take (Int.toNat m)) (ys:=zs.drop (Int.toNat l)) (u:=a.eval y) (A:=if c1=Int.toNat l then A1 else A1.map (·.add (Int.toNat l*(G.sz q).1))) (c:=c1 - Int.toNat l) hT ht hte hpos hrow (fun u hu=>hone u (lr hu)) (fun j z hz=>by
    rw [Vp] at hz;split at hz
    ·rename_i hj;refine RdE.ext ts z _ _ (fun k v hk hv=> ?_) (hrd j z hz);have:j*ts.length+k<Int.toNat m*ts.length:=by
      have:=wS ts.length (show j+1≤Int.toNat m by omega);rw [Nat.succ_mul] at this;omega
     rw [Vp,y0 this];exact hv
    ·cases hz) (by rw [wU];exact hyv) (fun hp=>by
    rw [wU] at hp;rcases hown.2 with ⟨hv,hn0⟩|⟨g,cap,cur,hv,hb0,hg,hnc,hcm,hcs,htk⟩
    ·omega
    ·rw [s1] at hv;injection hv with hA _ hc0;subst hA hc0;refine ⟨⟨g,Int.toNat l*ts.length,none⟩,?_,fun j z hz=> ?_⟩
     ·rw [y9 (by omega),hsz];show some ((⟨g,0,none⟩:Addr).add _)=_;rw [Addr.add_lit,WY]
     ·rw [uJ] at hz;have hj:Int.toNat l+j<zs.length:=(ZF.1 hz).1;refine RdE.ext ts z _ _ (fun k v hk hv=> ?_) (hrd _ z hz);rw [y0 hk,Addr.add_lit];have hlt:(Int.toNat l+j)*ts.length+k<zs.length*ts.length:=by
       have:=wS ts.length (show Int.toNat l+j+1≤zs.length by omega);rw [Nat.succ_mul] at this;omega
      have hv':(cur.toList.take (zs.length*ts.length))[(Int.toNat l+j)*ts.length+k]? =some v:=by rw [htk];exact hv
      rw [Vp,y0 hlt,cK] at hv';unfold World.cell?;simp only [hg];rw [show Int.toNat l*ts.length+(j*ts.length+k)=(Int.toNat l+j)*ts.length+k by rw [Vq,cN]];simpa using hv') hsize
   have hob:(Value.slice A1 (Int.toNat m) c1).ownBlock=(G.sv q).ownBlock:=by rw [s1];cases A1<;>rfl
   rw [hob] at h3 h4;have ie:=h.gone q;have hfree: ∀ k,(G.sv q).ownBlock=some k→Free w0 yu (s.set q .gone) G k:=fun k hk=>V6 h hlq hk;obtain ⟨G',_,hrel,hra⟩:=ie.dU d (H0.none (hout d hd)) (v:=v') (w':=w') (cells:=cells') h3.os h3.tape h3.output h3.size (fun k hk=>by
    by_cases hkb:some k=(G.sv q).ownBlock
    ·exact .inr (hfree k hkb.symm)
    ·exact .inl (h3.block k hk hkb)) hpos h2 h5
    (fun k hk=>by
     rcases h4 with h4|h4
     ·rw [h4] at hk;exact hfree k hk
     ·rw [h4] at hk;injection hk with hk;subst hk;exact ie.am (jk _)) h6
   refine jM (x_ v' w' (by rw [hxv];exact h1)) (hK _ _ _ G' he ?_);have:=hrel.put o.dst hra;rw [Qy s hqd,hd] at this;simpa [St.apply,St.makeAll,St.yB,hd] using this
  ·cases he
theorem So (hT:Jl C P) (h:Rel P w0 yu H0 s a w G) (hK:Next P w0 yu H0 s o k r K) (hout:Out o) (hlk:dS lk s) {c:Call} {x y:Operand} {t t2:Nat} (hop:o.op= .call c) (hc:c.callee= .builtin .append) (hargs:c.args.toList=[x,y]) (Sn:c.argTypes.toList=[t,t2]) (he:Yg C call ct wn o s.Yw lk k=some r):o.wp P a w K Q:=by
 have hx:=h.Yw x;have hy:=h.Yw y;simp only [Yg,hop,hc,hargs,Sn] at he;split at he
 ·rename_i e ts b d ht hd;cases hte:C.info e with
  |none=>simp [hte] at he
  |some te=>
   simp only [hte] at he;cases hcut:Ge lk (Nat.beq t t2) e ts (s.Yw x) (s.Yw y) with
   |some z=>obtain ⟨q,xs,ys⟩:=z;simp only [hcut] at he;exact Mx hT h hK hout hlk hop hc hargs Sn hd ht hte hcut he
   |none=>
   simp only [hcut] at he;cases hbt:Nat.beq t t2 with
   |false=>
    simp only [hbt] at he;cases hsrc:CN lk false te (C.info t2) ts (s.Yw y) with
    |none=>rw [hsrc] at he;split at he<;>simp_all
    |some ys=>
     obtain ⟨xs2,b2,rfl,rfl,ht2,hyv,rfl⟩:=Uj hsrc;rw [hsrc] at he;rw [hyv] at hy;have yep:a.eval y= .string xs2:=hy;have e1:c.args= #[x,y]:=by rw [← cJ (xs:=c.args),hargs]
     have e2:c.argTypes= #[t,t2]:=by rw [← cJ (xs:=c.argTypes),Sn]
     have x_: ∀ (v:Value) (w':World),(Builtin.append_ #[t,t2] o.type #[a.eval x,a.eval y]).run P w= .ok v w'→(execOp a.eval o).run P w= .ok (.value v) w':=by intro v w' hr;simp [execOp,hop,resolve,hc,invoke,builtin,e1,e2,hr]
     split at he
     ·rename_i ys' hxa hya;injection hya with hya;subst hya;rw [hxa] at hx;split at he
      ·rename_i hsize;have hsz:xs2.size<140737488355328:=by
        rw [show List.length _=xs2.size from Qz xs2] at hsize;simpa [TI.bytes] using hsize
       obtain ⟨v',w',cells',h1,h2,h3,h4,h5,h6⟩:=tA (P:=P) (ty:=o.type) (xs:=([]:List (Elts [.int .u8]))) (H:=G.H) hT ht hte rfl ht2 (World.ownsRow_nil w 0 e 1) (by simp) (by simp) xs2 (by simpa using hsz);have hnone:(Value.slice none 0 0).ownBlock=none:=rfl;rw [hnone] at h3 h4;obtain ⟨G',_,hrel,hra⟩:=h.dU d (H0.none (hout d hd)) (e:=e) (ts:=[.int .u8]) (xs:=(sk xs2)) (v:=v') (w':=w') (cells:=cells') h3.os h3.tape h3.output h3.size (fun k hk=> .inl (h3.block k hk (by simp))) (by simp) (by rw [Qz];simpa using h2) h5
        (fun k hk=>by
         rcases h4 with h4|h4
         ·rw [h4] at hk;cases hk
         ·rw [h4] at hk;injection hk with hk;subst hk;exact h.am (jk _)) (by simpa using h6)
       refine jM (x_ v' w' (by rw [show a.eval x= .slice none 0 0 from hx,yep];exact h1)) (hK _ _ _ G' he ?_);have:=hrel.put o.dst hra;simpa [St.apply,St.makeAll,St.yB] using this
      ·cases he
     ·rename_i q ys' hxa hya;injection hya with hya;subst hya;rw [hxa] at hx;cases hq:lk q with
      |none=>simp [hq] at he
      |some ob=>
       cases ob with
       |root own e1' ts1 xs=>
        cases own with
        |false=>simp [hq] at he
        |true=>
         simp only [hq] at he;cases hcr:na ts1 [.int .u8] xs with
         |none=>simp [hcr] at he
         |some xs'=>
          simp only [hcr] at he;obtain ⟨ee,rfl⟩:=fu hcr;subst ee;cases hbb:Nat.beq q d|| !Nat.beq e1' e with
          |true=>simp [hbb] at he
          |false=>
           simp only [hbb,yi] at he;simp only [WW,eR] at hbb;have hee:=zo hbb.2;subst hee;have hqd:q≠d:=fun e=>by subst e;rw [yH] at hbb;exact absurd hbb.1 (by simp)
           split at he
           ·rename_i hsize;have hsz:xs.length+xs2.size<140737488355328:=by
             rw [show List.length (sk xs2)=xs2.size from Qz xs2] at hsize;simpa [TI.bytes] using hsize
            have hlq:=hlk q _ hq;obtain ⟨_,_,cells,hown,hone,hblk,hrd⟩:=h.objs q _ hlq;obtain ⟨v',w',cells',h1,h2,h3,h4,h5,h6⟩:=tA (P:=P) (ty:=o.type) hT ht hte rfl ht2 hown hone hrd xs2 hsz;have ie:=h.gone q;have hfree: ∀ k,(G.sv q).ownBlock=some k→Free w0 yu (s.set q .gone) G k:=fun k hk=>V6 h hlq hk;obtain ⟨G',_,hrel,hra⟩:=ie.dU d (H0.none (hout d hd)) (e:=e1') (ts:=[.int .u8]) (xs:=xs++(sk xs2)) (v:=v') (w':=w') (cells:=cells') h3.os h3.tape h3.output h3.size (fun k hk=>by
             by_cases hkb:some k=(G.sv q).ownBlock
             ·exact .inr (hfree k hkb.symm)
             ·exact .inl (h3.block k hk hkb)) (by simp) (by rw [yU,Qz];exact h2) h5
             (fun k hk=>by
              rcases h4 with h4|h4
              ·rw [h4] at hk;exact hfree k hk
              ·rw [h4] at hk;injection hk with hk;subst hk;exact ie.am (jk _)) h6
            refine jM (x_ v' w' (by rw [hx.1,yep];exact h1)) (hK _ _ _ G' he ?_);have:=hrel.put o.dst hra;rw [Qy s hqd] at this;simpa [St.apply,St.makeAll,St.yB] using this
           ·cases he
       |_=>simp [hq] at he
     ·cases he
   |true=>
    simp only [hbt,Ui] at he;have htt:=zo hbt;subst htt;have e1:c.args= #[x,y]:=by rw [← cJ (xs:=c.args),hargs]
    have e2:c.argTypes= #[t,t]:=by rw [← cJ (xs:=c.argTypes),Sn]
    have x_: ∀ (v:Value) (w':World),(Builtin.append_ #[t,t] o.type #[a.eval x,a.eval y]).run P w= .ok v w'→(execOp a.eval o).run P w= .ok (.value v) w':=by intro v w' hr;simp [execOp,hop,resolve,hc,invoke,builtin,e1,e2,hr]
    have hpos:0<ts.length:=by obtain ⟨D,hD,rfl,te',nV,hts⟩:=hT.und t _ ht;rw [hte] at nV;injection nV with nV;subst nV;obtain ⟨_,_,_,_,_,_,_,hp,_⟩:=hT.info e te hte;rw [← hts];exact hp
    split at he
    ·rename_i ys hxa hya;rw [hxa] at hx;obtain ⟨A,cc,hu,hm,hsrc⟩:=mB h hlk hya hy;split at he
     ·rename_i hsize;obtain ⟨v',w',cells',h1,h2,h3,h4,h5,h6⟩:=gn (P:=P) (ty:=o.type) (xs:=([]:List (Elts ts))) (ys:=ys) (H:=G.H) hT ht hte hpos (World.ownsRow_nil w 0 e ts.length) (by simp) (by simp) hu hsrc (by simpa using hsize);have hnone:(Value.slice none 0 0).ownBlock=none:=rfl;rw [hnone] at h3 h4;obtain ⟨G',_,hrel,hra⟩:=h.dU d (H0.none (hout d hd)) (xs:=ys) (v:=v') (w':=w') (cells:=cells') h3.os h3.tape h3.output h3.size (fun k hk=> .inl (h3.block k hk (by simp))) hpos (by simpa using h2) h5
       (fun k hk=>by
        rcases h4 with h4|h4
        ·rw [h4] at hk;cases hk
        ·rw [h4] at hk;injection hk with hk;subst hk;exact h.am (jk _)) (by simpa using h6)
      refine jM (x_ v' w' (by rw [show a.eval x= .slice none 0 0 from hx];exact h1)) (hK _ _ _ G' he ?_);have:=hrel.put o.dst hra;simpa [St.apply,St.makeAll,St.yB] using this
     ·cases he
    ·rename_i q ys hxa hya;rw [hxa] at hx;obtain ⟨A,cc,hu,hm,hsrc⟩:=mB h hlk hya hy;cases hq:lk q with
     |none=>simp [hq] at he
     |some ob=>
      cases ob with
      |root own e1' ts1 xs=>
       cases own with
       |false=>simp [hq] at he
       |true=>
        simp only [hq] at he;cases hcr:na ts1 ts xs with
        |none=>simp [hcr] at he
        |some xs'=>
         simp only [hcr] at he;obtain ⟨ee,rfl⟩:=fu hcr;subst ee;cases hbb:Nat.beq q d|| !Nat.beq e1' e with
         |true=>simp [hbb] at he
         |false=>
          simp only [hbb,yi] at he;simp only [WW,eR] at hbb;have hee:=zo hbb.2;subst hee;have hqd:q≠d:=fun e=>by subst e;rw [yH] at hbb;exact absurd hbb.1 (by simp)
          split at he
          ·rename_i hsize;have hlq:=hlk q _ hq;obtain ⟨hsz,_,cells,hown,hone,hblk,hrd⟩:=h.objs q _ hlq;obtain ⟨v',w',cells',h1,h2,h3,h4,h5,h6⟩:=gn (P:=P) (ty:=o.type) hT ht hte hpos hown hone hrd hu hsrc hsize;have ie:=h.gone q;have hfree: ∀ k,(G.sv q).ownBlock=some k→Free w0 yu (s.set q .gone) G k:=fun k hk=>V6 h hlq hk;obtain ⟨G',_,hrel,hra⟩:=ie.dU d (H0.none (hout d hd)) (v:=v') (w':=w') (cells:=cells') h3.os h3.tape h3.output h3.size (fun k hk=>by
            by_cases hkb:some k=(G.sv q).ownBlock
            ·exact .inr (hfree k hkb.symm)
            ·exact .inl (h3.block k hk hkb)) hpos h2 h5
            (fun k hk=>by
             rcases h4 with h4|h4
             ·rw [h4] at hk;exact hfree k hk
             ·rw [h4] at hk;injection hk with hk;subst hk;exact ie.am (jk _)) h6
           refine jM (x_ v' w' (by rw [hx.1];exact h1)) (hK _ _ _ G' he ?_);have:=hrel.put o.dst hra;rw [Qy s hqd] at this;simpa [St.apply,St.makeAll,St.yB] using this
          ·cases he
      |_=>simp [hq] at he
    ·cases he
 ·cases he
end
section
variable {P:Program} {C:Ctx} {w0:World} {yu:Nat→Prop} {H0:Base} {s:St} {a:Act} {w:World} {G:Gh} {o:Oper} {K:Act→World→Prop} {Q:Exit→Act→World→Prop} {R:Type} {k:Eff→Option R} {r:R} {lk:Lk} {call:C.Sem} {ct wn:Bool}
theorem Aa (off:Nat): ∀ (l:List Value) (arr:Array Value) (j:Nat),(l.zipIdx j).foldl (fun cs p=>cs.setIfInBounds (off+p.2) p.1) arr=J2 arr (off+j) l
 |[],_,_=>rfl
 |v::l,arr,j=>by simp only [List.zipIdx_cons,Zl,J2];exact Aa off l _ (j+1)
theorem CU (place:Nat→Option (Nat×Nat)) (arr:Array Value) (i off size:Nat) (v:Value) (rest:List (Nat×Value)) (hp:place i=some (off,size)) (h1:v.cells.size=size) (h2:off+size≤arr.size):
  Instr.fill place arr ((i,v)::rest)=Instr.fill place (J2 arr off v.cells.toList) rest:=by
 have e:v.cells.zipIdx.foldl (fun cs (c,j)=>cs.setIfInBounds (off+j) c) arr=J2 arr off v.cells.toList:=by rw [← Array.foldl_toList,Array.toList_zipIdx];exact Aa off _ arr 0
 rw [Instr.fill];simp only [hp];rw [y9 (by simp [h1];omega),e]
theorem GC {G:Gh} {cs l cs':List A} {off:Nat} {arr:Array Value} {vs:List Value} (hs:jJ cs off l=some cs') (hc:RL G cs arr.toList) (hl:RL G l vs):RL G cs' (J2 arr off vs).toList∧(J2 arr off vs).size=arr.size:=by
 obtain ⟨hlen,hfit,hget⟩:=KF cs off l cs' hs;have h1:=hc.length;have h2:=hl.length;have hsz:=Vu vs arr off;refine ⟨RL.of ?_ fun i x v hx hv=> ?_,hsz⟩
 ·rw [hlen,h1,jG,jG,hsz]
 ·rcases hfit with rfl|hfit
  ·cases vs with
   |cons _ _=>simp at h2
   |nil=>
    have e1:=hget i;rw [y9 (by simp only [yr];omega)] at e1;rw [e1] at hx;obtain ⟨u,hu,hr⟩:=hc.get i x hx;have:u=v:=by have hv':arr.toList[i]? =some v:=hv;rw [hu] at hv';injection hv'
    exact this ▸ hr
  ·have h1':cs.length=arr.size:=by rw [h1,jG]
   have e2:=dV vs arr off i (by omega);rw [hget i] at hx;rw [cK,e2,← h2] at hv;by_cases hi:off≤i∧i<off+l.length
   ·rw [y0 hi] at hx hv;obtain ⟨u,hu,hr⟩:=hl.get (i - off) x hx;rw [hu] at hv;injection hv with hv;exact hv ▸ hr
   ·rw [y9 hi] at hx hv;obtain ⟨u,hu,hr⟩:=hc.get i x hx;rw [cK,hv] at hu;injection hu with hu;exact hu ▸ hr
theorem tC (hT:Jl C P) (h:Rel P w0 yu H0 s a w G) {fs:List (Nat×Nat)} {places:Array (Nat×Nat)} (hpl: ∀ (i off t:Nat) (ti:TI),fs[i]? =some (off,t)→C.info t=some ti→places[i]? =some (off,ti.ts.length)):
  ∀ (parts:List (Nat×Operand)) (cs l:List A) (arr:Array Value),gj C s.Yw fs cs parts=some l→RL G cs arr.toList→ ∃ arr',Instr.fill (places[·]?) arr (parts.map fun (i,x)=>(i,a.eval x))=some arr'∧RL G l arr'.toList
 |[],cs,l,arr,hp,hr=>by
  have:cs=l:=by simpa [gj] using hp
  subst this;exact ⟨arr,rfl,hr⟩
 |(i,x)::parts,cs,l,arr,hp,hr=>by
  simp only [gj] at hp;cases hf:fs[i]? with
  |none=>simp [hf] at hp
  |some ot=>
   obtain ⟨off,t⟩:=ot;simp only [hf] at hp;cases ht:C.info t with
   |none=>simp [ht] at hp
   |some ti=>
    simp only [ht] at hp;cases hb:Nat.beq (s.Yw x).cells.length ti.ts.length&&km (s.Yw x).cells with
    |false=>simp [hb] at hp
    |true=>
     simp only [hb,yg] at hp;simp only [zzal10] at hb;cases hs:jJ cs off (s.Yw x).cells with
     |none=>simp [hs] at hp
     |some cs'=>
      simp only [hs] at hp;have hx:=fq hb.2 (h.Yw x);have hxl:=hx.length;have hbl:=zo hb.1;obtain ⟨hr',hsz⟩:=GC hs hr hx;obtain ⟨arr',h1,h2⟩:=tC hT h hpl parts cs' l _ hp hr';refine ⟨arr',?_,h2⟩;rw [J7];have hv:(a.eval x).cells.size=ti.ts.length:=by rw [← jG,← hxl,hbl]
      obtain ⟨_,hfit,_⟩:=KF cs off _ cs' hs;have hle:off+ti.ts.length≤arr.size∨(s.Yw x).cells=[]:=by
       have e0:cs.length=arr.size:=by rw [hr.length,jG]
       rcases hfit with h0|h0
       ·exact .inr h0
       ·exact .inl (by omega)
      rcases hle with hle|hle
      ·rw [CU _ _ _ _ _ _ _ (hpl i off t ti hf ht) hv hle];exact h1
      ·rw [hle] at hbl;obtain ⟨_,_,_,_,_,_,_,hp0,_⟩:=hT.info t ti ht;rw [← hbl] at hp0;exact absurd hp0 (Nat.lt_irrefl 0)
theorem GD {α β:Type} {f:α→Option β} (d:β): ∀ {l:List α},(∀ x∈l,∃ y,f x=some y)→l.mapM f=some (l.map fun x=>(f x).getD d)
 |[],_=>rfl
 |x::l,h=>by obtain ⟨b,hb⟩:=h x (by simp);rw [List.mapM_cons,hb,GD d (l:=l) (fun y hy=>h y (by simp [hy]))];simp [hb]
end
section
variable {P:Program} {C:Ctx} {w0:World} {yu:Nat→Prop} {H0:Base} {s:St} {a:Act} {w:World} {G:Gh} {o:Oper} {K:Act→World→Prop} {Q:Exit→Act→World→Prop} {R:Type} {k:Eff→Option R} {r:R} {lk:Lk} {call:C.Sem} {ct wn:Bool}
theorem GE {H:Hp}: ∀ (ts:List Ty) (f:Nat→Option Value),(∀ k,k<ts.length→f k=(ts.map zeroV)[k]?)→RdE H ts (zeroE ts) f
 |[],_,_=>trivial
 |t::[],f,h=>⟨zeroV t,by rw [h 0 (by simp)];rfl,EJ t⟩
 |t::u::r,f,h=>⟨⟨zeroV t,by rw [h 0 (by simp)];rfl,EJ t⟩,GE (u::r) _ (fun k hk=>by rw [h (k+1) (by simpa using hk)];rfl)⟩
theorem GF {ts:List Ty} {z:Value} (hz:z.cells.toList=ts.map zeroV) (hpos:0<ts.length) (n i:Nat) (hi:i<n*ts.length): ∃ t,ts[i % ts.length]? =some t∧(madeCells z.cells (n*ts.length))[i]? =some (zeroV t):=by
 have hlt:i % ts.length<ts.length:=Nat.mod_lt _ hpos;have hsz:z.cells.size=ts.length:=by rw [← jG,hz];simp
 refine ⟨_,WX hlt,?_⟩;have hz2:z.cells[i % ts.length]? =some (zeroV ts[i % ts.length]):=by rw [← cK,hz,cM,WX hlt];rfl
 have hb:z.cells[i % ts.length]! =zeroV ts[i % ts.length]:=by rw [Array.getElem!_eq_getD,fZ,hz2];rfl
 simp [madeCells,hi,hsz,hb]
theorem NY {H:Hp} {ts:List Ty} {z:Value} (hz:z.cells.toList=ts.map zeroV) (hpos:0<ts.length) (n j:Nat) (hj:j<n):RdE H ts (zeroE ts) (fun k=>(madeCells z.cells (n*ts.length))[j*ts.length+k]?):=by
 refine GE ts _ fun k hk=> ?_;have hj1:(j+1)*ts.length≤n*ts.length:=wS _ hj;rw [Vq,eV] at hj1;obtain ⟨t,ht,h⟩:=GF hz hpos n (j*ts.length+k) (by omega);have hm:(j*ts.length+k) % ts.length=k:=by rw [Nat.mul_comm,Nat.mul_add_mod,rX hk]
 rw [hm] at ht;rw [h,cM,ht];rfl
theorem GG {ts:List Ty} {z:Value} (hz:z.cells.toList=ts.map zeroV) (hpos:0<ts.length) (n:Nat): ∀ u∈(madeCells z.cells (n*ts.length)).toList,u.oneCell'=true:=by intro u hu;obtain ⟨i,hi⟩:=uG.1 hu;have hlt:=(ZF.1 hi).1;rw [jG,size_madeCells] at hlt;obtain ⟨t,_,h⟩:=GF hz hpos n i hlt;rw [cK,h] at hi;injection hi with hi;subst hi;cases t<;>rfl
theorem ui (hT:Jl C P) (h:Rel P w0 yu H0 s a w G) {t e b d:Nat} (sm:H0.pin d=none) {ts:List Ty} {te:TI} {n m:Int} (ht:C.info t=some (.c (.sl e ts) b)) (hte:C.info e=some te) (h0:0≤n) (h1:n≤m) (h2:m*te.bytes≤140737488351232):
  ∃ w' G',(Instr.makeSlice t (.int .i64 n) (.int .i64 m)).run P w= .ok (.slice (some ⟨w.heap.size,0,none⟩) n.toNat m.toNat) w'∧Rel P w0 yu H0 (s.make d (.root true e ts (List.replicate n.toNat (zeroE ts)))) a w' G'∧RA G' (.own d) (.slice (some ⟨w.heap.size,0,none⟩) n.toNat m.toNat):=by
 obtain ⟨D,hD,rfl,te',nV,hts⟩:=hT.und t _ ht;rw [hte] at nV;injection nV with nV;subst nV;subst hts;obtain ⟨i,z,hi,hs,hby,hz,hzc,hpos,hb0⟩:=hT.info e te hte;have hmn:(0:Int)≤m:=lw h0 h1;have hmb:(m:Int)≤m*te.bytes:=by
  have:(1:Int)≤te.bytes:=by omega
  have:=Int.mul_le_mul_of_nonneg_left this hmn
  rwa [Int.mul_one] at this
 have h2':(i.bytes:Int)*m≤281474976710656:=by rw [hby,Int.mul_comm];omega
 have hmx:(m:Int)≤140737488351232:=lw hmb h2;have hrun:=run_make (P:=P) w t e i z hD hi hz .i64 .i64 n m h0 h1 h2' (by omega);rw [hs] at hrun;have hle:n.toNat≤m.toNat:=by omega
 have hnm:n.toNat*te.ts.length≤m.toNat*te.ts.length:=wS _ hle;have hcells: ∀ i',i'<n.toNat*te.ts.length→((madeCells z.cells (m.toNat*te.ts.length)).toList.take (n.toNat*te.ts.length))[i']? =(madeCells z.cells (m.toNat*te.ts.length))[i']? :=by intro i' hi';rw [Vp,y0 hi',cK]
 obtain ⟨G',_,hrel,hra⟩:=h.dU d sm (e:=e) (ts:=te.ts) (xs:=List.replicate n.toNat (zeroE te.ts)) (v:= .slice (some ⟨w.heap.size,0,none⟩) n.toNat m.toNat) (w':=w.alloc (.cells (madeCells z.cells (m.toNat*te.ts.length)) e))
  (cells:=(madeCells z.cells (m.toNat*te.ts.length)).toList.take (n.toNat*te.ts.length)) rfl rfl rfl (by simp [World.alloc,-World.alloc_eq]) (fun k hk=> .inl (eY w _ hk)) hpos
  ⟨by rw [Za,show (madeCells z.cells (m.toNat*te.ts.length)).toList.length=m.toNat*te.ts.length from (jG).trans (size_madeCells _ _),g7];omega,.inr ⟨w.heap.size,m.toNat,madeCells z.cells (m.toNat*te.ts.length),by simp,gd _,heap_alloc_new w _,by simpa using hle,by simp only [maxLen];omega,size_madeCells _ _,by simp⟩⟩
  (fun u hu=>GG hzc hpos _ u (lr hu)) (fun k hk=>by
   have:w.heap.size=k:=by simpa [Value.ownBlock] using hk
   exact h.am (by omega)) (fun j x hx=>by
   have hj:j<n.toNat:=by
    have:=(ZF.1 hx).1
    rwa [g7] at this
   have hxz:zeroE te.ts=x:=by rw [xM,y0 hj] at hx;injection hx
   subst hxz;have hj1:(j+1)*te.ts.length≤n.toNat*te.ts.length:=wS _ hj;rw [Vq,eV] at hj1;refine RdE.ext te.ts _ _ _ (fun k v hk hv=> ?_) (NY (H:=G.H) hzc hpos m.toNat j (by omega));rw [hcells _ (by omega)];exact hv)
 exact ⟨_,G',hrun,hrel,hra⟩
theorem EM (hT:Jl C P) (h:Rel P w0 yu H0 s a w G) (hK:Next P w0 yu H0 s o k r K) (hout:Out o) {t:Nat} {l c:Operand} (hop:o.op= .makeSlice t l c) (he:Yg C call ct wn o s.Yw lk k=some r):o.wp P a w K Q:=by
 have hl:=h.Yw l;have hc:=h.Yw c;simp only [Yg,hop] at he;split at he
 ·rename_i e ts b d ht hd;split at he
  ·rename_i te n m hte hla hca;rw [hla] at hl;rw [hca] at hc;split at he
   ·rename_i h0;split at he
    ·rename_i h1;split at he
     ·rename_i h2;obtain ⟨w',G',hrun,hrel,hra⟩:=ui (d:=d) (n:=n) (m:=m) hT h (H0.none (hout d hd)) ht hte h0 h1 h2;refine jM (v:= .slice (some ⟨w.heap.size,0,none⟩) (Int.toNat n) (Int.toNat m)) (w':=w') ?_ (hK _ _ _ G' he ?_)
      ·simp only [execOp,hop];rw [show a.eval l= .int .i64 n from hl,show a.eval c= .int .i64 m from hc,Sem.run_bind,hrun];rfl
      ·have:=hrel.put o.dst hra;simpa [St.apply,St.makeAll,St.yB] using this
     ·cases he
    ·cases he
   ·cases he
  ·cases he
 ·cases he
theorem y30: ∀ (ts:List Ty) (l:List A) (p:Elts ts×List Nat),Me lk ts l=some p→km l=true:=by
 intro ts;induction ts with
 |nil=>
  intro l p h;cases l with
  |nil=>rfl
  |cons x l=>exact absurd h (by rw [show Me lk [] (x::l)=none from rfl];exact fun h=>by cases h)
 |cons t ts ih=>
  intro l p h;cases ts with
  |nil=>
   cases l with
   |nil=>rfl
   |cons x l=>
    cases l with
    |nil=>have h':oG lk t x=some p:=h;simp [km,EK h']
    |cons x2 l=>exact absurd h (by rw [show Me lk [t] (x::x2::l)=none from rfl];exact fun h=>by cases h)
  |cons u r=>
   cases l with
   |nil=>rfl
   |cons x l=>
    have h':(match oG lk t x with
     |some (x,is)=>match Me lk (u::r) l with
      |some (y,js)=>some (((x,y):Elts (t::u::r)),is++js)
      |none=>none
     |none=>none)=some p:=h
    cases hx:oG lk t x with
    |none=>rw [hx] at h';cases h'
    |some p1=>
     rw [hx] at h';cases hl:Me lk (u::r) l with
     |none=>rw [hl] at h';cases h'
     |some q=>simp [km,EK hx,ih l q hl]
theorem NZ (ρ:Operand→A) (ts:List Ty): ∀ (parts:List (Nat×Operand)) (xs xs':List (Elts ts)) (is is':List Nat),rZ lk ρ ts parts xs is=some (xs',is')→ ∀ i∈is,i∈is'
 |[],xs,xs',is,is',h,i,hi=>by simp only [rZ,z8,jI] at h;rw [← h.2];exact hi
 |(n,x)::parts,xs,xs',is,is',h,i,hi=>by
  simp only [rZ] at h;cases hx:Me lk ts (ρ x).cells with
  |none=>simp [hx] at h
  |some p=>
   simp only [hx] at h;cases hb:Nat.blt n xs.length with
   |false=>simp [hb] at h
   |true=>simp only [hb,yg] at h;exact NZ ρ ts parts _ xs' _ is' h i (by simp [hi])
def Uk (H:Hp) (ts:List Ty) (xs:List (Elts ts)) (arr:Array Value):Prop:=
 arr.size=xs.length*ts.length∧(∀ u∈arr.toList,u.oneCell'=true)∧ ∀ (j:Nat) (x:Elts ts),xs[j]? =some x→RdE H ts x (fun k=>arr[j*ts.length+k]?)
theorem CV (h:Rel P w0 yu H0 s a w G) {G1:Gh} (hg:Grown G G1) (ts:List Ty): ∀ (parts:List (Nat×Operand)) (xs xs':List (Elts ts)) (is is':List Nat) (arr:Array Value),rZ lk s.Yw ts parts xs is=some (xs',is')→jn lk G1 is'→Uk G1.H ts xs arr→
  ∃ arr',Instr.fill (fun i=>some (i*ts.length,ts.length)) arr (parts.map fun (i,x)=>(i,a.eval x))=some arr'∧Uk G1.H ts xs' arr'∧xs'.length=xs.length
 |[],xs,xs',is,is',arr,hp,hs,hr=>by simp only [rZ,z8,jI] at hp;rw [← hp.1];exact ⟨arr,rfl,hr,rfl⟩
 |(n,x)::parts,xs,xs',is,is',arr,hp,hs,hr=>by
  simp only [rZ] at hp;cases hx:Me lk ts (s.Yw x).cells with
  |none=>simp [hx] at hp
  |some p=>
   obtain ⟨y,js⟩:=p;simp only [hx] at hp;cases hb:Nat.blt n xs.length with
   |false=>simp [hb] at hp
   |true=>
    simp only [hb,yg] at hp;have hn:n<xs.length:=by have:=WZ hb;omega
    have h1:=y30 ts _ _ hx;have hlr:=fq h1 (h.Yw x);have hone:=fo h1 hlr;have hsj:jn lk G1 js:=fun i hi=>hs i (NZ s.Yw ts parts _ xs' _ is' hp i (by simp [hi]));obtain ⟨hrd,hvl⟩:=Sl ts _ y js hx hsj _ (hlr.grown hg);obtain ⟨hsz,hall,hrow⟩:=hr;have hj1:(n+1)*ts.length≤xs.length*ts.length:=wS _ hn;rw [Vq,eV] at hj1;have hfit:n*ts.length+(a.eval x).cells.toList.length≤arr.size:=by omega
    have hget:=fun j=>dV (a.eval x).cells.toList arr (n*ts.length) j hfit;have hrow2:Uk G1.H ts (xs.set n y) (J2 arr (n*ts.length) (a.eval x).cells.toList):=by
     refine ⟨by rw [Vu,Yt];exact hsz,fun u hu=> ?_,fun j z hz=> ?_⟩
     ·obtain ⟨m,hm⟩:=uG.1 hu;rw [cK,hget m] at hm;split at hm
      ·exact hone u (aF hm)
      ·exact hall u (by rw [← cK] at hm;exact aF hm)
     ·have hjl:j<xs.length:=by
       have:=(ZF.1 hz).1
       rwa [Yt] at this
      by_cases hjn:j=n
      ·subst hjn;rw [nM hn] at hz;injection hz with hz;subst hz;refine RdE.ext ts y _ _ (fun k v hk hv=> ?_) hrd;rw [hget,y0 (by omega),show j*ts.length+k - j*ts.length=k by omega];exact hv
      ·rw [eQ (fun e=>hjn e.symm)] at hz;refine RdE.ext ts z _ _ (fun k v hk hv=> ?_) (hrow j z hz);rw [hget,y9 ?_]
       ·exact hv
       ·intro hc;rcases Nat.lt_or_gt_of_ne hjn with hlt|hlt
        ·have:(j+1)*ts.length≤n*ts.length:=wS _ hlt;rw [Vq,eV] at this;omega
        ·have:(n+1)*ts.length≤j*ts.length:=wS _ hlt;rw [Vq,eV] at this;omega
    obtain ⟨arr',e1,e2,e3⟩:=CV h hg ts parts (xs.set n y) xs' (is++js) is' (J2 arr (n*ts.length) (a.eval x).cells.toList) hp hs hrow2;refine ⟨arr',?_,e2,by rw [e3,Yt]⟩;rw [J7,CU _ _ n _ _ _ _ rfl (by rw [← jG];exact hvl) (by omega)];exact e1
theorem tD {i d:Nat} (hne:i≠d) {own:Bool} {e:Nat} {ts:List Ty} {xs:List (Elts ts)}: ∀ l:List (Nat×Ob),YJ d (Wg l i (.root own e ts xs))=Wg (YJ d l) i (.root own e ts xs)
 |[]=>rfl
 |(j,x)::l=>by
  have ih:=tD hne (own:=own) (e:=e) (xs:=xs) l;by_cases hj:j=i
  ·subst hj;simp [Wg,YJ,yH,yO hne,Ob.forget]
  ·by_cases hd:j=d
   ·subst hd;simp [Wg,YJ,yH,yO hj,ih]
   ·simp [Wg,YJ,yO hj,yO hd,ih]
theorem Cs (s:St) {q d:Nat} (hne:q≠d) (ob:Ob) {own:Bool} {e:Nat} {ts:List Ty} {xs:List (Elts ts)}:(s.set q (.root own e ts xs)).make d ob=(s.make d ob).set q (.root own e ts xs):=by simp [St.set,St.make,tD hne,Wg,yO (fun e:d=q=>hne e.symm)]
theorem GH (s:St) (d:Nat) (ob:Ob): ∀ is:List Nat,Jj is d=false→(s.yB (settles lk is)).make d ob=(s.make d ob).yB (settles lk is):=by
 intro is;induction is generalizing s with
 |nil=>exact fun _=>rfl
 |cons i is ih=>
  intro h;simp only [Jj,WW] at h;have hne:i≠d:=fun e=>by subst e;rw [yH] at h;exact absurd h.1 (by simp)
  unfold settles;split
  ·simp only [St.yB];rw [ih _ h.2,Cs s hne]
  ·exact ih s h.2
theorem Ct (hT:Jl C P) (h:Rel P w0 yu H0 s a w G) (hK:Next P w0 yu H0 s o k r K) (hout:Out o) (hlk:dS lk s) {t n:Nat} {parts:Array (Nat×Operand)} (hop:o.op= .buildSlice t n parts) (he:Yg C call ct wn o s.Yw lk k=some r):o.wp P a w K Q:=by
 simp only [Yg,hop] at he;split at he
 ·rename_i e ts b d ht hd;cases hl:rZ lk s.Yw ts parts.toList (List.replicate n (zeroE ts)) [] with
  |none=>simp [hl] at he
  |some p=>
   obtain ⟨xs,is⟩:=p;simp only [hl] at he;cases hb:Jj is d|| !Nat.ble (n*ts.length) 16777216 with
   |true=>simp [hb] at he
   |false=>
    simp only [hb,yi] at he;simp only [WW,eR] at hb;obtain ⟨D,hD,rfl,te,hte,hts⟩:=hT.und t _ ht;subst hts;obtain ⟨i,z,hi,hs,hby,hz,hzc,hpos,hb0⟩:=hT.info e te hte;obtain ⟨G1,hg1,hr1,hset⟩:=h.settles hlk.rows is;have hbig:=WZ hb.2;obtain ⟨arr,e1,⟨e2,e3,e4⟩,e5⟩:=CV h hg1 te.ts parts.toList _ xs [] is (madeCells z.cells (n*te.ts.length)) hl hset ⟨by rw [size_madeCells,g7],GG hzc hpos n,fun j x hx=>by
     have hj:j<n:=by
      have:=(ZF.1 hx).1
      rwa [g7] at this
     have hxz:zeroE te.ts=x:=by rw [xM,y0 hj] at hx;injection hx
     subst hxz;exact NY hzc hpos n j hj⟩
    rw [g7] at e5;have hn1:n≤n*te.ts.length:=Nat.le_mul_of_pos_right n hpos;have hrun:(Instr.buildSlice t n (parts.map fun (i,x)=>(i,a.eval x))).run P w= .ok (.slice (some ⟨w.heap.size,0,none⟩) n n) (w.alloc (.cells arr e)):=by
     have e1':Instr.fill (fun i_1=>some (i_1*i.size,i.size)) ((Array.range (n*i.size)).map (z.cells[· % z.cells.size]!)) (parts.map fun (i,x)=>(i,a.eval x)).toList=some arr:=by rw [hs,Ew];exact e1
     by_cases h0:n*i.size=0
     ·have hn0:n=0:=by
       rw [hs] at h0;rcases Nat.mul_eq_zero.1 h0 with h0|h0
       ·exact h0
       ·omega
      subst hn0;have ha:arr= #[]:=by
       have:arr.size=0:=by rw [e2,e5,Nat.zero_mul]
       exact Mj this
      have hp0:parts= #[]:=by
       cases hpl:parts.toList with
       |nil=>rw [← cJ (xs:=parts),hpl]
       |cons p ps=>
        obtain ⟨pi,px⟩:=p;rw [hpl] at hl;simp only [rZ,List.replicate_zero,yr] at hl;split at hl
        ·simp [show Nat.blt pi 0=false from rfl] at hl
        ·cases hl
      subst ha hp0;have hr0:(Array.range 0).map (fun _=>(default:Value))= #[]:=Mj (by simp);simp [Instr.buildSlice,run_underlying hD,sizeOf,typeInfo,hi,newRow,Instr.fill,hr0]
     ·exact run_buildSlice w t e n _ arr i z hD hi hz (by rw [hs];omega) h0 e1'
    obtain ⟨G',_,hrel,hra⟩:=hr1.dU d (H0.none (hout d hd)) (e:=e) (ts:=te.ts) (xs:=xs) (v:= .slice (some ⟨w.heap.size,0,none⟩) n n) (w':=w.alloc (.cells arr e)) (cells:=arr.toList) rfl rfl rfl (by simp [World.alloc,-World.alloc_eq]) (fun k hk=> .inl (eY w _ hk)) hpos
     (by rw [e5];exact World.ownsRow_lit w arr n (gd _) (by simp only [maxLen];omega) (by rw [e2,e5]))
     e3 (fun k hk=>by
      have:w.heap.size=k:=by simpa [Value.ownBlock] using hk
      exact hr1.am (by omega)) (fun j x hx=>RdE.mono (Hp.le.refl _) te.ts x _ _ (fun k v hv=>by rw [cK];exact hv) (e4 j x hx))
    refine jM (v:= .slice (some ⟨w.heap.size,0,none⟩) n n) (w':=w.alloc (.cells arr e)) ?_ (hK _ _ _ G' he ?_)
    ·simp only [execOp,hop];rw [Sem.run_bind,hrun];rfl
    ·have:=hrel.put o.dst hra;rw [GH s d _ is hb.1] at this;exact this
 ·cases he
end
section
variable {P:Program} {C:Ctx} {w0:World} {yu:Nat→Prop} {H0:Base} {s:St} {a:Act} {w:World} {G:Gh} {o:Oper} {K:Act→World→Prop} {Q:Exit→Act→World→Prop} {R:Type} {k:Eff→Option R} {r:R} {lk:Lk} {call:C.Sem} {ct wn:Bool}
theorem CW: ∀ (l:List Int) (b:ByteArray),l.foldl (fun r n=>r.push (UInt8.ofNat n.toNat)) b=⟨b.data++(l.map fun n=>UInt8.ofNat n.toNat).toArray⟩
 |[],b=>by simp
 |n::l,b=>by rw [Zl,CW l];congr 1;apply Array.ext';simp [ByteArray.push]
theorem My (h:Rel P w0 yu H0 s a w G) (hlk:dS lk s) {x:A} {l:List (Elts [.int .u8])} (hx:rowOf lk [.int .u8] x=some l) {u:Value} (hu:RA G x u):(Conv.bytesToString u).run P w= .ok (.string (textOf l)) w:=by
 obtain ⟨A,c,rfl,hm,hr⟩:=mB h hlk hx hu;cases A with
 |none=>
  have h0:l.length=0:=by
   rcases Nat.eq_zero_or_pos l.length with h0|h0
   ·exact h0
   ·obtain ⟨ad,ea,_⟩:=hr h0;cases ea
  have:l=[]:=f_.1 h0;subst this;rfl
 |some ad=>
  have hl:(loadCells ad l.length).run P w= .ok ((show List Int from l).map (Value.int .u8)).toArray w:=by
   have:=run_loadCells_list (P:=P) w ad ((show List Int from l).map (Value.int .u8)) (fun j v hv=>by
    rw [cM] at hv;obtain ⟨n,hn,rfl⟩:=Ys.1 hv;have hp:0<l.length:=by have:=(ZF.1 hn).1;have h2:j<l.length:=this;omega
    obtain ⟨ad',ea,hrd⟩:=hr hp;injection ea with ea;subst ea;obtain ⟨v,hv,hvv⟩:=hrd j n hn;have hv':w.cell? (ad.add (j*1+0))=some v:=hv;rw [show v= .int .u8 n from hvv,show j*1+0=j by omega] at hv';exact hv')
   rw [wV] at this;exact this
  rw [run_bytesToString w ad l.length c _ hl,CW];congr 2;unfold textOf;congr 1;simp [ByteArray.empty,ByteArray.emptyWithCapacity];rfl
theorem Ul {H:Hp} {e:Nat} {ts:List Ty} (xs:List (Elts ts)) (A:Option Addr) (n c:Nat) (hn:xs.length=n) (hc:n≤c) (hm:n≤9223372036854775807)
  (h:0<n→ ∃ ad,A=some ad∧ ∀ (j:Nat) (x:Elts ts),xs[j]? =some x→RdE H ts x (fun i=>cO H (ad.add (j*ts.length+i)))):RdT H (.sl e ts) xs (.slice A n c):=by
 subst hn;exact ⟨A,c,rfl,hc,hm,h⟩
theorem Mz (h:Rel P w0 yu H0 s a w G) (src dst e:Nat) (xv:ByteArray) (hsz:xv.size<140737488351232) {D:TypeDesc} (hD:P.underlying src=some D) (hEi:P.underlying dst=some (.slice e)) (hFi:P.underlying e=some (.int .u8)):
  ∃ w' v G',(convert src dst (.string xv)).run P w= .ok v w'∧Rel P w0 yu H0 s a w' G'∧RdT G'.H (.sl e [.int .u8]) (Z_ xv) v:=by
 have hrun:=Lib.run_convert_string_bytes (P:=P) w src dst e xv hD hEi hFi;obtain ⟨G',hrel,hle,hnew⟩:=h.newH (w':=Lib.bytesWorld w e xv) (by simp [Lib.bytesWorld,World.freeze,World.alloc,World.drew,-World.alloc_eq,-World.drew_eq]) (by simp [Lib.bytesWorld,World.freeze,World.alloc,World.drew,-World.alloc_eq,-World.drew_eq]) (by simp [Lib.bytesWorld,World.freeze,World.alloc,World.drew,-World.alloc_eq,-World.drew_eq])
  (by rw [Lib.bytesWorld_size];omega) (fun k hk=>Lib.bytesWorld_at_old w e xv k hk)
 have hlen:(Z_ xv).length=xv.size:=by unfold Z_;rw [wV,jG];rfl
 refine ⟨_,_,G',hrun,hrel,Ul (ts:=[.int .u8]) (Z_ xv) _ xv.size _ hlen (grownCap_ge w xv.size 0 e) (by omega) (fun _=>⟨_,rfl,fun j y hy=> ?_⟩)⟩;have hy':(Z_ xv)[j]? =some y:=hy;have hj:j<xv.size:=by
  have:=(ZF.1 hy').1
  rwa [hlen] at this
 refine ⟨.int .u8 y,?_,rfl⟩;show cO G'.H ((⟨w.heap.size,0,none⟩:Addr).add (j*1+0))=_;rw [add_plain,show j*1+0=j by omega];have hc:=Lib.bytesWorld_cell w e xv j hj;have hval:((xv.data.toList.getD j 0).toNat:Int)=y:=by unfold Z_ at hy';rw [cM] at hy';obtain ⟨u,hu,he2⟩:=Ys.1 hy';rw [Zr,hu];exact he2
 rw [hval] at hc;rw [← hc];show cO G'.H _=cO (heapOf (Lib.bytesWorld w e xv)) _;unfold cO;rw [show G'.H w.heap.size=heapOf (Lib.bytesWorld w e xv) w.heap.size from hnew _ (jk _)]
theorem MA (hT:Jl C P) (h:Rel P w0 yu H0 s a w G) (hK:Next P w0 yu H0 s o k r K) (hlk:dS lk s) {src dst:Nat} {x:Operand} (hop:o.op= .convert src dst x) (he:Yg C call ct wn o s.Yw lk k=some r):o.wp P a w K Q:=by
 have hx:=h.Yw x;simp only [Yg,hop] at he;split at he
 ·rename_i ti k2 b k1 n hs hd hxa;rw [hxa] at hx;obtain ⟨D,hD,_⟩:=hT.und src _ hs;obtain ⟨E,hE,hEE⟩:=hT.und dst _ hd;have hEi:P.underlying dst=some (.int k2):=by rw [hE,show E= .int k2 from hEE]
  refine quiet h hK he (v:= .int k2 (k2.wrap n)) ?_ rfl;simp only [execOp,hop];rw [show a.eval x= .int k1 n from hx,Sem.run_bind];have:(convert src dst (.int k1 n)).run P w= .ok (.int k2 (k2.wrap n)) w:=by cases D<;>simp [convert,run_underlying hD,run_underlying hEi,Conv.intToInt]
  rw [this];rfl
 ·rename_i ti b xv hs hd hxa;rw [hxa] at hx;obtain ⟨D,hD,_⟩:=hT.und src _ hs;obtain ⟨E,hE,hEE⟩:=hT.und dst _ hd;have hEi:P.underlying dst=some .string:=by rw [hE,show E= .string from hEE]
  refine quiet h hK he (v:= .string xv) ?_ rfl;simp only [execOp,hop];rw [show a.eval x= .string xv from hx,Sem.run_bind];have:(convert src dst (.string xv)).run P w= .ok (.string xv) w:=by cases D<;>simp [convert,run_underlying hD,run_underlying hEi]
  rw [this];rfl
 ·rename_i b1 e b2 xv hs hd hxa;rw [hxa] at hx;split at he
  ·rename_i b3 hte;split at he
   ·rename_i hsz;obtain ⟨D,hD,_⟩:=hT.und src _ hs;obtain ⟨E,hE,hEE,_⟩:=hT.und dst _ hd;obtain ⟨F,hF,hFF⟩:=hT.und e _ hte;have hEi:P.underlying dst=some (.slice e):=by rw [hE,hEE]
    have hFi:P.underlying e=some (.int .u8):=by rw [hF,show F= .int .u8 from hFF]
    obtain ⟨w',v,G',hrun,hrel,hrd⟩:=Mz h src dst e xv hsz hD hEi hFi;refine jM (v:=v) (w':=w') ?_ (hK _ _ _ G' he (hrel.put o.dst hrd));simp only [execOp,hop];rw [show a.eval x= .string xv from hx,Sem.run_bind,hrun];rfl
   ·cases he
  ·cases he
 ·rename_i e b1 b2 hs hd hneg;split at he
  ·rename_i b3 l hte hl;obtain ⟨D,hD,TR,_⟩:=hT.und src _ hs;obtain ⟨E,hE,hEE⟩:=hT.und dst _ hd;obtain ⟨F,hF,hFF⟩:=hT.und e _ hte;have hDi:P.underlying src=some (.slice e):=by rw [hD,TR]
   have hEi:P.underlying dst=some .string:=by rw [hE,show E= .string from hEE]
   have hFi:P.underlying e=some (.int .u8):=by rw [hF,show F= .int .u8 from hFF]
   have ht:=My (P:=P) h hlk hl hx;obtain ⟨A,c,hv,_⟩:=mB h hlk hl hx;refine quiet h hK he (v:= .string (textOf l)) ?_ rfl;simp only [execOp,hop];rw [hv] at ht;rw [hv,Sem.run_bind,run_convert_bytes_string w src dst e A _ c hDi hFi hEi,ht];rfl
  ·cases he
 ·cases he
end
section
variable {P:Program} {C:Ctx} {w0:World} {yu:Nat→Prop} {H0:Base} {s:St} {a:Act} {w:World} {G:Gh} {o:Oper} {K:Act→World→Prop} {Q:Exit→Act→World→Prop} {R:Type} {k:Eff→Option R} {r:R} {lk:Lk} {call:C.Sem}
def CellR (H:Hp) (w:World):(t:Ty)→Bool→El t→Value→(Nat→Prop)→Prop
 | .sl e ts,true,xs,v,b=>b=(fun k=>v.ownBlock=some k)∧0<ts.length∧ ∃ cells,w.ownsRow 0 e ts.length v (List.length xs) cells∧(∀ u∈cells,u.oneCell'=true)∧ ∀ (j:Nat) (x:Elts ts),(show List (Elts ts) from xs)[j]? =some x→RdE H ts x (fun k=>cells[j*ts.length+k]?)
 |t,_,x,v,b=>b=(fun _=>False)∧RdT H t x v
def CellsR (H:Hp) (w:World):(ts:List Ty)→List Bool→Elts ts→List Value→List (Nat→Prop)→Prop
 |[],_,_,vs,bs=>vs=[]∧bs=[]
 |t::[],os,x,vs,bs=> ∃ v b,vs=[v]∧bs=[b]∧CellR H w t (os.headD false) x v b
 |t::u::r,os,x,vs,bs=> ∃ v b vs' bs',vs=v::vs'∧bs=b::bs'∧CellR H w t (os.headD false) x.1 v b∧CellsR H w (u::r) os.tail x.2 vs' bs'
theorem Free.y5k {k d:Nat} (hf:Free w0 yu s G k) {ob:Ob} {G':Gh} (hag:Agree G G' d) (hH:G'.H=G.H) (hb: ¬ zS G' d ob k):Free w0 yu (s.make d ob) G' k:=by
 have h1:=hf.forget hag hH;refine ⟨h1.1,h1.2.1,fun j oj hj hbj=> ?_⟩;have hj':look ((d,ob)::(s.forget d).o) j=some oj:=hj;by_cases hjd:d=j
 ·subst hjd;simp only [look,yH,yg,z8] at hj';subst hj';exact hb hbj
 ·simp only [look,yO hjd,yi] at hj';exact h1.2.2 j oj hj' hbj
theorem Free.make {k d:Nat} (hf:Free w0 yu s G k) {ob:Ob} {gg:Nat×Nat} {v:Value} {z:Nat×Nat} (hb: ¬ zS (G.upd d gg v z) d ob k):Free w0 yu (s.make d ob) (G.upd d gg v z) k:=
 hf.y5k (G.J_ d gg v z) rfl hb
def Same (G G':Gh) (j:Nat):Prop:=G'.g j=G.g j∧G'.sv j=G.sv j∧G'.sz j=G.sz j
theorem Same.refl {G:Gh} {j:Nat}:Same G G j:=⟨rfl,rfl,rfl⟩
theorem Same.trans {G G' G'':Gh} {j:Nat} (h:Same G G' j) (h':Same G' G'' j):Same G G'' j:=⟨h'.1.trans h.1,h'.2.1.trans h.2.1,h'.2.2.trans h.2.2⟩
theorem Agree.same {G G':Gh} {i j:Nat} (h:Agree G G' i) (hj:j≠i):Same G G' j:=⟨h.g j hj,h.sv j hj,h.sz j hj⟩
theorem tE (h:Rel P w0 yu H0 s a w G) (tg:Bool) (t:Ty) (own:Bool) (x:El t) (n:Nat) (hn:950≤n) (v:Value) (b:Nat→Prop) (htp:tg=true→ ∀ k,b k→G.pv k=w.heap[k]?) (hc:CellR G.H w t own x v b) (hf:tg=false→ ∀ k,b k→Free w0 yu s G k):
  ∃ G',G'.H=G.H∧(∀ j,j∉yN (jr tg t own x n).2→Same G G' j)∧Rel P w0 yu H0 (s.makeAll (jr tg t own x n).2) a w G'∧RA G' (jr tg t own x n).1 v∧
   ∀ k,Free w0 yu s G k→ ¬ b k→Free w0 yu (s.makeAll (jr tg t own x n).2) G' k:=by
 have plain: ∀ {t:Ty} {own:Bool} {x:El t},jr tg t own x n=(.val t x,[])→b=(fun _=>False)∧RdT G.H t x v→ ∃ G',G'.H=G.H∧(∀ j,j∉yN (jr tg t own x n).2→Same G G' j)∧Rel P w0 yu H0 (s.makeAll (jr tg t own x n).2) a w G'∧RA G' (jr tg t own x n).1 v∧
   ∀ k,Free w0 yu s G k→ ¬ b k→Free w0 yu (s.makeAll (jr tg t own x n).2) G' k:=by
  intro t own x he hr;rw [he];exact ⟨G,rfl,fun _ _=>Same.refl,h,hr.2,fun k hk _=>hk⟩
 have root: ∀ {e:Nat} {ts:List Ty} {x:El (.sl e ts)} {cells:List Value},(∀ k,b k→Free w0 yu s G k)→(jr tg (.sl e ts) true x n)=(.own n,[(n,.root true e ts x)])→0<ts.length→w.ownsRow 0 e ts.length v (List.length x) cells→(∀ u∈cells,u.oneCell'=true)→(∀ k,v.ownBlock=some k→b k)→(∀ (j:Nat) (y:Elts ts),(show List (Elts ts) from x)[j]? =some y→RdE G.H ts y (fun k=>cells[j*ts.length+k]?))→
   ∃ G',G'.H=G.H∧(∀ j,j∉yN (jr tg (.sl e ts) true x n).2→Same G G' j)∧Rel P w0 yu H0 (s.makeAll (jr tg (.sl e ts) true x n).2) a w G'∧RA G' (jr tg (.sl e ts) true x n).1 v∧
   ∀ k,Free w0 yu s G k→ ¬ b k→Free w0 yu (s.makeAll (jr tg (.sl e ts) true x n).2) G' k:=by
  intro e ts x cells hf he hpos hown hone hbk hrd;rw [he];have hr:=h.xZ n (H0.none (.inr hn)) (e:=e) (ts:=ts) (xs:=x) (v:=v) (w':=w) rfl rfl rfl (jk _) (fun _ _=> .inl rfl) hpos hown hone (fun k hk=>hf k (hbk k hk)) hrd;refine ⟨G.upd n ((v.ownBlock).getD 0,0) v (ts.length,List.length x),rfl,fun j hj=>(G.J_ n _ v _).same (by simpa [yN] using hj),hr.1,hr.2,fun k hk hne=>hk.make fun he=>hne (hbk k ?_)⟩;simpa [zS,Gh.upd] using he
 cases t with
 |sl e ts=>
  cases own with
  |false=>exact plain rfl hc
  |true=>
    obtain ⟨hb,hpos,cells,hown,hone,hrd⟩:=hc;cases htt:tg with
    |false=>have:=root (x:=x) (hf htt) (by rw [htt];rfl) hpos hown hone (fun k hk=>by rw [hb];exact hk) hrd;rw [htt] at this;exact this
    |true=>
     refine ⟨G,rfl,fun _ _=>Same.refl,h,?_,fun k hk _=>hk⟩;show NQ G.H G.pv ts x v;rcases hown.2 with ⟨hv,hn⟩|⟨g,cap,cur,hv,_,hg,hle,hm,hsz,htk⟩
     ·exact ⟨none,0,by rw [hv,hn],Nat.le_of_eq hn,by rw [hn];omega,fun hp=>by omega⟩
     ·refine ⟨some ⟨g,0,none⟩,cap,hv,hle,YI hle (YI hm (by decide)),fun _=>⟨_,rfl,fun j y hj=> ?_⟩⟩;have hk:G.pv g=some (.cells cur e (0,0)):=(htp htt g (by rw [hb,hv];rfl)).trans hg;refine RdE.mono (Hp.le.refl _) ts y _ _ (fun i u hu=> ?_) (hrd j y hj);rw [add_plain];unfold cO;simp only [hk];rw [← htk,Vp] at hu;split at hu
      ·simpa using hu
      ·cases hu
 |int _=>exact plain (by cases own<;>rfl) (by cases own<;>exact hc)
 |bool=>exact plain (by cases own<;>rfl) (by cases own<;>exact hc)
 |str=>exact plain (by cases own<;>rfl) (by cases own<;>exact hc)
theorem jO: ∀ (l l':List (Nat×Ob)) (s:St),s.makeAll (l++l')=(s.makeAll l).makeAll l'
 |[],_,_=>rfl
 |(i,x)::l,l',s=>jO l l' (s.make i x)
theorem MB {G G':Gh} {tg:Bool} {t:Ty} {own:Bool} {x:El t} {n:Nat} {v:Value} (hH:G'.H=G.H) (hp:G'.pv=G.pv) (hn:G'.sv n=G.sv n) (h:RA G (jr tg t own x n).1 v):RA G' (jr tg t own x n).1 v:=by
 have plain:RdT G.H t x v→RdT G'.H t x v:=fun h=>by rw [hH];exact h
 cases t with
 |sl e ts=>
  cases own with
  |false=>exact plain h
  |true=>
   cases hc:tg with
   |true=>simp only [jr,hc,yg] at h ⊢;show NQ G'.H G'.pv ts x v;rw [hH,hp];exact h
   |false=>simp only [jr,hc,yi] at h ⊢;exact ⟨by rw [hn];exact h.1,h.2⟩
 |int _=>cases own<;>exact plain h
 |bool=>cases own<;>exact plain h
 |str=>cases own<;>exact plain h
theorem ap {α:Type}: ∀ (X Y:List (Nat×α)),yN (X++Y)=yN X++yN Y
 |[],_=>rfl
 |(i,_)::X,Y=>by simp [yN,ap X Y]
theorem Ab (tg:Bool) (t:Ty) (own:Bool) (x:El t) (n:Nat): ∀ j∈yN (jr tg t own x n).2,j=n:=by intro j hj;cases t<;>cases own<;>cases tg<;>simp [jr,yN] at hj<;>exact hj
theorem EN (tg:Bool): ∀ (ts:List Ty) (os:List Bool) (x:Elts ts) (n:Nat),∀ j∈yN (zC tg ts os x n).2,n≤j∧j<n+ts.length:=by
 intro ts;induction ts with
 |nil=>intro os x n j hj;exact absurd hj (by simp [zC,yN])
 |cons t ts ih=>
  intro os x n j hj;cases ts with
  |nil=>have:=Ab tg t (os.headD false) x n j hj;simp only [yp,yr];omega
  |cons u r=>
   rw [show (zC tg (t::u::r) os x n).2=(jr tg t (os.headD false) x.1 n).2++(zC tg (u::r) os.tail x.2 (n+1)).2 from rfl,ap] at hj;rcases zB.1 hj with hj|hj
   ·have:=Ab tg t _ x.1 n j hj;simp only [yp];omega
   ·have:=ih os.tail x.2 (n+1) j hj;simp only [yp] at this ⊢;omega
theorem nn (tg:Bool): ∀ (ts:List Ty) (os:List Bool) (x:Elts ts) (n:Nat) (vs:List Value) (bs:List (Nat→Prop)) (s:St) (G:Gh),950≤n→Rel P w0 yu H0 s a w G→(tg=true→ ∀ k,In bs k→G.pv k=w.heap[k]?)→CellsR G.H w ts os x vs bs→(tg=false→ ∀ k,In bs k→Free w0 yu s G k)→Apart bs→
  ∃ G',G'.H=G.H∧(∀ j,j∉yN (zC tg ts os x n).2→Same G G' j)∧Rel P w0 yu H0 (s.makeAll (zC tg ts os x n).2) a w G'∧RL G' (zC tg ts os x n).1 vs∧
   ∀ k,Free w0 yu s G k→ ¬ In bs k→Free w0 yu (s.makeAll (zC tg ts os x n).2) G' k:=by
 intro ts;induction ts with
 |nil=>intro os x n vs bs s G hn h htp hc hf ha;obtain ⟨rfl,rfl⟩:=hc;exact ⟨G,rfl,fun _ _=>Same.refl,h,trivial,fun k hk _=>hk⟩
 |cons t ts ih=>
  intro os x n vs bs s G hn h htp hc hf ha;cases ts with
  |nil=>obtain ⟨v,b,rfl,rfl,hcr⟩:=hc;obtain ⟨G',h1,h2,h3,h4,h5⟩:=tE h tg t (os.headD false) x n hn v b (fun ht k hk=>htp ht k (In.cons.2 (.inl hk))) hcr (fun hz k hk=>hf hz k (In.cons.2 (.inl hk)));exact ⟨G',h1,fun j hj=>h2 j hj,h3,⟨h4,trivial⟩,fun k hk hne=>h5 k hk (fun e=>hne (In.cons.2 (.inl e)))⟩
  |cons u r=>
   obtain ⟨v,b,vs',bs',rfl,rfl,hcr,hcs⟩:=hc;obtain ⟨G1,h1,h2,h3,h4,h5⟩:=tE h tg t (os.headD false) x.1 n hn v b (fun ht k hk=>htp ht k (In.cons.2 (.inl hk))) hcr (fun hz k hk=>hf hz k (In.cons.2 (.inl hk)));have ha':=aH.1 ha;obtain ⟨G',e1,e2,e3,e4,e5⟩:=ih os.tail x.2 (n+1) vs' bs' _ G1 (by omega) h3 (fun ht k hk=>by
    rw [h3.pv,← h.pv];exact htp ht k (In.cons.2 (.inr hk))) (by rw [h1];exact hcs) (fun hz k hk=>h5 k (hf hz k (In.cons.2 (.inr hk))) (fun e=>by
    obtain ⟨c,hc,hck⟩:=hk;exact ha'.1 c hc k e hck)) ha'.2
   refine ⟨G',e1.trans h1,fun j hj=> ?_,?_,⟨?_,e4⟩,fun k hk hne=> ?_⟩
   ·rw [show (zC tg (t::u::r) os x n).2=(jr tg t (os.headD false) x.1 n).2++(zC tg (u::r) os.tail x.2 (n+1)).2 from rfl,ap,zB,not_or] at hj;exact (h2 j hj.1).trans (e2 j hj.2)
   ·rw [show (zC tg (t::u::r) os x n).2=(jr tg t (os.headD false) x.1 n).2++(zC tg (u::r) os.tail x.2 (n+1)).2 from rfl,jO];exact e3
   ·exact MB e1 (e3.pv.trans h3.pv.symm) (e2 n (fun hn=>by have:=(EN tg (u::r) os.tail x.2 (n+1) n hn).1;omega)).2.1 h4
   ·rw [show (zC tg (t::u::r) os x n).2=(jr tg t (os.headD false) x.1 n).2++(zC tg (u::r) os.tail x.2 (n+1)).2 from rfl,jO];exact e5 k (h5 k hk (fun e=>hne (In.cons.2 (.inl e)))) (fun e=>hne (In.cons.2 (.inr e)))
theorem tF (h:Rel P w0 yu H0 s a w G) (hlk:dS lk s) {G1:Gh} (hg:Grown G G1) {own:Bool} {t:Ty} {x:A} {y:El t} {is gs:List Nat} (hx:Vs lk own t x=some (y,is,gs)) (hs:jn lk G1 is) {v:Value} (hr:RA G x v):
  ∃ b,CellR G1.H w t own y v b∧Given s G gs [b]∧(own=false→ ∀ k,¬ b k):=by
 have plain:own=false∨t.flat=true→RdT G1.H t y v→ ∃ b,CellR G1.H w t own y v b∧Given s G gs [b]∧(own=false→ ∀ k,¬ b k):=by
  intro ho hrd;refine ⟨fun _=>False,?_,fun k hk=>by simp [In] at hk,fun _ _ h=>h⟩;cases t with
  |sl e ts=>
   rcases ho with rfl|ho
   ·exact ⟨rfl,hrd⟩
   ·simp [Ty.flat] at ho
  |int _=>cases own<;>exact ⟨rfl,hrd⟩
  |bool=>cases own<;>exact ⟨rfl,hrd⟩
  |str=>cases own<;>exact ⟨rfl,hrd⟩
 cases own with
 |false=>have hx':(oG lk t x).map (fun (y,is)=>(y,is,([]:List Nat)))=some (y,is,gs):=hx;obtain ⟨p,hp,he⟩:=Ys.1 hx';obtain ⟨y',is'⟩:=p;injection he with e1 e2;injection e2 with e2 e3;subst e1 e2;exact plain (.inl rfl) (mA hp hs (hr.grown hg))
 |true=>
  cases x with
  |own q=>
   simp only [Vs,yg] at hx;cases hq:lk q with
   |none=>simp [hq] at hx
   |some ob=>
    cases ob with
    |root own e ts xs=>
     cases own with
     |false=>simp [hq] at hx
     |true=>
      simp only [hq] at hx;obtain ⟨z,hz,he⟩:=Ys.1 hx;injection he with e1 e2;injection e2 with e2 e3;subst e1 e2 e3;unfold qT at hz;split at hz
      ·rename_i heq;have ht:=Ty.nS _ _ heq;subst ht;injection hz with hz;subst hz;obtain ⟨hsz,hpos,cells,hown,hone,hblk,hrd⟩:=h.objs q _ (hlk q _ hq);refine ⟨fun k=>v.ownBlock=some k,⟨rfl,hpos,cells,by rw [hr.1];exact hown,hone,fun j x hj=>RdE.mono hg.H _ x _ _ (fun _ _ hv=>hv) (hrd j x hj)⟩,fun k hk=>⟨q,by simp,_,hlk q _ hq,?_⟩,fun h=>Bool.noConfusion h⟩;have hk':v.ownBlock=some k:=by simpa [In] using hk
       show (G.sv q).ownBlock=some k;rw [← hr.1];exact hk'
      ·cases hz
    |_=>simp [hq] at hx
  |JX=>
   cases t with
   |sl e ts=>
    simp only [Vs,yg] at hx;cases hb:Nat.blt 0 ts.length with
    |false=>simp [hb] at hx
    |true=>simp only [hb,yg] at hx;injection hx with hx;injection hx with e1 e2;subst e1;have hv:v= .slice none 0 0:=hr;subst hv;have hpos:=WZ hb;exact ⟨fun _=>False,⟨by funext k;simp [Value.ownBlock],hpos,[],World.ownsRow_nil w 0 e ts.length,by simp,fun j x hx=>by simp [oE] at hx⟩,fun k hk=>by simp [In] at hk,fun h=>by (cases h)⟩
   |_=>simp [Vs] at hx
  |val t' x'=>
   simp only [Vs,yg] at hx;cases hfl:Ty.flat t with
   |false=>simp [hfl] at hx
   |true=>simp only [hfl,yg] at hx;obtain ⟨z,hz,he⟩:=Ys.1 hx;injection he with e1 e2;subst e1;exact plain (.inr hfl) (ft hz (hr.grown hg))
  |_=>cases t<;>simp [Vs] at hx
theorem Ac (h:Rel P w0 yu H0 s a w G) (hlk:dS lk s) {G1:Gh} (hg:Grown G G1): ∀ (ts:List Ty) (os:List Bool) (l:List A) (y:Elts ts) (is gs:List Nat),V2 lk ts os l=some (y,is,gs)→jn lk G1 is→gs.Nodup→ ∀ (vs:List Value),RL G l vs→
  ∃ bs,CellsR G1.H w ts os y vs bs∧Given s G gs bs∧Apart bs:=by
 intro ts;induction ts with
 |nil=>
  intro os l y is gs hx hs hn vs hr;cases l with
  |nil=>
   cases vs with
   |nil=>exact ⟨[],⟨rfl,rfl⟩,fun k hk=>absurd hk In.nil,List.Pairwise.nil⟩
   |cons _ _=>exact hr.elim
  |cons x l=>exact absurd hx (by rw [show V2 lk [] os (x::l)=none from rfl];exact fun h=>by cases h)
 |cons t ts ih=>
  intro os l y is gs hx hs hn vs hr;cases ts with
  |nil=>
   cases l with
   |nil=>exact absurd hx (by rw [show V2 lk [t] os []=none from rfl];exact fun h=>by cases h)
   |cons x l=>
    cases l with
    |cons x2 l=>exact absurd hx (by rw [show V2 lk [t] os (x::x2::l)=none from rfl];exact fun h=>by cases h)
    |nil=>
     have hx':Vs lk (os.headD false) t x=some (y,is,gs):=hx;cases vs with
     |nil=>exact hr.elim
     |cons v vs=>
      cases vs with
      |cons _ _=>exact hr.2.elim
      |nil=>obtain ⟨b,h1,h2,h3⟩:=tF h hlk hg hx' hs hr.1;exact ⟨[b],⟨v,b,rfl,rfl,h1⟩,h2,List.pairwise_singleton _ _⟩
  |cons u r=>
   cases l with
   |nil=>exact absurd hx (by rw [show V2 lk (t::u::r) os []=none from rfl];exact fun h=>by cases h)
   |cons x l=>
    have hx':(match Vs lk (os.headD false) t x with
     |some (x,is,gs)=>match V2 lk (u::r) os.tail l with
      |some (y,js,hs)=>some (((x,y):Elts (t::u::r)),is++js,gs++hs)
      |none=>none
     |none=>none)=some (y,is,gs):=hx
    cases h1:Vs lk (os.headD false) t x with
    |none=>rw [h1] at hx';cases hx'
    |some p=>
     obtain ⟨x1,is1,gs1⟩:=p;rw [h1] at hx';cases h2:V2 lk (u::r) os.tail l with
     |none=>rw [h2] at hx';cases hx'
     |some q=>
      obtain ⟨y1,is2,gs2⟩:=q;rw [h2] at hx';injection hx' with hx';injection hx' with e1 e2;injection e2 with e2 e3;subst e1 e2 e3;cases vs with
      |nil=>exact hr.elim
      |cons v vs=>
       obtain ⟨n1,n2,n3⟩:=List.nodup_append.1 hn;obtain ⟨b,c1,c2,c3⟩:=tF h hlk hg h1 hs.left hr.1;obtain ⟨bs,d1,d2,d3⟩:=ih os.tail l y1 is2 gs2 h2 hs.right n2 vs hr.2;have hap:=Gx h c2 d2 (fun q hq hq'=>n3 q hq q hq' rfl);refine ⟨b::bs,⟨v,b,vs,bs,rfl,rfl,c1,d1⟩,fun k hk=> ?_,aH.2 ⟨fun c hc k hb hck=>hap k (by simpa [In] using hb) ⟨c,hc,hck⟩,d3⟩⟩;rcases In.cons.1 hk with hk|hk
       ·obtain ⟨q,hq,rest⟩:=c2 k (by simpa [In] using hk);exact ⟨q,by simp [hq],rest⟩
       ·obtain ⟨q,hq,rest⟩:=d2 k hk;exact ⟨q,by simp [hq],rest⟩
end
section
variable {P:Program} {C:Ctx} {s:St} {o:Oper} {R:Type} {lk:Lk} {call:C.Sem} {ct wn:Bool} {ρ:Operand→A}
theorem MC {dst:Option Nat} {g q:Nat} {as:List A} (k:Eff→Option R):Gf C call lk dst g as q k=(Gf C call lk dst g as q some).bind k:=by
 unfold Gf;simp only [yl]
 (repeat' (split<;>(try simp only [wT,zzal0,Option.bind_assoc,yl])<;>try rfl))
 all_goals (congr 1;funext y;cases cF _ _ _ _ _ _ _ y<;>rfl)
set_option maxHeartbeats 1000000 in
theorem sn (k:Eff→Option R):Yg C call ct wn o ρ lk k=(Yg C call ct wn o ρ lk some).bind k:=by
 unfold Yg;cases o.op<;>simp only [NN,MC k,wT,zzal0,yl]<;>(repeat' (split<;>(try simp only [wT,zzal0,Option.bind_assoc,yl])<;>try rfl))<;>(try rfl)
 all_goals (first|(exfalso;rename_i heq;cases heq;done)|(congr 1;funext y;cases cF _ _ _ _ _ _ _ y<;>rfl)|skip)
theorem oL {ρ ρ':Operand→A} (fs:List (Nat×Nat)): ∀ (parts:List (Nat×Operand)) (cs:List A),(∀ p∈parts,ρ p.2=ρ' p.2)→gj C ρ fs cs parts=gj C ρ' fs cs parts
 |[],_,_=>rfl
 |(i,x)::r,cs,h=>by have hx:=h (i,x) (by simp);simp only at hx;have ih:=fun cs=>oL fs r cs (fun p hp=>h p (by simp [hp]));simp only [gj,hx,ih]
theorem Ad {ρ ρ':Operand→A} (ts:List Ty): ∀ (parts:List (Nat×Operand)) (xs:List (Elts ts)) (is:List Nat),(∀ p∈parts,ρ p.2=ρ' p.2)→rZ lk ρ ts parts xs is=rZ lk ρ' ts parts xs is
 |[],_,_,_=>rfl
 |(i,x)::r,xs,is,h=>by have hx:=h (i,x) (by simp);simp only at hx;have ih:=fun xs is=>Ad ts r xs is (fun p hp=>h p (by simp [hp]));simp only [rZ,hx,ih]
theorem MD {ρ ρ':Operand→A} (k:Eff→Option R) (h: ∀ x∈o.op.operands,ρ x=ρ' x):Yg C call ct wn o ρ lk k=Yg C call ct wn o ρ' lk k:=by
 obtain ⟨dst,op,type,pos,after,guard⟩:=o;cases op<;>simp only [Op.operands] at h<;>simp only [Yg]
 case build t ps=>have hp: ∀ p∈ps.toList,ρ p.2=ρ' p.2:=fun p hp=>h p.2 (by simpa using ⟨p.1,by simpa using hp⟩);simp only [oL _ _ _ hp]
 case buildSlice t n ps=>have hp: ∀ p∈ps.toList,ρ p.2=ρ' p.2:=fun p hp=>h p.2 (by simpa using ⟨p.1,by simpa using hp⟩);simp only [Ad _ _ _ _ hp]
 case call c=>
  have hargs: ∀ x∈c.args.toList,ρ x=ρ' x:=fun x hx=>h x (by simp [Call.operands];simp at hx;simp [hx]);have hm:c.args.toList.map ρ=c.args.toList.map ρ':=Eu hargs;cases hc:c.callee with
  |value f=>have hf:ρ f=ρ' f:=h f (by simp [Call.operands,hc]);dsimp only;rw [hf,hm]
  |invoke r m=>cases c.args.toList<;>rfl
  |builtin b=>
   cases hl:c.args.toList with
   |nil=>cases b<;>rfl
   |cons x l=>
    have hx:=hargs x (by simp [hl]);cases l with
    |nil=>cases b<;>first|rfl|(cases c.argTypes.toList<;>first|rfl|(dsimp only;rw [hx]))
    |cons y l=>
     have hy:=hargs y (by simp [hl]);cases l with
     |nil=>
      cases b<;>first|rfl|(dsimp only;rw [hx,hy])|(cases c.argTypes.toList with
       |nil=>rfl
       |cons t l=>cases l with
        |nil=>rfl
        |cons t2 l=>cases l with
         |nil=>dsimp only;rw [hx,hy]
         |cons _ _=>rfl)
     |cons z l=>cases b<;>rfl
 case makeFunc fn first captured=>
  cases fn with
  |func f=>
   cases hc:captured.toList with
   |nil=>dsimp only;rw [hc];cases first.toList<;>rfl
   |cons x l=>
    have hm:x∈captured:=by
     have:x∈captured.toList:=by simp [hc]
     simpa using this
    have hx:ρ x=ρ' x:=h x (by simp [hm]);dsimp only;rw [hc];cases l<;>cases first.toList<;>first|rfl|(dsimp only;rw [hx])
  |_=>rfl
 case slice t x lo hi mx=>
  have hx:=h x (by simp);cases mx with
  |some m=>rfl
  |none=>
   have hlo:loA ρ lo=loA ρ' lo:=by
    cases lo with
    |none=>rfl
    |some z=>exact h z (by simp)
   have hhi:hiA ρ hi=hiA ρ' hi:=funext fun n=>by
    cases hi with
    |none=>rfl
    |some z=>exact h z (by cases lo<;>simp)
   dsimp only;rw [hx,hlo,hhi]
 all_goals (first|rfl|(simp_all;done)|skip)
end
mutual
theorem A.wO {i:Nat}: ∀ (x:A),i∉x.ids→x.forget i=x
 | .own o,h=>by have hne:o≠i:=fun e=>h (by simp [A.ids,e]);simp [A.forget,yO hne]
 | .box b off,h=>by have hne:b≠i:=fun e=>h (by simp [A.ids,e]);simp [A.forget,yO hne]
 | .lj o j c,h=>by have hne:o≠i:=fun e=>h (by simp [A.ids,e]);simp [A.forget,yO hne]
 | .nc f b,h=>by have hne:b≠i:=fun e=>h (by simp [A.ids,e]);simp [A.forget,yO hne]
 | .win o q,h=>by have hne:o≠i:=fun e=>h (by simp [A.ids,e]);simp [A.forget,yO hne]
 | .tl o q,h=>by have hne:o≠i:=fun e=>h (by simp [A.ids,e]);simp [A.forget,yO hne]
 | .agg l,h=>by simp [A.forget,wW l h]
 | .oF l,h=>by simp [A.forget,wW l h]
 | .dead,_| .und,_| .val _ _,_| .JX,_| .aj,_| .ly _ _ _ _ _,_| .top _ _ _,_| .fn _,_=>rfl
theorem wW {i:Nat}: ∀ (l:List A),i∉Ya l→zv i l=l
 |[],_=>rfl
 |a::r,h=>by simp only [Ya,zB,not_or] at h;simp [zv,A.wO a h.1,wW r h.2]
end
theorem Ob.wO {i:Nat} (x:Ob) (h:i∉x.ids):x.forget i=x:=by
 cases x with
 |box cs=>simp [Ob.forget,wW cs h]
 |root _ _ _ _=>rfl
 |gone=>rfl
section
variable {P:Program} {C:Ctx} {w0:World} {yu:Nat→Prop} {H0:Base} {s:St} {a:Act} {w:World} {G:Gh}
theorem Rel.start (w:World) (yu:Nat→Prop) {B:Base} (hH:B.H.le (heapOf w)) (a:Act) (hd:a.defers=[]) (G:Gh) (hG:G.H=B.H) (hP:G.pv=B.pv) (hT: ∀ k ob,B.pv k=some ob→k<w.heap.size∧ ¬ yu k∧w.heap[k]? =some ob):Rel P w yu B ⟨[],[]⟩ a w G:=by refine {top:=hT,os:=rfl,tape:=rfl,output:=rfl,size:=jk _,old:=fun _ _ _=>rfl,uQ:=by rw [hG];exact hH,base:=by rw [hG];exact Hp.le.refl _,pv:=hP,hnew:=fun k ob hk=> .inl (by rw [← hG];exact hk),defers:=hd,len:=by simp,slots:=fun i x hx=>by simp at hx,objs:=fun i ob hi=>by simp [look] at hi,away:=fun i ob k hi _=>by simp [look] at hi,apart:=fun i j oi oj k hi _ _ _=>by simp [look] at hi,pin:=fun i ob b hi _=>by simp [look] at hi}
def oM (w:World) (b off:Nat) (vs:List Value):Prop:=b<w.heap.size∧ ∀ j v,vs[j]? =some v→w.frozen? ⟨b,off+j,none⟩=false∧w.cell? ⟨b,off+j,none⟩=some v∧v.oneCell'=true
theorem Rel.Um (h:Rel P w0 yu H0 s a w G) (d b off:Nat) {l:List A} {vs:List Value} (hl:RL G l vs) (hc:oM w b off vs) (hf:Free w0 yu s G b) (hp: ∀ p,H0.pin d=some p→(b,off)=p):
  Rel P w0 yu H0 (s.make d (.box (zv d l))) a w (G.upd d (b,off) undef (0,0)):=by
 refine h.make rfl rfl rfl (jk _) (fun _ _=> .inl rfl) ⟨by simpa [Gh.upd] using hc.1,fun j x hx=> ?_⟩ (fun k hk=> ?_) hp
 ·rw [V5] at hx;obtain ⟨y,hy,rfl⟩:=Ys.1 hx;obtain ⟨v,hv,hr⟩:=hl.get j y hy;obtain ⟨h1,h2,h3⟩:=hc.2 j v hv;simp only [Gh.upd,yo];exact ⟨h1,v,h2,h3,RA.forget (G.J_ d (b,off) undef (0,0)) y v hr⟩
 ·have:b=k:=by simpa [zS,Gh.upd] using hk
  exact this ▸ hf
theorem Rel.y31 (h:Rel P w0 yu H0 s a w G) {t:List A} (hlen:t.length≤a.tmps.size) (hs: ∀ (i:Nat) (x:A),t[i]? =some x→RA G x (a.tmps.getD i undef)):Rel P w0 yu H0 ⟨t,s.o⟩ a w G:=
 {h with defers:=h.defers,len:=hlen,slots:=hs,objs:=h.objs,away:=h.away,apart:=h.apart}
def V7:List PK→List (Nat×Nat)→Nat→Nat→Option (Nat×Nat)
 |[],_,_,_=>none
 | .v _ _ _::ps,pb,i,j=>V7 ps pb (i+1) j
 | .k _::ps,pb,i,j=>V7 ps pb (i+1) j
 | .p _ _ _::ps,b::pb,i,j=>if j=900+i then some b else V7 ps pb (i+1) j
 | .p _ _ _::_,[],_,_=>none
theorem kn: ∀ (ps:List PK) (pb:List (Nat×Nat)) (i j:Nat) (b:Nat×Nat),V7 ps pb i j=some b→900+i≤j∧j<900+i+ps.length
 |[],_,_,_,_,h=>by simp [V7] at h
 | .v _ _ _::ps,pb,i,j,b,h=>by have:=kn ps pb (i+1) j b h;simp only [yp];omega
 | .k _::ps,pb,i,j,b,h=>by have:=kn ps pb (i+1) j b h;simp only [yp];omega
 | .p _ _ _::ps,q::pb,i,j,b,h=>by
  simp only [V7] at h;simp only [yp];split at h
  ·omega
  ·have:=kn ps pb (i+1) j b h;omega
 | .p _ _ _::_,[],_,_,_,h=>by simp [V7] at h
def Ae:Option Nat→Value→Value
 |none,v=>v
 |some f,v=>bif Nat.blt f 1000000000 then .func (.func f) #[] #[v] else (match v with
  | .pointer (some a)=> .pointer (some ⟨a.block,a.off+(f - 1000000000),a.spot⟩)
  |v=>v)
theorem y32 {G:Gh} {wr:Option Nat} {b:Nat}:RA G (NO wr b) (Ae wr (.pointer (some ⟨(G.g b).1,(G.g b).2+0,none⟩))):=by
 cases wr with
 |none=>rfl
 |some f=>
  cases hf:Nat.blt f 1000000000 with
  |true=>simp only [NO,Ae,hf,yg];rfl
  |false=>simp only [NO,Ae,hf,yi];rfl
def Spread (w:World):List PK→List Value→List Value→List (Nat×Nat)→Prop
 |[],args,vs,pb=>args=[]∧vs=[]∧pb=[]
 | .v agg ts _::ps,args,vs,pb=> ∃ arg vs1 args' vs',args=arg::args'∧vs=vs1++vs'∧vs1.length=ts.length∧(if agg then arg= .agg vs1.toArray else vs1=[arg])∧Spread w ps args' vs' pb
 | .k f::ps,args,vs,pb=> ∃ args',args= .func (.func f) #[] #[]::args'∧Spread w ps args' vs pb
 | .p wr ts _::ps,args,vs,pb=> ∃ b off vs1 args' vs' pb',args=Ae wr (.pointer (some ⟨b,off,none⟩))::args'∧vs=vs1++vs'∧vs1.length=ts.length∧pb=(b,off)::pb'∧oM w b off vs1∧Spread w ps args' vs' pb'
theorem mC (tg:Bool) (t:Ty) (own:Bool) (x:El t) (n:Nat): ∀ j∈(jr tg t own x n).1.ids,n=j:=by intro j hj;cases t<;>cases own<;>cases tg<;>simp [jr,A.ids] at hj<;>exact hj.symm
theorem GI (tg:Bool): ∀ (ts:List Ty) (os:List Bool) (x:Elts ts) (n:Nat),∀ j∈Ya (zC tg ts os x n).1,n≤j:=by
 intro ts;induction ts with
 |nil=>intro os x n j hj;simp [zC,Ya] at hj
 |cons t ts ih=>
  intro os x n j hj;cases ts with
  |nil=>simp only [zC,Ya,lu] at hj;exact Nat.le_of_eq (mC tg t _ _ n j hj)
  |cons u r=>
   have hj':j∈(jr tg t (os.headD false) x.1 n).1.ids++Ya (zC tg (u::r) os.tail x.2 (n+1)).1:=hj;rcases zB.1 hj' with h|h
   ·exact Nat.le_of_eq (mC tg t _ _ n j h)
   ·have:=ih os.tail x.2 (n+1) j h;omega
theorem mD (l:List A) (n:Nat): ∀ j∈Ya (l.take n),j∈Ya l:=by
 induction l generalizing n with
 |nil=>intro j hj;simp [Ya] at hj
 |cons x l ih=>
  intro j hj;cases n with
  |zero=>simp [Ya] at hj
  |succ n=>simp only [List.take_succ_cons,Ya,zB] at hj ⊢;exact hj.imp id (ih n j)
theorem qX (l:List A) (n:Nat): ∀ j∈Ya (l.drop n),j∈Ya l:=by
 induction l generalizing n with
 |nil=>intro j hj;simp [Ya] at hj
 |cons x l ih=>
  intro j hj;cases n with
  |zero=>simpa using hj
  |succ n=>simp only [List.drop_succ_cons] at hj;simp only [Ya,zB];exact .inr (ih n j hj)
mutual
theorem RA.agree {G G':Gh} (hH:G'.H=G.H) (hp:G'.pv=G.pv): ∀ (x:A) (v:Value),RA G x v→(∀ j∈x.ids,Same G G' j)→RA G' x v
 | .dead,_,_,_=>trivial
 | .und,_,hr,_=>hr
 | .val t x,v,hr,_=>by show RdT G'.H t x v;rw [hH];exact hr
 | .JX,_,hr,_=>hr
 | .aj,_,hr,_=>hr
 | .fn _,_,hr,_=>hr
 | .own o,v,hr,ha=>⟨by rw [(ha o (by simp [A.ids])).2.1];exact hr.1,hr.2⟩
 | .win o q,v,hr,ha=>by obtain ⟨ad,n,c,e1,e2⟩:=hr;exact ⟨ad,n,c,by rw [(ha o (by simp [A.ids])).2.1];exact e1,e2⟩
 | .tl o q,v,hr,ha=>by obtain ⟨ad,n,c,e1,e2,e3⟩:=hr;exact ⟨ad,n,c,by rw [(ha o (by simp [A.ids])).2.1];exact e1,e2,by rw [(ha o (by simp [A.ids])).2.2];exact e3⟩
 | .top e ts xs,v,hr,_=>by show NQ G'.H G'.pv ts xs v;rw [hH,hp];exact hr
 | .box b off,v,hr,ha=>by show v=_;rw [(ha b (by simp [A.ids])).1];exact hr
 | .nc f b,v,hr,ha=>by show v=_;rw [(ha b (by simp [A.ids])).1];exact hr
 | .lj o j c,v,hr,ha=>by have h:=ha o (by simp [A.ids]);refine ⟨?_,by rw [h.2.2];exact hr.2⟩;rw [h.1,h.2.2];exact hr.1
 | .ly e ts xs j c,v,hr,_=>by obtain ⟨ad,e1,hlt,h1⟩:=hr;exact ⟨ad,e1,hlt,by rw [hH];exact h1⟩
 | .agg l,v,hr,ha=>by obtain ⟨cs,rfl,hl⟩:=hr;exact ⟨cs,rfl,RL.agree hH hp l cs hl ha⟩
 | .oF l,v,hr,ha=>by obtain ⟨cs,rfl,hl⟩:=hr;exact ⟨cs,rfl,RL.agree hH hp l cs hl ha⟩
theorem RL.agree {G G':Gh} (hH:G'.H=G.H) (hp:G'.pv=G.pv): ∀ (l:List A) (vs:List Value),RL G l vs→(∀ j∈Ya l,Same G G' j)→RL G' l vs
 |[],[],_,_=>trivial
 |a::l,v::vs,hr,ha=>⟨RA.agree hH hp a v hr.1 (fun j hj=>ha j (by simp [Ya,hj])),RL.agree hH hp l vs hr.2 (fun j hj=>ha j (by simp [Ya,hj]))⟩
end
theorem EO: ∀ (ps:List PK) (l:List A) (args vs:List Value) (pb:List (Nat×Nat)) (i:Nat) (s:St) (G:Gh),Rel P w0 yu H0 s a w G→Spread w ps args vs pb→RL G l vs→(∀ j∈Ya l,950≤j)→i+ps.length≤50→(∀ p∈pb,Free w0 yu s G p.1)→pb.Pairwise (fun p q=>p.1≠q.1)→(∀ j,900+i≤j→H0.pin j=V7 ps pb i j)→
  ∃ G',G'.H=G.H∧(∀ j,j<900+i∨950≤j→Same G G' j)∧Rel P w0 yu H0 (s.makeAll (si ps l i).2) a w G'∧RL G' (si ps l i).1 args:=by
 intro ps;induction ps with
 |nil=>intro l args vs pb i s G h hs hr hi hle hf hp sm;obtain ⟨rfl,rfl,rfl⟩:=hs;exact ⟨G,rfl,fun _ _=>Same.refl,h,trivial⟩
 |cons p ps ih=>
  intro l args vs pb i s G h hs hr hi hle hf hp sm;simp only [yp] at hle;cases p with
  |v agg ts os=>
   obtain ⟨arg,vs1,args',vs',rfl,rfl,hl1,ha,hs'⟩:=hs;have hr1:RL G (l.take ts.length) vs1:=by
    have:=RL.take ts.length hr
    rwa [← hl1,List.take_left' rfl,hl1] at this
   have hr2:RL G (l.drop ts.length) vs':=by
    have:=RL.drop ts.length hr
    rwa [← hl1,List.drop_left' rfl,hl1] at this
   obtain ⟨G',e1,e2,e3,e4⟩:=ih (l.drop ts.length) args' vs' pb (i+1) s G h hs' hr2 (fun j hj=>hi j (qX l _ j hj)) (by omega) hf hp (fun j hj=>sm j (by omega));have hr1':RL G' (l.take ts.length) vs1:=RL.agree e1 (e3.pv.trans h.pv.symm) _ _ hr1 (fun j hj=>e2 j (.inr (hi j (mD l _ j hj))));refine ⟨G',e1,fun j hj=>e2 j (by omega),e3,?_,e4⟩;cases agg with
   |true=>have ha':arg= .agg vs1.toArray:=ha;subst ha';exact ⟨vs1,rfl,hr1'⟩
   |false=>
    have ha':vs1=[arg]:=ha;subst ha';show RA G' ((l.take ts.length).headD .dead) arg;revert hr1';generalize l.take ts.length=l1;intro hr1';cases l1 with
    |nil=>exact hr1'.elim
    |cons x l1=>exact hr1'.1
  |k f=>obtain ⟨args',rfl,hs'⟩:=hs;obtain ⟨G',e1,e2,e3,e4⟩:=ih l args' vs pb (i+1) s G h hs' hr hi (by omega) hf hp (fun j hj=>sm j (by omega));exact ⟨G',e1,fun j hj=>e2 j (by omega),e3,rfl,e4⟩
  |p wr ts os=>
   obtain ⟨b,off,vs1,args',vs',pb',rfl,rfl,hl1,rfl,hc,hs'⟩:=hs;have hr1:RL G (l.take ts.length) vs1:=by
    have:=RL.take ts.length hr
    rwa [← hl1,List.take_left' rfl,hl1] at this
   have hr2:RL G (l.drop ts.length) vs':=by
    have:=RL.drop ts.length hr
    rwa [← hl1,List.drop_left' rfl,hl1] at this
   have Un:=h.Um (900+i) b off hr1 hc (hf (b,off) (by simp)) (fun p hp'=>by rw [sm (900+i) (by omega)] at hp';simpa [V7] using hp');have hn:900+i∉Ya (l.take ts.length):=fun hj=>by have:=hi _ (mD l _ _ hj);omega
   rw [wW _ hn] at Un;have hp':=aH.1 hp;obtain ⟨G',e1,e2,e3,e4⟩:=ih (l.drop ts.length) args' vs' pb' (i+1) _ _ Un hs' (RL.agree (G:=G) (G':=G.upd (900+i) (b,off) undef (0,0)) rfl rfl _ _ hr2 (fun j hj=>by
     have:=hi j (qX l _ j hj);have hne:j≠900+i:=by omega
     exact (G.J_ _ _ _ _).same hne)) (fun j hj=>hi j (qX l _ j hj)) (by omega) (fun q hq=>(hf q (by simp [hq])).make (by
     simp only [zS,Gh.upd,yo];exact hp'.1 q hq)) hp'.2 (fun j hj=>by
    rw [sm j (by omega)];simp [V7,show ¬ j=900+i by omega])
   refine ⟨G',e1,fun j hj=> ?_,e3,?_,e4⟩
   ·have h2:=e2 j (by omega);have hne:j≠900+i:=by omega
    exact ((G.J_ _ _ _ _).same hne).trans h2
   ·have h2:=(e2 (900+i) (.inl (by omega))).1;have h3:G'.g (900+i)=(b,off):=by
     rw [h2];simp [Gh.upd]
    have h4:=y32 (G:=G') (wr:=wr) (b:=900+i);rw [h3] at h4;exact h4
def Lent (bs:List (Nat→Prop)) (pb:List (Nat×Nat)) (k:Nat):Prop:=In bs k∨ ∃ p∈pb,p.1=k
def w7 (sg:Sig) (bs:List (Nat→Prop)):List (Nat→Prop):=if sg.back then [] else bs
noncomputable def sr (sg:Sig) (w:World) (bs:List (Nat→Prop)):Hp:=fun k=>open Classical in if sg.back=true∧In bs k then w.heap[k]? else none
theorem GJ (sg:Sig) (n:Nat) (ts:List Ty) (x:Elts ts) {H:Hp} (hH:H.le (heapOf w)) {args vs:List Value} {bs:List (Nat→Prop)} {pb:List (Nat×Nat)} (hc:CellsR H w ts (sg.ps.flatMap PK.ownsIn) x vs bs) (ha:Apart bs) (hs:Spread w sg.ps args vs pb) (hp:pb.Pairwise (fun p q=>p.1≠q.1))
  (hx: ∀ k,Lent bs pb k→H k=none) (hd: ∀ p∈pb,¬ In bs p.1) (hle:sg.ps.length≤50) (hn:args.length≤n):
  ∃ G,G.H=H∧Rel P w (Lent (w7 sg bs) pb) ⟨H,V7 sg.ps pb 0,fun i b h=>by have:=kn sg.ps pb 0 i b h;omega,sr sg w bs⟩ (enter sg n ts x) {tmps:=args.toArray++Array.replicate (n - args.toArray.size) undef,defers:=[]} w G:=by
 have hkb: ∀ k,In (w7 sg bs) k→In bs k:=fun k hk=>by
  unfold w7 at hk;split at hk
  ·simp [In] at hk
  ·exact hk
 have h0:=Rel.start (P:=P) w (Lent (w7 sg bs) pb) (B:=⟨H,V7 sg.ps pb 0,fun i b h=>by have:=kn sg.ps pb 0 i b h;omega,sr sg w bs⟩) hH {tmps:=args.toArray++Array.replicate (n - args.toArray.size) undef,defers:=[]} rfl ⟨H,fun _=>(0,0),fun _=>undef,fun _=>(0,0),sr sg w bs⟩ rfl rfl (fun k ob hk=>by
  have hk':(open Classical in if sg.back=true∧In bs k then w.heap[k]? else none)=some ob:=hk;split at hk'
  ·rename_i hh;refine ⟨(zzal39.1 hk').1,fun hl=> ?_,hk'⟩;rcases hl with hl|⟨p,hp',he⟩
   ·unfold w7 at hl;rw [y0 hh.1] at hl;simp [In] at hl
   ·exact hd p hp' (he ▸ hh.2)
  ·cases hk')
 have hfree: ∀ k,Lent (w7 sg bs) pb k→Free w (Lent (w7 sg bs) pb) ⟨[],[]⟩ ⟨H,fun _=>(0,0),fun _=>undef,fun _=>(0,0),sr sg w bs⟩ k:=fun k hk=>⟨hx k (hk.imp (hkb k) id),.inr hk,fun j oj hj=>by simp [look] at hj⟩
 obtain ⟨G1,e1,e2,e3,e4,e5⟩:=nn sg.back ts (sg.ps.flatMap PK.ownsIn) x 950 vs bs _ _ (jk _) h0 (fun h1 k hk=>by
  show (open Classical in if sg.back=true∧In bs k then w.heap[k]? else none)=w.heap[k]?;rw [y0 ⟨h1,hk⟩]) hc (fun hz k hk=>hfree k (.inl (by
  unfold w7;rw [y9 (by rw [hz];simp)];exact hk))) ha
 obtain ⟨G2,f1,f2,f3,f4⟩:=EO sg.ps _ args vs pb 0 _ G1 e3 hs e4 (GI sg.back ts _ x 950) (by omega) (fun p hp'=>e5 _ (hfree _ (.inr ⟨p,hp',rfl⟩)) (hd p hp')) hp (fun j _=>rfl);refine ⟨G2,f1.trans e1,f3.y31 ?_ fun i y hy=> ?_⟩
 ·have:=f4.length;simp only [yU,g7,Array.size_append,List.size_toArray,Array.size_replicate];omega
 ·have hl:=f4.length;by_cases hi:i<args.length
  ·rw [ln (by omega)] at hy;obtain ⟨v,hv,hr⟩:=f4.get i y hy;have hvv:(args.toArray++Array.replicate (n - args.toArray.size) undef).getD i undef=v:=by
    rw [fZ,Array.getElem?_append_left (by simpa using hi)];simp [hv]
   rw [hvv];exact hr
  ·rw [lm (by omega)] at hy;have:y= .dead:=by
    rw [xM] at hy;split at hy
    ·injection hy with hy;exact hy.symm
    ·cases hy
   subst this;trivial
end
def SpreadR:List RK→List Value→List Value→List Value→Prop
 |[],vs,cs,rest=>cs=[]∧rest=vs
 |r::rs,vs,cs,rest=> ∃ vs1 vs' c cs',vs=vs1++vs'∧vs1.length=r.ts.length∧cs=c::cs'∧(if r.agg then c= .agg vs1.toArray else vs1=[c])∧SpreadR rs vs' cs' rest
def BackAt (w:World):List PK→List (Nat×Nat)→List Value→Prop
 |[],pb,vs=>pb=[]∧vs=[]
 | .v _ _ _::ps,pb,vs=>BackAt w ps pb vs
 | .k _::ps,pb,vs=>BackAt w ps pb vs
 | .p _ ts _::ps,pb,vs=> ∃ b off pb' vs1 vs',pb=(b,off)::pb'∧vs=vs1++vs'∧vs1.length=ts.length∧oM w b off vs1∧BackAt w ps pb' vs'
def resVal:List Value→Value
 |[c]=>c
 |cs=> .tuple cs.toArray
def CX (w:World) (sg:Sig) (vs cs rest:List Value) (v:Value) (nb:Option Nat):Prop:=
 if sg.ptr then ∃ r rs b off vs1 vs2 c2,nb=some b∧sg.rs=r::rs∧vs=vs1++vs2∧vs1.length=r.ts.length∧SpreadR rs vs2 c2 rest∧v=resVal (.pointer (some ⟨b,off,none⟩)::c2)∧oM w b off vs1
 else nb=none∧SpreadR sg.rs vs cs rest∧v=resVal cs
structure Left (w:World) (yu:Nat→Prop) (H:Hp) (sg:Sig) (ts:List Ty) (y:Elts ts) (pb:List (Nat×Nat)) (v:Value) (w':World) (H':Hp) (vs cs rest:List Value) (bs:List (Nat→Prop)):Prop where
 os:w'.os=w.os
 tape:w'.tape=w.tape
 output:w'.output=w.output
 size:w.heap.size≤w'.heap.size
 old: ∀ k,k<w.heap.size→ ¬ yu k→w'.heap[k]? =w.heap[k]?
 uQ:H'.le (heapOf w')
 hnew: ∀ k ob,H' k=some ob→H k=some ob∨w.heap.size≤k∨yu k
 cells:CellsR H' w' ts sg.owns y vs bs
 apart:Apart bs
 away: ∀ k,In bs k→H' k=none∧(w.heap.size≤k∨yu k)∧ ∀ p∈pb,p.1≠k
 ptrs: ∀ p∈pb,H' p.1=none
 res: ∃ nb,CX w' sg vs cs rest v nb∧ ∀ k,nb=some k→H' k=none∧(w.heap.size≤k∨yu k)∧ ¬ In bs k∧ ∀ p∈pb,p.1≠k
 back:BackAt w' sg.ps pb rest
def Goes (P:Program) (f:FuncId) (args:Array Value) (w:World) (R:Value→World→Prop):Prop:=
 match (callFunc f args).run P w with
 | .ok (.enter g as) w'=>Calls P g as w' fun e w''=> ∃ v,e= .returned v∧R v w''
 | .ok (.value v) w'=>R v w'
 |_=>False
theorem goes_of_calls {P:Program} {f:FuncId} {fn:Func} {args:Array Value} {w:World} {R:Value→World→Prop} (hf:P.funcs[f]? =some fn) (hn:fn.name≠ "runtime.NumGoroutine") (hb:fn.body≠none)
  (h:Calls P f args w fun e w'=> ∃ v,e= .returned v∧R v w'):Goes P f args w R:=by
 have he:(callFunc f args).run P w= .ok (.enter f args) w:=by simp [callFunc,hf,hn,hb]
 unfold Goes;rw [he];exact h
theorem Goes.mono {P:Program} {f:FuncId} {args:Array Value} {w:World} {R R':Value→World→Prop} (h:Goes P f args w R) (hr: ∀ v w',R v w'→R' v w'):Goes P f args w R':=by
 unfold Goes at*;split at h
 ·rename_i he;exact Calls.mono h fun e w'' hv=>by obtain ⟨v,rfl,hv⟩:=hv;exact ⟨v,rfl,hr _ _ hv⟩
 ·exact hr _ _ h
 ·exact h.elim
theorem y33 {P:Program} {o:Oper} {a:Act} {w:World} {K:Act→World→Prop} {Q:Exit→Act→World→Prop} {c:Call} {f:Operand} {g:FuncId} {caps:Array Value} (hop:o.op= .call c) (hc:c.callee= .value f) (hf:a.eval f= .func (.func g) #[] caps)
  (h:Goes P g (c.args.map a.eval++caps) w fun v w'=>K (a.put o.dst v) w'):o.wp P a w K Q:=by
 have he:execOp a.eval o=callFunc g (#[]++c.args.map a.eval++caps):=by simp only [execOp,hop,resolve,hc,hf];rfl
 unfold Oper.wp;rw [he];simp only [Array.empty_append];unfold Goes at h;split at h
 ·rename_i he;rw [he];exact Calls.mono h fun e w'' hv=>by obtain ⟨v,rfl,hv⟩:=hv;exact hv
 ·rename_i he;rw [he];exact h
 ·exact h.elim
def Af (B:Hp→Prop) (C:Ctx) (P:Program) (f:Nat) (F:Elts (C.ins f)→Option (Elts (C.outs f))):Prop:=
 ∀ (sg:Sig) (x:Elts (C.ins f)) (y:Elts (C.outs f)),C.sig f=some sg→F x=some y→
  ∀ (w:World) (H:Hp) (args vs:List Value) (bs:List (Nat→Prop)) (pb:List (Nat×Nat)),B H→H.le (heapOf w)→CellsR H w (C.ins f) (sg.ps.flatMap PK.ownsIn) x vs bs→Apart bs→Spread w sg.ps args vs pb→pb.Pairwise (fun p q=>p.1≠q.1)→
   (∀ k,Lent bs pb k→H k=none)→(∀ p∈pb,¬ In bs p.1)→
   Goes P (C.fid f) args.toArray w fun v w'=> ∃ H' vs' cs rest bs',Left w (Lent (w7 sg bs) pb) H sg (C.outs f) y pb v w' H' vs' cs rest bs'
def ko (C:Ctx) (P:Program) (f:Nat) (F:Elts (C.ins f)→Option (Elts (C.outs f))):Prop:=Af C.gl C P f F
def Contract (H0:Base) (C:Ctx) (P:Program) (call:C.Sem):Prop:= ∀ f,Af (fun H=>H0.H.le H) C P f (call f)
def dW (C:Ctx) (P:Program) (call:C.Sem):Prop:= ∀ f,ko C P f (call f)
theorem dW.from {C:Ctx} {P:Program} {call:C.Sem} (h:dW C P call) {H0:Base} (hg:C.gl H0.H):Contract H0 C P call:=
 fun f sg x y hs hF w H args vs bs pb hB=>h f sg x y hs hF w H args vs bs pb (C.glm _ _ hB hg)
theorem oN {C:Ctx} {P:Program}: ∀ (l:List (Sigma fun f:Nat=>Elts (C.ins f)→Option (Elts (C.outs f)))),(∀ p∈l,ko C P p.1 p.2)→dW C P (tab l)
 |[],_,f=>fun sg x y _ hF=>by cases hF
 |⟨g,F⟩::r,h,f=>by
  by_cases hf:g=f
  ·subst hf;have:=h ⟨g,F⟩ (by simp);intro sg x y hs hF;exact this sg x y hs (by simpa [tab] using hF)
  ·intro sg x y hs hF;exact oN r (fun p hp=>h p (by simp [hp])) f sg x y hs (by simpa [tab,hf] using hF)
section
variable {P:Program} {C:Ctx} {w0:World} {yu:Nat→Prop} {H0:Base} {s:St} {a:Act} {w:World} {G:Gh}
theorem Ag {G:Gh} {l:List A} {vs1 vs':List Value} {n:Nat} (hr:RL G l (vs1++vs')) (hn:vs1.length=n):RL G (l.take n) vs1∧RL G (l.drop n) vs':=by subst hn;have h1:=RL.take vs1.length hr;have h2:=RL.drop vs1.length hr;rw [List.take_left' rfl] at h1;rw [List.drop_left' rfl] at h2;exact ⟨h1,h2⟩
theorem oO {G:Gh}: ∀ (rs:List RK) (l as rl:List A) (vs cs rest:List Value),aL rs l=some (as,rl)→RL G l vs→SpreadR rs vs cs rest→RL G as cs∧RL G rl rest:=by
 intro rs;induction rs with
 |nil=>intro l as rl vs cs rest h hr hs;simp only [aL,z8,jI] at h;obtain ⟨rfl,rfl⟩:=h;obtain ⟨rfl,rfl⟩:=hs;exact ⟨trivial,hr⟩
 |cons r rs ih=>
  intro l as rl vs cs rest h hr hs;simp only [aL] at h;cases hm:Ez r.agg (l.take r.ts.length) with
  |none=>simp [hm] at h
  |some x=>
   simp only [hm] at h;cases hsh:aL rs (l.drop r.ts.length) with
   |none=>simp [hsh] at h
   |some p=>
    obtain ⟨as',rl'⟩:=p;simp only [hsh,z8,jI] at h;obtain ⟨rfl,rfl⟩:=h;obtain ⟨vs1,vs',c,cs',rfl,hl,rfl,hc,hs'⟩:=hs;obtain ⟨h1,h2⟩:=Ag hr hl;obtain ⟨i1,i2⟩:=ih _ as' rl' vs' cs' rest hsh h2 hs';refine ⟨⟨?_,i1⟩,i2⟩;have:=EE hm h1;cases ha:r.agg with
    |true=>rw [ha] at this hc;rw [show c=_ from hc];exact this
    |false=>rw [ha] at this hc;rw [show vs1=_ from hc] at this;exact this
theorem ME {G:Gh} {wr:Option Nat} {x:A} {b:Nat} {v:Value} (h:c8 wr x=some b) (hr:RA G x v):v=Ae wr (.pointer (some ⟨(G.g b).1,(G.g b).2,none⟩)):=by
 cases wr with
 |none=>
  cases x with
  |box b' off=>
   simp only [c8] at h;cases ho:Nat.beq off 0 with
   |false=>simp [ho] at h
   |true=>have:=zo ho;subst this;simp only [ho,yg,z8] at h;subst h;exact hr
  |_=>simp [c8] at h
 |some f=>
  cases x with
  |nc f' b'=>
   simp only [c8] at h;cases hf:Nat.blt f 1000000000 with
   |false=>simp [hf] at h
   |true=>
    cases ho:Nat.beq f f' with
    |false=>simp [ho] at h
    |true=>have:=zo ho;subst this;simp only [ho,hf,mv,yg,z8] at h;subst h;simp only [Ae,hf,yg];exact hr
  |box b' off=>
   simp only [c8] at h;cases ho:Nat.beq f (1000000000+off) with
   |false=>simp [ho] at h
   |true=>
    have:=zo ho;subst this;simp only [ho,yg,z8] at h;subst h;have hb:Nat.blt (1000000000+off) 1000000000=false:=by
     cases hc:Nat.blt (1000000000+off) 1000000000 with
     |false=>rfl
     |true=>have:=nN (show Nat.ble (1000000000+off+1) 1000000000=true from hc);omega
    simp only [Ae,hb,yi,show 1000000000+off - 1000000000=off by omega];exact hr
  |_=>simp [c8] at h
theorem MF {G:Gh} {x:A} {g:Nat} {ex:List A} {v:Value} (h:my x=some (g,ex)) (hr:RA G x v): ∃ exv,RL G ex exv∧v= .func (.func g) #[] exv.toArray:=by
 cases x with
 |fn f=>simp only [my,z8,jI] at h;obtain ⟨rfl,rfl⟩:=h;exact ⟨[],trivial,hr⟩
 |nc f b=>simp only [my,z8,jI] at h;obtain ⟨rfl,rfl⟩:=h;exact ⟨[.pointer (some ⟨(G.g b).1,(G.g b).2+0,none⟩)],⟨rfl,trivial⟩,hr⟩
 |_=>simp [my] at h
theorem EP (h:Rel P w0 yu H0 s a w G) {lk:Lk} (hlk:dS lk s): ∀ (ps:List PK) (as:List A) (args:List Value) (l:List A) (bs:List (Nat×Nat)),gather lk ps as=some (l,bs)→RL G as args→
  ∃ vs,RL G l vs∧Spread w ps args vs (bs.map fun p=>G.g p.1)∧ ∀ p∈bs,∃ cs,look s.o p.1=some (.box cs)∧cs.length=p.2:=by
 intro ps;induction ps with
 |nil=>
  intro as args l bs hg hr;cases as with
  |nil=>
   simp only [gather,z8,jI] at hg;obtain ⟨rfl,rfl⟩:=hg;cases args with
   |nil=>exact ⟨[],trivial,⟨rfl,rfl,rfl⟩,by simp⟩
   |cons _ _=>exact hr.elim
  |cons _ _=>simp [gather] at hg
 |cons p ps ih=>
  intro as args l bs hg hr;cases as with
  |nil=>cases p<;>simp [gather] at hg
  |cons x as=>
   cases args with
   |nil=>exact hr.elim
   |cons v args=>
    cases p with
    |v agg ts os=>
     simp only [gather] at hg;cases hc:Jk agg x with
     |none=>simp [hc] at hg
     |some c=>
      cases hga:gather lk ps as with
      |none=>simp [hc,hga] at hg
      |some q=>
       obtain ⟨l',bs'⟩:=q;simp only [hc,hga] at hg;cases hb:Nat.beq c.length ts.length with
       |false=>simp [hb] at hg
       |true=>
        simp only [hb,yg,z8,jI] at hg;obtain ⟨rfl,rfl⟩:=hg;obtain ⟨vs',i1,i2,i3⟩:=ih as args l' bs' hga hr.2;have key: ∃ vs1,RL G c vs1∧(if agg then v= .agg vs1.toArray else vs1=[v]):=by
         cases agg with
         |true=>
          cases x with
          |agg l0=>simp only [Jk,z8] at hc;subst hc;obtain ⟨cs,hv,hl⟩:=hr.1;exact ⟨cs,hl,hv⟩
          |_=>simp [Jk] at hc
         |false=>
          have:c=[x]:=by cases x<;>simp [Jk] at hc<;>exact hc.symm
          subst this;exact ⟨[v],⟨hr.1,trivial⟩,rfl⟩
        obtain ⟨vs1,k1,k2⟩:=key;exact ⟨vs1++vs',RL.append k1 i1,⟨v,vs1,args,vs',rfl,rfl,by rw [← k1.length];exact zo hb,k2,i2⟩,i3⟩
    |k f=>
     simp only [gather] at hg;cases x with
     |fn f'=>
      simp only at hg;cases hb:Nat.beq f f' with
      |false=>simp [hb] at hg
      |true=>simp only [hb,yg] at hg;obtain ⟨vs,i1,i2,i3⟩:=ih as args l bs hg hr.2;exact ⟨vs,i1,⟨args,by rw [show v=_ from hr.1,zo hb],i2⟩,i3⟩
     |_=>simp at hg
    |p wr ts os=>
     simp only [gather] at hg;cases hu:c8 wr x with
     |none=>simp [hu] at hg
     |some b=>
      simp only [hu] at hg;have hv:=ME hu hr.1;cases hb:lk b with
      |none=>simp [hb] at hg
      |some ob=>
       cases ob with
       |box cs=>
        simp only [hb] at hg;cases hga:gather lk ps as with
        |none=>simp [hga] at hg
        |some q=>
         obtain ⟨l',bs'⟩:=q;simp only [hga] at hg;cases hbb:Nat.beq ts.length cs.length with
         |false=>simp [hbb] at hg
         |true=>
          simp only [hbb,yg,z8,jI] at hg;obtain ⟨rfl,rfl⟩:=hg;have hl:=zo hbb;obtain ⟨vs',i1,i2,i3⟩:=ih as args l' bs' hga hr.2;have hro:=h.objs b _ (hlk b _ hb);obtain ⟨vs1,c1,c2,c3,c4⟩:=lE (G:=G) cs (fun j=>w.cell? ⟨(G.g b).1,(G.g b).2+j,none⟩) (fun i c hc=>(hro.2 i c hc).2);refine ⟨vs1++vs',RL.append c4 i1,⟨(G.g b).1,(G.g b).2,vs1,args,vs',bs'.map fun p=>G.g p.1,by rw [hv],rfl,by rw [c1,hl],rfl,⟨hro.1,fun j u hu=> ?_⟩,i2⟩,fun p hp=> ?_⟩
          ·have hj:j<cs.length:=by
            have:=(ZF.1 hu).1;omega
           exact ⟨(hro.2 j _ (WX hj)).1,c2 j u hu,c3 u (aF hu)⟩
          ·rcases yR.1 hp with rfl|hp
           ·exact ⟨cs,hlk b _ hb,hl.symm⟩
           ·exact i3 p hp
       |_=>simp [hb] at hg
end
end Go.Proofs.YtekbnpmmjciloaaGreat.R
