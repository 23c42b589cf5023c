/- The evaluator and its soundness, a part. No condition. -/
import Derived.Below
import Derived.Maps.AppendAt
import Derived.Orders
import Derived.LoopN
import Derived.RowKit
import Derived.Laws.Entries
import Derived.Laws.StructEq
import Derived.DataElems
import Derived.Laws.Strings
import Derived.Lib.ConvBytes
import Derived.Laws.IdiomCopy
set_option linter.all false
namespace Go.Proofs.YtekbnpmmjciloaaGreat.R
open Go.RowKit
abbrev aa:=@Option.bind_some
abbrev ac:=@decide_eq_true_eq
abbrev ae:=@Bool.cond_eq_ite
abbrev af:=@if_pos
abbrev ag:=@cond_false
abbrev ah:=@List.length_cons
abbrev ai:=@cond_true
abbrev aj:=@List.length_nil
abbrev ak:=@List.length_take
abbrev al:=@Bool.and_eq_true
abbrev am:=@if_neg
abbrev an:=@Nat.eq_of_beq_eq_true
abbrev ap:=@Option.some.injEq
abbrev aq:=@Option.map_eq_some_iff
abbrev ar:=@List.length_append
abbrev au:=@List.getD_eq_getElem?_getD
abbrev av:=@List.getElem?_eq_some_iff
abbrev aw:=@decide_eq_false
abbrev ax:=@decide_eq_true
abbrev ay:=@Bool.not_true
abbrev az:=@List.getElem?_append_right
abbrev aA:=@List.mem_cons
abbrev aB:=@if_true
abbrev aC:=@List.length_drop
abbrev aD:=@List.getElem?_take
abbrev aE:=@List.getElem?_append_left
abbrev aF:=@List.mem_append
abbrev aG:=@List.length_set
abbrev aH:=@Int.le_refl
abbrev aI:=@Nat.mul_le_mul_right
abbrev aJ:=@List.getElem?_eq_getElem
abbrev aK:=@Nat.zero_add
abbrev aL:=@Bool.or_eq_false_iff
abbrev aM:=@Array.getElem?_eq_some_iff
abbrev aN:=@Array.length_toList
abbrev aO:=@Nat.le_trans
abbrev aP:=@List.length_eq_zero_iff
abbrev aQ:=@Array.getElem?_toList
abbrev aR:=@Int.toNat_natCast
abbrev aS:=@Nat.le_refl
abbrev aT:=@List.nil_append
abbrev aU:=@if_false
abbrev aV:=@List.mem_of_getElem?
abbrev aW:=@List.mem_singleton
abbrev aX:=@Bool.false_eq_true
abbrev aY:=@Prod.mk.injEq
abbrev aZ:=@List.getElem?_drop
abbrev a0:=@List.mem_of_mem_take
abbrev a_:=@List.mem_of_mem_drop
abbrev ba:=@List.foldl_cons
abbrev bc:=@Bool.not_eq_false'
abbrev bd:=@Bool.not_eq_true'
abbrev be:=@Array.toArray_toList
abbrev bf:=@Bool.not_false
abbrev bg:=@List.mem_or_eq_of_mem_set
abbrev bh:=@List.getElem?_set_self
abbrev bj:=@beq_eq_false_iff_ne
abbrev bl:=@List.getElem?_set_ne
abbrev bm:=@List.length_replicate
abbrev bn:=@Nat.add_mul
abbrev bo:=@List.append_assoc
abbrev bp:=@List.cons_append
abbrev bq:=@List.pairwise_cons
abbrev br:=@Bool.true_and
abbrev bt:=@List.append_nil
abbrev bu:=@Array.getD_eq_getD_getElem?
abbrev bv:=@Nat.one_mul
abbrev bw:=@Nat.min_eq_left
abbrev bz:=@List.getElem?_cons_zero
abbrev bB:=@List.map_cons
abbrev bC:=@List.mem_map_of_mem
abbrev bD:=@List.mem_cons_self
abbrev bE:=@List.getElem?_eq_none
abbrev bF:=@List.take_length
abbrev bG:=@List.size_toArray
abbrev bH:=@List.getElem?_map
abbrev bI:=@List.mem_cons_of_mem
abbrev bJ:=@beq_iff_eq
abbrev bK:=@List.mem_append_right
abbrev bL:=@Nat.lt_of_lt_of_le
abbrev bM:=@Array.getElem?_append_left
abbrev bN:=@Nat.add_assoc
abbrev bO:=@List.drop_of_length_le
abbrev bP:=@List.drop_eq_getElem_cons
abbrev bQ:=@Nat.zero_le
abbrev bR:=@of_decide_eq_false
abbrev bS:=@Nat.add_zero
abbrev bT:=@List.drop_eq_nil_of_le
abbrev bU:=@Nat.le_of_ble_eq_true
abbrev bV:=@beq_self_eq_true
abbrev bW:=@Array.eq_empty_of_size_eq_zero
abbrev bX:=@Nat.le_of_eq
abbrev bY:=@List.nodup_append
abbrev bZ:=@List.pairwise_singleton
abbrev b8:=@List.getElem?_replicate
abbrev b9:=@List.getD_cons_succ
abbrev b_:=@List.mem_map
abbrev ce:=@List.take_of_length_le
abbrev cf:=@List.mem_iff_getElem?
abbrev cg:=@Array.getElem?_eq_getElem
abbrev ci:=@Option.map_some
abbrev cj:=@List.nodup_cons
abbrev ck:=@Bool.or_eq_true
abbrev cm:=@Array.size_append
abbrev cn:=@List.mem_append_left
abbrev co:=@Bool.false_and
abbrev cp:=@Nat.le_mul_of_pos_right
abbrev cr:=@List.getElem?_cons_succ
abbrev cu:=@Nat.not_lt
abbrev cv:=@Int.le_trans
abbrev cw:=@Nat.lt_or_gt_of_ne
abbrev cx:=@Option.map_none
abbrev cy:=@Option.ne_none_iff_isSome
abbrev cA:=@List.cons.injEq
abbrev cB:=@Nat.min_def
abbrev cC:=@List.pairwise_map
abbrev cD:=@List.filter_cons
abbrev cE:=@Bool.false_or
abbrev cF:=@List.mem_filter
abbrev cG:=@List.length_map
abbrev cH:=@List.take_succ_cons
abbrev cI:=@Int.toNat_of_nonneg
abbrev cJ:=@Array.getElem?_push
abbrev cK:=@Int.sub_zero
abbrev cM:=@Nat.testBit_or
abbrev cN:=@List.drop_zero
abbrev cO:=@of_decide_eq_true
abbrev cP:=@List.ext_getElem?
abbrev cQ:=@Bool.and_self
abbrev cR:=@List.getElem_mem
abbrev cS:=@List.drop_length
abbrev cT:=@List.all_eq_true
abbrev cU:=@Array.toList_map
abbrev cV:=@Nat.le_succ
section
inductive Ty where
 |int (k:IntKind)
 |bool
 |str
 |sl (e:Nat) (ts:List Ty)
mutual
def El:Ty→Type
 | .int _=>Int
 | .bool=>Bool
 | .str=>ByteArray
 | .sl _ ts=>List (yJ ts)
def yJ:List Ty→Type
 |[]=>Unit
 |t::[]=>El t
 |t::u::r=>El t×yJ (u::r)
end
mutual
def Ty.eqb:Ty→Ty→Bool
 | .int k,.int k'=>decide (k=k')
 | .bool,.bool=>true
 | .str,.str=>true
 | .sl e ts,.sl e' ts'=>Nat.beq e e'&&Ty.eqbs ts ts'
 |_,_=>false
def Ty.eqbs:List Ty→List Ty→Bool
 |[],[]=>true
 |t::ts,u::us=>Ty.eqb t u&&Ty.eqbs ts us
 |_,_=>false
end
mutual
theorem Ty.eqb_eq: ∀ (a b:Ty),Ty.eqb a b=true→a=b
 | .int k,.int k',h=>by simpa [Ty.eqb] using h
 | .bool,.bool,_=>rfl
 | .str,.str,_=>rfl
 | .sl e ts,.sl e' ts',h=>by
  simp only [Ty.eqb,al] at h
  rw [an h.1,Ty.eqbs_eq ts ts' h.2]
 | .int _,.bool,h| .int _,.str,h| .int _,.sl _ _,h| .bool,.int _,h| .bool,.str,h| .bool,.sl _ _,h| .str,.int _,h| .str,.bool,h| .str,.sl _ _,h| .sl _ _,.int _,h| .sl _ _,.bool,h| .sl _ _,.str,h=>by simp [Ty.eqb] at h
theorem Ty.eqbs_eq: ∀ (a b:List Ty),Ty.eqbs a b=true→a=b
 |[],[],_=>rfl
 |t::ts,u::us,h=>by
  simp only [Ty.eqbs,al] at h
  rw [Ty.eqb_eq t u h.1,Ty.eqbs_eq ts us h.2]
 |[],_::_,h|_::_,[],h=>by simp [Ty.eqbs] at h
end
def j9 (t t':Ty) (x:El t):Option (El t'):=if h:Ty.eqb t t'=true then some ((Ty.eqb_eq t t' h) ▸ x) else none
def y6k (ts ts':List Ty) (xs:List (yJ ts)):Option (List (yJ ts')):=if h:Ty.eqbs ts ts'=true then some ((Ty.eqbs_eq ts ts' h) ▸ xs) else none
mutual
def y5g:(t:Ty)→El t
 | .int _=>(0:Int)
 | .bool=>false
 | .str=>(⟨#[]⟩:ByteArray)
 | .sl _ ts=>([]:List (yJ ts))
def Wx:(ts:List Ty)→yJ ts
 |[]=>()
 |t::[]=>y5g t
 |t::u::r=>(y5g t,Wx (u::r))
end
inductive A where
 |dead
 |und
 |val (t:Ty) (x:El t)
 |nils
 |nilp
 |own (o:Nat)
 |agg (l:List A)
 |tup (l:List A)
 |box (b off:Nat)
 |elp (e:Nat) (ts:List Ty) (xs:List (yJ ts)) (i:Int) (c:Nat)
 |rtp (o:Nat) (i:Int) (c:Nat)
 |fn (f:Nat)
 |clo (f b:Nat)
 |bor (o:Nat) (i:Int) (c:Nat)
 |bep (o:Nat) (i:Int) (c:Nat) (n:Int)
 |win (o:Nat) (h:Int)
 |tl (o:Nat) (l:Int)
 |top (e:Nat) (ts:List Ty) (xs:List (yJ ts))
inductive Ob where
 |box (cells:List A)
 |root (own:Bool) (e:Nat) (ts:List Ty) (xs:List (yJ ts))
 |deep (fin:Bool) (tag:Nat) (e:Nat) (ts:List Ty) (xs:List (yJ ts))
 |gone
structure St where
 t:List A
 o:List (Nat×Ob)
structure Eff where
 sets:List (Nat×Ob)
 adds:List (Nat×Ob)
 a:A
inductive TI where
 |c (t:Ty) (bytes:Nat)
 |s (fs:List (Nat×Nat)) (ts:List Ty) (bytes:Nat)
def TI.ts:TI→List Ty
 | .c t _=>[t]
 | .s _ ts _=>ts
def TI.isAgg:TI→Bool
 | .c _ _=>false
 | .s _ _ _=>true
def TI.bytes:TI→Nat
 | .c _ b=>b
 | .s _ _ b=>b
inductive PK where
 |v (agg:Bool) (ts:List Ty) (own:List Bool)
 |p (wr:Option Nat) (ts:List Ty) (own:List Bool)
 |k (f:Nat)
structure RK where
 agg:Bool
 ts:List Ty
 own:List Bool
structure Sig where
 ps:List PK
 rs:List RK
 ptr:Bool
 deep:Bool
 back:Bool
def PK.ins:PK→List Ty
 | .v _ ts _=>ts
 | .p _ ts _=>ts
 | .k _=>[]
def PK.outs:PK→List Ty
 | .v _ _ _=>[]
 | .p _ ts _=>ts
 | .k _=>[]
def PK.owns:PK→List Bool
 | .v _ _ _=>[]
 | .p _ _ os=>os
 | .k _=>[]
def PK.ownsIn:PK→List Bool
 | .v _ _ os=>os
 | .p _ _ os=>os
 | .k _=>[]
def PK.isP:PK→Bool
 | .v _ _ _=>false
 | .p _ _ _=>true
 | .k _=>true
def PK.back:PK→Option Nat
 | .p _ ts _=>some ts.length
 |_=>none
def Sig.ins (s:Sig):List Ty:=s.ps.flatMap PK.ins
def ypi:List Ty→List Bool→List Ty
 |[],_=>[]
 |t::r,os=>bif os.headD false then t::ypi r os.tail else ypi r os.tail
def Sig.bts (s:Sig):List Ty:=bif s.back&&s.deep then ypi s.ins (s.ps.flatMap PK.ownsIn) else []
def Sig.outs (s:Sig):List Ty:=(s.rs.flatMap RK.ts++s.ps.flatMap PK.outs)++s.bts
def Sig.owns (s:Sig):List Bool:=(s.rs.flatMap RK.own++s.ps.flatMap PK.owns)++s.bts.map fun _=>true
def Ty.flat:Ty→Bool
 | .sl _ _=>false
 |_=>true
def vM:List Ty→Bool
 |[]=>true
 |t::r=>t.flat&&vM r
def ycB (dp:Bool):List Ty→List Bool→Bool
 |[],_=>true
 |t::r,os=>(t.flat||(os.headD false&&(dp||match t with
  | .sl _ ts=>vM ts
  |_=>false)))&&ycB dp r os.tail
def Sig.hfree (s:Sig):Bool:=ycB s.deep s.outs s.owns
structure Ctx where
 info:Nat→Option TI
 sig:Nat→Option Sig
 live:Nat→Nat→Option (List Nat×List Nat)
 key:Nat→List Nat→Nat
 fid:Nat→Nat
 hint:Nat→List Nat
 gl:(Nat→Option Obj)→Prop:=fun _=>True
 glm: ∀ H H':Nat→Option Obj,(∀ k o,H k=some o→H' k=some o)→gl H→gl H':=by exact fun _ _ _ h=>h
def Ctx.ins (C:Ctx) (f:Nat):List Ty:=match C.sig f with
 |some s=>s.ins
 |none=>[]
def Ctx.outs (C:Ctx) (f:Nat):List Ty:=match C.sig f with
 |some s=>s.outs
 |none=>[]
abbrev Ctx.Sem (C:Ctx):Type:=(f:Nat)→yJ (C.ins f)→Option (yJ (C.outs f))
def yeV {α:Type}:List (Nat×α)→Nat→Option α
 |[],_=>none
 |(j,x)::r,i=>bif Nat.beq j i then some x else yeV r i
def eqN:List Nat→List Nat→Bool
 |[],[]=>true
 |i::l,j::m=>Nat.beq i j&&eqN l m
 |_,_=>false
def ZC:List (Nat×List Nat×Nat)→Nat→List Nat→Nat
 |[],f,_=>f
 |(g,l,k)::r,f,m=>bif Nat.beq g f&&eqN l m then k else ZC r f m
def yua:List (Nat×List Nat×Nat)→Nat→Nat
 |[],f=>f
 |(g,_,k)::r,f=>bif Nat.beq k f then g else yua r f
def ynp:List (Nat×List Nat)→Nat→List Nat
 |[],_=>[]
 |(g,l)::r,f=>bif Nat.beq g f then l else ynp r f
def yF:List (Nat×Ob)→Nat→Option Ob
 |[],_=>none
 |(j,x)::r,i=>bif Nat.beq j i then some x else yF r i
def qR (l:List Nat) (i:Nat):Bool:=match l with
 |[]=>false
 |j::r=>Nat.beq j i||qR r i
mutual
def A.forget (i:Nat):A→A
 | .own o=>bif Nat.beq o i then .dead else .own o
 | .box b off=>bif Nat.beq b i then .dead else .box b off
 | .rtp o j c=>bif Nat.beq o i then .dead else .rtp o j c
 | .clo f b=>bif Nat.beq b i then .dead else .clo f b
 | .bor o j c=>bif Nat.beq o i then .dead else .bor o j c
 | .bep o j c n=>bif Nat.beq o i then .dead else .bep o j c n
 | .win o h=>bif Nat.beq o i then .dead else .win o h
 | .tl o h=>bif Nat.beq o i then .dead else .tl o h
 | .agg l=> .agg (zy i l)
 | .tup l=> .tup (zy i l)
 | .dead=> .dead
 | .und=> .und
 | .val t x=> .val t x
 | .nils=> .nils
 | .nilp=> .nilp
 | .elp e ts xs j c=> .elp e ts xs j c
 | .top e ts xs=> .top e ts xs
 | .fn f=> .fn f
def zy (i:Nat):List A→List A
 |[]=>[]
 |a::r=>A.forget i a::zy i r
end
def Ob.forget (i:Nat):Ob→Ob
 | .box cs=> .box (zy i cs)
 | .root own e ts xs=> .root own e ts xs
 | .deep fin tag e ts xs=> .deep fin tag e ts xs
 | .gone=> .gone
def YY (i:Nat):List (Nat×Ob)→List (Nat×Ob)
 |[]=>[]
 |(j,x)::r=>bif Nat.beq j i then YY i r else (j,x.forget i)::YY i r
def St.forget (s:St) (i:Nat):St:=⟨zy i s.t,YY i s.o⟩
def St.forgetAll (s:St):List Nat→St
 |[]=>s
 |i::r=>(s.forget i).forgetAll r
def St.make (s:St) (i:Nat) (x:Ob):St:=⟨zy i s.t,(i,x)::YY i s.o⟩
def St.makeAll (s:St):List (Nat×Ob)→St
 |[]=>s
 |(i,x)::r=>(s.make i x).makeAll r
def Vx:List (Nat×Ob)→Nat→Ob→List (Nat×Ob)
 |[],_,_=>[]
 |(j,x)::r,i,y=>bif Nat.beq j i then (j,y)::r else (j,x)::Vx r i y
def St.set (s:St) (i:Nat) (x:Ob):St:=⟨s.t,Vx s.o i x⟩
def St.setAll (s:St):List (Nat×Ob)→St
 |[]=>s
 |(i,x)::r=>(s.set i x).setAll r
def St.put (s:St) (d:Option Nat) (a:A):St:=match d with
 |some d=>⟨s.t.set d a,s.o⟩
 |none=>s
def St.apply (s:St) (d:Option Nat) (e:Eff):St:=((s.makeAll e.adds).setAll e.sets).put d e.a
def ycC:Value→A
 | .int k n=> .val (.int k) n
 | .bool b=> .val .bool b
 | .string s=> .val .str s
 | .slice none 0 0=> .nils
 | .pointer none=> .nilp
 |_=> .dead
def y9I:Value→A
 | .agg cs=> .agg (cs.toList.map ycC)
 |v=>ycC v
def St.opd (s:St):Operand→A
 | .tmp i=>s.t.getD i .dead
 | .const v=>y9I v
 | .func f=> .fn f
 | .global _=> .dead
def QY:(ts:List Ty)→yJ ts→List A
 |[],_=>[]
 |t::[],x=>[.val t x]
 |t::u::r,x=> .val t x.1::QY (u::r) x.2
def y3C (fin:Bool) (o:Nat) (i:Int):Nat→(ts:List Ty)→yJ ts→List A
 |_,[],_=>[]
 |c,t::[],x=>[bif t.flat then .val t x else bif fin then .bor o i c else .dead]
 |c,t::u::r,x=>(bif t.flat then .val t x.1 else bif fin then .bor o i c else .dead)::y3C fin o i (c+1) (u::r) x.2
def A.cells:A→List A
 | .agg l=>l
 |a=>[a]
def A.one:A→Bool
 | .dead=>false
 | .und=>false
 | .agg _=>false
 | .tup _=>false
 |_=>true
def k6:List A→Bool
 |[]=>true
 |a::r=>a.one&&k6 r
def mkA (agg:Bool) (l:List A):Option A:=bif agg then some (.agg l) else match l with
 |[a]=>some a
 |_=>none
abbrev Lk:=Nat→Option Ob
def toT (lk:Lk) (t:Ty):A→Option (El t×List Nat)
 | .val t' x=>(j9 t' t x).map fun y=>(y,[])
 | .nils=>match t with
  | .sl e ts=>some (y5g (.sl e ts),[])
  |_=>none
 | .own o=>match lk o with
  |some (.root _ e ts xs)=>(j9 (.sl e ts) t xs).map fun y=>(y,[o])
  |some (.deep _ _ e ts xs)=>(j9 (.sl e ts) t xs).map fun y=>(y,[o])
  |_=>none
 | .win o h=>match lk o with
  |some (.root _ e ts xs)=>(j9 (.sl e ts) t (xs.take (Int.toNat h))).map fun y=>(y,[o])
  |_=>none
 |_=>none
def toE (lk:Lk):(ts:List Ty)→List A→Option (yJ ts×List Nat)
 |[],[]=>some ((),[])
 |t::[],[a]=>toT lk t a
 |t::u::r,a::l=>match toT lk t a with
  |some (x,is)=>match toE lk (u::r) l with
   |some (y,js)=>some ((x,y),is++js)
   |none=>none
  |none=>none
 |_,_=>none
def settles (lk:Lk):List Nat→List (Nat×Ob)
 |[]=>[]
 |o::r=>match lk o with
  |some (.root _ e ts xs)=>(o,.root false e ts xs)::settles lk r
  |some (.deep _ _ e ts xs)=>(o,.root false e ts xs)::settles lk r
  |_=>settles lk r
def Kb:(ts:List Ty)→yJ ts→Nat→Option (Sigma El)
 |[],_,_=>none
 |t::[],x,0=>some ⟨t,x⟩
 |_::[],_,_+1=>none
 |t::_::_,x,0=>some ⟨t,x.1⟩
 |_::u::r,x,c+1=>Kb (u::r) x.2 c
def y0k:(ts:List Ty)→yJ ts→Nat→(ys:List (Sigma El))→Option (yJ ts)
 |_,x,_,[]=>some x
 |[],_,_,_::_=>none
 |t::[],_,0,[⟨u,y⟩]=>j9 u t y
 |_::[],_,_,_=>none
 |t::v::r,x,0,⟨u,y⟩::ys=>match j9 u t y with
  |some z=>match y0k (v::r) x.2 0 ys with
   |some w=>some (z,w)
   |none=>none
  |none=>none
 |t::v::r,x,c+1,ys=>match y0k (v::r) x.2 c ys with
  |some w=>some (x.1,w)
  |none=>none
def ycD (lk:Lk):A→Option (Sigma fun ts:List Ty=>Nat×List (yJ ts))
 | .val (.sl e ts) xs=>some ⟨ts,e,xs⟩
 | .top e ts xs=>some ⟨ts,e,xs⟩
 | .own o=>match lk o with
  |some (.root _ e ts xs)=>some ⟨ts,e,xs⟩
  |_=>none
 |_=>none
def y3Z (lk:Lk) (ts:List Ty) (a:A):Option (List (yJ ts)):=match a with
 | .nils=>some []
 |a=>match ycD lk a with
  |some ⟨ts',_,xs⟩=>y6k ts' ts xs
  |none=>none
def y7g (op:BinOp) (k:IntKind) (x y:Int):Option A:=
 match op with
 | .add=>some (.val (.int k) (k.wrap (x+y)))
 | .sub=>some (.val (.int k) (k.wrap (x - y)))
 | .mul=>some (.val (.int k) (k.wrap (x*y)))
 | .quo=>if y=0 then none else some (.val (.int k) (k.wrap (x.tdiv y)))
 | .rem=>if y=0 then none else some (.val (.int k) (x.tmod y))
 | .and=>some (.val (.int k) (bits .and k x y))
 | .or=>some (.val (.int k) (bits .or k x y))
 | .xor=>some (.val (.int k) (bits .xor k x y))
 | .eql=>some (.val .bool (x==y))
 | .neq=>some (.val .bool (x !=y))
 | .lss=>some (.val .bool (decide (x<y)))
 | .leq=>some (.val .bool (decide (x≤y)))
 | .gtr=>some (.val .bool (decide (x>y)))
 | .geq=>some (.val .bool (decide (x≥y)))
 |_=>none
def ytL (op:BinOp) (k:IntKind) (x y:Int):Option A:=
 if y<0 then none else match op with
 | .shl=>some (.val (.int k) (k.wrap (x*2 ^ (min y.toNat k.bits))))
 | .shr=>some (.val (.int k) (x.fdiv (2 ^ (min y.toNat k.bits))))
 |_=>none
def y9J (op:BinOp) (x y:ByteArray):Option A:=
 match op with
 | .add=>if x.size+y.size<140737488355328 then some (.val .str (x++y)) else none
 | .eql=>some (.val .bool (x.toList==y.toList))
 | .neq=>some (.val .bool (!(x.toList==y.toList)))
 | .lss=>some (.val .bool (Op.bytesLess x.toList y.toList))
 | .leq=>some (.val .bool (Op.bytesLess x.toList y.toList||x.toList==y.toList))
 | .gtr=>some (.val .bool (!(Op.bytesLess x.toList y.toList||x.toList==y.toList)))
 | .geq=>some (.val .bool (!Op.bytesLess x.toList y.toList))
 |_=>none
def y5P (op:BinOp) (x y:Bool):Option A:=match op with
 | .eql=>some (.val .bool (x==y))
 | .neq=>some (.val .bool (!(x==y)))
 |_=>none
def yeT (op:BinOp):A→A→Option A
 | .val .bool x,.val .bool y=>y5P op x y
 | .val (.int k) x,.val (.int k') y=>match op with
  | .shl=>ytL .shl k x y
  | .shr=>ytL .shr k x y
  |op=>if k=k' then y7g op k x y else none
 | .val .str x,.val .str y=>y9J op x y
 |_,_=>none
def yub {R:Type} (op:BinOp):A→A→(A→Option R)→Option R
 | .val .bool x,.val .bool y,k=>match y5P op x y with
  |some a=>k a
  |none=>none
 | .val (.int k1) x,.val (.int k2) y,k=>match op with
  | .shl=>if (show Int from y)<0 then none else k (.val (.int k1) (k1.wrap ((show Int from x)*2 ^ (min (Int.toNat y) k1.bits))))
  | .shr=>if (show Int from y)<0 then none else k (.val (.int k1) (Int.fdiv x (2 ^ (min (Int.toNat y) k1.bits))))
  | .quo=>if k1=k2 then if (show Int from y)=0 then none else k (.val (.int k1) (k1.wrap (Int.tdiv x y))) else none
  | .rem=>if k1=k2 then if (show Int from y)=0 then none else k (.val (.int k1) (Int.tmod x y)) else none
  |op=>if k1=k2 then match y7g op k1 x y with
   |some a=>k a
   |none=>none else none
 | .val .str x,.val .str y,k=>match op with
  | .add=>if ByteArray.size x+ByteArray.size y<140737488355328 then k (.val .str (show ByteArray from (show ByteArray from x)++(show ByteArray from y))) else none
  |op=>match y9J op x y with
   |some a=>k a
   |none=>none
 |_,_,_=>none
theorem yiu {R:Type} (op:BinOp) (x y:A) (k:A→Option R):yub op x y k=(yeT op x y).bind k:=by
 cases x with
 |val t1 x=>
  cases y with
  |val t2 y=>
   cases t1<;>cases t2<;>try rfl
   ·rename_i k1 k2
    cases op<;>simp only [yub,yeT,ytL,y7g]<;>(repeat' split)<;>first|rfl|simp_all
   ·simp only [yub,yeT]
    cases y5P op x y<;>rfl
   ·cases op<;>simp only [yub,yeT,y9J]<;>(repeat' split)<;>first|rfl|simp_all
  |_=>cases t1<;>rfl
 |_=>rfl
def ycE (ti:TI):A→Bool
 | .val .bool _=>(match ti with
  | .c .bool _=>true
  |_=>false)
 |_=>true
def unA (op:UnOp):A→Option A
 | .val .bool b=>match op with
  | .not=>some (.val .bool (!b))
  |_=>none
 | .val (.int k) n=>match op with
  | .neg=>some (.val (.int k) (k.wrap (0 - (show Int from n))))
  |_=>none
 |_=>none
def QZ (s:ByteArray):List Int:=s.data.toList.map fun b=>(b.toNat:Int)
def ygc (l:List Int):ByteArray:=⟨(l.map fun n=>UInt8.ofNat n.toNat).toArray⟩
def yhr (lk:Lk) (same:Bool) (te:TI) (u:Option TI):(ts:List Ty)→A→Option (List (yJ ts))
 |[.int .u8],y=>bif same then y3Z lk [.int .u8] y else match te,u,y with
  | .c (.int .u8) 1,some (.c .str _),.val .str s=>some (QZ s)
  |_,_,_=>none
 |ts,y=>bif same then y3Z lk ts y else none
def rdE (ts:List Ty) (xs:List (yJ ts)) (i:Int):yJ ts:=xs.getD i.toNat (Wx ts)
def y40:Ty→A→A→Option Bool
 | .int _,.val (.int k) x,.val (.int k') y=>if k=k' then some ((show Int from x)==(show Int from y)) else none
 | .bool,.val .bool x,.val .bool y=>some ((show Bool from x)==(show Bool from y))
 | .str,.val .str x,.val .str y=>some ((show ByteArray from x).toList==(show ByteArray from y).toList)
 |_,_,_=>none
def YF:List Ty→List A→List A→Option Bool
 |[],[],[]=>some true
 |t::ts,a::l,b::m=>match y40 t a b with
  |some u=>(YF ts l m).map fun v=>u&&v
  |none=>none
 |_,_,_=>none
def y8u (C:Ctx):Nat→Nat→Bool
 |0,_=>false
 |n+1,t=>match C.info t with
  |some (.c t _)=>t.flat
  |some (.s fs _ _)=>fs.all fun p=>y8u C n p.2
  |none=>false
def yeW (C:Ctx) (op:BinOp) (t:Nat):TI→A→A→Option Bool
 | .s _ ts _,.agg l,.agg m=>(match op with
  | .eql=>bif y8u C 8 t then YF ts l m else none
  | .neq=>bif y8u C 8 t then (YF ts l m).map fun b=> !b else none
  |_=>none)
 |_,_,_=>none
def y3w (lk:Lk) (ti:TI):A→Option A
 | .box b off=>match lk b with
  |some (.box cs)=>bif Nat.ble (off+ti.ts.length) cs.length then mkA ti.isAgg ((cs.drop off).take ti.ts.length) else none
  |_=>none
 | .elp _ ts xs i c=>bif Nat.ble (c+ti.ts.length) ts.length then mkA ti.isAgg (((QY ts (rdE ts xs i)).drop c).take ti.ts.length) else none
 | .rtp o i c=>match lk o with
  |some (.root _ _ ts xs)=>bif Nat.ble (c+ti.ts.length) ts.length then mkA ti.isAgg (((QY ts (rdE ts xs i)).drop c).take ti.ts.length) else none
  |some (.deep fin _ _ ts xs)=>bif Nat.ble (c+ti.ts.length) ts.length then mkA ti.isAgg (((y3C fin o i 0 ts (rdE ts xs i)).drop c).take ti.ts.length) else none
  |_=>none
 |_=>none
def JA {α:Type}:List α→Nat→List α→Option (List α)
 |l,_,[]=>some l
 |[],_,_::_=>none
 |_::l,0,x::xs=>match JA l 0 xs with
  |some r=>some (x::r)
  |none=>none
 |y::l,n+1,xs=>match JA l n xs with
  |some r=>some (y::r)
  |none=>none
def y6l (lk:Lk):(ts:List Ty)→Nat→List A→Option (List (Sigma El)×List Nat)
 |_,_,[]=>some ([],[])
 |[],_,_::_=>none
 |t::ts,0,a::l=>match toT lk t a with
  |some (x,is)=>match y6l lk ts 0 l with
   |some (r,js)=>some (⟨t,x⟩::r,is++js)
   |none=>none
  |none=>none
 |_::ts,c+1,a::l=>y6l lk ts c (a::l)
def YB:List Nat→List (Nat×Ob)
 |[]=>[]
 |i::r=>(i,.gone)::YB r
def y0F:List Nat→Bool
 |[]=>true
 |i::r=> !qR r i&&y0F r
def VK (lk:Lk) (bk:Bool) (t:Ty) (a:A):Option (El t×List Nat):=match a,t with
 | .own o,t=>match lk o with
  |some (.root true e ts xs)=>bif vM ts then (j9 (.sl e ts) t xs).map fun y=>(y,[o]) else none
  |some (.deep _ _ e ts xs)=>(j9 (.sl e ts) t xs).map fun y=>(y,[o])
  |_=>none
 | .bor o i c,t=>bif bk then (match lk o with
  |some (.deep true _ _ ts xs)=>(match Kb ts (rdE ts xs i) c with
   |some ⟨.sl e us,y⟩=>(j9 (.sl e us) t y).map fun y=>(y,[o])
   |_=>none)
  |_=>none) else none
 | .nils,.sl e ts=>bif Nat.blt 0 ts.length then some (y5g (.sl e ts),[]) else none
 | .val t' x,t=>bif t.flat then (j9 t' t x).map fun y=>(y,[]) else none
 |_,_=>none
def qY (lk:Lk):(ts:List Ty)→Nat→List A→Option (List (Sigma El)×List Nat)
 |_,_,[]=>some ([],[])
 |[],_,_::_=>none
 |t::ts,0,a::l=>match VK lk false t a with
  |some (x,is)=>match qY lk ts 0 l with
   |some (r,js)=>some (⟨t,x⟩::r,is++js)
   |none=>none
  |none=>none
 |_::ts,c+1,a::l=>qY lk ts c (a::l)
def yeX:List (Sigma El)→Bool
 |[]=>true
 |⟨t,_⟩::r=>t.flat&&yeX r
def ycF (lk:Lk) (p v:A):Option (List (Nat×Ob)):=match p with
 | .box b off=>match lk b with
  |some (.box cs)=>match JA cs off v.cells with
   |some cs'=>bif k6 v.cells then some [(b,.box cs')] else none
   |none=>none
  |_=>none
 | .rtp o i c=>match lk o with
  |some (.root true e ts xs)=>match y6l lk ts c v.cells with
   |some (ys,is)=>match y0k ts (rdE ts xs i) c ys with
    |some x=>bif qR is o then none else some (settles lk is++[(o,.root true e ts (xs.set i.toNat x))])
    |none=>none
   |none=>none
  |some (.deep fin tag e ts xs)=>match qY lk ts c v.cells with
   |some (ys,gs)=>match y0k ts (rdE ts xs i) c ys with
    |some x=>bif qR gs o|| !y0F gs then none else some (YB gs++[(o,.deep (fin&&yeX ys) tag e ts (xs.set i.toNat x))])
    |none=>none
   |none=>none
  |_=>none
 | .bep o i c n=>match lk o with
  |some (.deep true tag e ts xs)=>(match Kb ts (rdE ts xs i) c with
   |some ⟨.sl e1 [u],ys⟩=>(match v with
    | .val t y=>bif u.flat then (match j9 t u y with
     |some y=>(match y0k ts (rdE ts xs i) c [⟨.sl e1 [u],List.set ys n.toNat (show yJ [u] from y)⟩] with
      |some x=>some [(o,.deep true tag e ts (xs.set i.toNat x))]
      |none=>none)
     |none=>none) else none
    |_=>none)
   |_=>none)
  |_=>none
 |_=>none
def yhs:Ty→A
 | .sl _ _=> .nils
 |t=> .val t (y5g t)
mutual
def A.ids:A→List Nat
 | .own o=>[o]
 | .box b _=>[b]
 | .rtp o _ _=>[o]
 | .clo _ b=>[b]
 | .bor o _ _=>[o]
 | .bep o _ _ _=>[o]
 | .win o _=>[o]
 | .tl o _=>[o]
 | .agg l=>Yt l
 | .tup l=>Yt l
 | .dead=>[]
 | .und=>[]
 | .val _ _=>[]
 | .nils=>[]
 | .nilp=>[]
 | .elp _ _ _ _ _=>[]
 | .top _ _ _=>[]
 | .fn _=>[]
def Yt:List A→List Nat
 |[]=>[]
 |a::r=>a.ids++Yt r
end
def kO:List Ty→List A→Nat→List A×List (Nat×Ob)
 | .sl e us::ts,.nils::l,n=>bif vM us&&Nat.blt 0 us.length then (.own n::(kO ts l (n+1)).1,(n,.root true e us [])::(kO ts l (n+1)).2) else (.nils::(kO ts l (n+1)).1,(kO ts l (n+1)).2)
 |_::ts,a::l,n=>(a::(kO ts l (n+1)).1,(kO ts l (n+1)).2)
 |_,l,_=>(l,[])
def y4q (C:Ctx) (ρ:Operand→A) (fs:List (Nat×Nat)):List A→List (Nat×Operand)→Option (List A)
 |cs,[]=>some cs
 |cs,(i,x)::r=>match fs[i]? with
  |some (off,t)=>match C.info t with
   |some ti=>bif Nat.beq (ρ x).cells.length ti.ts.length&&k6 (ρ x).cells then match JA cs off (ρ x).cells with
     |some cs'=>y4q C ρ fs cs' r
     |none=>none
    else none
   |none=>none
  |none=>none
def yht (lk:Lk) (ρ:Operand→A) (ts:List Ty):List (Nat×Operand)→List (yJ ts)→List Nat→Option (List (yJ ts)×List Nat)
 |[],xs,is=>some (xs,is)
 |(i,x)::r,xs,is=>match qY lk ts 0 (ρ x).cells with
  |some (ys,js)=>match y0k ts (xs.getD i (Wx ts)) 0 ys with
   |some y=>bif Nat.blt i xs.length&&Nat.beq (ρ x).cells.length ts.length then yht lk ρ ts r (xs.set i y) (is++js) else none
   |none=>none
  |none=>none
def y5h:List Ty→Bool
 |[]=>true
 | .sl _ us::r=>Nat.blt 0 us.length&&y5h r
 |_::r=>y5h r
def yhu (lk:Lk) (ρ:Operand→A) (ts:List Ty):List (Nat×Operand)→List (yJ ts)→List Nat→Option (List (yJ ts)×List Nat)
 |[],xs,is=>some (xs,is)
 |(i,x)::r,xs,is=>match toE lk ts (ρ x).cells with
  |some (y,js)=>bif Nat.blt i xs.length then yhu lk ρ ts r (xs.set i y) (is++js) else none
  |none=>none
def ygd (lk:Lk):A→Option Int
 | .nils=>some 0
 | .val .str x=>some x.size
 | .own o=>match lk o with
  |some (.root _ _ _ xs)=>some xs.length
  |some (.deep _ _ _ _ xs)=>some xs.length
  |_=>none
 |a=>match ycD lk a with
  |some ⟨_,_,xs⟩=>some xs.length
  |none=>none
def loA (ρ:Operand→A):Option Operand→A
 |some l=>ρ l
 |none=> .val (.int .i64) (0:Int)
def hiA (ρ:Operand→A):Option Operand→Int→A
 |some h,_=>ρ h
 |none,n=> .val (.int .i64) n
def y8v (C:Ctx) (t:Nat) (a:A):Bool:=match C.info t,a with
 |some (.c .str _),.val .str _=>true
 |some (.c (.sl _ _) _),.val (.sl _ _) _=>true
 |some (.c (.sl _ _) _),.nils=>true
 |some (.c (.sl _ _) _),.own _=>true
 |_,_=>false
def wG:Bool→A→Option (List A)
 |true,.agg l=>some l
 |true,_=>none
 |false,.agg _=>none
 |false,a=>some [a]
def y1h:Option Nat→A→Option Nat
 |none,.box b off=>bif Nat.beq off 0 then some b else none
 |some f,.clo f' b=>bif Nat.blt f 1000000000&&Nat.beq f f' then some b else none
 |some f,.box b off=>bif Nat.beq f (1000000000+off) then some b else none
 |_,_=>none
def yl4:Option Nat→Nat→A
 |none,b=> .box b 0
 |some f,b=>bif Nat.blt f 1000000000 then .clo f b else .box b (f - 1000000000)
def wL (lk:Lk):List PK→List A→Option (List A×List (Nat×Nat))
 |[],[]=>some ([],[])
 | .v agg ts _::ps,a::as=>match wG agg a,wL lk ps as with
  |some c,some (l,bs)=>bif Nat.beq c.length ts.length then some (c++l,bs) else none
  |_,_=>none
 | .p wr ts _::ps,a::as=>match y1h wr a with
  |some b=>match lk b with
   |some (.box cs)=>match wL lk ps as with
    |some (l,bs)=>bif Nat.beq ts.length cs.length then some (cs++l,(b,ts.length)::bs) else none
    |none=>none
   |_=>none
  |none=>none
 | .k f::ps,a::as=>match a with
  | .fn f'=>bif Nat.beq f f' then wL lk ps as else none
  |_=>none
 |_,_=>none
def y5i:A→Option (Nat×List A)
 | .fn f=>some (f,[])
 | .clo f b=>some (f,[.box b 0])
 |_=>none
def yl5 (lk:Lk):List A→List Nat
 |[]=>[]
 |a::r=>match a with
  | .fn f=>f::yl5 lk r
  | .clo f _=>f::yl5 lk r
  | .box b off=>(match lk b with
   |some (.box cs)=>(2000000000+cs.length*100000+off)::yl5 lk r
   |_=>yl5 lk r)
  |_=>yl5 lk r
def qG (lk:Lk) (dp bk:Bool) (own:Bool) (t:Ty) (a:A):Option (El t×List Nat×List Nat):=bif own then (bif dp then (VK lk bk t a).map fun (y,gs)=>(y,[],gs) else match a,t with
  | .own o,t=>match lk o with
   |some (.root true e ts xs)=>(j9 (.sl e ts) t xs).map fun y=>(y,[],[o])
   |_=>none
  | .nils,.sl e ts=>bif Nat.blt 0 ts.length then some (y5g (.sl e ts),[],[]) else none
  | .val t' x,t=>bif t.flat then (j9 t' t x).map fun y=>(y,[],[]) else none
  |_,_=>none) else (toT lk t a).map fun (y,is)=>(y,is,[])
def vR (lk:Lk) (dp bk:Bool):(ts:List Ty)→List Bool→List A→Option (yJ ts×List Nat×List Nat)
 |[],_,[]=>some ((),[],[])
 |t::[],os,[a]=>qG lk dp bk (os.headD false) t a
 |t::u::r,os,a::l=>match qG lk dp bk (os.headD false) t a with
  |some (x,is,gs)=>match vR lk dp bk (u::r) os.tail l with
   |some (y,js,hs)=>some ((x,y),is++js,gs++hs)
   |none=>none
  |none=>none
 |_,_,_=>none
def Yw (dp tg:Bool):(t:Ty)→Bool→El t→Nat→A×List (Nat×Ob)
 | .sl e us,true,x,n=>bif tg&& !dp then (.top e us x,[]) else (.own n,[(n,bif dp then (bif tg then .deep true (n - 949) e us x else bif vM us then .root true e us x else .deep true 0 e us x) else .root true e us x)])
 |t,_,x,_=>(.val t x,[])
def yM (dp tg:Bool):(ts:List Ty)→List Bool→yJ ts→Nat→List A×List (Nat×Ob)
 |[],_,_,_=>([],[])
 |t::[],os,x,n=>([(Yw dp tg t (os.headD false) x n).1],(Yw dp tg t (os.headD false) x n).2)
 |t::u::r,os,x,n=>((Yw dp tg t (os.headD false) x.1 n).1::(yM dp tg (u::r) os.tail x.2 (n+1)).1,(Yw dp tg t (os.headD false) x.1 n).2++(yM dp tg (u::r) os.tail x.2 (n+1)).2)
def vP:List RK→List A→Option (List A×List A)
 |[],l=>some ([],l)
 |r::rs,l=>match mkA r.agg (l.take r.ts.length) with
  |some a=>match vP rs (l.drop r.ts.length) with
   |some (as,l2)=>some (a::as,l2)
   |none=>none
  |none=>none
def y5j:List (Nat×Nat)→List A→List (Nat×Ob)
 |[],_=>[]
 |(b,n)::bs,l=>(b,.box (l.take n))::y5j bs (l.drop n)
def y3x:List Nat→List Nat→Bool
 |[],_=>true
 |i::r,l=> !qR l i&&y3x r l
def zp {α:Type}:List (Nat×α)→List Nat
 |[]=>[]
 |(i,_)::r=>i::zp r
def vT {α:Type}:List α→Bool
 |[]=>true
 |_=>false
def y5k (sg:Sig) (d:Nat) (l:List A):Option (List (Nat×Ob)×A×List A):=bif sg.ptr then (match sg.rs with
  |q::rs=>(match vP rs (l.drop q.ts.length) with
   |some (as,rest)=>some ([(1000*(d+1)+500,.box (l.take q.ts.length))],(match as with|[]=> .box (1000*(d+1)+500) 0|as=> .tup (.box (1000*(d+1)+500) 0::as)),rest)
   |none=>none)
  |_=>none) else match vP sg.rs l with
  |some (as,rest)=>some ([],(match as with|[a]=>a|as=> .tup as),rest)
  |none=>none
section
def yiv (lk:Lk) (same:Bool) (e:Nat) (ts:List Ty):A→A→Option (Nat×List (yJ ts)×List (yJ ts))
 | .win r h,.tl r2 l=>match lk r with
  |some (.root true e1 ts1 xs)=>match y6k ts1 ts xs with
   |some xs=>bif same&&Nat.beq r r2&&Nat.beq e1 e then some (r,xs.take (Int.toNat h),xs.drop (Int.toNat l)) else none
   |none=>none
  |_=>none
 |_,_=>none
def yl6:Option Operand→Bool
 |none=>true
 |some _=>false
variable {R:Type} (C:Ctx) (call:C.Sem)
def yl7:Ob→Option (Sigma El)
 | .root true e ts xs=>some ⟨.sl e ts,xs⟩
 | .deep _ _ e ts xs=>some ⟨.sl e ts,xs⟩
 |_=>none
def ypj (lk:Lk) (y:Sigma El) (q:Nat):Option Ob:=match lk q with
 |some (.root true e ts _)=>bif vM ts then (j9 y.1 (.sl e ts) y.2).map fun xs=> .root true e ts xs else none
 |some (.deep _ tag e ts _)=>(j9 y.1 (.sl e ts) y.2).map fun xs=> .deep false tag e ts xs
 |_=>none
def y0G (lk:Lk) (obs:List (Nat×Ob)):List A→List A→Option (List (Nat×Ob))
 |[],[]=>some []
 | .nils::ts,.own n::rs=>(y0G lk obs ts rs).map fun ms=>(n,.gone)::ms
 | .own q::ts,.own n::rs=>match (yF obs n).bind yl7 with
  |some y=>match ypj lk y q,y0G lk obs ts rs with
   |some m,some ms=>some ((n,.gone)::(q,m)::ms)
   |_,_=>none
  |none=>none
 |_,_=>none
def yge (lk:Lk) (obs:List (Nat×Ob)) (tg rs:List A):Option (List (Nat×Ob)):=match tg,rs with
 |[.bor o i c],[.own n]=>match lk o,(yF obs n).bind yl7 with
  |some (.deep true tag e ts xs),some y=>(y0k ts (rdE ts xs i) c [y]).map fun x=>[(n,.gone),(o,.deep true tag e ts (xs.set i.toNat x))]
  |_,_=>none
 |tg,rs=>y0G lk obs tg rs
def qZ:List Bool→List A→List A
 |[],_=>[]
 |_,[]=>[]
 |o::os,a::l=>bif o then a::qZ os l else qZ os l
def y0H (lk:Lk) (sg:Sig) (tg:List A) (bs:List (Nat×Nat)) (is gs:List Nat) (d:Nat) (ts:List Ty) (r:yJ ts):Option Eff:=
 match yM sg.deep false ts sg.owns r (1000*(d+1)) with
 |(l,obs)=>match y5k sg d l with
  |some (ex,a,rest)=>bif y3x (zp (obs++ex)) (is++(gs++zp bs))&&(vT ex||Nat.ble ts.length 500) then (bif sg.back&&sg.deep then (bif sg.ptr|| !vT bs|| !sg.deep then none else match yge lk obs tg rest with
    |some mv=>some ⟨settles lk is++(YB gs++mv),obs++ex,a⟩
    |none=>none) else some ⟨settles lk is++(YB (bif sg.back then [] else gs)++y5j bs rest),obs++ex,a⟩) else none
  |none=>none
def yiw (lk:Lk) (dst:Option Nat) (g:Nat) (as:List A) (q:Nat) (k:Eff→Option R):Option R:=match C.sig q with
 |some sg=>match wL lk sg.ps as with
  |some (l,bs)=>match vR lk sg.deep sg.back (C.ins q) (sg.ps.flatMap PK.ownsIn) l,dst with
   |some (xs,is,gs),some d=>bif y0F (zp bs)&&y0F gs&&y3x gs is&&Nat.beq (C.fid q) g then
     (call q xs).bind fun r=>match y0H lk sg (qZ (sg.ps.flatMap PK.ownsIn) l) bs (bif sg.hfree then [] else is) gs d (C.outs q) r with
      |some e=>k e
      |none=>none
    else none
   |_,_=>none
  |none=>none
 |none=>none
def jb (ct wn:Bool) (o:Oper) (ρ:Operand→A) (lk:Lk) (k:Eff→Option R):Option R:=
 match o.op with
 | .move x| .assign x=>k ⟨[],[],ρ x⟩
 | .box t x=>match C.info t,o.dst with
  |some ti,some d=>bif Nat.beq (ρ x).cells.length ti.ts.length&&k6 (ρ x).cells then
    k ⟨[],[(d,.box (zy d (ρ x).cells))],.box d 0⟩
   else none
  |_,_=>none
 | .alloc t=>match C.info t,o.dst with
  |some ti,some d=>k ⟨[],[(d,.box (ti.ts.map yhs))],.box d 0⟩
  |_,_=>none
 | .build t parts=>match C.info t with
  |some (.s fs ts _)=>match y4q C ρ fs (ts.map yhs) parts.toList with
   |some l=>bif ct then (match o.dst with
    |some d=>bif y3x (zp (kO ts l (1000*(d+1))).2) (Yt l) then k ⟨[],(kO ts l (1000*(d+1))).2,.agg (kO ts l (1000*(d+1))).1⟩ else none
    |none=>none) else k ⟨[],[],.agg l⟩
   |none=>none
  |_=>none
 | .buildSlice t n parts=>match C.info t,o.dst with
  |some (.c (.sl e ts) _),some d=>bif ct then (match yht lk ρ ts parts.toList (List.replicate n (Wx ts)) [] with
   |some (xs,gs)=>bif qR gs d|| !y0F gs|| !Nat.ble (n*ts.length) 16777216|| !y5h ts then none else k ⟨YB gs,[(d,.deep true 0 e ts xs)],.own d⟩
   |none=>none) else match yhu lk ρ ts parts.toList (List.replicate n (Wx ts)) [] with
   |some (xs,is)=>bif qR is d|| !Nat.ble (n*ts.length) 16777216 then none else k ⟨settles lk is,[(d,.root true e ts xs)],.own d⟩
   |none=>none
  |_,_=>none
 | .makeSlice t l c=>match C.info t,o.dst with
  |some (.c (.sl e ts) _),some d=>match C.info e,ρ l,ρ c with
   |some te,.val (.int .i64) n,.val (.int .i64) m=>
    if 0≤(show Int from n) then if (show Int from n)≤(show Int from m) then if (show Int from m)*te.bytes≤140737488351232 then
     bif ct&& !y5h ts then none else k ⟨[],[(d,bif ct then .deep false 0 e ts (List.replicate (Int.toNat n) (Wx ts)) else .root true e ts (List.replicate (Int.toNat n) (Wx ts)))],.own d⟩
    else none else none else none
   |_,_,_=>none
  |_,_=>none
 | .load t x=>match C.info t with
  |some ti=>bif ct then (match ρ x with
   | .rtp r i c=>match lk r with
    |some (.deep _ _ e ts xs)=>bif Nat.ble (c+ti.ts.length) ts.length then (match mkA ti.isAgg (((QY ts (rdE ts xs i)).drop c).take ti.ts.length) with
     |some a=>k ⟨[(r,.root false e ts xs)],[],a⟩
     |none=>none) else none
    |_=>(match y3w lk ti (.rtp r i c) with
     |some a=>k ⟨[],[],a⟩
     |none=>none)
   |p=>(match y3w lk ti p with
    |some a=>k ⟨[],[],a⟩
    |none=>none)) else match y3w lk ti (ρ x) with
   |some a=>k ⟨[],[],a⟩
   |none=>none
  |none=>none
 | .store t p x=>match C.info t with
  |some ti=>bif Nat.beq (ρ x).cells.length ti.ts.length then match ycF lk (ρ p) (ρ x) with
    |some sets=>k ⟨sets,[],.dead⟩
    |none=>none
   else none
  |none=>none
 | .nilCheck x=>match ρ x with
  | .box b off=>k ⟨[],[],.box b off⟩
  | .elp e ts xs i c=>k ⟨[],[],.elp e ts xs i c⟩
  | .rtp r i c=>k ⟨[],[],.rtp r i c⟩
  |_=>none
 | .binOp op t x y _=>match C.info t with
  |some ti=>match yeW C op t ti (ρ x) (ρ y) with
   |some b=>k ⟨[],[],.val .bool b⟩
   |none=>bif ycE ti (ρ x) then yub op (ρ x) (ρ y) fun a=>k ⟨[],[],a⟩ else none
  |none=>none
 | .unOp op _ x=>match unA op (ρ x) with
  |some a=>k ⟨[],[],a⟩
  |none=>none
 | .convert src dst x=>match C.info src,C.info dst,ρ x with
  |some _,some (.c (.int k2) _),.val (.int _) n=>k ⟨[],[],.val (.int k2) (k2.wrap n)⟩
  |some _,some (.c .str _),.val .str x=>k ⟨[],[],.val .str x⟩
  |some (.c .str _),some (.c (.sl e [.int .u8]) _),.val .str x=>match C.info e with
   |some (.c (.int .u8) _)=>if ByteArray.size x<140737488351232 then k ⟨[],[],.val (.sl e [.int .u8]) (QZ x)⟩ else none
   |_=>none
  |some (.c (.sl e [.int .u8]) _),some (.c .str _),a=>match C.info e,y3Z lk [.int .u8] a with
   |some (.c (.int .u8) _),some l=>k ⟨[],[],.val .str (ygc l)⟩
   |_,_=>none
  |_,_,_=>none
 | .slice t x lo hi none=>
  match ρ x,loA ρ lo with
  |a,.val (.int _) l=>match ygd lk a with
   |some n=>match hiA ρ hi n with
    | .val (.int _) h=>if 0≤(show Int from l) then if (show Int from l)≤(show Int from h) then if (show Int from h)≤n then
      match C.info t,a with
      |some (.c .str _),.val .str x=>k ⟨[],[],.val .str (ByteArray.extract x (Int.toNat l) (Int.toNat h))⟩
      |some (.c (.sl _ us) _),.val (.sl e ts) xs=>bif Nat.beq us.length ts.length then k ⟨[],[],.val (.sl e ts) (((show List (yJ ts) from xs).take (Int.toNat h)).drop (Int.toNat l))⟩ else none
      |some (.c (.sl _ us) _),.top e ts xs=>bif Nat.beq us.length ts.length then k ⟨[],[],.top e ts ((xs.take (Int.toNat h)).drop (Int.toNat l))⟩ else none
      |some (.c (.sl _ us) _),.own r=>match lk r with
       |some (.root own e ts xs)=>bif Nat.beq us.length ts.length then (bif ct&&own&&yl6 lo then (match o.dst with
         |some d=>bif Nat.beq r d then none else k ⟨[(r,.gone)],[(d,.root true e ts (xs.take (Int.toNat h)))],.own d⟩
         |none=>none)
        else bif wn&&own&&yl6 lo then k ⟨[],[],.win r h⟩
        else bif wn&&own&&yl6 hi then k ⟨[],[],.tl r l⟩
        else k ⟨bif own then [(r,.root false e ts xs)] else [],[],.val (.sl e ts) ((xs.take (Int.toNat h)).drop (Int.toNat l))⟩) else none
       |_=>none
      |_,_=>none
     else none else none else none
    |_=>none
   |none=>none
  |_,_=>none
 | .fieldAddr t x f=>match C.info t with
  |some (.s fs _ _)=>match fs[f]?,ρ x with
   |some (d,_),.box b off=>k ⟨[],[],.box b (off+d)⟩
   |some (d,_),.elp e ts xs i c=>k ⟨[],[],.elp e ts xs i (c+d)⟩
   |some (d,_),.rtp r i c=>k ⟨[],[],.rtp r i (c+d)⟩
   |_,_=>none
  |_=>none
 | .field t x f=>match C.info t with
  |some (.s fs _ _)=>match fs[f]? with
   |some (d,t2)=>match C.info t2 with
    |some ti=>match ρ x with
     | .agg l=>bif Nat.ble (d+ti.ts.length) l.length then match mkA ti.isAgg ((l.drop d).take ti.ts.length) with
      |some a=>k ⟨[],[],a⟩
      |none=>none else none
     |_=>none
    |none=>none
   |none=>none
  |_=>none
 | .indexAddr t x i=>match C.info t,ρ x,ρ i with
  |some (.c (.sl _ us) _),.val (.sl e ts) xs,.val (.int _) n=>if 0≤(show Int from n) then if (show Int from n)<(show List (yJ ts) from xs).length then bif Nat.beq us.length ts.length then k ⟨[],[],.elp e ts xs n 0⟩ else none else none else none
  |some (.c (.sl _ us) _),.own r,.val (.int _) n=>match lk r with
   |some (.root _ _ ts xs)=>if 0≤(show Int from n) then if (show Int from n)<xs.length then bif Nat.beq us.length ts.length then k ⟨[],[],.rtp r n 0⟩ else none else none else none
   |some (.deep _ _ _ ts xs)=>if 0≤(show Int from n) then if (show Int from n)<xs.length then bif Nat.beq us.length ts.length then k ⟨[],[],.rtp r n 0⟩ else none else none else none
   |_=>none
  |some (.c (.sl _ us) _),.bor r j c,.val (.int _) n=>match lk r with
   |some (.deep true _ _ ts xs)=>(match Kb ts (rdE ts xs j) c with
    |some ⟨.sl _ vs,ys⟩=>if 0≤(show Int from n) then if (show Int from n)<(List.length ys:Int) then bif Nat.beq us.length vs.length&&Nat.beq vs.length 1 then k ⟨[],[],.bep r j c n⟩ else none else none else none
    |_=>none)
   |_=>none
  |_,_,_=>none
 | .index t x i=>match C.info t,ρ x,ρ i with
  |some (.c .str _),.val .str x,.val (.int _) n=>if 0≤(show Int from n) then if h:Int.toNat n<ByteArray.size x then k ⟨[],[],.val (.int .u8) ((ByteArray.get x (Int.toNat n) h).toNat:Int)⟩ else none else none
  |_,_,_=>none
 | .extract x i=>match ρ x with
  | .tup l=>match l[i]? with
   |some a=>k ⟨[],[],a⟩
   |none=>none
  |_=>none
 | .call c=>match c.callee,c.args.toList,c.argTypes.toList with
  | .builtin .len,[x],t::_=>match ygd lk (ρ x),y8v C t (ρ x) with
   |some n,true=>k ⟨[],[],.val (.int .i64) n⟩
   |_,_=>none
  | .builtin .min,[x,y],_=>match ρ x,ρ y with
   | .val (.int k1) n,.val (.int k2) m=>if k1=k2 then k ⟨[],[],.val (.int k1) (if (show Int from m)<(show Int from n) then m else n)⟩ else none
   |_,_=>none
  | .builtin .append,[x,y],[t,t2]=>match C.info t,o.dst with
   |some (.c (.sl e ts) _),some d=>match C.info e with
    |some te=>bif ct then (match ρ x,ρ y with
     | .nils,.own q=>match lk q with
      |some (.deep _ _ e2 ts2 ys)=>match j9 (.sl e2 ts2) (.sl e ts) ys with
       |some ys=>bif Nat.beq q d|| !Nat.beq t t2 then none else if (show List (yJ ts) from ys).length*te.bytes<140737488355328 then k ⟨[(q,.gone)],[(d,.deep true 0 e ts ys)],.own d⟩ else none
       |none=>none
      |_=>none
     | .own r,.own q=>match lk r,lk q with
      |some (.deep _ _ e1 ts1 xs),some (.deep _ _ e2 ts2 ys)=>match j9 (.sl e1 ts1) (.sl e ts) xs,j9 (.sl e2 ts2) (.sl e ts) ys with
       |some xs,some ys=>bif Nat.beq r d||Nat.beq q d||Nat.beq r q|| !Nat.beq t t2 then none else if ((show List (yJ ts) from xs).length+(show List (yJ ts) from ys).length)*te.bytes<140737488355328 then k ⟨[(r,.gone),(q,.gone)],[(d,.deep true 0 e ts ((show List (yJ ts) from xs)++(show List (yJ ts) from ys)))],.own d⟩ else none
       |_,_=>none
      |_,_=>none
     |_,_=>none) else match yiv lk (Nat.beq t t2) e ts (ρ x) (ρ y) with
     |some (r,xs,ys)=>bif Nat.beq r d then none else if (xs.length+ys.length)*te.bytes<140737488355328 then k ⟨[(r,.gone)],[(d,.root true e ts (xs++ys))],.own d⟩ else none
     |none=>match ρ x,yhr lk (Nat.beq t t2) te (C.info t2) ts (ρ y) with
     | .nils,some ys=>if ys.length*te.bytes<140737488355328 then k ⟨[],[(d,.root true e ts ys)],.own d⟩ else none
     | .own r,some ys=>match lk r with
      |some (.root true e1 ts1 xs)=>match y6k ts1 ts xs with
       |some xs=>bif Nat.beq r d|| !Nat.beq e1 e then none else if (xs.length+ys.length)*te.bytes<140737488355328 then k ⟨[(r,.gone)],[(d,.root true e ts (xs++ys))],.own d⟩ else none
       |none=>none
      |_=>none
     |_,_=>none
    |none=>none
   |_,_=>none
  | .builtin .copy,[x,y],[t,t2]=>match C.info t,ρ x with
   |some (.c (.sl e [u]) _),.own r=>match lk r,y3Z lk [u] (ρ y) with
    |some (.root true e1 ts1 xs),some ys=>match y6k ts1 [u] xs with
     |some xs=>bif Nat.beq t t2&&Nat.beq e1 e&&u.flat then k ⟨[(r,.root true e [u] (ys.take xs.length++xs.drop ys.length))],[],.val (.int .i64) ((Nat.min ys.length xs.length:Nat):Int)⟩ else none
     |none=>none
    |_,_=>none
   |_,_=>none
  | .value f,as,_=>match y5i (ρ f) with
   |some (g,ex)=>yiw C call lk o.dst g (as.map ρ++ex) (C.key g (bif ct then 3000000000::yl5 lk (as.map ρ) else yl5 lk (as.map ρ))) k
   |none=>none
  |_,_,_=>none
 | .makeFunc (.func f) first captured=>match first.toList,captured.toList with
  |[],[]=>k ⟨[],[],.fn f⟩
  |[],[x]=>match ρ x with
   | .box b off=>bif Nat.beq off 0 then k ⟨[],[],.clo f b⟩ else none
   |_=>none
  |_,_=>none
 |_=>none
structure Dop where
 o:Oper
 g:Option (Nat×Bool)
 vis:Nat
 cls:Nat
 bad:List Nat
 later:List Nat
 mine:List Nat
 hn:Nat
 fp:List Nat
def Ob.ids:Ob→List Nat
 | .box cs=>Yt cs
 |_=>[]
def y8t:List (Nat×Ob)→List Nat
 |[]=>[]
 |(i,x)::r=>i::(x.ids++y8t r)
def Dop.see (x:Dop) (lk:Lk):Lk:=fun i=>bif qR x.bad i then none else match x.vis with
 |0=>none
 |1=>match lk i with
  |some (.box cs)=>some (.box cs)
  |_=>none
 |3=>match lk i with
  |some (.root own e ts xs)=>some (.root own e ts xs)
  |some (.deep fin tag e ts xs)=>some (.deep fin tag e ts xs)
  |_=>none
 |_=>lk i
def y4r (lk:Lk):List (Nat×Ob)→Bool
 |[]=>true
 |(i,x)::r=>(match lk i with
  |some (.root _ _ _ _)=>(match x with
   | .box _=>false
   |_=>true)
  |some (.deep _ _ _ _ _)=>(match x with
   | .box _=>false
   |_=>true)
  |_=>false)&&y4r lk r
def y23 (lk:Lk):List (Nat×Ob)→Bool
 |[]=>true
 |(i,x)::r=>(match lk i with
  |some (.box _)=>(match x with
   | .box _=>true
   |_=>false)
  |_=>false)&&y23 lk r
def ynq:List Nat→List Nat→Bool
 |[],_=>true
 |i::r,l=>qR l i&&ynq r l
def Dop.ok (x:Dop) (lk:Lk) (e:Eff):Bool:=
 (match x.cls with
  |0=>vT e.sets
  |1=>y4r lk e.sets
  |3=>y23 lk e.sets
  |4=>ynq (zp e.sets) x.fp
  |_=>true)&&ynq (zp e.adds) x.mine&&(vT x.later||y3x x.later (e.a.ids++(y8t e.sets++y8t e.adds)))
def yJP (x:Dop) (s:St) (k:St→Option R):Option R:=
 jb C call (Nat.beq x.hn 2) (Nat.beq x.hn 3) x.o s.opd (x.see (yF s.o)) fun e=>bif x.ok (x.see (yF s.o)) e then k (s.apply x.o.dst e) else none
def yJQ (x:Dop) (s:St) (k:St→Option R):Option R:=
 jb C call (Nat.beq x.hn 2) (Nat.beq x.hn 3) x.o s.opd (x.see (yF s.o)) fun e=>bif vT e.sets&&x.ok (x.see (yF s.o)) e then k (s.apply x.o.dst e) else none
def VL (c:Nat):List Dop→List Dop→Option (List Dop×Dop×Operand×Operand×List Dop)
 |_,[]=>none
 |acc,o::r=>match o.o.op,o.g with
  | .pick (.tmp j) a b,none=>bif Nat.beq j c then some (acc.reverse,o,a,b,r) else VL c (o::acc) r
  |_,_=>VL c (o::acc) r
def ypk (c:Nat) (b:Bool):List Dop→List Dop
 |[]=>[]
 |x::r=>(match x.g with
  |some (c',b')=>bif Nat.beq c c'&&(b==b') then {x with g:=none} else x
  |none=>x)::ypk c b r
def y00 (n c:Nat) (b:Bool):List Nat→List Dop→Bool
 |_,[]=>true
 |ds,x::r=>(match x.g with
  |some (c',b')=>(Nat.beq c c'&&(b==b'))||qR ds c'
  |none=>false)&&(match x.o.dst with
  |some d=> !Nat.beq d c&&y00 n c b (bif Nat.blt d n then d::ds else ds) r
  |none=>y00 n c b ds r)
def zu (s:St) (x:Operand):Option Bool:=match s.opd x with
 | .val .bool b=>some b
 |_=>none
def z7:List Dop→List Nat
 |[]=>[]
 |x::r=>match x.o.dst with
  |some d=>d::z7 r
  |none=>z7 r
def jQ:List Dop→List Nat
 |[]=>[]
 |x::r=>x.mine++jQ r
def YC (s:St):List Nat→St
 |[]=>s
 |d::r=>YC (s.put (some d) .dead) r
def yuc (o:Oper):Bool:=match o.op with
 | .store _ _ _=>true
 | .call c=>match c.callee with
  | .builtin .append=>true
  | .value (.func f)=>(match C.sig f with
   |some sg=>sg.ps.any PK.isP|| !sg.hfree
   |none=>true)
  |_=>false
 |_=>false
def vU (pu:Bool): {R:Type}→Nat→List Dop→St→(St→Option R)→Option R
 |_,_,[],s,k=>k s
 |_,0,_::_,_,_=>none
 |R,n+1,x::r,s,k=>match x.g with
  |none=>bif pu then yJQ C call x s fun s1=>vU pu n r s1 k else yJP C call x s fun s1=>vU pu n r s1 k
  |some (c,want)=>match zu s (.tmp c),VL c [] (x::r) with
   |some v,some (grp,p,a,b,rest)=>bif y00 s.t.length c want [] grp then (bif grp.any fun y=>yuc C y.o|| !Nat.beq y.hn 0 then
     (match want with
     |true=>bif v then vU pu n (ypk c true grp) s fun s1=>match zu s1 a with
       |some u=>vU pu n rest ((YC s1 (z7 grp)).put p.o.dst (.val .bool u)) k
       |none=>none
      else match zu (YC s (z7 grp)) b with
       |some u=>vU pu n rest ((YC s (z7 grp)).put p.o.dst (.val .bool u)) k
       |none=>none
     |false=>bif v then match zu (YC s (z7 grp)) a with
       |some u=>vU pu n rest ((YC s (z7 grp)).put p.o.dst (.val .bool u)) k
       |none=>none
      else vU pu n (ypk c false grp) s fun s1=>match zu s1 b with
       |some u=>vU pu n rest ((YC s1 (z7 grp)).put p.o.dst (.val .bool u)) k
       |none=>none)
     else (match want with
     |true=>bif v then vU true n (ypk c true grp) s fun s1=>zu s1 a else zu (YC s (z7 grp)) b
     |false=>bif v then zu (YC s (z7 grp)) a else vU true n (ypk c false grp) s fun s1=>zu s1 b).bind fun u=>
      vU pu n rest ((YC (s.forgetAll (jQ grp)) (z7 grp)).put p.o.dst (.val .bool u)) k)
     else none
   |_,_=>none
def yeY (d:Nat):Nat→List Nat
 |0=>[]
 |n+1=>yeY d n++[1000*(d+1)+n]
def y0I (o:Oper):List Nat:=match o.dst with
 |none=>[]
 |some d=>match o.op with
  | .box _ _=>[d]
  | .alloc _=>[d]
  | .buildSlice _ _ _=>[d]
  | .makeSlice _ _ _=>[d]
  | .slice _ _ none _ _=>[d]
  | .build t _=>(match C.info t with
   |some ti=>yeY d ti.ts.length
   |none=>[])
  | .call c=>match c.callee with
   | .builtin .append=>[d]
   | .value (.func f)=>(1000*(d+1)+500)::yeY d (match C.sig f with
    |some sg=>sg.outs.length
    |none=>24)
   |_=>[]
  |_=>[]
def jX (ops:Array Oper) (o:Oper):Option (Option (Nat×Bool)):=match o.guard with
 |none=>some none
 |some (j,w)=>match ops[j]? with
  |some g=>match g.dst with
   |some d=>some (some (d,w))
   |none=>none
  |none=>none
def ynr (h:List Nat) (o:Oper):Nat:=match o.dst with
 |some d=>bif qR h (100000+d) then 2 else bif qR h (200000+d) then 3 else bif qR h d then 1 else 0
 |none=>0
def yhv (h:List Nat) (ops:Array Oper):List Oper→Option (List Dop)
 |[]=>some []
 |o::r=>match jX ops o,yhv h ops r with
  |some g,some l=>some ({o,g,vis:=2,cls:=2,bad:=[],later:=[],mine:=y0I C o,hn:=ynr h o,fp:=[]}::l)
  |_,_=>none
def y5l (acc:List Nat):List Edge→Nat
 |[]=>0
 |e::r=>bif Region.binds .any e then (2 ^ e.on|||acc.getD e.on 0)|||y5l acc r else y5l acc r
def Q0:List Oper→List Nat→List Nat
 |[],acc=>acc
 |o::r,acc=>Q0 r (acc++[y5l acc o.after.toList])
def yDt (d:Nat):List Nat→List Nat
 |[]=>[]
 |e::r=>bif Nat.ble (1000000000000000+d*1000000000) e&&Nat.blt e (1000000000000000+(d+1)*1000000000) then (e - (1000000000000000+d*1000000000))::yDt d r else yDt d r
def fpO (h:List Nat) (o:Oper):List Nat:=match o.dst with
 |some d=>yDt d h
 |none=>match o.op with
  | .store _ (.tmp p) _=>yDt p h
  |_=>[]
def yMH (h:List Nat) (o:Oper):Nat:=match o.op with
 | .store _ _ _=>2
 | .call c=>match c.callee with
  | .builtin .append=>1
  | .builtin .copy=>1
  | .builtin _=>0
  | .value (.func f)=>(match C.sig f with
   |some sg=>bif sg.ps.any PK.isP then (match o.dst with
     |some d=>bif qR h d then 2 else 3
     |none=>bif sg.hfree&&(sg.ps.flatMap PK.ownsIn).all not then 3 else 2) else bif sg.hfree then 0 else 1
   |none=>2)
  |_=>2
 |_=>(match o.dst with
  |some d=>bif qR h d||qR h (100000+d) then 1 else 0
  |none=>0)
def y24 (h:List Nat) (o:Oper):Nat:=bif vT (fpO h o) then yMH C h o else 4
def yix (a b:Nat):Nat:=match a with
 |0=>b
 |_=>(match b with
  |0=>a
  |_=>bif Nat.beq a b then a else 2)
def ytM (c:Nat):Nat:=bif Nat.beq c 4 then 0 else c
def yns:Nat→Nat
 |0=>2
 |1=>1
 |3=>3
 |_=>0
def y5m (l:List Operand):List Nat:=match l with
 |[]=>[]
 | .tmp t::r=>t::y5m r
 |_::r=>y5m r
def yl8 (ops:Array Oper) (o:Oper):List Nat:=(match jX ops o with
 |some (some (c,_))=>[c]
 |_=>[])++y5m o.op.operands.toList
def yDu (l:List Nat):Option Nat→Bool
 |none=>false
 |some d=>qR l d
def y8Q (ops:Array Oper) (x y:Oper):Bool:= !yDu (yl8 ops y) x.dst&& !yDu (yl8 ops x) y.dst&&(match x.dst,y.dst with
 |some d,some e=> !Nat.beq d e
 |_,_=>true)
def y4s (o:Oper):Bool:=match o.op with
 | .pick _ _ _=>true
 |_=>false
def ynt (ms:List Nat) (i j:Nat):Bool:=(ms.getD i 0).testBit j||(ms.getD j 0).testBit i
structure Gathered where
 ok:Bool
 top:Nat
 bad:List Nat
 later:List Nat
def Q1 (h:List Nat) (ops:Array Oper) (ms:List Nat) (i:Nat) (o:Oper):Nat→List Oper→Gathered
 |_,[]=>⟨true,0,[],[]⟩
 |j,y::r=>match Q1 h ops ms i o (j+1) r with
  |g=>bif Nat.beq i j then g else
    bif ynt ms i j then (bif (ms.getD i 0).testBit j then g else {g with later:=y0I C y++g.later})
    else ⟨g.ok&&y8Q ops o y&& !y4s o&& !y4s y&&(Nat.beq (y24 C h o) 0||Nat.beq (y24 C h y) 0||(Nat.beq (y24 C h o) 4&&Nat.beq (y24 C h y) 4&&y3x (fpO h o) (fpO h y))),yix (ytM (y24 C h y)) g.top,y0I C y++(fpO h y++g.bad),y0I C y++g.later⟩
def ycG (h:List Nat) (ops:Array Oper) (ms:List Nat):Nat→List Oper→Option (List Dop)
 |_,[]=>some []
 |i,o::r=>match jX ops o,ycG h ops ms (i+1) r,Q1 C h ops ms i o 0 ops.toList with
  |some g,some l,q=>bif q.ok&&Nat.blt (ms.getD i 0) (2 ^ i) then some ({o,g,vis:=yns q.top,cls:=y24 C h o,bad:=q.bad,later:=q.later,mine:=y0I C o,hn:=ynr h o,fp:=fpO h o}::l) else none
  |_,_,_=>none
def yJR (h:List Nat) (dr:Bool) (ops:Array Oper):Option (List Dop):=bif dr then ycG C h ops (Q0 ops.toList []) 0 ops.toList else yhv C h ops ops.toList
def y8R:List Oper→List Nat
 |[]=>[]
 |o::r=>y0I C o++y8R r
def ypl (id:Nat):List Nat→List Nat
 |[]=>[]
 |e::r=>bif Nat.ble (2000000000000000000+id*1000000) e&&Nat.blt e (2000000000000000000+(id+1)*1000000) then (e - (2000000000000000000+id*1000000))::ypl id r else ypl id r
def yiy (s:St):List Nat→List Nat
 |[]=>[]
 |d::r=>(s.t.getD d .dead).ids++(((s.t.getD d .dead).ids.flatMap fun i=>match yF s.o i with
  |some ob=>ob.ids
  |none=>[])++yiy s r)
def yud (h:List Nat) (id:Nat) (s:St):St:=match ypl id h with
 |[]=>s
 |l=>s.setAll (settles (yF s.o) (yiy s l))
structure Ks (R:Type) where
 exit:Nat→St→Option R
 ret:St→Option R
abbrev Lp:Type 1:=Nat→St→ {R:Type}→(Option Nat→St→Option R)→Option R
def Z5:Code→Nat
 | .region i _ _=>i
 | .seq a _=>Z5 a
 | .block _ c=>Z5 c
 | .loop c=>Z5 c
 | .cond _ a _=>Z5 a
 |_=>0
def y9K (l:List Nat):Nat→List A→List A
 |_,[]=>[]
 |i,a::r=>(bif qR l i then a else .dead)::y9K l (i+1) r
mutual
def A.resolve (lk:Lk):A→A
 | .own o=>match lk o with
  |some (.root true _ _ _)=> .own o
  |some (.root false e ts xs)=> .val (.sl e ts) xs
  |some (.deep _ _ _ _ _)=> .own o
  |_=> .dead
 | .rtp o i c=>match lk o with
  |some (.root true _ _ _)=> .rtp o i c
  |some (.root false e ts xs)=> .elp e ts xs i c
  |some (.deep _ _ _ _ _)=> .rtp o i c
  |_=> .dead
 | .bor _ _ _=> .dead
 | .bep _ _ _ _=> .dead
 | .win _ _=> .dead
 | .tl _ _=> .dead
 | .top _ _ _=> .dead
 | .agg l=> .agg (Zb lk l)
 | .tup l=> .tup (Zb lk l)
 | .dead=> .dead
 | .und=> .dead
 | .val t x=> .val t x
 | .nils=> .nils
 | .nilp=> .nilp
 | .box b off=>match lk b with
  |some (.box _)=>bif Nat.blt b 10000000 then .box b off else .dead
  |_=> .dead
 | .clo f b=>match lk b with
  |some (.box _)=>bif Nat.blt b 10000000 then .clo f b else .dead
  |_=> .dead
 | .elp e ts xs j c=> .elp e ts xs j c
 | .fn f=> .fn f
def Zb (lk:Lk):List A→List A
 |[]=>[]
 |a::r=>a.resolve lk::Zb lk r
end
mutual
def A.ren (m:Nat→Nat):A→A
 | .own o=> .own (m o)
 | .rtp o i c=> .rtp (m o) i c
 | .clo f b=> .clo f (m b)
 | .bor o i c=> .bor (m o) i c
 | .bep o i c n=> .bep (m o) i c n
 | .win o h=> .win (m o) h
 | .tl o h=> .tl (m o) h
 | .top e ts xs=> .top e ts xs
 | .agg l=> .agg (yeZ m l)
 | .tup l=> .tup (yeZ m l)
 | .dead=> .dead
 | .und=> .und
 | .val t x=> .val t x
 | .nils=> .nils
 | .nilp=> .nilp
 | .box b off=> .box (m b) off
 | .elp e ts xs j c=> .elp e ts xs j c
 | .fn f=> .fn f
def yeZ (m:Nat→Nat):List A→List A
 |[]=>[]
 |a::r=>a.ren m::yeZ m r
end
def yhw (lk:Lk):List Nat→List (Nat×List A)
 |[]=>[]
 |i::r=>match lk i with
  |some (.box cs)=>(i,Zb lk cs)::yhw lk r
  |_=>yhw lk r
def ytN:List (Nat×List A)→List Nat
 |[]=>[]
 |(_,cs)::r=>Yt cs++ytN r
def yhx (seen:List Nat):List Nat→List Nat
 |[]=>[]
 |i::r=>bif qR seen i then yhx seen r else i::yhx (i::seen) r
def y4t (lk:Lk):List Nat→List (Nat×Ob)
 |[]=>[]
 |i::r=>match lk i with
  |some (.root true e ts xs)=>(i,.root true e ts xs)::y4t lk r
  |some (.deep fin tag e ts xs)=>(i,.deep fin tag e ts xs)::y4t lk r
  |_=>y4t lk r
def y4u:List (Nat×Ob)→Nat→Nat→Nat
 |[],_,i=>i
 |(j,_)::r,n,i=>bif Nat.beq j i then n else y4u r (n+1) i
def ypm (m:Nat→Nat):List (Nat×List A)→List (Nat×Ob)
 |[]=>[]
 |(i,cs)::r=>(i,.box (yeZ m cs))::ypm m r
def ypn:List (Nat×Ob)→Nat→List (Nat×Ob)
 |[],_=>[]
 |(_,x)::r,n=>(n,x)::ypn r (n+1)
def y4v (n:Nat):List Nat→Bool
 |[]=>true
 |i::r=>Nat.blt i n&&y4v n r
def St.keep (s:St) (l:List Nat):Option St:=
 match Zb (yF s.o) (y9K l 0 s.t) with
 |t=>match yhw (yF s.o) (yhx [] (Yt t)) with
  |bx=>match y4t (yF s.o) (yhx [] (Yt t++ytN bx)) with
   |rs=>bif y4v 10000000 (zp bx) then some ⟨yeZ (y4u rs 10000000) t,ypm (y4u rs 10000000) bx++ypn rs 10000000⟩ else none
def zI {R T:Type} (step:(T→Option R)→T→Option R):Nat→T→Option R
 |0,_=>none
 |n+1,s=>step (zI step n) s
def Ks.keep {R:Type} (lx:List Nat) (κ:Option Nat→St→Option R):Ks R:= {exit:=fun i s=>(s.keep lx).bind (κ (some i)),ret:=fun s=>(s.keep lx).bind (κ none)}
def Ks.go {R:Type} (K:Ks R):Option Nat→St→Option R
 |some i,s=>K.exit i s
 |none,s=>K.ret s
def y3y (lp:Lp) (fn:Nat) {R:Type}:Code→St→(St→Option R)→Ks R→Option R
 | .skip,s,k,_=>k s
 | .region id ops dr,s,k,_=>match yJR C (C.hint fn) dr ops with
  |some l=>vU C call false (l.length+1) l (bif dr then (yud (C.hint fn) id s).forgetAll (y8R C ops.toList) else yud (C.hint fn) id s) k
  |none=>none
 | .seq a b,s,k,K=>y3y lp fn a s (fun s1=>y3y lp fn b s1 k K) K
 | .cond c a b,s,k,K=>match zu s c with
  |some x=>bif x then y3y lp fn a s k K else y3y lp fn b s k K
  |none=>none
 | .block i c,s,k,K=>y3y lp fn c s k {exit:=fun j s=>bif Nat.beq i j then k s else K.exit j s,ret:=K.ret}
 | .loop c,s,_,K=>match C.live fn (Z5 c) with
  |some (l,_)=>(s.keep l).bind fun s0=>lp (Z5 c) s0 K.go
  |none=>none
 | .exit i,s,_,K=>K.exit i s
 | .ret,s,_,K=>K.ret s
 |_,_,_,_=>none
def yiz (lp:Lp) (fn:Nat) (c:Code) (l lx:List Nat) {R:Type} (κ:Option Nat→St→Option R) (again:St→Option R) (s:St):Option R:=
 y3y C call lp fn c s (fun s2=>(s2.keep l).bind again) (Ks.keep lx κ)
def JB:Code→List Code
 | .seq a b=>JB a++JB b
 | .cond _ a b=>JB a++JB b
 | .block _ c=>JB c
 | .loop c=>c::JB c
 |_=>[]
def y8S:List PK→List A→Nat→List A×List (Nat×Ob)
 |[],_,_=>([],[])
 | .v agg ts _::ps,l,i=>match y8S ps (l.drop ts.length) (i+1) with
  |(as,obs)=>((bif agg then .agg (l.take ts.length) else (l.take ts.length).headD .dead)::as,obs)
 | .p wr ts _::ps,l,i=>match y8S ps (l.drop ts.length) (i+1) with
  |(as,obs)=>(yl4 wr (900+i)::as,(900+i,.box (l.take ts.length))::obs)
 | .k f::ps,l,i=>match y8S ps l (i+1) with
  |(as,obs)=>(.fn f::as,obs)
def enter (sg:Sig) (n:Nat) (ts:List Ty) (x:yJ ts):St:=
 match yM sg.deep sg.back ts (sg.ps.flatMap PK.ownsIn) x 950 with
 |(l,obs)=>match y8S sg.ps l 0 with
  |(as,bx)=>⟨as++List.replicate (n - as.length) .dead,(((⟨[],[]⟩:St).makeAll obs).makeAll bx).o⟩
def ygf (s:St):List ResultVar→List RK→Option (List A)
 |[],[]=>some []
 | .tmp t::r,k::ks=>match wG k.agg (s.t.getD t .dead),ygf s r ks with
  |some c,some l=>bif Nat.beq c.length k.ts.length then some (c++l) else none
  |_,_=>none
 | .cell a t::r,k::ks=>match C.info t with
  |some ti=>match y3w (yF s.o) ti (s.t.getD a .dead) with
   |some x=>match wG k.agg x,ygf s r ks with
    |some c,some l=>bif Nat.beq c.length k.ts.length then some (c++l) else none
    |_,_=>none
   |none=>none
  |none=>none
 |_,_=>none
def y5n (s:St):List PK→Nat→Option (List A)
 |[],_=>some []
 | .v _ _ _::ps,i=>y5n s ps (i+1)
 | .k _::ps,i=>y5n s ps (i+1)
 | .p _ ts _::ps,i=>match yF s.o (900+i),y5n s ps (i+1) with
  |some (.box cs),some l=>bif Nat.beq cs.length ts.length then some (cs++l) else none
  |_,_=>none
def yDv (s:St):List ResultVar→List RK→Option (List A)
 | .tmp t::r,k::ks=>match s.t.getD t .dead with
  | .box b off=>match yF s.o b with
   |some (.box cs)=>bif Nat.beq off 0&&Nat.beq cs.length k.ts.length&&(Nat.blt b 900||Nat.ble 950 b) then (match ygf C s r ks with
    |some l=>some (cs++l)
    |none=>none) else none
   |_=>none
  |_=>none
 |_,_=>none
def y9L:List (Nat×Ob)→Nat→Option Nat
 |[],_=>none
 |(i,.deep _ tag _ _ _)::r,n=>bif Nat.beq tag n then some i else y9L r n
 |_::r,n=>y9L r n
def ycH (s:St):List Bool→Nat→Option (List A)
 |[],_=>some []
 |false::os,n=>ycH s os (n+1)
 |true::os,n=>match y9L s.o (n+1) with
  |some i=>match yF s.o i,ycH s os (n+1) with
   |some (.deep _ tag _ _ _),some l=>bif Nat.beq tag (n+1) then some (.own i::l) else none
   |_,_=>none
  |none=>none
def ygg (sg:Sig) (rs:List ResultVar) (ts:List Ty) (s:St):Option (yJ ts):=
 match (bif sg.ptr then yDv C s rs sg.rs else ygf C s rs sg.rs) with
 |some l=>match y5n s sg.ps 0 with
  |some l2=>match (bif sg.back&&sg.deep then (bif sg.ptr||sg.ps.any PK.isP|| !Nat.beq (sg.ps.flatMap PK.ownsIn).length sg.ins.length then none else ycH s (sg.ps.flatMap PK.ownsIn) 0) else some []) with
   |some l3=>match vR (yF s.o) sg.deep false ts sg.owns ((l++l2)++l3) with
    |some (x,is,gs)=>bif y0F gs&&y3x gs is then some x else none
    |none=>none
   |none=>none
  |none=>none
 |none=>none
end
def yl9 (C:Ctx) (call:C.Sem) (lp:Lp) (f:Nat) (fn:Func) (c:Code) (sg:Sig) (ins outs:List Ty) (x:yJ ins):Option (yJ outs):=
 y3y C call lp f c (enter sg fn.ntmps ins x) (ygg C sg fn.results.toList outs) {exit:=fun _ _=>none,ret:=ygg C sg fn.results.toList outs}
def tab {C:Ctx}:List (Sigma fun f:Nat=>yJ (C.ins f)→Option (yJ (C.outs f)))→C.Sem
 |[],_,_=>none
 |⟨f,F⟩::r,g,x=>if h:f=g then (h ▸ F) x else tab r g x
end
abbrev Hp:=Nat→Option Obj
def Hp.le (H H':Hp):Prop:= ∀ k o,H k=some o→H' k=some o
theorem Hp.le.refl (H:Hp):H.le H:=fun _ _ h=>h
theorem Hp.le.trans {H H' H'':Hp} (h:H.le H') (h':H'.le H''):H.le H'':=fun k o hk=>h' k o (h k o hk)
def Zv (w:World):Hp:=fun k=>w.heap[k]?
def y3z (H:Hp) (a:Addr):Option Value:=match H a.block with
 |some (.cells c _ _)=>if a.spot.isSome then none else c[a.off]?
 |_=>none
theorem yhy (w:World) (a:Addr):y3z (Zv w) a=w.cell? a:=rfl
theorem y1i {H H':Hp} (h:H.le H') {a:Addr} {v:Value} (hc:y3z H a=some v):y3z H' a=some v:=by
 unfold y3z at*
 cases hk:H a.block with
 |none=>simp [hk] at hc
 |some o=>
  rw [h _ _ hk]
  rw [hk] at hc
  exact hc
mutual
def RdT (H:Hp):(t:Ty)→El t→Value→Prop
 | .int k,n,v=>v= .int k n
 | .bool,b,v=>v= .bool b
 | .str,s,v=>v= .string s
 | .sl _ ts,xs,v=> ∃ (A:Option Addr) (c:Nat),v= .slice A (List.length xs) c∧List.length xs≤c∧List.length xs≤9223372036854775807∧
   (0<List.length xs→ ∃ ad,A=some ad∧ ∀ (j:Nat) (x:yJ ts),(show List (yJ ts) from xs)[j]? =some x→RdE H ts x (fun i=>y3z H (ad.add (j*ts.length+i))))
def RdE (H:Hp):(ts:List Ty)→yJ ts→(Nat→Option Value)→Prop
 |[],_,_=>True
 |t::[],x,f=> ∃ v,f 0=some v∧RdT H t x v
 |t::u::r,x,f=>(∃ v,f 0=some v∧RdT H t x.1 v)∧RdE H (u::r) x.2 (fun i=>f (i+1))
end
mutual
theorem RdT.mono {H H':Hp} (h:H.le H'): ∀ (t:Ty) (x:El t) (v:Value),RdT H t x v→RdT H' t x v
 | .int _,_,_,hr=>hr
 | .bool,_,_,hr=>hr
 | .str,_,_,hr=>hr
 | .sl _ ts,xs,v,hr=>by
  obtain ⟨A,c,e,h1,h2,h3⟩:=hr
  refine ⟨A,c,e,h1,h2,fun hp=> ?_⟩
  obtain ⟨ad,ea,hx⟩:=h3 hp
  exact ⟨ad,ea,fun j x hj=>RdE.mono h ts x _ _ (fun i v hv=>y1i h hv) (hx j x hj)⟩
theorem RdE.mono {H H':Hp} (h:H.le H'): ∀ (ts:List Ty) (x:yJ ts) (f f':Nat→Option Value),(∀ i v,f i=some v→f' i=some v)→RdE H ts x f→RdE H' ts x f'
 |[],_,_,_,_,_=>trivial
 |t::[],x,f,f',hf,⟨v,hv,hr⟩=>⟨v,hf 0 v hv,RdT.mono h t x v hr⟩
 |t::u::r,x,f,f',hf,⟨⟨v,hv,hr⟩,hs⟩=>⟨⟨v,hf 0 v hv,RdT.mono h t x.1 v hr⟩,RdE.mono h (u::r) x.2 _ _ (fun i v hv=>hf (i+1) v hv) hs⟩
end
theorem RdT.one {H:Hp}: ∀ {t:Ty} {x:El t} {v:Value},RdT H t x v→v.oneCell'=true
 | .int _,_,_,hr=>by rw [show _=_ from hr];rfl
 | .bool,_,_,hr=>by rw [show _=_ from hr];rfl
 | .str,_,_,hr=>by rw [show _=_ from hr];rfl
 | .sl _ _,_,_,hr=>by
  obtain ⟨A,c,rfl,_⟩:=hr
  rfl
mutual
def DpT (w:World):(t:Ty)→(Nat→Prop)→El t→Value→Prop
 | .int k,_,n,v=>v= .int k n
 | .bool,_,b,v=>v= .bool b
 | .str,_,s,v=>v= .string s
 | .sl e ts,B,xs,v=>0<ts.length∧ ∃ (cells:List Value) (Bs:Nat→Nat→Prop),w.ownsRow 0 e ts.length v (List.length xs) cells∧(∀ u∈cells,u.oneCell'=true)∧(∀ k,v.ownBlock=some k→B k)∧
   (∀ a k,Bs a k→B k∧v.ownBlock≠some k)∧(∀ a b k,Bs a k→Bs b k→a=b)∧
   ∀ (j:Nat) (x:yJ ts),(show List (yJ ts) from xs)[j]? =some x→DpE w ts (fun c=>Bs (j*ts.length+c)) x (fun c=>cells[j*ts.length+c]?)
def DpE (w:World):(ts:List Ty)→(Nat→Nat→Prop)→yJ ts→(Nat→Option Value)→Prop
 |[],_,_,_=>True
 |t::[],Bs,x,f=> ∃ v,f 0=some v∧DpT w t (Bs 0) x v
 |t::u::r,Bs,x,f=>(∃ v,f 0=some v∧DpT w t (Bs 0) x.1 v)∧DpE w (u::r) (fun i=>Bs (i+1)) x.2 (fun i=>f (i+1))
end
structure DpR (w:World) (B:Nat→Prop) (e:Nat) (ts:List Ty) (xs:List (yJ ts)) (v:Value) (cells:List Value) (Bs:Nat→Nat→Prop):Prop where
 pos:0<ts.length
 row:w.ownsRow 0 e ts.length v xs.length cells
 one: ∀ u∈cells,u.oneCell'=true
 top: ∀ k,v.ownBlock=some k→B k
 sub: ∀ a k,Bs a k→B k∧v.ownBlock≠some k
 dis: ∀ a b k,Bs a k→Bs b k→a=b
 rd: ∀ (j:Nat) (x:yJ ts),xs[j]? =some x→DpE w ts (fun c=>Bs (j*ts.length+c)) x (fun c=>cells[j*ts.length+c]?)
theorem DpT.row {w:World} {e:Nat} {ts:List Ty} {B:Nat→Prop} {xs:List (yJ ts)} {v:Value}:DpT w (.sl e ts) B xs v↔ ∃ cells Bs,DpR w B e ts xs v cells Bs:=
 ⟨fun ⟨h0,cells,Bs,h1,h2,h3,h4,h5,h6⟩=>⟨cells,Bs,h0,h1,h2,h3,h4,h5,h6⟩,fun ⟨cells,Bs,h⟩=>⟨h.pos,cells,Bs,h.row,h.one,h.top,h.sub,h.dis,h.rd⟩⟩
mutual
theorem DpT.frame {w w':World}: ∀ (t:Ty) (B B':Nat→Prop) (x:El t) (v:Value),(∀ k,B k→w'.heap[k]? =w.heap[k]?)→(∀ k,B k→B' k)→DpT w t B x v→DpT w' t B' x v
 | .int _,_,_,_,_,_,_,h=>h
 | .bool,_,_,_,_,_,_,h=>h
 | .str,_,_,_,_,_,_,h=>h
 | .sl e ts,B,B',xs,v,hf,hs,⟨h0,cells,Bs,h1,h2,h3,h4,h5,h6⟩=>by
  refine ⟨h0,cells,Bs,⟨h1.1,?_⟩,h2,fun k hk=>hs k (h3 k hk),fun a k hk=>⟨hs k (h4 a k hk).1,(h4 a k hk).2⟩,h5,fun j x hx=>DpE.frame ts _ _ x _ _ (fun c k hk=>hf k (h4 _ k hk).1) (fun _ _ hk=>hk) (fun _ _ hv=>hv) (h6 j x hx)⟩
  rcases h1.2 with h|⟨g,cap,cur,hv,hb,hg,r⟩
  ·exact .inl h
  ·exact .inr ⟨g,cap,cur,hv,hb,(hf g (h3 g (by rw [hv];rfl))).trans hg,r⟩
theorem DpE.frame {w w':World}: ∀ (ts:List Ty) (Bs Bs':Nat→Nat→Prop) (x:yJ ts) (f f':Nat→Option Value),(∀ c k,Bs c k→w'.heap[k]? =w.heap[k]?)→(∀ c k,Bs c k→Bs' c k)→(∀ i v,f i=some v→f' i=some v)→DpE w ts Bs x f→DpE w' ts Bs' x f'
 |[],_,_,_,_,_,_,_,_,_=>trivial
 |t::[],Bs,Bs',x,f,f',hf,hs,hv,⟨v,h1,h2⟩=>⟨v,hv 0 v h1,DpT.frame t _ _ x v (hf 0) (hs 0) h2⟩
 |t::u::r,Bs,Bs',x,f,f',hf,hs,hv,⟨⟨v,h1,h2⟩,h3⟩=>⟨⟨v,hv 0 v h1,DpT.frame t _ _ x.1 v (hf 0) (hs 0) h2⟩,DpE.frame (u::r) _ _ x.2 _ _ (fun c=>hf (c+1)) (fun c=>hs (c+1)) (fun i v h=>hv (i+1) v h) h3⟩
end
theorem DpR.frame {w w':World} {B B':Nat→Prop} {e:Nat} {ts:List Ty} {xs:List (yJ ts)} {v:Value} {cells:List Value} {Bs:Nat→Nat→Prop} (h:DpR w B e ts xs v cells Bs) (hf: ∀ k,B k→w'.heap[k]? =w.heap[k]?) (hs: ∀ k,B k→B' k):DpR w' B' e ts xs v cells Bs:=by
 refine ⟨h.pos,⟨h.row.1,?_⟩,h.one,fun k hk=>hs k (h.top k hk),fun a k hk=>⟨hs k (h.sub a k hk).1,(h.sub a k hk).2⟩,h.dis,fun j x hx=>DpE.frame ts _ _ x _ _ (fun c k hk=>hf k (h.sub _ k hk).1) (fun _ _ hk=>hk) (fun _ _ hv=>hv) (h.rd j x hx)⟩
 rcases h.row.2 with h1|⟨g,cap,cur,hv,hb,hg,r⟩
 ·exact .inl h1
 ·exact .inr ⟨g,cap,cur,hv,hb,(hf g (h.top g (by rw [hv];rfl))).trans hg,r⟩
theorem JR (g j:Nat):(⟨g,0,none⟩:Addr).add j=⟨g,j,none⟩:=by unfold Addr.add;split<;>simp_all
mutual
theorem DpT.rd {w:World} {H:Hp}: ∀ (t:Ty) (B:Nat→Prop) (x:El t) (v:Value),(∀ k,B k→H k=w.heap[k]?)→DpT w t B x v→RdT H t x v
 | .int _,_,_,_,_,h=>h
 | .bool,_,_,_,_,h=>h
 | .str,_,_,_,_,h=>h
 | .sl e ts,B,xs,v,hf,⟨h0,cells,Bs,h1,h2,h3,h4,h5,h6⟩=>by
  rcases h1.2 with ⟨hv,hn⟩|⟨g,cap,cur,hv,hb,hg,hle,hm,hs,htk⟩
  ·exact ⟨none,0,by rw [hv,hn],bX hn,by rw [hn];omega,fun hp=>by omega⟩
  ·refine ⟨some ⟨g,0,none⟩,cap,hv,hle,aO hle (aO hm (by decide)),fun _=>⟨_,rfl,fun j x hx=>DpE.rd ts _ x _ _ (fun c k hk=>hf k (h4 _ k hk).1) (fun i u hu=> ?_) (h6 j x hx)⟩⟩
   have hu':cells[j*ts.length+i]? =some u:=hu
   rw [JR]
   unfold y3z
   have hk:H g=some (.cells cur e (0,0)):=(hf g (h3 g (by rw [hv];rfl))).trans hg
   simp only [hk]
   rw [← htk,aD] at hu'
   split at hu'
   ·simpa using hu'
   ·cases hu'
theorem DpE.rd {w:World} {H:Hp}: ∀ (ts:List Ty) (Bs:Nat→Nat→Prop) (x:yJ ts) (f f':Nat→Option Value),(∀ c k,Bs c k→H k=w.heap[k]?)→(∀ i v,f i=some v→f' i=some v)→DpE w ts Bs x f→RdE H ts x f'
 |[],_,_,_,_,_,_,_=>trivial
 |t::[],Bs,x,f,f',hf,hv,⟨v,h1,h2⟩=>⟨v,hv 0 v h1,DpT.rd t _ x v (hf 0) h2⟩
 |t::u::r,Bs,x,f,f',hf,hv,⟨⟨v,h1,h2⟩,h3⟩=>⟨⟨v,hv 0 v h1,DpT.rd t _ x.1 v (hf 0) h2⟩,DpE.rd (u::r) _ x.2 _ _ (fun c=>hf (c+1)) (fun i v h=>hv (i+1) v h) h3⟩
end
structure Came where
 v:Nat→Value
 tp:Hp
instance:CoeFun Came fun _=>Nat→Value:=⟨Came.v⟩
structure Gh where
 H:Hp
 g:Nat→Nat×Nat
 sv:Nat→Value
 sz:Nat→Nat×Nat
 dp:Nat→Nat→Prop
 hd:Nat→Nat→Value
 pv:Came
def RdR (H Ht:Hp) (ts:List Ty) (xs:List (yJ ts)) (v:Value):Prop:=
 ∃ (A:Option Addr) (c:Nat),v= .slice A xs.length c∧xs.length≤c∧xs.length≤9223372036854775807∧
  (0<xs.length→ ∃ ad,A=some ad∧ ∀ (j:Nat) (x:yJ ts),xs[j]? =some x→RdE H ts x (fun i=>y3z Ht (ad.add (j*ts.length+i))))
theorem RdR.mono {H H' Ht:Hp} (h:H.le H') {ts:List Ty} {xs:List (yJ ts)} {v:Value} (hr:RdR H Ht ts xs v):RdR H' Ht ts xs v:=by
 obtain ⟨A,c,e,h1,h2,h3⟩:=hr
 refine ⟨A,c,e,h1,h2,fun hp=> ?_⟩
 obtain ⟨ad,ea,hx⟩:=h3 hp
 exact ⟨ad,ea,fun j x hj=>RdE.mono h ts x _ _ (fun _ _ hv=>hv) (hx j x hj)⟩
mutual
def RA (G:Gh):A→Value→Prop
 | .dead,_=>True
 | .und,v=>v=undef
 | .val t x,v=>RdT G.H t x v
 | .nils,v=>v= .slice none 0 0
 | .nilp,v=>v= .pointer none
 | .own o,v=>v=G.sv o∧ ∃ A n c,v= .slice A n c
 | .agg l,v=> ∃ cs:List Value,v= .agg cs.toArray∧RL G l cs
 | .tup l,v=> ∃ cs:List Value,v= .tuple cs.toArray∧RL G l cs
 | .box b off,v=>v= .pointer (some ⟨(G.g b).1,(G.g b).2+off,none⟩)
 | .elp _ ts xs i c,v=> ∃ ad:Addr,v= .pointer (some (ad.add (i.toNat*ts.length+c)))∧i.toNat<xs.length∧ ∀ (j:Nat) (x:yJ ts),xs[j]? =some x→RdE G.H ts x (fun k=>y3z G.H (ad.add (j*ts.length+k)))
 | .rtp o i c,v=>v= .pointer (some ⟨(G.g o).1,i.toNat*(G.sz o).1+c,none⟩)∧i.toNat<(G.sz o).2
 | .fn f,v=>v= .func (.func f) #[] #[]
 | .clo f b,v=>v= .func (.func f) #[] #[.pointer (some ⟨(G.g b).1,(G.g b).2+0,none⟩)]
 | .top _ ts xs,v=>RdR G.H G.pv.tp ts xs v
 | .win o h,v=> ∃ A n c,G.sv o= .slice A n c∧v= .slice A (Int.toNat h) c∧Int.toNat h≤n
 | .bor o i c,v=>(v=G.hd o (i.toNat*(G.sz o).1+c)∧i.toNat<(G.sz o).2)∧ ∃ A n m,v= .slice A n m
 | .bep o i c k,v=> ∃ (ad:Addr) (n m:Nat),G.hd o (i.toNat*(G.sz o).1+c)= .slice (some ad) n m∧v= .pointer (some (ad.add k.toNat))∧k.toNat<n∧i.toNat<(G.sz o).2
 | .tl o l,v=> ∃ A n c,G.sv o= .slice A n c∧Int.toNat l≤n∧v= .slice (if c=Int.toNat l then A else A.map (·.add (Int.toNat l*(G.sz o).1))) (n - Int.toNat l) (c - Int.toNat l)
def RL (G:Gh):List A→List Value→Prop
 |[],[]=>True
 |a::l,v::vs=>RA G a v∧RL G l vs
 |_,_=>False
end
theorem RL.length {G:Gh}: ∀ {l:List A} {vs:List Value},RL G l vs→l.length=vs.length
 |[],[],_=>rfl
 |a::l,v::vs,h=>by simp [RL.length h.2]
theorem RL.get {G:Gh}: ∀ {l:List A} {vs:List Value},RL G l vs→ ∀ (i:Nat) (a:A),l[i]? =some a→ ∃ v,vs[i]? =some v∧RA G a v
 |a::l,v::vs,h,0,b,hb=>by
  have:a=b:=by simpa using hb
  subst this
  exact ⟨v,rfl,h.1⟩
 |a::l,v::vs,h,i+1,b,hb=>by
  have hb':l[i]? =some b:=by simpa using hb
  obtain ⟨u,hu,hr⟩:=RL.get h.2 i b hb'
  exact ⟨u,by simpa using hu,hr⟩
theorem RL.of {G:Gh}: ∀ {l:List A} {vs:List Value},l.length=vs.length→(∀ (i:Nat) (a:A) (v:Value),l[i]? =some a→vs[i]? =some v→RA G a v)→RL G l vs
 |[],[],_,_=>trivial
 |a::l,v::vs,hl,h=>⟨h 0 a v rfl rfl,RL.of (by simpa using hl) (fun i b u hb hu=>h (i+1) b u (by simpa using hb) (by simpa using hu))⟩
theorem RL.append {G:Gh}: ∀ {l:List A} {vs:List Value} {l':List A} {vs':List Value},RL G l vs→RL G l' vs'→RL G (l++l') (vs++vs')
 |[],[],_,_,_,h=>h
 |a::l,v::vs,_,_,h,h'=>⟨h.1,RL.append h.2 h'⟩
theorem RL.drop {G:Gh}: ∀ {l:List A} {vs:List Value} (n:Nat),RL G l vs→RL G (l.drop n) (vs.drop n)
 |_,_,0,h=>by simpa using h
 |[],[],n+1,h=>by simpa using h
 |a::l,v::vs,n+1,h=>by simpa using RL.drop n h.2
theorem RL.take {G:Gh}: ∀ {l:List A} {vs:List Value} (n:Nat),RL G l vs→RL G (l.take n) (vs.take n)
 |_,_,0,h=>by simp [RL]
 |[],[],n+1,h=>by simpa using h
 |a::l,v::vs,n+1,h=>by simpa [RL] using ⟨h.1,RL.take n h.2⟩
def RO (G:Gh) (w:World) (i:Nat):Ob→Prop
 | .box cells=>(G.g i).1<w.heap.size∧ ∀ (j:Nat) (a:A),cells[j]? =some a→w.frozen? ⟨(G.g i).1,(G.g i).2+j,none⟩=false∧ ∃ v,w.cell? ⟨(G.g i).1,(G.g i).2+j,none⟩=some v∧v.oneCell'=true∧RA G a v
 | .root true e ts xs=>G.sz i=(ts.length,xs.length)∧0<ts.length∧ ∃ cells,w.ownsRow 0 e ts.length (G.sv i) xs.length cells∧(∀ u∈cells,u.oneCell'=true)∧(∀ k,(G.sv i).ownBlock=some k→k=(G.g i).1)∧
   (∀ (j:Nat) (x:yJ ts),xs[j]? =some x→RdE G.H ts x (fun k=>cells[j*ts.length+k]?))
 | .root false e ts xs=>G.sz i=(ts.length,xs.length)∧0<ts.length∧RdT G.H (.sl e ts) xs (G.sv i)∧(0<xs.length→ ∃ cap,G.sv i= .slice (some ⟨(G.g i).1,0,none⟩) xs.length cap)
 | .deep fin tag e ts xs=>G.sz i=(ts.length,xs.length)∧(∀ k,G.dp i k→k<w.heap.size)∧(0<tag→G.sv i=G.pv (tag - 1))∧(∀ k,(G.sv i).ownBlock=some k→k=(G.g i).1)∧
   ∃ cells Bs,DpR w (G.dp i) e ts xs (G.sv i) cells Bs∧(fin=true→ ∀ (m:Nat) (A:Option Addr) (n c:Nat),cells[m]? =some (.slice A n c)→G.hd i m= .slice A n c)
 | .gone=>True
def ze (G:Gh) (i:Nat):Ob→Nat→Prop
 | .box _,k=>(G.g i).1=k
 | .root true _ _ _,k=>(G.sv i).ownBlock=some k
 | .root false _ _ _,_=>False
 | .deep _ _ _ _ _,k=>G.dp i k
 | .gone,_=>False
structure Base where
 H:Hp
 pin:Nat→Option (Nat×Nat)
 ok: ∀ i b,pin i=some b→900≤i∧i<950
 pv:Came
theorem Base.none (B:Base) {d:Nat} (h:d<900∨950≤d):B.pin d= .none:=by
 cases hp:B.pin d with
 |none=>rfl
 |some b=>
  have:=B.ok d b hp
  omega
structure Rel (P:Program) (w0:World) (lent:Nat→Prop) (H0:Base) (s:St) (a:Act) (w:World) (G:Gh):Prop where
 os:w.os=w0.os
 tape:w.tape=w0.tape
 output:w.output=w0.output
 size:w0.heap.size≤w.heap.size
 old: ∀ k,k<w0.heap.size→ ¬ lent k→w.heap[k]? =w0.heap[k]?
 inH:G.H.le (Zv w)
 base:H0.H.le G.H
 pv:G.pv=H0.pv
 top: ∀ k ob,H0.pv.tp k=some ob→k<w0.heap.size∧ ¬ lent k∧w0.heap[k]? =some ob
 hnew: ∀ k ob,G.H k=some ob→H0.H k=some ob∨w0.heap.size≤k∨lent k
 defers:a.defers=[]
 len:s.t.length≤a.tmps.size
 slots: ∀ (i:Nat) (x:A),s.t[i]? =some x→RA G x (a.tmps.getD i undef)
 objs: ∀ (i:Nat) (ob:Ob),yF s.o i=some ob→RO G w i ob
 away: ∀ (i:Nat) (ob:Ob) (k:Nat),yF s.o i=some ob→ze G i ob k→G.H k=none∧(w0.heap.size≤k∨lent k)
 apart: ∀ (i j:Nat) (oi oj:Ob) (k:Nat),yF s.o i=some oi→yF s.o j=some oj→ze G i oi k→ze G j oj k→i=j
 pin: ∀ (i:Nat) (ob:Ob) (b:Nat×Nat),yF s.o i=some ob→H0.pin i=some b→G.g i=b
section
theorem yB {a b:Nat} (h:a≠b):Nat.beq a b=false:=by
 cases hb:Nat.beq a b with
 |false=>rfl
 |true=>exact absurd (an hb) h
theorem yp (a:Nat):Nat.beq a a=true:=Nat.beq_refl a
structure Agree (G G':Gh) (i:Nat):Prop where
 H:G.H.le G'.H
 g: ∀ j,j≠i→G'.g j=G.g j
 sv: ∀ j,j≠i→G'.sv j=G.sv j
 sz: ∀ j,j≠i→G'.sz j=G.sz j
 dp: ∀ j,j≠i→G'.dp j=G.dp j
 hd: ∀ j,j≠i→G'.hd j=G.hd j
 pv:G'.pv=G.pv
mutual
theorem RA.forget {G G':Gh} {i:Nat} (h:Agree G G' i): ∀ (x:A) (v:Value),RA G x v→RA G' (x.forget i) v
 | .dead,_,_=>trivial
 | .und,_,hr=>hr
 | .val t x,v,hr=>RdT.mono h.H t x v hr
 | .nils,_,hr=>hr
 | .nilp,_,hr=>hr
 | .fn _,_,hr=>hr
 | .own o,v,hr=>by
  by_cases ho:o=i
  ·subst ho
   simp [A.forget,yp,RA]
  ·simp only [A.forget,yB ho,ag,RA] at*
   rw [h.sv o ho]
   exact hr
 | .box b off,v,hr=>by
  by_cases ho:b=i
  ·subst ho
   simp [A.forget,yp,RA]
  ·simp only [A.forget,yB ho,ag,RA] at*
   rw [h.g b ho,hr]
 | .clo f b,v,hr=>by
  by_cases ho:b=i
  ·subst ho
   simp [A.forget,yp,RA]
  ·simp only [A.forget,yB ho,ag,RA] at*
   rw [h.g b ho,hr]
 | .rtp o j c,v,hr=>by
  by_cases ho:o=i
  ·subst ho
   simp [A.forget,yp,RA]
  ·simp only [A.forget,yB ho,ag,RA] at*
   rw [h.g o ho,h.sz o ho]
   exact hr
 | .top e ts xs,v,hr=>by
  show RdR G'.H G'.pv.tp ts xs v
  rw [h.pv]
  exact RdR.mono h.H hr
 | .win o q,v,hr=>by
  by_cases ho:o=i
  ·subst ho
   simp [A.forget,yp,RA]
  ·simp only [A.forget,yB ho,ag,RA] at*
   rw [h.sv o ho]
   exact hr
 | .bor o j c,v,hr=>by
  by_cases ho:o=i
  ·subst ho
   simp [A.forget,yp,RA]
  ·simp only [A.forget,yB ho,ag,RA] at*
   rw [h.hd o ho,h.sz o ho]
   exact hr
 | .bep o j c q,v,hr=>by
  by_cases ho:o=i
  ·subst ho
   simp [A.forget,yp,RA]
  ·simp only [A.forget,yB ho,ag,RA] at*
   rw [h.hd o ho,h.sz o ho]
   exact hr
 | .tl o q,v,hr=>by
  by_cases ho:o=i
  ·subst ho
   simp [A.forget,yp,RA]
  ·simp only [A.forget,yB ho,ag,RA] at*
   rw [h.sv o ho,h.sz o ho]
   exact hr
 | .elp e ts xs j c,v,hr=>by
  obtain ⟨ad,e1,hlt,h1⟩:=hr
  exact ⟨ad,e1,hlt,fun k x hk=>RdE.mono h.H ts x _ _ (fun m u hu=>y1i h.H hu) (h1 k x hk)⟩
 | .agg l,v,hr=>by
  obtain ⟨cs,rfl,hl⟩:=hr
  exact ⟨cs,rfl,RL.forget h l cs hl⟩
 | .tup l,v,hr=>by
  obtain ⟨cs,rfl,hl⟩:=hr
  exact ⟨cs,rfl,RL.forget h l cs hl⟩
theorem RL.forget {G G':Gh} {i:Nat} (h:Agree G G' i): ∀ (l:List A) (vs:List Value),RL G l vs→RL G' (zy i l) vs
 |[],[],_=>trivial
 |a::l,v::vs,hr=>⟨RA.forget h a v hr.1,RL.forget h l vs hr.2⟩
end
mutual
theorem RA.mono {G G':Gh} (hH:G.H.le G'.H) (hg:G'.g=G.g) (hs:G'.sv=G.sv) (hz:G'.sz=G.sz) (hh:G'.hd=G.hd) (hp:G'.pv=G.pv): ∀ (x:A) (v:Value),RA G x v→RA G' x v
 | .dead,_,_=>trivial
 | .und,_,hr=>hr
 | .val t x,v,hr=>RdT.mono hH t x v hr
 | .nils,_,hr=>hr
 | .nilp,_,hr=>hr
 | .fn _,_,hr=>hr
 | .own o,v,hr=>by simp only [RA] at*;rw [hs];exact hr
 | .box b off,v,hr=>by simp only [RA] at*;rw [hg,hr]
 | .clo f b,v,hr=>by simp only [RA] at*;rw [hg,hr]
 | .rtp o j c,v,hr=>by simp only [RA] at*;rw [hg,hz];exact hr
 | .bor o j c,v,hr=>by simp only [RA] at*;rw [hh,hz];exact hr
 | .bep o j c q,v,hr=>by simp only [RA] at*;rw [hh,hz];exact hr
 | .win o q,v,hr=>by simp only [RA] at*;rw [hs];exact hr
 | .tl o q,v,hr=>by simp only [RA] at*;rw [hs,hz];exact hr
 | .top e ts xs,v,hr=>by
  show RdR G'.H G'.pv.tp ts xs v
  rw [hp]
  exact RdR.mono hH hr
 | .elp e ts xs j c,v,hr=>by
  obtain ⟨ad,e1,hlt,h1⟩:=hr
  exact ⟨ad,e1,hlt,fun k x hk=>RdE.mono hH ts x _ _ (fun m u hu=>y1i hH hu) (h1 k x hk)⟩
 | .agg l,v,hr=>by
  obtain ⟨cs,rfl,hl⟩:=hr
  exact ⟨cs,rfl,RL.mono hH hg hs hz hh hp l cs hl⟩
 | .tup l,v,hr=>by
  obtain ⟨cs,rfl,hl⟩:=hr
  exact ⟨cs,rfl,RL.mono hH hg hs hz hh hp l cs hl⟩
theorem RL.mono {G G':Gh} (hH:G.H.le G'.H) (hg:G'.g=G.g) (hs:G'.sv=G.sv) (hz:G'.sz=G.sz) (hh:G'.hd=G.hd) (hp:G'.pv=G.pv): ∀ (l:List A) (vs:List Value),RL G l vs→RL G' l vs
 |[],[],_=>trivial
 |a::l,v::vs,hr=>⟨RA.mono hH hg hs hz hh hp a v hr.1,RL.mono hH hg hs hz hh hp l vs hr.2⟩
end
theorem ycI (g o j:Nat):(⟨g,o,none⟩:Addr).add j=⟨g,o+j,none⟩:=by unfold Addr.add;split<;>simp_all
theorem kP (i j:Nat): ∀ (o:List (Nat×Ob)),yF (YY i o) j=if j=i then none else (yF o j).map (·.forget i)
 |[]=>by simp [YY,yF]
 |(m,x)::r=>by
  have ih:=kP i j r
  by_cases hm:m=i
  ·subst hm
   simp only [YY,yp,ai,ih]
   by_cases hj:j=m
   ·simp [hj]
   ·simp only [hj,aU,yF,yB (show m≠j from fun h=>hj h.symm),ag]
  ·simp only [YY,yB hm,ag,yF]
   by_cases hj:m=j
   ·subst hj
    simp [yp,hm]
   ·simp only [yB hj,ag,ih]
theorem Yj (i j:Nat) (y:Ob): ∀ (o:List (Nat×Ob)),yF (Vx o i y) j=if j=i then (yF o i).map (fun _=>y) else yF o j
 |[]=>by simp [Vx,yF]
 |(m,x)::r=>by
  have ih:=Yj i j y r
  by_cases hm:m=i
  ·subst hm
   simp only [Vx,yp,ai,yF]
   by_cases hj:m=j
   ·subst hj
    simp [yp]
   ·simp [yB hj,show j≠m from fun h=>hj h.symm]
  ·simp only [Vx,yB hm,ag,yF]
   by_cases hj:m=j
   ·subst hj
    simp [yp,hm]
   ·simp only [yB hj,ag,ih]
theorem Vy (i:Nat): ∀ l:List A,(zy i l).length=l.length
 |[]=>rfl
 |a::l=>by simp [zy,Vy i l]
theorem vV (i:Nat): ∀ (l:List A) (j:Nat),(zy i l)[j]? =(l[j]?).map (A.forget i)
 |[],j=>by simp [zy]
 |a::l,0=>by simp [zy]
 |a::l,j+1=>by simpa [zy] using vV i l j
theorem yiA {w w':World} {b:Nat} (h:w'.heap[b]? =w.heap[b]?) (o:Nat):w'.cell? ⟨b,o,none⟩=w.cell? ⟨b,o,none⟩:=by simp only [World.cell?,h]
theorem yf0 {w w':World} {b:Nat} (h:w'.heap[b]? =w.heap[b]?) (o:Nat):w'.frozen? ⟨b,o,none⟩=w.frozen? ⟨b,o,none⟩:=by simp only [World.frozen?,h]
theorem RO.heap {G:Gh} {w w':World} {i:Nat} (hsz:w.heap.size≤w'.heap.size): ∀ {ob:Ob},(∀ k,ze G i ob k→w'.heap[k]? =w.heap[k]?)→RO G w i ob→RO G w' i ob
 | .box cells,h,hr=>⟨bL hr.1 hsz,fun j a ha=>by
  have hb:=h _ rfl
  rw [yiA hb,yf0 hb]
  exact hr.2 j a ha⟩
 | .root true e ts xs,h,hr=>by
  obtain ⟨h1,h2,cells,hown,h3,h4,h5⟩:=hr
  refine ⟨h1,h2,cells,⟨hown.1,?_⟩,h3,h4,h5⟩
  rcases hown.2 with h6|⟨g,cap,cur,hv,hg,hh,r⟩
  ·exact .inl h6
  ·exact .inr ⟨g,cap,cur,hv,hg,(h g (by simp [ze,hv,Value.ownBlock])).trans hh,r⟩
 | .root false e ts xs,h,hr=>hr
 | .deep fin tag e ts xs,h,hr=>by
  obtain ⟨h1,h2,h3,h4,cells,Bs,h5,h6⟩:=hr
  exact ⟨h1,fun k hk=>bL (h2 k hk) hsz,h3,h4,cells,Bs,h5.frame (fun k hk=>h k hk) (fun _ hk=>hk),h6⟩
 | .gone,_,_=>trivial
theorem y01 {G G':Gh} {i j:Nat} (h:Agree G G' i) (hj:j≠i): ∀ (ob:Ob),ze G' j (ob.forget i)=ze G j ob
 | .box _=>by funext k;simp [ze,Ob.forget,h.g j hj]
 | .root true _ _ _=>by funext k;simp [ze,Ob.forget,h.sv j hj]
 | .root false _ _ _=>rfl
 | .deep _ _ _ _ _=>by funext k;simp [ze,Ob.forget,h.dp j hj]
 | .gone=>rfl
theorem RO.forget {G G':Gh} {w:World} {i j:Nat} (h:Agree G G' i) (hj:j≠i): ∀ {ob:Ob},RO G w j ob→RO G' w j (ob.forget i)
 | .box cells,hr=>⟨by rw [h.g j hj];exact hr.1,fun m a ha=>by
  rw [vV] at ha
  obtain ⟨b,hb,rfl⟩:=aq.1 ha
  obtain ⟨h1,v,h2,h3,h4⟩:=hr.2 m b hb
  rw [h.g j hj]
  exact ⟨h1,v,h2,h3,RA.forget h b v h4⟩⟩
 | .root true e ts xs,hr=>by
  obtain ⟨h1,h2,cells,hown,h3,h4,h5⟩:=hr
  refine ⟨by rw [h.sz j hj];exact h1,h2,cells,by rw [h.sv j hj];exact hown,h3,by rw [h.sv j hj,h.g j hj];exact h4,fun m x hm=>RdE.mono h.H ts x _ _ (fun _ _ hu=>hu) (h5 m x hm)⟩
 | .root false e ts xs,hr=>by
  obtain ⟨h1,h2,h3,h4⟩:=hr
  exact ⟨by rw [h.sz j hj];exact h1,h2,by rw [h.sv j hj];exact RdT.mono h.H _ _ _ h3,by rw [h.sv j hj,h.g j hj];exact h4⟩
 | .deep fin tag e ts xs,hr=>by
  obtain ⟨h1,h2,h3,h4,cells,Bs,h5,h6⟩:=hr
  exact ⟨by rw [h.sz j hj];exact h1,by rw [h.dp j hj];exact h2,by rw [h.sv j hj,h.pv];exact h3,by rw [h.sv j hj,h.g j hj];exact h4,cells,Bs,by rw [h.sv j hj,h.dp j hj];exact h5,by rw [h.hd j hj];exact h6⟩
 | .gone,_=>trivial
theorem qS {G G':Gh} (hg:G'.g=G.g) (hs:G'.sv=G.sv) (hd:G'.dp=G.dp) {j:Nat}: ∀ (ob:Ob),ze G' j ob=ze G j ob
 | .box _=>by funext k;simp [ze,hg]
 | .root true _ _ _=>by funext k;simp [ze,hs]
 | .root false _ _ _=>rfl
 | .deep _ _ _ _ _=>by funext k;simp [ze,hd]
 | .gone=>rfl
theorem RO.mono {G G':Gh} {w:World} {j:Nat} (hH:G.H.le G'.H) (hg:G'.g=G.g) (hs:G'.sv=G.sv) (hz:G'.sz=G.sz) (hd:G'.dp=G.dp) (hh:G'.hd=G.hd) (hp:G'.pv=G.pv): ∀ {ob:Ob},RO G w j ob→RO G' w j ob
 | .box cells,hr=>⟨by rw [hg];exact hr.1,fun m a ha=>by
  obtain ⟨h1,v,h2,h3,h4⟩:=hr.2 m a ha
  rw [hg]
  exact ⟨h1,v,h2,h3,RA.mono hH hg hs hz hh hp a v h4⟩⟩
 | .root true e' ts' xs',hr=>by
  obtain ⟨h1,h2,cells,hown,h3,h4,h5⟩:=hr
  refine ⟨by rw [hz];exact h1,h2,cells,by rw [hs];exact hown,h3,by rw [hs,hg];exact h4,fun m x hm=>RdE.mono hH ts' x _ _ (fun _ _ hu=>hu) (h5 m x hm)⟩
 | .root false e' ts' xs',hr=>by
  obtain ⟨h1,h2,h3,h4⟩:=hr
  exact ⟨by rw [hz];exact h1,h2,by rw [hs];exact RdT.mono hH _ _ _ h3,by rw [hs,hg];exact h4⟩
 | .deep fin tag e ts xs,hr=>by
  obtain ⟨h1,h2,h3,h4,cells,Bs,h5,h6⟩:=hr
  exact ⟨by rw [hz];exact h1,by rw [hd];exact h2,by rw [hs,hp];exact h3,by rw [hs,hg];exact h4,cells,Bs,by rw [hs,hd];exact h5,by rw [hh];exact h6⟩
 | .gone,_=>trivial
theorem RO.blk {G:Gh} {w:World} {i:Nat}: ∀ {ob:Ob} {k:Nat},RO G w i ob→ze G i ob k→k<w.heap.size
 | .box cells,k,hr,hb=>by
  have:(G.g i).1=k:=by simpa [ze] using hb
  exact this ▸ hr.1
 | .root true e ts xs,k,hr,hb=>by
  obtain ⟨_,_,cells,hown,_,_,_⟩:=hr
  rcases hown.2 with ⟨hv,_⟩|⟨g,cap,cur,hv,_,hh,_⟩
  ·simp [ze,hv,Value.ownBlock] at hb
  ·have:g=k:=by simpa [ze,hv,Value.ownBlock] using hb
   subst this
   exact (aM.1 hh).1
 | .root false _ _ _,_,_,hb=>by simp [ze] at hb
 | .deep fin tag e ts xs,k,hr,hb=>hr.2.1 k hb
 | .gone,_,_,hb=>by simp [ze] at hb
section
variable {P:Program} {w0:World} {lent:Nat→Prop} {H0:Base} {s:St} {a:Act} {w:World} {G:Gh}
theorem yiB {l:List A} {i:Nat} {x:A} (h:l.getD i .dead=x):l[i]? =some x∨x= .dead:=by
 rw [au] at h
 cases hl:l[i]? with
 |none=>exact .inr (by simpa [hl] using h.symm)
 |some y=>exact .inl (by simpa [hl] using h)
theorem Rel.tmp (h:Rel P w0 lent H0 s a w G) (i:Nat):RA G (s.t.getD i .dead) (a.tmps.getD i undef):=by
 rcases yiB (rfl:s.t.getD i .dead=_) with h1|h1
 ·exact h.slots i _ h1
 ·rw [h1]
  trivial
theorem yiC {G:Gh}: ∀ v:Value,RA G (ycC v) v:=by
 intro v
 unfold ycC
 split<;>first|rfl|trivial
theorem ygh {G:Gh}: ∀ l:List Value,RL G (l.map ycC) l
 |[]=>trivial
 |v::l=>⟨yiC v,ygh l⟩
theorem yla {G:Gh} (v:Value):RA G (y9I v) v:=by
 unfold y9I
 split
 ·rename_i cs
  exact ⟨cs.toList,by simp,ygh _⟩
 ·exact yiC v
theorem Rel.opd (h:Rel P w0 lent H0 s a w G): ∀ (x:Operand),RA G (s.opd x) (a.eval x)
 | .tmp i=>h.tmp i
 | .const v=>yla v
 | .func f=>rfl
 | .global g=>trivial
theorem Rel.put (h:Rel P w0 lent H0 s a w G) (d:Option Nat) {x:A} {v:Value} (hx:RA G x v):Rel P w0 lent H0 (s.put d x) (a.put d v) w G:=by
 cases d with
 |none=>exact h
 |some d=>
  refine {h with defers:=h.defers,len:=by simpa [St.put,Act.put] using h.len,slots:=fun i y hy=> ?_}
  have hy':(s.t.set d x)[i]? =some y:=hy
  show RA G y ((a.tmps.setIfInBounds d v).getD i undef)
  by_cases hi:i=d
  ·subst hi
   have hlt:i<s.t.length:=by
    have:=(av.1 hy').1
    simpa using this
   have hxy:x=y:=by simpa [bh hlt] using hy'
   subst hxy
   have hlt':i<a.tmps.size:=bL hlt h.len
   simpa [bu,hlt'] using hx
  ·rw [bl (Ne.symm hi)] at hy'
   have:=h.slots i y hy'
   simpa [bu,Array.getElem?_setIfInBounds_ne (Ne.symm hi)] using this
def qC (w0:World) (lent:Nat→Prop) (s:St) (G:Gh) (k:Nat):Prop:=
 G.H k=none∧(w0.heap.size≤k∨lent k)∧ ∀ (j:Nat) (oj:Ob),yF s.o j=some oj→ ¬ ze G j oj k
theorem Rel.free_new (h:Rel P w0 lent H0 s a w G) {k:Nat} (hk:w.heap.size≤k):qC w0 lent s G k:=by
 refine ⟨?_,.inl (aO h.size hk),fun j oj hj hb=> ?_⟩
 ·cases hH:G.H k with
  |none=>rfl
  |some o=>exact absurd (aM.1 (h.inH k o hH)).1 (cu.2 hk)
 ·exact absurd ((h.objs j oj hj).blk hb) (cu.2 hk)
theorem Rel.heap (h:Rel P w0 lent H0 s a w G) {w':World} (hos:w'.os=w.os) (htape:w'.tape=w.tape) (hout:w'.output=w.output) (hsz:w.heap.size≤w'.heap.size)
  (hk: ∀ k,k<w.heap.size→w'.heap[k]? =w.heap[k]? ∨qC w0 lent s G k):Rel P w0 lent H0 s a w' G:=by
 refine {h with os:=hos.trans h.os,tape:=htape.trans h.tape,output:=hout.trans h.output,size:=aO h.size hsz,old:=fun k hlt hl=> ?_,inH:=fun k o hH=> ?_,defers:=h.defers,len:=h.len,slots:=h.slots,objs:=fun i ob hi=>(h.objs i ob hi).heap hsz fun k hb=> ?_}
 ·rcases hk k (bL hlt h.size) with h1|h1
  ·rw [h1]
   exact h.old k hlt hl
  ·rcases h1.2.1 with h2|h2
   ·exact absurd hlt (cu.2 h2)
   ·exact absurd h2 hl
 ·have hw:=h.inH k o hH
  rcases hk k (aM.1 hw).1 with h1|h1
  ·show w'.heap[k]? =_
   rw [h1]
   exact hw
  ·rw [h1.1] at hH
   cases hH
 ·rcases hk k ((h.objs i ob hi).blk hb) with h1|h1
  ·exact h1
  ·exact absurd hb (h1.2.2 i ob hi)
theorem Rel.forget (h:Rel P w0 lent H0 s a w G) {i:Nat} {G':Gh} (hag:Agree G G' i) (hH:G'.H=G.H):Rel P w0 lent H0 (s.forget i) a w G':=by
 have hl: ∀ (j:Nat) (ob:Ob),yF (YY i s.o) j=some ob→j≠i∧ ∃ o1,yF s.o j=some o1∧ob=o1.forget i:=by
  intro j ob hj
  rw [kP] at hj
  by_cases hji:j=i
  ·simp [hji] at hj
  ·simp only [hji,aU] at hj
   obtain ⟨o1,h1,rfl⟩:=aq.1 hj
   exact ⟨hji,o1,h1,rfl⟩
 refine {h with inH:=by rw [hH];exact h.inH,base:=by rw [hH];exact h.base,pv:=hag.pv.trans h.pv,hnew:=by rw [hH];exact h.hnew,defers:=h.defers,len:=by simpa [St.forget,Vy] using h.len,slots:=fun j x hx=> ?_,objs:=fun j ob hj=> ?_,away:=fun j ob k hj hb=> ?_,apart:=fun j m oj om k hj hm hb hb'=> ?_,pin:=fun j ob b hj hp=> ?_}
 ·have hx':(zy i s.t)[j]? =some x:=hx
  rw [vV] at hx'
  obtain ⟨y,hy,rfl⟩:=aq.1 hx'
  exact RA.forget hag y _ (h.slots j y hy)
 ·obtain ⟨hji,o1,h1,rfl⟩:=hl j ob hj
  exact RO.forget hag hji (h.objs j o1 h1)
 ·obtain ⟨hji,o1,h1,rfl⟩:=hl j ob hj
  rw [y01 hag hji] at hb
  rw [hH]
  exact h.away j o1 k h1 hb
 ·obtain ⟨hji,o1,h1,rfl⟩:=hl j oj hj
  obtain ⟨hmi,o2,h2,rfl⟩:=hl m om hm
  rw [y01 hag hji] at hb
  rw [y01 hag hmi] at hb'
  exact h.apart j m o1 o2 k h1 h2 hb hb'
 ·obtain ⟨hji,o1,h1,rfl⟩:=hl j ob hj
  rw [hag.g j hji]
  exact h.pin j o1 b h1 hp
theorem Rel.add (h:Rel P w0 lent H0 s a w G) {i:Nat} {ob:Ob} (hn:yF s.o i=none) (hro:RO G w i ob) (hb: ∀ k,ze G i ob k→qC w0 lent s G k) (hp: ∀ b,H0.pin i=some b→G.g i=b):
  Rel P w0 lent H0 ⟨s.t,(i,ob)::s.o⟩ a w G:=by
 have hl: ∀ (j:Nat) (oj:Ob),yF ((i,ob)::s.o) j=some oj→(j=i∧oj=ob)∨(j≠i∧yF s.o j=some oj):=by
  intro j oj hj
  by_cases hji:i=j
  ·subst hji
   simp only [yF,yp,ai,ap] at hj
   exact .inl ⟨rfl,hj.symm⟩
  ·simp only [yF,yB hji,ag] at hj
   exact .inr ⟨fun e=>hji e.symm,hj⟩
 refine {h with defers:=h.defers,len:=h.len,slots:=h.slots,objs:=fun j oj hj=> ?_,away:=fun j oj k hj hbj=> ?_,apart:=fun j m oj om k hj hm hbj hbm=> ?_,pin:=fun j oj b hj hpb=> ?_}
 ·rcases hl j oj hj with ⟨rfl,rfl⟩|⟨_,h1⟩
  ·exact hro
  ·exact h.objs j oj h1
 ·rcases hl j oj hj with ⟨rfl,rfl⟩|⟨_,h1⟩
  ·exact ⟨(hb k hbj).1,(hb k hbj).2.1⟩
  ·exact h.away j oj k h1 hbj
 ·rcases hl j oj hj with ⟨rfl,rfl⟩|⟨hji,h1⟩<;>rcases hl m om hm with ⟨rfl,rfl⟩|⟨hmi,h2⟩
  ·rfl
  ·exact absurd hbm ((hb k hbj).2.2 m om h2)
  ·exact absurd hbj ((hb k hbm).2.2 j oj h1)
  ·exact h.apart j m oj om k h1 h2 hbj hbm
 ·rcases hl j oj hj with ⟨rfl,rfl⟩|⟨_,h1⟩
  ·exact hp b hpb
  ·exact h.pin j oj b h1 hpb
theorem Rel.set (h:Rel P w0 lent H0 s a w G) {i:Nat} {ob:Ob} (hro:RO G w i ob)
  (hb: ∀ k,ze G i ob k→G.H k=none∧(w0.heap.size≤k∨lent k)∧ ∀ (j:Nat) (oj:Ob),j≠i→yF s.o j=some oj→ ¬ ze G j oj k):Rel P w0 lent H0 (s.set i ob) a w G:=by
 have hl: ∀ (j:Nat) (oj:Ob),yF (Vx s.o i ob) j=some oj→(j=i∧oj=ob)∨(j≠i∧yF s.o j=some oj):=by
  intro j oj hj
  rw [Yj] at hj
  by_cases hji:j=i
  ·simp only [hji,aB] at hj
   obtain ⟨_,_,h2⟩:=aq.1 hj
   exact .inl ⟨hji,h2.symm⟩
  ·simp only [hji,aU] at hj
   exact .inr ⟨hji,hj⟩
 refine {h with defers:=h.defers,len:=h.len,slots:=h.slots,objs:=fun j oj hj=> ?_,away:=fun j oj k hj hbj=> ?_,apart:=fun j m oj om k hj hm hbj hbm=> ?_,pin:=fun j oj b hj hpb=> ?_}
 ·rcases hl j oj hj with ⟨rfl,rfl⟩|⟨_,h1⟩
  ·exact hro
  ·exact h.objs j oj h1
 ·rcases hl j oj hj with ⟨rfl,rfl⟩|⟨_,h1⟩
  ·exact ⟨(hb k hbj).1,(hb k hbj).2.1⟩
  ·exact h.away j oj k h1 hbj
 ·rcases hl j oj hj with ⟨rfl,rfl⟩|⟨hji,h1⟩<;>rcases hl m om hm with ⟨rfl,rfl⟩|⟨hmi,h2⟩
  ·rfl
  ·exact absurd hbm ((hb k hbj).2.2 m om hmi h2)
  ·exact absurd hbj ((hb k hbm).2.2 j oj hji h1)
  ·exact h.apart j m oj om k h1 h2 hbj hbm
 ·have hj':yF (Vx s.o i ob) j=some oj:=hj
  rw [Yj] at hj'
  by_cases hji:j=i
  ·subst hji
   simp only [aB] at hj'
   obtain ⟨o1,h1,_⟩:=aq.1 hj'
   exact h.pin j o1 b h1 hpb
  ·simp only [hji,aU] at hj'
   exact h.pin j oj b hj' hpb
theorem Rel.gone (h:Rel P w0 lent H0 s a w G) (i:Nat):Rel P w0 lent H0 (s.set i .gone) a w G:=h.set trivial (fun k hk=>by simp [ze] at hk)
theorem ycJ (i:Nat) (x y:Ob): ∀ o:List (Nat×Ob),Vx (Vx o i x) i y=Vx o i y
 |[]=>rfl
 |(j,z)::r=>by
  by_cases hj:j=i
  ·subst hj
   simp [Vx,yp]
  ·simp [Vx,yB hj,ycJ i x y r]
theorem St.set_set (s:St) (i:Nat) (x y:Ob):(s.set i x).set i y=s.set i y:=by simp [St.set,ycJ]
theorem Rel.grow (h:Rel P w0 lent H0 s a w G) {H':Hp} (hH:G.H.le H') (hin:H'.le (Zv w)) (haw: ∀ (j:Nat) (oj:Ob) (k:Nat),yF s.o j=some oj→ze G j oj k→H' k=none) (hnw: ∀ k ob,H' k=some ob→G.H k=some ob∨w0.heap.size≤k∨lent k):
  Rel P w0 lent H0 s a w {G with H:=H'}:=by
 refine {h with inH:=hin,base:=h.base.trans hH,hnew:=fun k ob hk=>(hnw k ob hk).elim (h.hnew k ob) .inr,defers:=h.defers,len:=h.len,slots:=fun i x hx=>RA.mono (G':= {G with H:=H'}) hH rfl rfl rfl rfl rfl x _ (h.slots i x hx),objs:=fun i ob hi=>RO.mono (G':= {G with H:=H'}) hH rfl rfl rfl rfl rfl rfl (h.objs i ob hi),away:=fun i ob k hi hb=> ?_,apart:=fun i j oi oj k hi hj hb hb'=> ?_}
 ·rw [qS (G:=G) (G':= {G with H:=H'}) rfl rfl rfl] at hb
  exact ⟨haw i ob k hi hb,(h.away i ob k hi hb).2⟩
 ·rw [qS (G:=G) (G':= {G with H:=H'}) rfl rfl rfl] at hb hb'
  exact h.apart i j oi oj k hi hj hb hb'
end
end
section
def Q2:Ty→Value
 | .int k=> .int k 0
 | .bool=> .bool false
 | .str=> .string ⟨#[]⟩
 | .sl _ _=> .slice none 0 0
def ycK (C:Ctx) (P:Program):TI→TypeDesc→Prop
 | .c (.int k) _,d=>d= .int k
 | .c .bool _,d=>d= .bool
 | .c .str _,d=>d= .string
 | .c (.sl e ts) _,d=>d= .slice e∧ ∃ te,C.info e=some te∧te.ts=ts
 | .s fs ts _,d=> ∃ F:Array Field,d= .struct F∧F.size=fs.length∧ ∀ (f:Nat) (off t:Nat),fs[f]? =some (off,t)→ ∃ fl,F[f]? =some fl∧fl.offset=off∧fl.type=t∧ ∃ ti,C.info t=some ti∧off+ti.ts.length≤ts.length
def y1j (C:Ctx):List (Nat×Nat)→List Field→List Ty→Nat→Prop
 |[],[],ts,_=>ts=[]
 |(off,t)::fs,f::F,ts,n=>off=n∧f.offset=n∧f.type=t∧ ∃ ti ts',C.info t=some ti∧ts=ti.ts++ts'∧y1j C fs F ts' (n+ti.ts.length)
 |_,_,_,_=>False
def TEq (C:Ctx) (P:Program):Prop:= ∀ t fs ts b,C.info t=some (.s fs ts b)→P.stoodInHeld t=false∧P.eqGuardType P.depth t=false∧ ∀ f∈(P.fieldsOf t).toList,f.name≠ "_"
structure TOk (C:Ctx) (P:Program):Prop where
 info: ∀ t ti,C.info t=some ti→ ∃ i z,P.info? t=some i∧i.size=ti.ts.length∧i.bytes=ti.bytes∧i.zero=some z∧z.cells.toList=ti.ts.map Q2∧0<ti.ts.length∧0<ti.bytes
 und: ∀ t ti,C.info t=some ti→ ∃ d,P.underlying t=some d∧ycK C P ti d
 flds: ∀ t fs ts b,C.info t=some (.s fs ts b)→ ∃ F,P.underlying t=some (.struct F)∧y1j C fs F.toList ts 0
 eqs:TEq C P
variable {P:Program} {C:Ctx} {w0:World} {lent:Nat→Prop} {H0:Base} {s:St} {a:Act} {w:World} {G:Gh} {o:Oper} {K:Act→World→Prop} {Q:Exit→Act→World→Prop}
theorem YZ {v:Value} {w':World} (h:(execOp a.eval o).run P w= .ok (.value v) w') (hK:K (a.put o.dst v) w'):o.wp P a w K Q:=by
 simp only [Oper.wp,h,Oper.upon]
 exact hK
theorem wp_skip {w':World} (h:(execOp a.eval o).run P w= .ok .skip w') (hK:K (a.put o.dst undef) w'):o.wp P a w K Q:=by
 simp only [Oper.wp,h,Oper.upon]
 exact hK
theorem y4w (hT:TOk C P) {t:Nat} {ti:TI} (ht:C.info t=some ti) (w:World):(isAgg t).run P w= .ok ti.isAgg w:=by
 obtain ⟨d,hd,h⟩:=hT.und t ti ht
 cases ti with
 |c ty b=>cases ty<;>simp only [ycK] at h<;>first|(subst h;simp [isAgg,run_underlying hd,TI.isAgg])|(obtain ⟨rfl,_⟩:=h;simp [isAgg,run_underlying hd,TI.isAgg])
 |s fs ts b=>
  obtain ⟨F,rfl,_⟩:=h
  simp [isAgg,run_underlying hd,TI.isAgg]
theorem y02 (hT:TOk C P) {t:Nat} {ti:TI} (ht:C.info t=some ti) (w:World):(sizeOf t).run P w= .ok ti.ts.length w:=by
 obtain ⟨i,z,hi,hs,_⟩:=hT.info t ti ht
 simp [sizeOf,typeInfo,hi,hs]
theorem y9M {H:Hp}: ∀ (ts:List Ty) (x:yJ ts) (f:Nat→Option Value),RdE H ts x f→ ∀ (i:Nat) (c:A),(QY ts x)[i]? =some c→ ∃ v,f i=some v∧v.oneCell'=true∧ ∀ G:Gh,G.H=H→RA G c v
 |[],_,_,_,i,c,hc=>by simp [QY] at hc
 |t::[],x,f,⟨v,hv,hr⟩,i,c,hc=>by
  cases i with
  |zero=>
   have:A.val t x=c:=by simpa [QY] using hc
   subst this
   exact ⟨v,hv,hr.one,fun G hG=>by rw [← hG] at hr;exact hr⟩
  |succ i=>simp [QY] at hc
 |t::u::r,x,f,⟨⟨v,hv,hr⟩,hs⟩,i,c,hc=>by
  cases i with
  |zero=>
   have:A.val t x.1=c:=by simpa [QY] using hc
   subst this
   exact ⟨v,hv,hr.one,fun G hG=>by rw [← hG] at hr;exact hr⟩
  |succ i=>exact y9M (u::r) x.2 _ hs i c (by simpa [QY] using hc)
theorem qH: ∀ (ts:List Ty) (x:yJ ts),(QY ts x).length=ts.length
 |[],_=>rfl
 |t::[],_=>rfl
 |t::u::r,x=>by simp [QY,qH (u::r) x.2]
theorem y4x {G:Gh}: ∀ (l:List A) (f:Nat→Option Value),(∀ (i:Nat) (c:A),l[i]? =some c→ ∃ v,f i=some v∧v.oneCell'=true∧RA G c v)→ ∃ vs:List Value,vs.length=l.length∧(∀ j v,vs[j]? =some v→f j=some v)∧(∀ v∈vs,v.oneCell'=true)∧RL G l vs
 |[],f,_=>⟨[],rfl,fun j v hv=>by simp at hv,fun v hv=>by simp at hv,trivial⟩
 |c::l,f,h=>by
  obtain ⟨v,hv,h1,hr⟩:=h 0 c rfl
  obtain ⟨vs,hl,hf,h1',hrl⟩:=y4x l (fun i=>f (i+1)) (fun i c hc=>h (i+1) c (by simpa using hc))
  refine ⟨v::vs,by simp [hl],fun j u hu=> ?_,fun u hu=> ?_,hr,hrl⟩
  ·cases j with
   |zero=>
    have:v=u:=by simpa using hu
    subst this
    exact hv
   |succ j=>exact hf j u (by simpa using hu)
  ·rcases aA.1 hu with rfl|hu
   ·exact h1
   ·exact h1' u hu
theorem yf1 {G:Gh} {b:Bool} {l:List A} {x:A} {vs:List Value} (h:mkA b l=some x) (hr:RL G l vs):RA G x (if b then .agg vs.toArray else vs.headD undef):=by
 cases b with
 |true=>
  have:A.agg l=x:=by simpa [mkA] using h
  subst this
  exact ⟨vs,rfl,hr⟩
 |false=>
  cases l with
  |nil=>simp [mkA] at h
  |cons c l=>
   cases l with
   |nil=>
    have:c=x:=by simpa [mkA] using h
    subst this
    cases vs with
    |nil=>exact hr.elim
    |cons v vs=>exact hr.1
   |cons _ _=>simp [mkA] at h
theorem y41 {G:Gh}: ∀ {x:A} {v:Value},x.one=true→RA G x v→v.oneCell'=true∧v.cells= #[v]
 | .val t x,v,_,h=>by
  have h1:=RdT.one h
  cases v<;>simp_all [Value.oneCell',Value.cells]
 | .nils,v,_,h=>by rw [show v=_ from h];exact ⟨rfl,rfl⟩
 | .nilp,v,_,h=>by rw [show v=_ from h];exact ⟨rfl,rfl⟩
 | .box b off,v,_,h=>by rw [show v=_ from h];exact ⟨rfl,rfl⟩
 | .rtp o i c,v,_,h=>by rw [show v=_ from h.1];exact ⟨rfl,rfl⟩
 | .fn f,v,_,h=>by rw [show v=_ from h];exact ⟨rfl,rfl⟩
 | .clo f b,v,_,h=>by rw [show v=_ from h];exact ⟨rfl,rfl⟩
 | .elp e ts xs i c,v,_,h=>by
  obtain ⟨ad,rfl,_⟩:=h
  exact ⟨rfl,rfl⟩
 | .own o,v,_,h=>by
  obtain ⟨_,A,n,c,rfl⟩:=h
  exact ⟨rfl,rfl⟩
 | .bor o i c,v,_,h=>by
  obtain ⟨_,A,n,c,rfl⟩:=h
  exact ⟨rfl,rfl⟩
 | .bep o i c q,v,_,h=>by
  obtain ⟨ad,n,m,_,rfl,_⟩:=h
  exact ⟨rfl,rfl⟩
 | .win o q,v,_,h=>by
  obtain ⟨A,n,c,_,rfl,_⟩:=h
  exact ⟨rfl,rfl⟩
 | .tl o q,v,_,h=>by
  obtain ⟨A,n,c,_,_,rfl⟩:=h
  exact ⟨rfl,rfl⟩
 | .top e ts xs,v,_,h=>by
  obtain ⟨A,c,rfl,_⟩:=h
  exact ⟨rfl,rfl⟩
 | .dead,_,h,_| .und,_,h,_| .agg _,_,h,_| .tup _,_,h,_=>by simp [A.one] at h
theorem ylb (hT:TOk C P) {t:Nat} {ti:TI} (ht:C.info t=some ti) (ad:Addr) (vs:List Value) (hl:vs.length=ti.ts.length) (hc: ∀ j v,vs[j]? =some v→w.cell? (ad.add j)=some v):
  (Instr.loadAt t (.pointer (some ad))).run P w= .ok (if ti.isAgg then .agg vs.toArray else vs.headD undef) w:=by
 have h1:=run_loadCells_list (P:=P) w ad vs hc
 rw [hl] at h1
 cases hb:ti.isAgg with
 |true=>simp [Instr.loadAt,Instr.sureAddr,loadVar,y4w hT ht,y02 hT ht,hb,h1]
 |false=>
  have hlen:0<vs.length:=by
   rw [hl]
   obtain ⟨_,_,_,_,_,_,_,h,_⟩:=hT.info t ti ht
   exact h
  cases vs with
  |nil=>simp at hlen
  |cons v vs=>
   have hv:=hc 0 v rfl
   rw [show ad.add 0=ad from rfl] at hv
   simp [Instr.loadAt,Instr.sureAddr,loadVar,y4w hT ht,hb,run_load,hv]
def y5e (lk:Lk) (s:St):Prop:= ∀ i ob,lk i=some ob→yF s.o i=some ob
theorem wM {a b:Nat} (h:Nat.ble a b=true):a≤b:=bU h
theorem qI {α:Type} {l:List α} {c n i:Nat} {x:α} (h:((l.drop c).take n)[i]? =some x):l[c+i]? =some x∧i<n:=by
 rw [aD] at h
 split at h
 ·exact ⟨by rw [aZ] at h;exact h,by assumption⟩
 ·cases h
theorem RdE.ext {H:Hp}: ∀ (ts:List Ty) (x:yJ ts) (f f':Nat→Option Value),(∀ i v,i<ts.length→f i=some v→f' i=some v)→RdE H ts x f→RdE H ts x f'
 |[],_,_,_,_,_=>trivial
 |t::[],x,f,f',hf,⟨v,hv,hr⟩=>⟨v,hf 0 v (by simp) hv,hr⟩
 |t::u::r,x,f,f',hf,⟨⟨v,hv,hr⟩,hs⟩=>⟨⟨v,hf 0 v (by simp) hv,hr⟩,RdE.ext (u::r) x.2 _ _ (fun i v hi hv=>hf (i+1) v (by simpa using hi) hv) hs⟩
theorem qJ (h:Rel P w0 lent H0 s a w G) {i e:Nat} {own:Bool} {ts:List Ty} {xs:List (yJ ts)} (hi:yF s.o i=some (.root own e ts xs)):
  G.sz i=(ts.length,xs.length)∧0<ts.length∧(∃ A c,G.sv i= .slice A xs.length c∧xs.length≤c∧xs.length≤9223372036854775807∧(0<xs.length→A=some ⟨(G.g i).1,0,none⟩))∧
  ∀ (j:Nat) (x:yJ ts),xs[j]? =some x→RdE G.H ts x (fun k=>if k<ts.length then w.cell? ⟨(G.g i).1,j*ts.length+k,none⟩ else none):=by
 have hro:=h.objs i _ hi
 cases own with
 |true=>
  obtain ⟨h1,h2,cells,hown,h3,h4,h5⟩:=hro
  refine ⟨h1,h2,?_,fun j x hx=>RdE.ext ts x _ _ (fun k v hk hv=> ?_) (h5 j x hx)⟩
  ·rcases hown.2 with ⟨hv,hn⟩|⟨g,cap,cur,hv,_,hh,hc,hm,_⟩
   ·exact ⟨none,0,by rw [hv,hn],by omega,by omega,fun hp=>by omega⟩
   ·have hg:g=(G.g i).1:=h4 g (by simp [hv,Value.ownBlock])
    refine ⟨_,cap,hv,hc,?_,fun _=>by rw [hg]⟩
    simp only [maxLen] at hm
    omega
  ·rw [af hk]
   cases hb:(G.sv i).ownBlock with
   |none=>
    rcases hown.2 with ⟨hv2,hn⟩|⟨g,cap,cur,hv2,_⟩
    ·have:xs=[]:=aP.1 hn
     simp [this] at hx
    ·simp [hv2,Value.ownBlock] at hb
   |some g=>
    have:=hown.cells hb _ v hv
    rw [JR,h4 g hb] at this
    exact this
 |false=>
  obtain ⟨h1,h2,⟨A,c,e1,hc,hm,hr⟩,h4⟩:=hro
  refine ⟨h1,h2,⟨A,c,e1,hc,hm,fun hp=> ?_⟩,fun j x hx=> ?_⟩
  ·obtain ⟨cap,e2⟩:=h4 hp
   rw [e1] at e2
   injection e2
  ·have hp:0<xs.length:=by
    have:=(av.1 hx).1
    omega
   obtain ⟨cap,e2⟩:=h4 hp
   obtain ⟨ad,ea,hrd⟩:=hr hp
   have had:ad=⟨(G.g i).1,0,none⟩:=by
    rw [e1] at e2
    injection e2 with e3
    rw [ea] at e3
    injection e3
   refine RdE.ext ts x _ _ (fun k v hk hv=> ?_) (hrd j x hx)
   rw [af hk]
   rw [had,JR] at hv
   exact y1i h.inH hv
theorem y4y (fin:Bool) (o:Nat) (i:Int): ∀ (ts:List Ty) (c:Nat) (x:yJ ts),(y3C fin o i c ts x).length=ts.length
 |[],_,_=>rfl
 |t::[],_,_=>rfl
 |t::u::r,c,x=>by simp [y3C,y4y fin o i (u::r)]
theorem DpT.slice {w:World} {e:Nat} {ts:List Ty} {B:Nat→Prop} {xs:El (.sl e ts)} {v:Value} (h:DpT w (.sl e ts) B xs v): ∃ A n c,v= .slice A n c:=by
 obtain ⟨_,cells,Bs,h1,_⟩:=h
 rcases h1.2 with ⟨rfl,_⟩|⟨g,cap,cur,rfl,_⟩
 ·exact ⟨_,_,_,rfl⟩
 ·exact ⟨_,_,_,rfl⟩
theorem DpT.flat {w:World} {t:Ty} {B:Nat→Prop} {x:El t} {v:Value} (hf:t.flat=true) (H:Hp):DpT w t B x v↔RdT H t x v:=by
 cases t with
 |sl e ts=>simp [Ty.flat] at hf
 |int _=>exact Iff.rfl
 |bool=>exact Iff.rfl
 |str=>exact Iff.rfl
theorem DpT.one {w:World} {t:Ty} {B:Nat→Prop} {x:El t} {v:Value} (h:DpT w t B x v):v.oneCell'=true:=by
 cases t with
 |sl e ts=>
  obtain ⟨A,n,c,rfl⟩:=DpT.slice h
  rfl
 |int _=>rw [show v=_ from h];rfl
 |bool=>rw [show v=_ from h];rfl
 |str=>rw [show v=_ from h];rfl
theorem yhz {G:Gh} {fin:Bool} {o:Nat} {idx:Int}: ∀ (ts:List Ty) (b:Nat) (Bs:Nat→Nat→Prop) (x:yJ ts) (f:Nat→Option Value),DpE w ts Bs x f→(fin=true→ ∀ (m:Nat) (A:Option Addr) (n c:Nat),f m=some (.slice A n c)→RA G (.bor o idx (b+m)) (.slice A n c))→
  ∀ (i:Nat) (c:A),(y3C fin o idx b ts x)[i]? =some c→ ∃ v,f i=some v∧v.oneCell'=true∧RA G c v:=by
 have one: ∀ (t:Ty) (B:Nat→Prop) (b:Nat) (x:El t) (v:Value),DpT w t B x v→(fin=true→ ∀ (A:Option Addr) (n c:Nat),v= .slice A n c→RA G (.bor o idx b) (.slice A n c))→RA G (bif t.flat then .val t x else bif fin then .bor o idx b else .dead) v:=by
  intro t B b x v h hb
  cases hf:t.flat with
  |true=>exact (DpT.flat hf G.H).1 h
  |false=>
   cases hfi:fin with
   |false=>trivial
   |true=>
    cases t with
    |sl e ts=>
     obtain ⟨A,n,c,rfl⟩:=DpT.slice h
     exact hb hfi A n c rfl
    |_=>simp [Ty.flat] at hf
 intro ts
 induction ts with
 |nil=>intro b Bs x f _ _ i c hc;simp [y3C] at hc
 |cons t ts ih=>
  intro b Bs x f h hb i c hc
  cases ts with
  |nil=>
   obtain ⟨v,hv,hr⟩:=h
   cases i with
   |zero=>
    simp only [y3C,bz,ap] at hc
    subst hc
    exact ⟨v,hv,hr.one,one t _ b x v hr (fun hfi A n c he=>hb hfi 0 A n c (by rw [hv,he]))⟩
   |succ i=>simp [y3C] at hc
  |cons u r=>
   obtain ⟨⟨v,hv,hr⟩,hs⟩:=h
   cases i with
   |zero=>
    simp only [y3C,bz,ap] at hc
    subst hc
    exact ⟨v,hv,hr.one,one t _ b x.1 v hr (fun hfi A n c he=>hb hfi 0 A n c (by rw [hv,he]))⟩
   |succ i=>
    exact ih (b+1) _ x.2 _ hs (fun hfi m A n c hm=>by
     have:=hb hfi (m+1) A n c hm
     rw [bN,Nat.add_comm 1 m]
     exact this) i c (by simpa [y3C] using hc)
theorem JC {w:World}: ∀ (ts:List Ty) (Bs:Nat→Nat→Prop) (x:yJ ts) (f:Nat→Option Value),DpE w ts Bs x f↔ ∀ (c:Nat) (y:Sigma El),Kb ts x c=some y→ ∃ v,f c=some v∧DpT w y.1 (Bs c) y.2 v:=by
 intro ts
 induction ts with
 |nil=>intro Bs x f;exact ⟨fun _ c y h=>by simp [Kb] at h,fun _=>trivial⟩
 |cons t ts ih=>
  intro Bs x f
  cases ts with
  |nil=>
   refine ⟨fun h c y hc=> ?_,fun h=>h 0 ⟨t,x⟩ rfl⟩
   cases c with
   |zero=>
    have:(⟨t,x⟩:Sigma El)=y:=by simpa [Kb] using hc
    subst this
    exact h
   |succ c=>simp [Kb] at hc
  |cons u r=>
   refine ⟨fun h c y hc=> ?_,fun h=>⟨h 0 ⟨t,x.1⟩ rfl,(ih _ x.2 _).2 fun c y hc=>h (c+1) y hc⟩⟩
   cases c with
   |zero=>
    have:(⟨t,x.1⟩:Sigma El)=y:=by simpa [Kb] using hc
    subst this
    exact h.1
   |succ c=>exact (ih _ x.2 _).1 h.2 c y hc
theorem Kc (h:Rel P w0 lent H0 s a w G) {i e tag:Nat} {fin:Bool} {ts:List Ty} {xs:List (yJ ts)} (hi:yF s.o i=some (.deep fin tag e ts xs)):
  G.sz i=(ts.length,xs.length)∧0<ts.length∧(∃ A c,G.sv i= .slice A xs.length c∧xs.length≤c∧xs.length≤9223372036854775807∧(0<xs.length→A=some ⟨(G.g i).1,0,none⟩))∧
  ∃ cells Bs,DpR w (G.dp i) e ts xs (G.sv i) cells Bs∧(fin=true→ ∀ (m:Nat) (A:Option Addr) (n c:Nat),cells[m]? =some (.slice A n c)→G.hd i m= .slice A n c)∧
   (0<xs.length→ ∀ m v,cells[m]? =some v→w.cell? ⟨(G.g i).1,m,none⟩=some v):=by
 obtain ⟨h1,h2,h3,h4,cells,Bs,h5,h6⟩:=h.objs i _ hi
 refine ⟨h1,h5.pos,?_,cells,Bs,h5,h6,fun hp m v hv=> ?_⟩
 ·rcases h5.row.2 with ⟨hv,hn⟩|⟨g,cap,cur,hv,_,hh,hc,hm,_⟩
  ·exact ⟨none,0,by rw [hv,hn],by omega,by omega,fun hp=>by omega⟩
  ·have hg:g=(G.g i).1:=h4 g (by simp [hv,Value.ownBlock])
   refine ⟨_,cap,hv,hc,?_,fun _=>by rw [hg]⟩
   simp only [maxLen] at hm
   omega
 ·rcases h5.row.2 with ⟨hv2,hn⟩|⟨g,cap,cur,hv2,_⟩
  ·omega
  ·have hb:(G.sv i).ownBlock=some g:=by rw [hv2];rfl
   have:=h5.row.cells hb _ v hv
   rw [JR,h4 g hb] at this
   exact this
theorem y5o (hT:TOk C P) (h:Rel P w0 lent H0 s a w G) {lk:Lk} (hlk:y5e lk s) {t:Nat} {ti:TI} (ht:C.info t=some ti) {p x:A} (hx:y3w lk ti p=some x) {v:Value} (hv:RA G p v):
  ∃ u,(Instr.loadAt t v).run P w= .ok u w∧RA G x u:=by
 have main: ∀ (ad:Addr) (l:List A),v= .pointer (some ad)→l.length=ti.ts.length→mkA ti.isAgg l=some x→(∀ (i:Nat) (c:A),l[i]? =some c→ ∃ v,w.cell? (ad.add i)=some v∧v.oneCell'=true∧RA G c v)→ ∃ u,(Instr.loadAt t v).run P w= .ok u w∧RA G x u:=by
  intro ad l hv hl hm hc
  obtain ⟨vs,h1,h2,h3,h4⟩:=y4x (G:=G) l (fun i=>w.cell? (ad.add i)) hc
  exact ⟨_,by rw [hv];exact ylb hT ht ad vs (h1.trans hl) h2,yf1 hm h4⟩
 cases p with
 |box b off=>
  simp only [y3w] at hx
  cases hb:lk b with
  |none=>simp [hb] at hx
  |some ob=>
   cases ob with
   |box cs=>
    simp only [hb] at hx
    cases hle:Nat.ble (off+ti.ts.length) cs.length with
    |false=>simp [hle] at hx
    |true=>
     simp only [hle,ai] at hx
     have hro:=(h.objs b _ (hlk b _ hb)).2
     refine main _ _ hv (by have:=wM hle;simp;omega) hx fun i c hc=> ?_
     obtain ⟨hc',hi⟩:=qI hc
     obtain ⟨_,v,h1,h2,h3⟩:=hro (off+i) c hc'
     exact ⟨v,by rw [ycI,bN];exact h1,h2,h3⟩
   |_=>simp [hb] at hx
 |elp e ts xs i c=>
  simp only [y3w] at hx
  cases hle:Nat.ble (c+ti.ts.length) ts.length with
  |false=>simp [hle] at hx
  |true=>
   simp only [hle,ai] at hx
   obtain ⟨ad,rfl,hlt,hr⟩:=hv
   have hg:xs[i.toNat]? =some (rdE ts xs i):=by simp [rdE,hlt]
   have hrd:=hr i.toNat _ hg
   refine main _ _ rfl (by have:=wM hle;simp [qH];omega) hx fun j d hd=> ?_
   obtain ⟨hd',hj⟩:=qI hd
   obtain ⟨v,h1,h2,h3⟩:=y9M ts _ _ hrd (c+j) d hd'
   refine ⟨v,?_,h2,h3 G rfl⟩
   rw [Addr.add_add,bN]
   exact y1i h.inH h1
 |rtp o i c=>
  simp only [y3w] at hx
  cases hb:lk o with
  |none=>simp [hb] at hx
  |some ob=>
   cases ob with
   |root own e ts xs=>
    simp only [hb] at hx
    cases hle:Nat.ble (c+ti.ts.length) ts.length with
    |false=>simp [hle] at hx
    |true=>
     simp only [hle,ai] at hx
     obtain ⟨hsz,hpos,_,hr⟩:=qJ h (hlk o _ hb)
     obtain ⟨rfl,hlt⟩:=hv
     rw [hsz] at hlt
     have hg:xs[i.toNat]? =some (rdE ts xs i):=by simp [rdE,show i.toNat<xs.length from hlt]
     have hrd:=hr i.toNat _ hg
     refine main _ _ rfl (by have:=wM hle;simp [qH];omega) hx fun j d hd=> ?_
     obtain ⟨hd',hj⟩:=qI hd
     obtain ⟨v,h1,h2,h3⟩:=y9M ts _ _ hrd (c+j) d hd'
     refine ⟨v,?_,h2,h3 G rfl⟩
     have:=wM hle
     rw [af (by omega)] at h1
     rw [hsz,ycI,bN]
     exact h1
   |deep fin tag e ts xs=>
    simp only [hb] at hx
    cases hle:Nat.ble (c+ti.ts.length) ts.length with
    |false=>simp [hle] at hx
    |true=>
     simp only [hle,ai] at hx
     obtain ⟨hsz,hpos,_,cells,Bs,hd,hfin,hcell⟩:=Kc h (hlk o _ hb)
     obtain ⟨rfl,hlt⟩:=hv
     have hlt':=hlt
     rw [hsz] at hlt
     have hg:xs[i.toNat]? =some (rdE ts xs i):=by simp [rdE,show i.toNat<xs.length from hlt]
     have hrd:=hd.rd i.toNat _ hg
     refine main _ _ rfl (by have:=wM hle;simp [y4y];omega) hx fun j d hd=> ?_
     obtain ⟨hd',hj⟩:=qI hd
     obtain ⟨v,h1,h2,h3⟩:=yhz (G:=G) ts 0 _ _ _ hrd (fun hfi m A n c hm=>⟨⟨by rw [hsz,aK,hfin hfi _ A n c hm],hlt'⟩,_,_,_,rfl⟩) (c+j) d hd'
     refine ⟨v,?_,h2,h3⟩
     rw [hsz,ycI]
     have:=hcell (Nat.lt_of_le_of_lt (bQ _) hlt) _ v h1
     rw [← bN] at this
     exact this
   |_=>simp [hb] at hx
 |_=>simp [y3w] at hx
theorem yiD (op:BinOp) (t:Nat) (X Y:Operand) (k l:IntKind) (n m:Int):(eqGuard op t X Y (.int k n) (.int l m)).run P w= .ok () w:=by cases op<;>simp [eqGuard]
theorem yhA (op:BinOp) (t:Nat) (X Y:Operand) (n m:Bool):(eqGuard op t X Y (.bool n) (.bool m)).run P w= .ok () w:=by cases op<;>simp [eqGuard]
theorem yiE (op:BinOp) (t:Nat) (X Y:Operand) (n m:ByteArray):(eqGuard op t X Y (.string n) (.string m)).run P w= .ok () w:=by cases op<;>simp [eqGuard]
theorem yf2 {op:BinOp} {k:IntKind} {n m:Int} {z:A} (h:y7g op k n m=some z) (t:Nat) (h1:op≠ .shl) (h2:op≠ .shr): ∃ r,(binOp op t (.int k n) (.int k m):Sem Value).run P w= .ok r w∧RA G z r:=by
 have hkk: ¬ (k≠k):=fun h=>h rfl
 cases op with
 |shl=>exact absurd rfl h1
 |shr=>exact absurd rfl h2
 |andNot=>simp [y7g] at h
 |quo=>
  by_cases hm:m=0
  ·simp [y7g,hm] at h
  ·simp only [y7g,hm,aU,ap] at h
   subst h
   refine ⟨.int k (k.wrap (n.tdiv m)),by simp [binOp,Op.intDiv,hm],rfl⟩
 |rem=>
  by_cases hm:m=0
  ·simp [y7g,hm] at h
  ·simp only [y7g,hm,aU,ap] at h
   subst h
   refine ⟨.int k (n.tmod m),by simp [binOp,Op.intDiv,hm],rfl⟩
 |_=>
  simp only [y7g,ap] at h
  subst h
  simp only [binOp,am hkk]
  exact ⟨_,rfl,rfl⟩
theorem y8T {op:BinOp} {k l:IntKind} {n m:Int} {z:A} (h:ytL op k n m=some z) (t:Nat) (h1:op= .shl∨op= .shr): ∃ r,(binOp op t (.int k n) (.int l m):Sem Value).run P w= .ok r w∧RA G z r:=by
 by_cases hm:m<0
 ·simp [ytL,hm] at h
 ·rcases h1 with rfl|rfl<;>simp only [ytL,am hm,ap] at h<;>subst h<;>simp only [binOp,Op.shift,am hm]<;>exact ⟨_,rfl,rfl⟩
theorem yf3 {op:BinOp} {x y:ByteArray} {z:A} (h:y9J op x y=some z) (t:Nat): ∃ r,(binOp op t (.string x) (.string y):Sem Value).run P w= .ok r w∧RA G z r:=by
 cases op with
 |add=>
  by_cases hm:x.size+y.size<140737488355328
  ·simp only [y9J,af hm,ap] at h
   subst h
   have: ¬ ((x.size+y.size:Nat):Int)>IntKind.i64.max:=by simp [IntKind.max,IntKind.bits,IntKind.signed];omega
   simp only [binOp,Op.stringOp,am this]
   exact ⟨_,rfl,rfl⟩
  ·simp [y9J,hm] at h
 |eql|neq|lss|leq|gtr|geq=>
  simp only [y9J,ap] at h
  subst h
  simp only [binOp,Op.stringOp]
  exact ⟨_,rfl,rfl⟩
 |_=>simp [y9J] at h
theorem y8U {t:Nat} (ht:P.underlying t=some .bool) (x y:Bool):(Op.equal t (.bool x) (.bool y)).run P w= .ok (x==y) w:=by
 show (Op.equalIn (9999+1) t (.bool x) (.bool y)).run P w=_
 rw [Op.equalIn]
 simp only [Sem.run_bind,run_underlying ht,Result.andThen_ok]
 rfl
theorem ycL (hT:TOk C P) {t b:Nat} (ht:C.info t=some (.c .bool b)) {op:BinOp} {x y:Bool} {z:A} (h:y5P op x y=some z): ∃ r,(binOp op t (.bool x) (.bool y):Sem Value).run P w= .ok r w∧RA G z r:=by
 obtain ⟨d,hd,hdd⟩:=hT.und t _ ht
 simp only [ycK] at hdd
 subst hdd
 cases op with
 |eql=>
  simp only [y5P,ap] at h
  subst h
  exact ⟨.bool (x==y),by simp only [binOp,Sem.run_bind,y8U hd,Result.andThen_ok];rfl,rfl⟩
 |neq=>
  simp only [y5P,ap] at h
  subst h
  exact ⟨.bool (!(x==y)),by simp only [binOp,Sem.run_bind,y8U hd,Result.andThen_ok];rfl,rfl⟩
 |_=>simp [y5P] at h
theorem ypo {op:BinOp} {k l:IntKind} {n m:Int} {z:A} (hz:yeT op (.val (.int k) n) (.val (.int l) m)=some z) (t:Nat) (X Y:Operand): ∃ r,(do eqGuard op t X Y (.int k n) (.int l m);binOp op t (.int k n) (.int l m):Sem Value).run P w= .ok r w∧RA G z r:=by
 simp only [Sem.run_bind,yiD,Result.andThen_ok]
 by_cases h1:op= .shl∨op= .shr
 ·rcases h1 with rfl|rfl
  ·exact y8T (by simpa [yeT] using hz) t (.inl rfl)
  ·exact y8T (by simpa [yeT] using hz) t (.inr rfl)
 ·have h2:(if k=l then y7g op k n m else none)=some z:=by
   cases op<;>simp_all [yeT]
  by_cases hk:k=l
  ·subst hk
   rw [af rfl] at h2
   exact yf2 h2 t (fun e=>h1 (.inl e)) (fun e=>h1 (.inr e))
  ·rw [am hk] at h2
   cases h2
theorem ylc (hT:TOk C P) {t b:Nat} (ht:C.info t=some (.c .bool b)) {op:BinOp} {x y:Bool} {z:A} (h:y5P op x y=some z) (X Y:Operand): ∃ r,(do eqGuard op t X Y (.bool x) (.bool y);binOp op t (.bool x) (.bool y):Sem Value).run P w= .ok r w∧RA G z r:=by
 simp only [Sem.run_bind,yhA,Result.andThen_ok]
 exact ycL hT ht h
theorem ypp {op:BinOp} {x y:ByteArray} {z:A} (h:y9J op x y=some z) (t:Nat) (X Y:Operand): ∃ r,(do eqGuard op t X Y (.string x) (.string y);binOp op t (.string x) (.string y):Sem Value).run P w= .ok r w∧RA G z r:=by
 simp only [Sem.run_bind,yiE,Result.andThen_ok]
 exact yf3 h t
theorem yiF (hT:TOk C P) {t:Nat} {ti:TI} (ht:C.info t=some ti) {op:BinOp} {x y z:A} {v u:Value} (hz:yeT op x y=some z) (hb:ycE ti x=true) (hx:RA G x v) (hy:RA G y u) (X Y:Operand):
  ∃ r,(do eqGuard op t X Y v u;binOp op t v u:Sem Value).run P w= .ok r w∧RA G z r:=by
 cases x with
 |val tx xv=>
  cases y with
  |val ty yv=>
   cases tx with
   |int k=>
    cases ty with
    |int l=>
     rw [show v= .int k xv from hx,show u= .int l yv from hy]
     exact ypo (n:=xv) (m:=yv) hz t X Y
    |_=>simp [yeT] at hz
   |bool=>
    cases ty with
    |bool=>
     rw [show v= .bool xv from hx,show u= .bool yv from hy]
     cases ti with
     |c tt b=>
      cases tt with
      |bool=>exact ylc (x:=xv) (y:=yv) hT ht hz X Y
      |_=>simp [ycE] at hb
     |s _ _ _=>simp [ycE] at hb
    |_=>simp [yeT] at hz
   |str=>
    cases ty with
    |str=>
     rw [show v= .string xv from hx,show u= .string yv from hy]
     exact ypp (x:=xv) (y:=yv) hz t X Y
    |_=>simp [yeT] at hz
   |sl e ts=>simp [yeT] at hz
  |_=>cases tx<;>simp [yeT] at hz
 |_=>simp [yeT] at hz
theorem yld {op:UnOp} {x z:A} {v:Value} (hz:unA op x=some z) (hx:RA G x v): ∃ r,(Op.unary op v).run P w= .ok r w∧RA G z r:=by
 cases x with
 |val tx xv=>
  cases tx with
  |bool=>
   rw [show v= .bool xv from hx]
   cases op<;>simp only [unA,ap,reduceCtorEq] at hz
   subst hz
   exact ⟨_,rfl,rfl⟩
  |int k=>
   rw [show v= .int k xv from hx]
   cases op<;>simp only [unA,ap,reduceCtorEq] at hz
   subst hz
   exact ⟨_,rfl,rfl⟩
  |_=>simp [unA] at hz
 |_=>simp [unA] at hz
end
section
variable {P:Program} {C:Ctx} {w0:World} {lent:Nat→Prop} {H0:Base} {s:St} {a:Act} {w:World} {G:Gh} {o:Oper} {K:Act→World→Prop} {Q:Exit→Act→World→Prop}
theorem yf4 (hT:TOk C P) {t f d t2 b:Nat} {fs:List (Nat×Nat)} {ts:List Ty} {ti:TI} (ht:C.info t=some (.s fs ts b)) (hf:fs[f]? =some (d,t2)) (ht2:C.info t2=some ti)
  {l:List A} {x:A} (hle:Nat.ble (d+ti.ts.length) l.length=true) (hx:mkA ti.isAgg ((l.drop d).take ti.ts.length)=some x) {v:Value} (hv:RA G (.agg l) v):
  ∃ u,(Instr.field t v f).run P w= .ok u w∧RA G x u:=by
 obtain ⟨cs,rfl,hr⟩:=hv
 obtain ⟨D,hD,F,rfl,hsz,hF⟩:=hT.und t _ ht
 obtain ⟨fl,hfl,rfl,rfl,_⟩:=hF f d t2 hf
 have hr':=RL.take ti.ts.length (RL.drop fl.offset hr)
 have hlen:=hr.length
 have h1:=wM hle
 have hm:=yf1 hx hr'
 refine ⟨_,?_,hm⟩
 simp only [Instr.field,Sem.run_bind,run_underlying hD,Result.andThen_ok,hfl,part,y4w hT ht2,y02 hT ht2,asAgg]
 cases hb:ti.isAgg with
 |true=>
  simp [y02 hT ht2,List.take_drop]
 |false=>
  have hone:ti.ts.length=1:=by
   cases ti with
   |c _ _=>rfl
   |s _ _ _=>simp [TI.isAgg] at hb
  rw [hone] at h1 ⊢
  have hlt:fl.offset<cs.length:=by omega
  simp [hlt,aJ hlt,List.take_one,List.head?_drop]
theorem y42 (hT:TOk C P) {t f d t2 b:Nat} {fs:List (Nat×Nat)} {ts:List Ty} (ht:C.info t=some (.s fs ts b)) (hf:fs[f]? =some (d,t2)) (ad:Addr):
  (Instr.fieldAt t (.pointer (some ad)) f).run P w= .ok (.pointer (some (ad.add d))) w:=by
 obtain ⟨D,hD,F,rfl,hsz,hF⟩:=hT.und t _ ht
 obtain ⟨fl,hfl,rfl,rfl,ti,hti,_⟩:=hF f d t2 hf
 have hpos: ¬ ti.ts.length=0:=by
  obtain ⟨_,_,_,_,_,_,_,h,_⟩:=hT.info _ ti hti
  omega
 simp [Instr.fieldAt,run_underlying hD,hfl,Instr.sureAddr,fieldPlace,y02 hT hti,hpos]
theorem y1k (hT:TOk C P) {t e b:Nat} {us:List Ty} (ht:C.info t=some (.c (.sl e us) b)) (ad:Addr) (len cap:Nat) (k:IntKind) (n:Int) (h0:0≤n) (h1:n<len):
  (Instr.indexAt t (.slice (some ad) len cap) (.int k n)).run P w= .ok (.pointer (some (ad.add (n.toNat*us.length)))) w:=by
 obtain ⟨D,hD,rfl,te,hte,rfl⟩:=hT.und t _ ht
 simp [Instr.indexAt,run_underlying hD,asIntOf,h0,h1,y02 hT hte]
theorem yiG (hT:TOk C P) {t b:Nat} (ht:C.info t=some (.c .str b)) (x:ByteArray) (k:IntKind) (n:Int) (h0:0≤n) (h1:n.toNat<x.size):
  (Instr.index t (.string x) (.int k n)).run P w= .ok (.int .u8 (x.get n.toNat h1).toNat) w:=by
 obtain ⟨D,hD,hDD⟩:=hT.und t _ ht
 have hDs:P.underlying t=some .string:=by rw [hD,show D= .string from hDD]
 rw [run_index_string w t x k n hDs]
 have hh:0≤n∧n<x.size:=⟨h0,by omega⟩
 rw [dif_pos hh]
 rfl
theorem yiH (hT:TOk C P) (h:Rel P w0 lent H0 s a w G) {lk:Lk} (hlk:y5e lk s) {t ty:Nat} {x:A} {n:Int} (hn:ygd lk x=some n) (hty:y8v C t x=true) {v:Value} (hv:RA G x v):
  (Builtin.len_ #[t] ty #[v]).run P w= .ok (.int .i64 n) w:=by
 cases hi:C.info t with
 |none=>simp [y8v,hi] at hty
 |some ti=>
  obtain ⟨D,hD,hDD⟩:=hT.und t _ hi
  cases ti with
  |s _ _ _=>simp [y8v,hi] at hty
  |c ct b=>
   cases ct with
   |int _=>simp [y8v,hi] at hty
   |bool=>simp [y8v,hi] at hty
   |str=>
    have hDs:P.underlying t=some .string:=by rw [hD,show D= .string from hDD]
    cases x with
    |val tx xv=>
     cases tx with
     |str=>
      rw [show v= .string xv from hv]
      have hn':((ByteArray.size xv:Nat):Int)=n:=by simpa [ygd] using hn
      subst hn'
      simp [Builtin.len_,run_underlying hDs,goInt]
     |_=>simp [y8v,hi] at hty
    |_=>simp [y8v,hi] at hty
   |sl e ts=>
    obtain ⟨rfl,_⟩:=hDD
    have key: ∀ (A:Option Addr) (m c:Nat),v= .slice A m c→(m:Int)=n→(Builtin.len_ #[t] ty #[v]).run P w= .ok (.int .i64 n) w:=by
     intro A m c hv hm
     subst hv hm
     simp [Builtin.len_,run_underlying hD,goInt]
    cases x with
    |nils=>exact key none 0 0 hv (by simpa [ygd] using hn)
    |val tx xv=>
     cases tx with
     |sl e2 ts2=>
      obtain ⟨A,c,hv,_⟩:=hv
      exact key A _ c hv (by simpa [ygd,ycD] using hn)
     |_=>simp [y8v,hi] at hty
    |own r=>
     cases hr:lk r with
     |none=>simp [ygd,ycD,hr] at hn
     |some ob=>
      cases ob with
      |root own e2 ts2 xs=>
       obtain ⟨_,_,⟨A,c,hsv,_⟩,_⟩:=qJ h (hlk r _ hr)
       exact key A _ c (hv.1.trans hsv) (by simpa [ygd,ycD,hr] using hn)
      |deep fin tag e2 ts2 xs=>
       obtain ⟨_,_,⟨A,c,hsv,_⟩,_⟩:=Kc h (hlk r _ hr)
       exact key A _ c (hv.1.trans hsv) (by simpa [ygd,ycD,hr] using hn)
      |_=>simp [ygd,ycD,hr] at hn
    |_=>simp [y8v,hi] at hty
theorem y7h {k:IntKind} {n:Int} {y:Nat} {cd:BoundsCode} (h0:0≤n) (h1:n≤y):(Instr.sliceBound (.int k n) y cd).run P w= .ok n.toNat w:=by
 simp [Instr.sliceBound,asIntOf,h0,h1]
def yDw (v:Option Value) (l:Int):Prop:=v=none∧l=0∨ ∃ k,v=some (.int k l)
def yDx (v:Option Value) (h:Int) (len:Nat):Prop:=v=none∧h=len∨ ∃ k,v=some (.int k h)
theorem y8V {b:Bool} {len cap:Nat} {lo hi:Option Value} {l h:Int} (hlo:yDw lo l) (hhi:yDx hi h len) (h0:0≤l) (h1:l≤h) (h2:h≤len) (h3:len≤cap):
  (Instr.sliceBounds b len cap lo hi none).run P w= .ok (l.toNat,h.toNat,cap) w:=by
 have hh: ∀ k cd,(Instr.sliceBound (.int k h) cap cd).run P w= .ok h.toNat w:=fun k cd=>y7h (by omega) (by omega)
 have hl: ∀ k cd,(Instr.sliceBound (.int k l) h.toNat cd).run P w= .ok l.toNat w:=fun k cd=>y7h h0 (by omega)
 rcases hlo with ⟨rfl,rfl⟩|⟨k,rfl⟩<;>rcases hhi with ⟨rfl,rfl⟩|⟨k',rfl⟩
 ·simp [Instr.sliceBounds]
 ·simp [Instr.sliceBounds,hh]
 ·have hl': ∀ k cd,(Instr.sliceBound (.int k l) len cd).run P w= .ok l.toNat w:=fun k cd=>y7h h0 (by omega)
  simp [Instr.sliceBounds,hl']
 ·simp [Instr.sliceBounds,hh,hl]
theorem yiI (hT:TOk C P) {t b:Nat} (ht:C.info t=some (.c .str b)) (x:ByteArray) {lo hi:Option Value} {l h:Int} (hlo:yDw lo l) (hhi:yDx hi h x.size) (h0:0≤l) (h1:l≤h) (h2:h≤x.size):
  (Instr.sliceAt t (.string x) lo hi none).run P w= .ok (.string (x.extract l.toNat h.toNat)) w:=by
 obtain ⟨D,hD,hDD⟩:=hT.und t _ ht
 have hDs:P.underlying t=some .string:=by rw [hD,show D= .string from hDD]
 simp [Instr.sliceAt,Instr.slice,run_underlying hDs,y8V hlo hhi h0 h1 h2 (aS _)]
theorem y0J (hT:TOk C P) {t e b:Nat} {us:List Ty} (ht:C.info t=some (.c (.sl e us) b)) (A:Option Addr) (len cap:Nat) {lo hi:Option Value} {l h:Int} (hlo:yDw lo l) (hhi:yDx hi h len) (h0:0≤l) (h1:l≤h) (h2:h≤len) (h3:len≤cap):
  (Instr.sliceAt t (.slice A len cap) lo hi none).run P w= .ok (.slice (if cap=l.toNat then A else A.map (·.add (l.toNat*us.length))) (h.toNat - l.toNat) (cap - l.toNat)) w:=by
 obtain ⟨D,hD,rfl,te,hte,rfl⟩:=hT.und t _ ht
 simp [Instr.sliceAt,Instr.slice,run_underlying hD,y8V hlo hhi h0 h1 h2 h3,y02 hT hte]
theorem yiJ {H Ht:Hp} {ts:List Ty} {xs:List (yJ ts)} {A:Option Addr} {len cap:Nat} (hr:RdR H Ht ts xs (.slice A len cap)) {l h:Nat} (h1:l≤h) (h2:h≤len):
  RdR H Ht ts ((xs.take h).drop l) (.slice (if cap=l then A else A.map (·.add (l*ts.length))) (h - l) (cap - l)):=by
 obtain ⟨A',c',e1,hc,hm,hx⟩:=hr
 injection e1 with e1 e2 e3
 subst e1 e3
 have hlen:((xs.take h).drop l).length=h - l:=by simp;omega
 refine ⟨_,_,by rw [show List.length ((xs.take h).drop l)=h - l from hlen],by simp at hlen ⊢;omega,by simp at hlen ⊢;omega,fun hp=> ?_⟩
 have hp':l<h:=by
  have:0<((xs.take h).drop l).length:=hp
  omega
 obtain ⟨ad,rfl,hrd⟩:=hx (by omega)
 have hne:cap≠l:=by omega
 refine ⟨ad.add (l*ts.length),by simp [hne],fun j x hj=> ?_⟩
 have hj':xs[l+j]? =some x:=by
  have:((xs.take h).drop l)[j]? =some x:=hj
  rw [aZ,aD] at this
  split at this
  ·exact this
  ·cases this
 have:=hrd (l+j) x hj'
 refine RdE.mono (Hp.le.refl H) ts x _ _ (fun k v hv=> ?_) this
 rw [Addr.add_add]
 rw [show l*ts.length+(j*ts.length+k)=(l+j)*ts.length+k by rw [bn];omega]
 exact hv
theorem ynu {H:Hp} {e:Nat} {ts:List Ty} {xs:List (yJ ts)} {A:Option Addr} {len cap:Nat} (hr:RdT H (.sl e ts) xs (.slice A len cap)) {l h:Nat} (h1:l≤h) (h2:h≤len):
  RdT H (.sl e ts) ((xs.take h).drop l) (.slice (if cap=l then A else A.map (·.add (l*ts.length))) (h - l) (cap - l)):=yiJ (H:=H) (Ht:=H) hr h1 h2
end
section
variable {P:Program} {C:Ctx} {w0:World} {lent:Nat→Prop} {H0:Base} {s:St} {a:Act} {w:World} {G:Gh} {o:Oper} {K:Act→World→Prop} {Q:Exit→Act→World→Prop}
def Gh.upd (G:Gh) (d:Nat) (gg:Nat×Nat) (v:Value) (z:Nat×Nat):Gh:=
 {H:=G.H,g:=fun j=>if j=d then gg else G.g j,sv:=fun j=>if j=d then v else G.sv j,sz:=fun j=>if j=d then z else G.sz j,dp:=G.dp,hd:=G.hd,pv:=G.pv}
theorem Gh.upd_agree (G:Gh) (d:Nat) (gg:Nat×Nat) (v:Value) (z:Nat×Nat):Agree G (G.upd d gg v z) d:=
 ⟨Hp.le.refl _,fun j hj=>by simp [Gh.upd,hj],fun j hj=>by simp [Gh.upd,hj],fun j hj=>by simp [Gh.upd,hj],fun _ _=>rfl,fun _ _=>rfl,rfl⟩
def Gh.updD (G:Gh) (d:Nat) (gg:Nat×Nat) (v:Value) (z:Nat×Nat) (B:Nat→Prop) (hh:Nat→Value):Gh:=
 {H:=G.H,g:=fun j=>if j=d then gg else G.g j,sv:=fun j=>if j=d then v else G.sv j,sz:=fun j=>if j=d then z else G.sz j,dp:=fun j=>if j=d then B else G.dp j,hd:=fun j=>if j=d then hh else G.hd j,pv:=G.pv}
theorem Gh.updD_agree (G:Gh) (d:Nat) (gg:Nat×Nat) (v:Value) (z:Nat×Nat) (B:Nat→Prop) (hh:Nat→Value):Agree G (G.updD d gg v z B hh) d:=
 ⟨Hp.le.refl _,fun j hj=>by simp [Gh.updD,hj],fun j hj=>by simp [Gh.updD,hj],fun j hj=>by simp [Gh.updD,hj],fun j hj=>by simp [Gh.updD,hj],fun j hj=>by simp [Gh.updD,hj],rfl⟩
theorem qC.forget {k d:Nat} (hf:qC w0 lent s G k) {G':Gh} (hag:Agree G G' d) (hH:G'.H=G.H):qC w0 lent (s.forget d) G' k:=by
 refine ⟨by rw [hH];exact hf.1,hf.2.1,fun j oj hj hb=> ?_⟩
 have hj':yF (YY d s.o) j=some oj:=hj
 rw [kP] at hj'
 by_cases hjd:j=d
 ·simp [hjd] at hj'
 ·simp only [hjd,aU] at hj'
  obtain ⟨o1,h1,rfl⟩:=aq.1 hj'
  rw [y01 hag hjd] at hb
  exact hf.2.2 j o1 h1 hb
theorem y1H (s:St) (d:Nat):yF (s.forget d).o d=none:=by
 show yF (YY d s.o) d=none
 rw [kP]
 simp
theorem Rel.makeA (h:Rel P w0 lent H0 s a w G) {d:Nat} {ob:Ob} {w':World} {G':Gh} (hag:Agree G G' d) (hH:G'.H=G.H) (hos:w'.os=w.os) (htape:w'.tape=w.tape) (hout:w'.output=w.output) (hsz:w.heap.size≤w'.heap.size)
  (hk: ∀ k,k<w.heap.size→w'.heap[k]? =w.heap[k]? ∨qC w0 lent s G k) (hro:RO G' w' d ob) (hb: ∀ k,ze G' d ob k→qC w0 lent s G k) (hp: ∀ b,H0.pin d=some b→G'.g d=b):
  Rel P w0 lent H0 (s.make d ob) a w' G':=by
 have h1:=(h.heap hos htape hout hsz hk).forget hag hH
 exact h1.add (y1H s d) hro (fun k hk'=>(hb k hk').forget hag hH) hp
theorem Rel.make (h:Rel P w0 lent H0 s a w G) {d:Nat} {ob:Ob} {w':World} {gg:Nat×Nat} {v:Value} {z:Nat×Nat} (hos:w'.os=w.os) (htape:w'.tape=w.tape) (hout:w'.output=w.output) (hsz:w.heap.size≤w'.heap.size)
  (hk: ∀ k,k<w.heap.size→w'.heap[k]? =w.heap[k]? ∨qC w0 lent s G k) (hro:RO (G.upd d gg v z) w' d ob) (hb: ∀ k,ze (G.upd d gg v z) d ob k→qC w0 lent s G k) (hp: ∀ b,H0.pin d=some b→gg=b):
  Rel P w0 lent H0 (s.make d ob) a w' (G.upd d gg v z):=by
 have h1:=(h.heap hos htape hout hsz hk).forget (G.upd_agree d gg v z) rfl
 exact h1.add (y1H s d) hro (fun k hk'=>(hb k hk').forget (G.upd_agree d gg v z) rfl) fun b hb'=>by
  show (if d=d then gg else G.g d)=b
  rw [af rfl]
  exact hp b hb'
theorem yle (w:World) (cs:Array Value) (t j:Nat):(w.alloc (.cells cs t)).cell? ⟨w.heap.size,j,none⟩=cs[j]? :=by
 simp [World.cell?,World.alloc,-World.alloc_eq]
theorem yhB (w:World) (cs:Array Value) (t j:Nat):(w.alloc (.cells cs t)).frozen? ⟨w.heap.size,j,none⟩=false:=by
 simp [World.frozen?,World.alloc,-World.alloc_eq]
theorem jl (w:World) (ob:Obj) {k:Nat} (hk:k<w.heap.size):(w.alloc ob).heap[k]? =w.heap[k]? :=heap_alloc_old w ob k hk
theorem Rel.newBox (h:Rel P w0 lent H0 s a w G) (d t:Nat) (hd:H0.pin d=none) {l:List A} {cs:List Value} (hl:RL G l cs) (h1: ∀ v∈cs,v.oneCell'=true):
  ∃ G',G'.H=G.H∧Rel P w0 lent H0 (s.make d (.box (zy d l))) a (w.alloc (.cells cs.toArray t)) G'∧RA G' (.box d 0) (.pointer (some ⟨w.heap.size,0,none⟩)):=by
 refine ⟨G.upd d (w.heap.size,0) undef (0,0),rfl,h.make rfl rfl rfl (by simp [World.alloc,-World.alloc_eq]) (fun k hk=> .inl (jl w _ hk)) ⟨by simp [Gh.upd,World.alloc,-World.alloc_eq],fun j x hx=> ?_⟩ (fun k hk=> ?_) (fun b hb=>by rw [hd] at hb;cases hb),by simp [RA,Gh.upd]⟩
 ·rw [vV] at hx
  obtain ⟨y,hy,rfl⟩:=aq.1 hx
  obtain ⟨v,hv,hr⟩:=hl.get j y hy
  simp only [Gh.upd,aB,aK]
  refine ⟨yhB w _ _ _,v,by rw [yle];simpa using hv,h1 v (aV hv),?_⟩
  exact RA.forget (G.upd_agree d (w.heap.size,0) undef (0,0)) y v hr
 ·have:w.heap.size=k:=by simpa [ze,Gh.upd] using hk
  exact h.free_new (by omega)
theorem Rel.newRoot' (h:Rel P w0 lent H0 s a w G) (d:Nat) (hd:H0.pin d=none) {e:Nat} {ts:List Ty} {xs:List (yJ ts)} {v:Value} {w':World} {cells:List Value} (hos:w'.os=w.os) (htape:w'.tape=w.tape) (hout:w'.output=w.output) (hsz:w.heap.size≤w'.heap.size)
  (hk: ∀ k,k<w.heap.size→w'.heap[k]? =w.heap[k]? ∨qC w0 lent s G k) (hpos:0<ts.length) (hown:w'.ownsRow 0 e ts.length v xs.length cells) (hone: ∀ u∈cells,u.oneCell'=true)
  (hb: ∀ k,v.ownBlock=some k→qC w0 lent s G k) (hrd: ∀ (j:Nat) (x:yJ ts),xs[j]? =some x→RdE G.H ts x (fun k=>cells[j*ts.length+k]?)):
  Rel P w0 lent H0 (s.make d (.root true e ts xs)) a w' (G.upd d ((v.ownBlock).getD 0,0) v (ts.length,xs.length))∧RA (G.upd d ((v.ownBlock).getD 0,0) v (ts.length,xs.length)) (.own d) v:=by
 refine ⟨h.make hos htape hout hsz hk ⟨by simp [Gh.upd],hpos,cells,by simpa [Gh.upd] using hown,hone,fun k hk'=> ?_,fun j x hx=>hrd j x hx⟩ (fun k hk'=>hb k (by simpa [ze,Gh.upd] using hk')) (fun b hb=>by rw [hd] at hb;cases hb),?_⟩
 ·have hk2:v.ownBlock=some k:=by simpa [Gh.upd] using hk'
  simp [Gh.upd,hk2]
 ·refine ⟨by simp [Gh.upd],?_⟩
  rcases hown.2 with ⟨rfl,_⟩|⟨g,cap,cur,rfl,_⟩
  ·exact ⟨_,_,_,rfl⟩
  ·exact ⟨_,_,_,rfl⟩
theorem Rel.newRoot (h:Rel P w0 lent H0 s a w G) (d:Nat) (hd:H0.pin d=none) {e:Nat} {ts:List Ty} {xs:List (yJ ts)} {v:Value} {w':World} {cells:List Value} (hos:w'.os=w.os) (htape:w'.tape=w.tape) (hout:w'.output=w.output) (hsz:w.heap.size≤w'.heap.size)
  (hk: ∀ k,k<w.heap.size→w'.heap[k]? =w.heap[k]? ∨qC w0 lent s G k) (hpos:0<ts.length) (hown:w'.ownsRow 0 e ts.length v xs.length cells) (hone: ∀ u∈cells,u.oneCell'=true)
  (hb: ∀ k,v.ownBlock=some k→qC w0 lent s G k) (hrd: ∀ (j:Nat) (x:yJ ts),xs[j]? =some x→RdE G.H ts x (fun k=>cells[j*ts.length+k]?)):
  ∃ G',G'.H=G.H∧Rel P w0 lent H0 (s.make d (.root true e ts xs)) a w' G'∧RA G' (.own d) v:=
 ⟨G.upd d ((v.ownBlock).getD 0,0) v (ts.length,xs.length),rfl,h.newRoot' d hd hos htape hout hsz hk hpos hown hone hb hrd⟩
theorem Rel.newDeep (h:Rel P w0 lent H0 s a w G) (d:Nat) (hd:H0.pin d=none) {fin:Bool} {tag:Nat} {e:Nat} {ts:List Ty} {xs:List (yJ ts)} {v:Value} {w':World} {cells:List Value} {Bs:Nat→Nat→Prop} {B:Nat→Prop} (hos:w'.os=w.os) (htape:w'.tape=w.tape) (hout:w'.output=w.output) (hsz:w.heap.size≤w'.heap.size)
  (hk: ∀ k,k<w.heap.size→w'.heap[k]? =w.heap[k]? ∨qC w0 lent s G k) (hr:DpR w' B e ts xs v cells Bs) (htag:0<tag→v=G.pv (tag - 1)) (hlt: ∀ k,B k→k<w'.heap.size)
  (hb: ∀ k,B k→qC w0 lent s G k):
  Rel P w0 lent H0 (s.make d (.deep fin tag e ts xs)) a w' (G.updD d ((v.ownBlock).getD 0,0) v (ts.length,xs.length) B (fun m=>cells.getD m undef))∧RA (G.updD d ((v.ownBlock).getD 0,0) v (ts.length,xs.length) B (fun m=>cells.getD m undef)) (.own d) v:=by
 refine ⟨h.makeA (G.updD_agree d _ v _ B _) rfl hos htape hout hsz hk ⟨by simp [Gh.updD],fun k hk'=>hlt k (by simpa [Gh.updD] using hk'),fun ht=>by simpa [Gh.updD] using htag ht,fun k hk'=> ?_,cells,Bs,by simpa [Gh.updD] using hr,fun _ m A n c hm=> ?_⟩ (fun k hk'=>hb k (by simpa [ze,Gh.updD] using hk')) (fun b hb=>by rw [hd] at hb;cases hb),?_⟩
 ·have hk2:v.ownBlock=some k:=by simpa [Gh.updD] using hk'
  simp [Gh.updD,hk2]
 ·simp [Gh.updD,au,hm]
 ·refine ⟨by simp [Gh.updD],?_⟩
  rcases hr.row.2 with ⟨rfl,_⟩|⟨g,cap,cur,rfl,_⟩
  ·exact ⟨_,_,_,rfl⟩
  ·exact ⟨_,_,_,rfl⟩
theorem Rel.newDeep' (h:Rel P w0 lent H0 s a w G) (d:Nat) (hd:H0.pin d=none) {fin:Bool} {tag:Nat} {e:Nat} {ts:List Ty} {xs:List (yJ ts)} {v:Value} {w':World} {cells:List Value} {Bs:Nat→Nat→Prop} {B:Nat→Prop} (hos:w'.os=w.os) (htape:w'.tape=w.tape) (hout:w'.output=w.output) (hsz:w.heap.size≤w'.heap.size)
  (hk: ∀ k,k<w.heap.size→w'.heap[k]? =w.heap[k]? ∨qC w0 lent s G k) (hr:DpR w' B e ts xs v cells Bs) (htag:0<tag→v=G.pv (tag - 1)) (hlt: ∀ k,B k→k<w'.heap.size)
  (hb: ∀ k,B k→qC w0 lent s G k): ∃ G',G'.H=G.H∧Rel P w0 lent H0 (s.make d (.deep fin tag e ts xs)) a w' G'∧RA G' (.own d) v:=
 ⟨G.updD d ((v.ownBlock).getD 0,0) v (ts.length,xs.length) B (fun m=>cells.getD m undef),rfl,h.newDeep d hd hos htape hout hsz hk hr htag hlt hb⟩
theorem Rel.newH (h:Rel P w0 lent H0 s a w G) {w':World} (hos:w'.os=w.os) (htape:w'.tape=w.tape) (hout:w'.output=w.output) (hsz:w.heap.size≤w'.heap.size)
  (hk: ∀ k,k<w.heap.size→w'.heap[k]? =w.heap[k]?): ∃ G',Rel P w0 lent H0 s a w' G'∧G.H.le G'.H∧ ∀ k,w.heap.size≤k→G'.H k=w'.heap[k]? :=by
 have h1:=h.heap hos htape hout hsz fun k hk'=> .inl (hk k hk')
 have hlt: ∀ k ob,G.H k=some ob→k<w.heap.size:=fun k ob hH=>(aM.1 (h.inH k ob hH)).1
 refine ⟨_,h1.grow (H':=fun k=>if w.heap.size≤k then w'.heap[k]? else G.H k) (fun k ob hH=> ?_) (fun k ob hH=> ?_) (fun j oj k hj hbk=> ?_) (fun k ob hH=> ?_),fun k ob hH=> ?_,fun k hk'=> ?_⟩
 ·show (if w.heap.size≤k then w'.heap[k]? else G.H k)=some ob
  rw [am (by have:=hlt k ob hH;omega)]
  exact hH
 ·have hH':(if w.heap.size≤k then w'.heap[k]? else G.H k)=some ob:=hH
  by_cases hle:w.heap.size≤k
  ·rw [af hle] at hH'
   exact hH'
  ·rw [am hle] at hH'
   exact h1.inH k ob hH'
 ·have:=(h.objs j oj hj).blk hbk
  show (if w.heap.size≤k then w'.heap[k]? else G.H k)=none
  rw [am (by omega)]
  exact (h.away j oj k hj hbk).1
 ·have hH':(if w.heap.size≤k then w'.heap[k]? else G.H k)=some ob:=hH
  split at hH'
  ·rename_i hle
   exact .inr (.inl (aO h.size hle))
  ·exact .inl hH'
 ·show (if w.heap.size≤k then w'.heap[k]? else G.H k)=some ob
  rw [am (by have:=hlt k ob hH;omega)]
  exact hH
 ·show (if w.heap.size≤k then w'.heap[k]? else G.H k)=_
  rw [af hk']
structure Grown (G G':Gh):Prop where
 H:G.H.le G'.H
 g:G'.g=G.g
 sv:G'.sv=G.sv
 sz:G'.sz=G.sz
 dp:G'.dp=G.dp
 hd:G'.hd=G.hd
 pv:G'.pv=G.pv
theorem Grown.refl (G:Gh):Grown G G:=⟨Hp.le.refl _,rfl,rfl,rfl,rfl,rfl,rfl⟩
theorem Grown.trans {G G' G'':Gh} (h:Grown G G') (h':Grown G' G''):Grown G G'':=⟨h.H.trans h'.H,h'.g.trans h.g,h'.sv.trans h.sv,h'.sz.trans h.sz,h'.dp.trans h.dp,h'.hd.trans h.hd,h'.pv.trans h.pv⟩
theorem RA.grown {G G':Gh} (h:Grown G G') {x:A} {v:Value} (hr:RA G x v):RA G' x v:=RA.mono h.H h.g h.sv h.sz h.hd h.pv x v hr
theorem RL.grown {G G':Gh} (h:Grown G G') {x:List A} {v:List Value} (hr:RL G x v):RL G' x v:=RL.mono h.H h.g h.sv h.sz h.hd h.pv x v hr
def Rw (ob:Ob) (e:Nat) (ts:List Ty) (xs:List (yJ ts)):Prop:=(∃ own,ob= .root own e ts xs)∨ ∃ fin tag,ob= .deep fin tag e ts xs
theorem Rw.same {ob:Ob} {e e':Nat} {ts ts':List Ty} {xs:List (yJ ts)} {xs':List (yJ ts')} (h:Rw ob e ts xs) (h':Rw ob e' ts' xs'): ∃ he:e=e',∃ ht:ts=ts',ht ▸ xs=xs':=by
 rcases h with ⟨own,rfl⟩|⟨fin,tag,rfl⟩<;>rcases h' with ⟨own',h'⟩|⟨fin',tag',h'⟩
 ·injection h' with _ h3 h4 h5
  subst h3 h4
  exact ⟨rfl,rfl,eq_of_heq h5⟩
 ·cases h'
 ·cases h'
 ·injection h' with _ _ h3 h4 h5
  subst h3 h4
  exact ⟨rfl,rfl,eq_of_heq h5⟩
theorem Rel.settleD (h:Rel P w0 lent H0 s a w G) {i e tag:Nat} {fin:Bool} {ts:List Ty} {xs:List (yJ ts)} (hi:yF s.o i=some (.deep fin tag e ts xs)):
  ∃ G',Grown G G'∧Rel P w0 lent H0 (s.set i (.root false e ts xs)) a w G'∧RdT G'.H (.sl e ts) xs (G'.sv i):=by
 classical
 obtain ⟨hsz,hpos,⟨A,c,hsv,hc,hm,hA⟩,cells,Bs,hd,_,_⟩:=Kc h hi
 have hgone:=h.gone i
 let H':Hp:=fun k=>if G.dp i k then w.heap[k]? else G.H k
 have hle:G.H.le H':=fun k ob hH=>by
  show (if G.dp i k then w.heap[k]? else G.H k)=some ob
  split
  ·exact h.inH k ob hH
  ·exact hH
 have hin:H'.le (Zv w):=fun k ob hH=>by
  have hH':(if G.dp i k then w.heap[k]? else G.H k)=some ob:=hH
  split at hH'
  ·exact hH'
  ·exact h.inH k ob hH'
 have h2:=hgone.grow hle hin (fun j oj k hj hb=>by
  have hj':yF (Vx s.o i .gone) j=some oj:=hj
  rw [Yj] at hj'
  by_cases hji:j=i
  ·simp only [hji,aB] at hj'
   obtain ⟨_,_,rfl⟩:=aq.1 hj'
   simp [ze] at hb
  ·simp only [hji,aU] at hj'
   have hne: ¬ G.dp i k:=fun he=>hji (h.apart j i oj _ k hj' hi hb he)
   show (if G.dp i k then w.heap[k]? else G.H k)=none
   rw [am hne]
   exact (h.away j oj k hj' hb).1) (fun k ob hH=>by
  have hH':(if G.dp i k then w.heap[k]? else G.H k)=some ob:=hH
  split at hH'
  ·rename_i he
   exact .inr (h.away i _ k hi he).2
  ·exact .inl hH')
 have hrd:RdT H' (.sl e ts) xs (G.sv i):=DpT.rd (.sl e ts) (G.dp i) xs _ (fun k hk=>by
  show (if G.dp i k then w.heap[k]? else G.H k)=_
  rw [af hk]) (DpT.row.2 ⟨cells,Bs,hd⟩)
 have h3:=h2.set (i:=i) (ob:= .root false e ts xs) ⟨hsz,hpos,hrd,fun hp=>⟨c,by rw [← hA hp];exact hsv⟩⟩ (fun k hk=>by simp [ze] at hk)
 rw [St.set_set] at h3
 exact ⟨{G with H:=H'},⟨hle,rfl,rfl,rfl,rfl,rfl,rfl⟩,h3,hrd⟩
theorem Rel.settle (h:Rel P w0 lent H0 s a w G) {i e:Nat} {own:Bool} {ts:List Ty} {xs:List (yJ ts)} (hi:yF s.o i=some (.root own e ts xs)):
  ∃ G',Grown G G'∧Rel P w0 lent H0 (s.set i (.root false e ts xs)) a w G'∧RdT G'.H (.sl e ts) xs (G'.sv i):=by
 obtain ⟨hsz,hpos,⟨A,c,hsv,hc,hm,hA⟩,hrow⟩:=qJ h hi
 have hro:=h.objs i _ hi
 cases own with
 |false=>exact ⟨G,Grown.refl G,h.set hro (fun k hk=>by simp [ze] at hk),hro.2.2.1⟩
 |true=>
  obtain ⟨_,_,cells,hown,hone,hg,hcells⟩:=hro
  have hgone:=h.gone i
  let H':Hp:=fun k=>if (G.sv i).ownBlock=some k then w.heap[k]? else G.H k
  have hle:G.H.le H':=fun k ob hH=>by
   show (if (G.sv i).ownBlock=some k then w.heap[k]? else G.H k)=some ob
   split
   ·exact h.inH k ob hH
   ·exact hH
  have hin:H'.le (Zv w):=fun k ob hH=>by
   have hH':(if (G.sv i).ownBlock=some k then w.heap[k]? else G.H k)=some ob:=hH
   split at hH'
   ·exact hH'
   ·exact h.inH k ob hH'
  have h2:=hgone.grow hle hin (fun j oj k hj hb=>by
   have hj':yF (Vx s.o i .gone) j=some oj:=hj
   rw [Yj] at hj'
   by_cases hji:j=i
   ·simp only [hji,aB] at hj'
    obtain ⟨_,_,rfl⟩:=aq.1 hj'
    simp [ze] at hb
   ·simp only [hji,aU] at hj'
    have hne:(G.sv i).ownBlock≠some k:=fun he=>hji (h.apart j i oj _ k hj' hi hb he)
    show (if (G.sv i).ownBlock=some k then w.heap[k]? else G.H k)=none
    rw [am hne]
    exact (h.away j oj k hj' hb).1) (fun k ob hH=>by
   have hH':(if (G.sv i).ownBlock=some k then w.heap[k]? else G.H k)=some ob:=hH
   split at hH'
   ·rename_i he
    exact .inr (h.away i _ k hi he).2
   ·exact .inl hH')
  have hrd:RdT H' (.sl e ts) xs (G.sv i):=by
   refine ⟨A,c,hsv,hc,hm,fun hp=>⟨_,hA hp,fun j x hx=> ?_⟩⟩
   have hb:(G.sv i).ownBlock=some (G.g i).1:=by rw [hsv,hA hp];rfl
   refine RdE.ext ts x _ _ (fun k v hk hv=> ?_) (RdE.mono hle ts x _ _ (fun _ _ hv=>hv) (hrow j x hx))
   rw [af hk] at hv
   rw [JR]
   show y3z H' _=_
   unfold y3z
   have:H' (G.g i).1=w.heap[(G.g i).1]? :=by
    show (if (G.sv i).ownBlock=some (G.g i).1 then _ else _)=_
    rw [af hb]
   rw [this]
   exact hv
  have h3:=h2.set (i:=i) (ob:= .root false e ts xs) ⟨hsz,hpos,hrd,fun hp=>⟨c,by rw [← hA hp];exact hsv⟩⟩ (fun k hk=>by simp [ze] at hk)
  rw [St.set_set] at h3
  exact ⟨{G with H:=H'},⟨hle,rfl,rfl,rfl,rfl,rfl,rfl⟩,h3,hrd⟩
theorem Rel.settleW (h:Rel P w0 lent H0 s a w G) {i e:Nat} {ob:Ob} {ts:List Ty} {xs:List (yJ ts)} (hi:yF s.o i=some ob) (hw:Rw ob e ts xs):
  ∃ G',Grown G G'∧Rel P w0 lent H0 (s.set i (.root false e ts xs)) a w G'∧RdT G'.H (.sl e ts) xs (G'.sv i):=by
 rcases hw with ⟨own,rfl⟩|⟨fin,tag,rfl⟩
 ·exact h.settle hi
 ·exact h.settleD hi
end
section
variable {P:Program} {C:Ctx} {w0:World} {lent:Nat→Prop} {H0:Base} {s:St} {a:Act} {w:World} {G:Gh} {o:Oper} {K:Act→World→Prop} {Q:Exit→Act→World→Prop}
def zR (cur:Array Value) (o:Nat):List Value→Array Value
 |[]=>cur
 |v::r=>zR (cur.setIfInBounds o v) (o+1) r
theorem yC: ∀ (vs:List Value) (cur:Array Value) (o:Nat),(zR cur o vs).size=cur.size
 |[],_,_=>rfl
 |v::r,cur,o=>by simp [zR,yC r]
theorem zK: ∀ (vs:List Value) (cur:Array Value) (o j:Nat),o+vs.length≤cur.size→(zR cur o vs)[j]? =if o≤j∧j<o+vs.length then vs[j - o]? else cur[j]?
 |[],cur,o,j,_=>by
  simp only [zR,aj,bS]
  rw [am (by omega)]
 |v::r,cur,o,j,h=>by
  simp only [ah] at h
  rw [zR,zK r _ (o+1) j (by simp;omega)]
  by_cases h1:o+1≤j∧j<o+1+r.length
  ·rw [af h1,af (by simp;omega),show j - o=(j - (o+1))+1 by omega,cr]
  ·rw [am h1]
   by_cases h2:j=o
   ·subst h2
    rw [af (by simp),Array.getElem?_setIfInBounds_self_of_lt (by omega)]
    simp
   ·rw [am (by simp;omega),Array.getElem?_setIfInBounds_ne (fun e=>h2 e.symm)]
theorem zq (b:Nat) {e:Nat} {fz:Nat×Nat}: ∀ (vs:List Value) (o:Nat) (w:World) (cur:Array Value),w.heap[b]? =some (.cells cur e fz)→(w.setCells b o vs).heap[b]? =some (.cells (zR cur o vs) e fz)
 |[],_,_,_,h=>h
 |v::r,o,w,cur,h=>zq b r (o+1) _ _ (by
   have hlt:=(aM.1 h).1
   simp only [World.setCell,Array.getElem?_modify,aB,h,ci]
   rfl)
theorem yN (b:Nat): ∀ (vs:List Value) (o:Nat) (w:World) (k:Nat),k≠b→(w.setCells b o vs).heap[k]? =w.heap[k]?
 |[],_,_,_,_=>rfl
 |v::r,o,w,k,h=>by
  rw [World.setCells,yN b r (o+1) _ k h]
  simp only [World.setCell,Array.getElem?_modify]
  rw [am (Ne.symm h)]
theorem zg (b:Nat): ∀ (vs:List Value) (o:Nat) (w:World),(w.setCells b o vs).os=w.os∧(w.setCells b o vs).tape=w.tape∧(w.setCells b o vs).output=w.output∧(w.setCells b o vs).heap.size=w.heap.size
 |[],_,_=>⟨rfl,rfl,rfl,rfl⟩
 |v::r,o,w=>by
  obtain ⟨h1,h2,h3,h4⟩:=zg b r (o+1) (w.setCell ⟨b,o,none⟩ v)
  exact ⟨h1,h2,h3,h4.trans (by simp [World.setCell])⟩
theorem Kd {α:Type}: ∀ (l:List α) (o:Nat) (xs l':List α),JA l o xs=some l'→l'.length=l.length∧(xs=[]∨o+xs.length≤l.length)∧ ∀ j:Nat,l'[j]? =if o≤j∧j<o+xs.length then xs[j - o]? else l[j]?
 |l,o,[],l',h=>by
  have:l=l':=by simpa [JA] using h
  subst this
  refine ⟨rfl,.inl rfl,fun j=> ?_⟩
  rw [am (by simp only [aj];omega)]
 |[],o,_::_,l',h=>by simp [JA] at h
 |a::l,0,x::xs,l',h=>by
  simp only [JA] at h
  cases hr:JA l 0 xs with
  |none=>simp [hr] at h
  |some r=>
   simp only [hr,ap] at h
   subst h
   obtain ⟨h1,h2,h3⟩:=Kd l 0 xs r hr
   refine ⟨by simp [h1],.inr ?_,fun j=> ?_⟩
   ·rcases h2 with rfl|h2
    ·simp
    ·simp only [ah]
     omega
   ·cases j with
    |zero=>simp
    |succ j=>
     simp only [cr,h3 j]
     by_cases hj:0≤j∧j<0+xs.length
     ·rw [af hj,af (by simp;omega)]
      simp
     ·rw [am hj,am (by simp;omega)]
 |a::l,o+1,x::xs,l',h=>by
  simp only [JA] at h
  cases hr:JA l o (x::xs) with
  |none=>simp [hr] at h
  |some r=>
   simp only [hr,ap] at h
   subst h
   obtain ⟨h1,h2,h3⟩:=Kd l o (x::xs) r hr
   refine ⟨by simp [h1],.inr ?_,fun j=> ?_⟩
   ·rcases h2 with h2|h2
    ·simp at h2
    ·simp only [ah] at h2 ⊢
     omega
   ·cases j with
    |zero=>simp
    |succ j=>
     simp only [cr,h3 j]
     by_cases hj:o≤j∧j<o+(x::xs).length
     ·rw [af hj,af (by simp at hj ⊢;omega),show j+1 - (o+1)=j - o by omega]
     ·rw [am hj,am (by simp at hj ⊢;omega)]
theorem Q3 {G:Gh}: ∀ {l:List A} {vs:List Value},k6 l=true→RL G l vs→ ∀ v∈vs,v.oneCell'=true
 |[],[],_,_,v,hv=>by simp at hv
 |x::l,u::vs,h,hr,v,hv=>by
  simp only [k6,al] at h
  rcases aA.1 hv with rfl|hv
  ·exact (y41 h.1 hr.1).1
  ·exact Q3 h.2 hr.2 v hv
theorem Q4 {G:Gh} {x:A} {v:Value} (h1:k6 x.cells=true) (hr:RA G x v):RL G x.cells v.cells.toList:=by
 cases x with
 |agg l=>
  obtain ⟨cs,rfl,hl⟩:=hr
  simpa [A.cells,Value.cells] using hl
 |_=>
  simp only [A.cells,k6,Bool.and_true] at h1
  have:=(y41 h1 hr).2
  rw [this]
  exact ⟨hr,trivial⟩
theorem jY (h:Rel P w0 lent H0 s a w G) {i k:Nat} {ob:Ob} (hi:yF s.o i=some ob) (hb:ze G i ob k):qC w0 lent (s.set i .gone) G k:=by
 obtain ⟨h1,h2⟩:=h.away i ob k hi hb
 refine ⟨h1,h2,fun j oj hj hbj=> ?_⟩
 have hj':yF (Vx s.o i .gone) j=some oj:=hj
 rw [Yj] at hj'
 by_cases hji:j=i
 ·simp only [hji,aB] at hj'
  obtain ⟨_,_,rfl⟩:=aq.1 hj'
  simp [ze] at hbj
 ·simp only [hji,aU] at hj'
  exact hji (h.apart j i oj ob k hj' hi hbj hb)
theorem Rel.setBox (h:Rel P w0 lent H0 s a w G) {b off:Nat} {cs cs' l:List A} {vs:List Value} (hb:yF s.o b=some (.box cs)) (hr:JA cs off l=some cs') (hl:RL G l vs) (h1: ∀ v∈vs,v.oneCell'=true):
  Rel P w0 lent H0 (s.set b (.box cs')) a (w.setCells (G.g b).1 ((G.g b).2+off) vs) G∧
  (∀ j,j<vs.length→(w.cell? ⟨(G.g b).1,(G.g b).2+off+j,none⟩).isSome=true∧w.frozen? ⟨(G.g b).1,(G.g b).2+off+j,none⟩=false):=by
 obtain ⟨hlen,hfit,hget⟩:=Kd cs off l cs' hr
 have hro:=h.objs b _ hb
 have hll:=hl.length
 have hin: ∀ j,j<vs.length→(w.cell? ⟨(G.g b).1,(G.g b).2+off+j,none⟩).isSome=true∧w.frozen? ⟨(G.g b).1,(G.g b).2+off+j,none⟩=false:=by
  intro j hj
  have hlt:off+j<cs.length:=by
   rcases hfit with rfl|hfit
   ·simp at hll
    omega
   ·omega
  obtain ⟨hf,v,hv,_⟩:=hro.2 (off+j) _ (aJ hlt)
  rw [← bN] at hf hv
  exact ⟨by rw [hv];rfl,hf⟩
 refine ⟨?_,hin⟩
 obtain ⟨e1,e2,e3,e4⟩:=zg (G.g b).1 vs ((G.g b).2+off) w
 have h2:=(h.gone b).heap (w':=w.setCells (G.g b).1 ((G.g b).2+off) vs) e1 e2 e3 (by omega) (fun k hk=>by
  by_cases hkb:k=(G.g b).1
  ·subst hkb
   exact .inr (jY h hb rfl)
  ·exact .inl (yN _ _ _ _ _ hkb))
 have h3:=h2.set (i:=b) (ob:= .box cs') ⟨by rw [e4];exact hro.1,fun j x hx=> ?_⟩ (fun k hk=> ?_)
 ·rw [St.set_set] at h3
  exact h3
 ·rw [World.frozen?_setCells]
  rw [hget j] at hx
  by_cases hj:off≤j∧j<off+l.length
  ·rw [af hj] at hx
   obtain ⟨v,hv,hrv⟩:=hl.get (j - off) x hx
   have hlt:j - off<vs.length:=by omega
   have hcell:=World.cell?_setCells_in (G.g b).1 vs ((G.g b).2+off) w (fun i hi=>(hin i hi).1) (j - off) hlt
   rw [show (G.g b).2+off+(j - off)=(G.g b).2+j by omega] at hcell
   have hvv:vs[j - off]=v:=by
    rw [aJ hlt] at hv
    injection hv
   rw [hvv] at hcell
   refine ⟨?_,v,hcell,h1 v (aV hv),hrv⟩
   have:=(hin (j - off) hlt).2
   rwa [show (G.g b).2+off+(j - off)=(G.g b).2+j by omega] at this
  ·rw [am hj] at hx
   obtain ⟨hf,v,hv,h1v,hrv⟩:=hro.2 j x hx
   refine ⟨hf,v,?_,h1v,hrv⟩
   rw [World.cell?_setCells_out (G.g b).1 vs ((G.g b).2+off) w _ (fun _ _=>by simp only;omega)]
   exact hv
 ·have hk':(G.g b).1=k:=by simpa [ze] using hk
  subst hk'
  obtain ⟨f1,f2,f3⟩:=jY h hb rfl
  exact ⟨f1,f2,fun j oj _ hj=>f3 j oj hj⟩
theorem y4z (hT:TOk C P) {t:Nat} {ti:TI} (ht:C.info t=some ti) (b o:Nat) (v:Value) (hl:v.cells.toList.length=ti.ts.length) (hin: ∀ j,j<v.cells.toList.length→(w.cell? ⟨b,o+j,none⟩).isSome=true∧w.frozen? ⟨b,o+j,none⟩=false) (h1: ∀ u∈v.cells.toList,u.oneCell'=true):
  (Instr.storeAt t (.pointer (some ⟨b,o,none⟩)) v).run P w= .ok () (w.setCells b o v.cells.toList):=by
 have h2:=run_storeCells_cells (P:=P) b o v.cells.toList 0 w (fun j hj=>by simpa using (hin j hj).1) (fun j hj=>by simpa using (hin j hj).2) h1
 have hl':v.cells.size=ti.ts.length:=by simpa using hl
 simp only [bS] at h2
 simp [Instr.storeAt,Instr.sureAddr,storeVar,y02 hT ht,hl',h2]
end
section
variable {P:Program} {C:Ctx} {w:World} {G:Gh}
theorem y25: ∀ (ts us:List Ty) (l m:List A) (r:Bool),YF (ts++us) l m=some r→ ∃ r1 r2,YF ts (l.take ts.length) (m.take ts.length)=some r1∧YF us (l.drop ts.length) (m.drop ts.length)=some r2∧r=(r1&&r2)∧ts.length≤l.length∧ts.length≤m.length
 |[],us,l,m,r,h=>⟨true,r,by simp [YF],by simpa using h,by simp,by simp,by simp⟩
 |t::ts,us,a::l,b::m,r,h=>by
  simp only [bp,YF] at h
  cases hc:y40 t a b with
  |none=>simp [hc] at h
  |some u=>
   simp only [hc] at h
   cases hr:YF (ts++us) l m with
   |none=>simp [hr] at h
   |some v=>
    simp only [hr,ci,ap] at h
    obtain ⟨r1,r2,e1,e2,e3,e4,e5⟩:=y25 ts us l m v hr
    refine ⟨u&&r1,r2,by simp [YF,hc,e1],by simpa using e2,?_,by simpa using e4,by simpa using e5⟩
    subst h e3
    cases u<;>simp
 |t::ts,us,[],_,r,h=>by simp [YF] at h
 |t::ts,us,_::_,[],r,h=>by simp [YF] at h
def ylf (ti:TI) (cs:List Value):Value:=if ti.isAgg then .agg cs.toArray else cs.headD undef
theorem ygi (hT:TOk C P) {t:Nat} {ti:TI} (ht:C.info t=some ti) (cs:List Value) (off:Nat) (h:off+ti.ts.length≤cs.length):(part t cs.toArray off).run P w= .ok (ylf ti ((cs.drop off).take ti.ts.length)) w:=by
 simp only [part,Sem.run_bind,y4w hT ht,Result.andThen_ok]
 unfold ylf
 cases hb:ti.isAgg with
 |true=>simp [y02 hT ht,List.take_drop]
 |false=>
  have hone:ti.ts.length=1:=by
   cases ti with
   |c _ _=>rfl
   |s _ _ _=>simp [TI.isAgg] at hb
  rw [hone] at h ⊢
  have hlt:off<cs.length:=by omega
  simp [hlt,aJ hlt,List.take_one,List.head?_drop]
theorem yhC (hT:TOk C P) {t b:Nat} {ty:Ty} (ht:C.info t=some (.c ty b)) {x y:A} {v u:Value} {r:Bool} (h:y40 ty x y=some r) (hx:RA G x v) (hy:RA G y u) (d:Nat):(Op.equalIn (d+1) t v u).run P w= .ok r w:=by
 obtain ⟨D,hD,hDD⟩:=hT.und t _ ht
 unfold y40 at h
 split at h
 ·rename_i k0 k1 x k2 y
  split at h
  ·rename_i hk
   injection h with h
   subst h
   subst hk
   rw [show v= .int _ x from hx,show u= .int _ y from hy]
   exact run_equalIn_int w d t _ _ _ _ (by rw [hD,show D=_ from hDD])
  ·cases h
 ·rename_i x y
  injection h with h
  subst h
  rw [show v= .bool x from hx,show u= .bool y from hy]
  exact run_equalIn_bool' w d t _ _ (by rw [hD,show D=_ from hDD])
 ·rename_i x y
  injection h with h
  subst h
  rw [show v= .string x from hx,show u= .string y from hy]
  exact run_equalIn_string w d t _ _ (by rw [hD,show D=_ from hDD])
 ·cases h
theorem y7i (hT:TOk C P): ∀ (n t:Nat) (ti:TI) (l m:List A) (cs ds:List Value) (r:Bool) (d:Nat),y8u C n t=true→C.info t=some ti→YF ti.ts l m=some r→RL G l cs→RL G m ds→n≤d→(Op.equalIn d t (ylf ti cs) (ylf ti ds)).run P w= .ok r w
 |0,t,ti,l,m,cs,ds,r,d,hr,_,_,_,_,_=>by simp [y8u] at hr
 |n+1,t,ti,l,m,cs,ds,r,0,hr,ht,he,hl,hm,hn=>by omega
 |n+1,t,.c ty b,l,m,cs,ds,r,d+1,hr,ht,he,hl,hm,hn=>by
  match l,m,cs,ds,he,hl,hm with
  |[x],[y],[v],[u],he,hl,hm=>
   simp only [TI.ts,YF] at he
   cases hc:y40 ty x y with
   |none=>simp [hc] at he
   |some q=>
    simp [hc] at he
    subst he
    exact yhC hT ht hc hl.1 hm.1 d
  |[],_,_,_,he,_,_=>simp [TI.ts,YF] at he
  |[_],[],_,_,he,_,_=>simp [TI.ts,YF] at he
  |[x],y::_::_,_,_,he,_,_=>exfalso;simp only [TI.ts,YF] at he;cases hq:y40 ty x y<;>simp [hq] at he
  |x::_::_,[],_,_,he,_,_=>simp [TI.ts,YF] at he
  |x::_::_,y::_,_,_,he,_,_=>exfalso;simp only [TI.ts,YF] at he;cases hq:y40 ty x y<;>simp [hq] at he
  |[_],[_],[],_,_,hl,_=>exact hl.elim
  |[_],[_],_::_::_,_,_,hl,_=>exact hl.2.elim
  |[_],[_],[_],[],_,_,hm=>exact hm.elim
  |[_],[_],[_],_::_::_,_,_,hm=>exact hm.2.elim
 |n+1,t,.s fs ts b,l,m,cs,ds,r,d+1,hr,ht,he,hl,hm,hn=>by
  obtain ⟨F,hF,hfo⟩:=hT.flds t fs ts b ht
  obtain ⟨e1,_,e3⟩:=hT.eqs t fs ts b ht
  have hfl:P.fieldsOf t=F:=by simp [Program.fieldsOf,hF]
  simp only [y8u,ht,cT] at hr
  show (Op.equalIn (d+1) t (.agg cs.toArray) (.agg ds.toArray)).run P w=_
  rw [run_equalIn_agg w d t _ _ (by rw [hfl];exact hF) e1,hfl]
  rw [hfl] at e3
  have key: ∀ (fs:List (Nat×Nat)) (F:List Field) (ts:List Ty) (off:Nat) (r:Bool),y1j C fs F ts off→(∀ p∈fs,y8u C n p.2=true)→(∀ f∈F,f.name≠ "_")→off≤l.length→off≤m.length→YF ts (l.drop off) (m.drop off)=some r→(Op.eqFields d cs.toArray ds.toArray F).run P w= .ok r w:=by
   intro fs
   induction fs with
   |nil=>
    intro F ts off r hF _ _ _ _ h
    cases F with
    |nil=>
     have:ts=[]:=hF
     subst this
     have:r=true:=by
      unfold YF at h
      split at h<;>simp_all
     subst this
     simp [Op.eqFields]
    |cons _ _=>exact hF.elim
   |cons p fs ih=>
    intro F ts off r hF hrk hnm o1 o2 h
    obtain ⟨o,tt⟩:=p
    cases F with
    |nil=>exact hF.elim
    |cons f F=>
     obtain ⟨rfl,q2,q3,ti,ts',q4,rfl,q5⟩:=hF
     obtain ⟨r1,r2,g1,g2,rfl,g4,g5⟩:=y25 ti.ts ts' _ _ r h
     simp only [aC] at g4 g5
     have hlen:=hl.length
     have hlen2:=hm.length
     have hc:=y7i hT n tt ti _ _ _ _ r1 d (hrk (o,tt) (by simp)) q4 g1 (RL.take ti.ts.length (RL.drop o hl)) (RL.take ti.ts.length (RL.drop o hm)) (by omega)
     subst q3
     simp only [Op.eqFields,af (hnm f (by simp)),Sem.run_bind,q2,ygi hT q4 cs o (by omega),ygi hT q4 ds o (by omega),hc,Result.andThen_ok]
     rw [List.drop_drop,List.drop_drop] at g2
     have:=ih F ts' (o+ti.ts.length) r2 q5 (fun p hp=>hrk p (by simp [hp])) (fun f hf=>hnm f (by simp [hf])) (by omega) (by omega) g2
     cases r1 with
     |true=>simpa using this
     |false=>simp
  exact key fs F.toList ts 0 r hfo hr e3 (by omega) (by omega) (by simpa [TI.ts] using he)
theorem yiK (hT:TOk C P) {t:Nat} {ti:TI} (ht:C.info t=some ti) {op:BinOp} {x y:A} {b:Bool} {v u:Value} (hz:yeW C op t ti x y=some b) (hx:RA G x v) (hy:RA G y u) (X Y:Operand):
  ∃ r,(do eqGuard op t X Y v u;binOp op t v u:Sem Value).run P w= .ok r w∧RA G (.val .bool b) r:=by
 cases ti with
 |c _ _=>simp [yeW] at hz
 |s fs ts bb=>
  cases x<;>try (simp [yeW] at hz;done)
  cases y<;>try (simp [yeW] at hz;done)
  rename_i l m
  obtain ⟨cs,rfl,hl⟩:=hx
  obtain ⟨ds,rfl,hm⟩:=hy
  obtain ⟨_,e2,_⟩:=hT.eqs t fs ts bb ht
  have main: ∀ r,y8u C 8 t=true→YF ts l m=some r→(Op.equalIn 10000 t (.agg cs.toArray) (.agg ds.toArray)).run P w= .ok r w:=fun r hr he=>y7i hT 8 t (.s fs ts bb) l m cs ds r 10000 hr ht he hl hm (by omega)
  simp only [Sem.run_bind,run_eqGuard_agg w op t X Y _ _ e2,Result.andThen_ok]
  simp only [yeW] at hz
  cases op<;>try (simp at hz;done)
  ·cases hr:y8u C 8 t with
   |false=>simp [hr] at hz
   |true=>
    simp only [hr,ai] at hz
    refine ⟨.bool b,?_,rfl⟩
    rw [run_eql_struct,main b hr hz]
    rfl
  ·cases hr:y8u C 8 t with
   |false=>simp [hr] at hz
   |true=>
    simp only [hr,ai] at hz
    cases hq:YF ts l m with
    |none=>simp [hq] at hz
    |some q=>
     simp only [hq,ci,ap] at hz
     subst hz
     refine ⟨.bool (!q),?_,rfl⟩
     rw [run_neq_struct,main q hr hq]
     rfl
end
section
variable {P:Program} {C:Ctx} {w0:World} {lent:Nat→Prop} {H0:Base} {s:St} {a:Act} {w:World} {G:Gh} {o:Oper} {K:Act→World→Prop} {Q:Exit→Act→World→Prop} {R:Type} {k:Eff→Option R} {r:R} {lk:Lk} {call:C.Sem} {ct wn:Bool}
def Out (o:Oper):Prop:= ∀ d,o.dst=some d→d<900∨950≤d
def y4A (P:Program) (w0:World) (lent:Nat→Prop) (H0:Base) (s:St) (o:Oper) (k:Eff→Option R) (r:R) (K:Act→World→Prop):Prop:=
 ∀ e a1 w1 G1,k e=some r→Rel P w0 lent H0 (s.apply o.dst e) a1 w1 G1→K a1 w1
theorem kQ (h:Rel P w0 lent H0 s a w G) (hK:y4A P w0 lent H0 s o k r K) {x:A} {v:Value} (hk:k ⟨[],[],x⟩=some r) (hrun:(execOp a.eval o).run P w= .ok (.value v) w) (hx:RA G x v):o.wp P a w K Q:=
 YZ hrun (hK _ _ _ G hk (h.put o.dst hx))
theorem yiL (h:Rel P w0 lent H0 s a w G) (hK:y4A P w0 lent H0 s o k r K) {x:Operand} (hop:o.op= .move x∨o.op= .assign x) (he:jb C call ct wn o s.opd lk k=some r):o.wp P a w K Q:=by
 rcases hop with hop|hop<;>simp only [jb,hop] at he<;>exact kQ h hK he (by simp only [execOp,hop];rfl) (h.opd x)
theorem yf5 (h:Rel P w0 lent H0 s a w G) (hK:y4A P w0 lent H0 s o k r K) {fn:Fn} {first captured:Array Operand} (hop:o.op= .makeFunc fn first captured) (he:jb C call ct wn o s.opd lk k=some r):o.wp P a w K Q:=by
 simp only [jb,hop] at he
 cases fn with
 |func f=>
  simp only at he
  cases hfi:first.toList with
  |cons _ _=>simp [hfi] at he
  |nil=>
   have hfa:first= #[]:=by simpa using congrArg List.toArray hfi
   cases hca:captured.toList with
   |nil=>
    have hcc:captured= #[]:=by simpa using congrArg List.toArray hca
    simp only [hfi,hca] at he
    exact kQ h hK he (v:= .func (.func f) #[] #[]) (by simp [execOp,hop,hfa,hcc,Instr.makeFunc]) rfl
   |cons x l=>
    cases l with
    |cons _ _=>simp [hfi,hca] at he
    |nil=>
     have hcc:captured= #[x]:=by simpa using congrArg List.toArray hca
     simp only [hfi,hca] at he
     have hx:=h.opd x
     cases hxa:s.opd x with
     |box b off=>
      rw [hxa] at hx he
      simp only at he
      cases hb:Nat.beq off 0 with
      |false=>simp [hb] at he
      |true=>
       simp only [hb,ai] at he
       have:=an hb
       subst this
       refine kQ h hK he (v:= .func (.func f) #[] #[a.eval x]) (by simp [execOp,hop,hfa,hcc,Instr.makeFunc]) ?_
       rw [show a.eval x=_ from hx]
       rfl
     |_=>simp [hxa] at he
 |_=>simp at he
theorem ypq (hT:TOk C P) (h:Rel P w0 lent H0 s a w G) (hK:y4A P w0 lent H0 s o k r K) (hlk:y5e lk s) {t:Nat} {x:Operand} (hop:o.op= .load t x) (he:jb C call ct wn o s.opd lk k=some r):o.wp P a w K Q:=by
 simp only [jb,hop] at he
 cases ht:C.info t with
 |none=>simp [ht] at he
 |some ti=>
  simp only [ht] at he
  have plain:(match y3w lk ti (s.opd x) with
    |some a=>k ⟨[],[],a⟩
    |none=>none)=some r→o.wp P a w K Q:=fun he=>by
   cases hl:y3w lk ti (s.opd x) with
   |none=>simp [hl] at he
   |some y=>
    simp only [hl] at he
    obtain ⟨u,hu,hr⟩:=y5o hT h hlk ht hl (h.opd x)
    exact kQ h hK he (by simp [execOp,hop,hu]) hr
  cases ct with
  |false=>
   simp only [ag] at he
   exact plain he
  |true=>
   simp only [ai] at he
   have hv:=h.opd x
   cases hp:s.opd x with
   |rtp q i c=>
    rw [hp] at he hv
    simp only at he
    cases hq:lk q with
    |none=>
     simp only [hq] at he
     rw [hp] at plain
     exact plain he
    |some ob=>
     cases ob with
     |deep fin tag e ts xs=>
      simp only [hq] at he
      cases hle:Nat.ble (c+ti.ts.length) ts.length with
      |false=>simp [hle] at he
      |true=>
       simp only [hle,ai] at he
       cases hm:mkA ti.isAgg (((QY ts (rdE ts xs i)).drop c).take ti.ts.length) with
       |none=>simp [hm] at he
       |some y=>
        simp only [hm] at he
        obtain ⟨G1,hg,h1,_⟩:=h.settleD (hlk q _ hq)
        have hlq:yF (s.set q (.root false e ts xs)).o q=some (.root false e ts xs):=by
         show yF (Vx s.o q _) q=_
         rw [Yj]
         simp [hlk q _ hq]
        have hld:y3w (yF (s.set q (.root false e ts xs)).o) ti (.rtp q i c)=some y:=by
         simp only [y3w,hlq,hle,ai]
         exact hm
        obtain ⟨u,hu,hr⟩:=y5o hT h1 (fun _ _ h=>h) ht hld (hv.grown hg)
        refine YZ (v:=u) (w':=w) (by simp [execOp,hop,hu]) (hK _ _ _ G1 he ?_)
        have:=h1.put o.dst hr
        simpa [St.apply,St.makeAll,St.setAll] using this
     |_=>
      simp only [hq] at he
      rw [hp] at plain
      exact plain he
   |_=>
    simp only [hp] at he
    rw [hp] at plain
    exact plain he
theorem yf6 (h:Rel P w0 lent H0 s a w G) (hK:y4A P w0 lent H0 s o k r K) {x:Operand} (hop:o.op= .nilCheck x) (he:jb C call ct wn o s.opd lk k=some r):o.wp P a w K Q:=by
 have hx:=h.opd x
 simp only [jb,hop] at he
 cases hxa:s.opd x with
 |box b off=>
  rw [hxa] at hx he
  exact kQ h hK he (v:=a.eval x) (by simp only [execOp,hop];rw [show a.eval x=_ from hx];rfl) hx
 |rtp b i c=>
  rw [hxa] at hx he
  exact kQ h hK he (v:=a.eval x) (by simp only [execOp,hop];rw [show a.eval x=_ from hx.1];rfl) hx
 |elp e ts xs i c=>
  rw [hxa] at hx he
  obtain ⟨ad,hv,_⟩:=id hx
  exact kQ h hK he (v:=a.eval x) (by simp only [execOp,hop];rw [hv];rfl) hx
 |_=>simp [hxa] at he
theorem ylg (hT:TOk C P) (h:Rel P w0 lent H0 s a w G) (hK:y4A P w0 lent H0 s o k r K) {op:BinOp} {t ty:Nat} {x y:Operand} (hop:o.op= .binOp op t x y ty) (he:jb C call ct wn o s.opd lk k=some r):o.wp P a w K Q:=by
 simp only [jb,hop] at he
 cases ht:C.info t with
 |none=>simp [ht] at he
 |some ti=>
  simp only [ht] at he
  cases hag:yeW C op t ti (s.opd x) (s.opd y) with
  |some b=>
   simp only [hag] at he
   obtain ⟨u,hu,hr⟩:=yiK (P:=P) (w:=w) hT ht hag (h.opd x) (h.opd y) x y
   refine kQ h hK he ?_ hr
   simp only [execOp,hop]
   rw [Sem.run_bind,hu]
   rfl
  |none=>
  simp only [hag] at he
  cases hbt:ycE ti (s.opd x) with
  |false=>simp [hbt] at he
  |true=>
   simp only [hbt,ai,yiu] at he
   cases hb:yeT op (s.opd x) (s.opd y) with
   |none=>simp [hb] at he
   |some z=>
    simp only [hb,aa] at he
    obtain ⟨u,hu,hr⟩:=yiF (P:=P) (w:=w) hT ht hb hbt (h.opd x) (h.opd y) x y
    refine kQ h hK he ?_ hr
    simp only [execOp,hop]
    rw [Sem.run_bind,hu]
    rfl
theorem ypr (h:Rel P w0 lent H0 s a w G) (hK:y4A P w0 lent H0 s o k r K) {op:UnOp} {t:Nat} {x:Operand} (hop:o.op= .unOp op t x) (he:jb C call ct wn o s.opd lk k=some r):o.wp P a w K Q:=by
 simp only [jb,hop] at he
 cases hb:unA op (s.opd x) with
 |none=>simp [hb] at he
 |some z=>
  simp only [hb] at he
  obtain ⟨u,hu,hr⟩:=yld (P:=P) (w:=w) hb (h.opd x)
  exact kQ h hK he (by simp [execOp,hop,hu]) hr
theorem yhD (h:Rel P w0 lent H0 s a w G) (hK:y4A P w0 lent H0 s o k r K) {x:Operand} {i:Nat} (hop:o.op= .extract x i) (he:jb C call ct wn o s.opd lk k=some r):o.wp P a w K Q:=by
 have hx:=h.opd x
 simp only [jb,hop] at he
 cases hxa:s.opd x with
 |tup l=>
  rw [hxa] at hx he
  simp only at he
  cases hi:l[i]? with
  |none=>simp [hi] at he
  |some y=>
   simp only [hi] at he
   obtain ⟨cs,hv,hr⟩:=hx
   obtain ⟨u,hu,hru⟩:=hr.get i y hi
   refine kQ h hK he (v:=u) ?_ hru
   simp [execOp,hop,hv,Instr.extract,hu]
 |_=>simp [hxa] at he
theorem ycM (hT:TOk C P) (h:Rel P w0 lent H0 s a w G) (hK:y4A P w0 lent H0 s o k r K) {t f:Nat} {x:Operand} (hop:o.op= .fieldAddr t x f) (he:jb C call ct wn o s.opd lk k=some r):o.wp P a w K Q:=by
 have hx:=h.opd x
 simp only [jb,hop] at he
 cases ht:C.info t with
 |none=>simp [ht] at he
 |some ti=>
  cases ti with
  |c _ _=>simp [ht] at he
  |s fs ts b=>
   simp only [ht] at he
   cases hf:fs[f]? with
   |none=>simp [hf] at he
   |some dt=>
    obtain ⟨d,t2⟩:=dt
    simp only [hf] at he
    cases hxa:s.opd x with
    |box b off=>
     rw [hxa] at hx he
     refine kQ h hK he (v:= .pointer (some ⟨(G.g b).1,(G.g b).2+(off+d),none⟩)) ?_ rfl
     have:=y42 (P:=P) (w:=w) hT ht hf ⟨(G.g b).1,(G.g b).2+off,none⟩
     rw [ycI] at this
     simp [execOp,hop,show a.eval x=_ from hx,this,bN]
    |rtp b i c=>
     rw [hxa] at hx he
     refine kQ h hK he (v:= .pointer (some ⟨(G.g b).1,i.toNat*(G.sz b).1+(c+d),none⟩)) ?_ ⟨rfl,hx.2⟩
     have:=y42 (P:=P) (w:=w) hT ht hf ⟨(G.g b).1,i.toNat*(G.sz b).1+c,none⟩
     rw [ycI] at this
     simp [execOp,hop,show a.eval x=_ from hx.1,this,bN]
    |elp e us xs i c=>
     rw [hxa] at hx he
     obtain ⟨ad,hv,hlt,hrd⟩:=hx
     refine kQ h hK he (v:= .pointer (some (ad.add (i.toNat*us.length+(c+d))))) ?_ ⟨ad,rfl,hlt,hrd⟩
     have:=y42 (P:=P) (w:=w) hT ht hf (ad.add (i.toNat*us.length+c))
     rw [Addr.add_add] at this
     simp [execOp,hop,hv,this,bN]
    |_=>simp [hxa] at he
theorem ylh (hT:TOk C P) (h:Rel P w0 lent H0 s a w G) (hK:y4A P w0 lent H0 s o k r K) {t f:Nat} {x:Operand} (hop:o.op= .field t x f) (he:jb C call ct wn o s.opd lk k=some r):o.wp P a w K Q:=by
 have hx:=h.opd x
 simp only [jb,hop] at he
 cases ht:C.info t with
 |none=>simp [ht] at he
 |some ti=>
  cases ti with
  |c _ _=>simp [ht] at he
  |s fs ts b=>
   simp only [ht] at he
   cases hf:fs[f]? with
   |none=>simp [hf] at he
   |some dt=>
    obtain ⟨d,t2⟩:=dt
    simp only [hf] at he
    cases ht2:C.info t2 with
    |none=>simp [ht2] at he
    |some ti=>
     simp only [ht2] at he
     cases hxa:s.opd x with
     |agg l=>
      rw [hxa] at hx he
      simp only at he
      cases hle:Nat.ble (d+ti.ts.length) l.length with
      |false=>simp [hle] at he
      |true=>
       simp only [hle,ai] at he
       cases hm:mkA ti.isAgg ((l.drop d).take ti.ts.length) with
       |none=>simp [hm] at he
       |some y=>
        simp only [hm] at he
        obtain ⟨u,hu,hr⟩:=yf4 (P:=P) (w:=w) hT ht hf ht2 hle hm hx
        exact kQ h hK he (by simp [execOp,hop,hu]) hr
     |_=>simp [hxa] at he
theorem yli (hT:TOk C P) (h:Rel P w0 lent H0 s a w G) (hK:y4A P w0 lent H0 s o k r K) {t:Nat} {x i:Operand} (hop:o.op= .index t x i) (he:jb C call ct wn o s.opd lk k=some r):o.wp P a w K Q:=by
 have hx:=h.opd x
 have hi:=h.opd i
 simp only [jb,hop] at he
 split at he
 ·rename_i b xv kk n ht hxa hia
  rw [hxa] at hx
  rw [hia] at hi
  split at he
  ·rename_i h0
   split at he
   ·rename_i h1
    refine kQ h hK he (v:= .int .u8 (ByteArray.get xv (Int.toNat n) h1).toNat) ?_ rfl
    simp only [execOp,hop]
    rw [show a.eval x= .string xv from hx,show a.eval i= .int kk n from hi,Sem.run_bind,yiG hT ht xv kk n h0 h1]
    rfl
   ·cases he
  ·cases he
 ·cases he
theorem ycN (hT:TOk C P) (h:Rel P w0 lent H0 s a w G) (hK:y4A P w0 lent H0 s o k r K) (hlk:y5e lk s) {t:Nat} {x i:Operand} (hop:o.op= .indexAddr t x i) (he:jb C call ct wn o s.opd lk k=some r):o.wp P a w K Q:=by
 have hx:=h.opd x
 have hi:=h.opd i
 simp only [jb,hop] at he
 split at he
 ·rename_i e2 us b e ts xs kk n ht hxa hia
  rw [hxa] at hx
  rw [hia] at hi
  split at he
  ·rename_i h0
   split at he
   ·rename_i h1
    cases hb:Nat.beq us.length ts.length with
    |false=>simp [hb] at he
    |true=>
     simp only [hb,ai] at he
     obtain ⟨A,c,hv,hc,hm,hrd⟩:=hx
     obtain ⟨ad,rfl,hrd2⟩:=hrd (by omega)
     refine kQ h hK he (v:= .pointer (some (ad.add (Int.toNat n*ts.length+0)))) ?_ ⟨ad,rfl,by show Int.toNat n<List.length xs;omega,hrd2⟩
     simp only [execOp,hop]
     rw [hv,show a.eval i= .int kk n from hi,Sem.run_bind,y1k hT ht ad _ c kk n h0 h1,an hb]
     rfl
   ·cases he
  ·cases he
 ·rename_i e2 us b q kk n ht hxa hia
  rw [hxa] at hx
  rw [hia] at hi
  cases hq:lk q with
  |none=>simp [hq] at he
  |some ob=>
   cases ob with
   |root own e ts xs=>
    simp only [hq] at he
    split at he
    ·rename_i h0
     split at he
     ·rename_i h1
      cases hb:Nat.beq us.length ts.length with
      |false=>simp [hb] at he
      |true=>
       simp only [hb,ai] at he
       obtain ⟨hsz,hpos,⟨A,c,hsv,hc,hm,hA⟩,_⟩:=qJ h (hlk q _ hq)
       have hA':=hA (by omega)
       subst hA'
       refine kQ h hK he (v:= .pointer (some ⟨(G.g q).1,Int.toNat n*(G.sz q).1+0,none⟩)) ?_ ⟨rfl,by rw [hsz];show Int.toNat n<xs.length;omega⟩
       simp only [execOp,hop]
       rw [hx.1,hsv,show a.eval i= .int kk n from hi,Sem.run_bind,y1k hT ht _ _ c kk n h0 h1,an hb,hsz,JR]
       rfl
     ·cases he
    ·cases he
   |deep fin tag e ts xs=>
    simp only [hq] at he
    split at he
    ·rename_i h0
     split at he
     ·rename_i h1
      cases hb:Nat.beq us.length ts.length with
      |false=>simp [hb] at he
      |true=>
       simp only [hb,ai] at he
       obtain ⟨hsz,hpos,⟨A,c,hsv,hc,hm,hA⟩,_⟩:=Kc h (hlk q _ hq)
       have hA':=hA (by omega)
       subst hA'
       refine kQ h hK he (v:= .pointer (some ⟨(G.g q).1,Int.toNat n*(G.sz q).1+0,none⟩)) ?_ ⟨rfl,by rw [hsz];show Int.toNat n<xs.length;omega⟩
       simp only [execOp,hop]
       rw [hx.1,hsv,show a.eval i= .int kk n from hi,Sem.run_bind,y1k hT ht _ _ c kk n h0 h1,an hb,hsz,JR]
       rfl
     ·cases he
    ·cases he
   |_=>simp [hq] at he
 ·rename_i e2 us b q j c kk n ht hxa hia
  rw [hxa] at hx
  rw [hia] at hi
  cases hq:lk q with
  |none=>simp [hq] at he
  |some ob=>
   cases ob with
   |deep fin tag e ts xs=>
    cases fin with
    |false=>simp [hq] at he
    |true=>
     simp only [hq] at he
     cases hcs:Kb ts (rdE ts xs j) c with
     |none=>simp [hcs] at he
     |some pr=>
      obtain ⟨t',ys⟩:=pr
      cases t' with
      |sl e1 vs=>
       simp only [hcs] at he
       split at he
       ·rename_i h0
        split at he
        ·rename_i h1
         cases hb:Nat.beq us.length vs.length&&Nat.beq vs.length 1 with
         |false=>simp [hb] at he
         |true=>
          simp only [hb,ai] at he
          simp only [al] at hb
          obtain ⟨hsz,hpos,_,cells,Bs,hd,hfin,_⟩:=Kc h (hlk q _ hq)
          obtain ⟨⟨hv,hlt⟩,_⟩:=hx
          rw [hsz] at hv hlt
          have hlt':j.toNat<xs.length:=hlt
          have hg:xs[j.toNat]? =some (rdE ts xs j):=by simp [rdE,hlt']
          obtain ⟨u0,hu0,hdu⟩:=(JC ts _ _ _).1 (hd.rd j.toNat _ hg) c _ hcs
          obtain ⟨cells1,Bs1,hR⟩:=DpT.row.1 hdu
          rcases hR.row.2 with ⟨_,hn⟩|⟨g,cap,cur,hu1,_⟩
          ·have hn':List.length ys=0:=hn
           omega
          ·subst hu1
           have hhd:=hfin rfl _ _ _ _ hu0
           refine kQ h hK he (v:= .pointer (some ((⟨g,0,none⟩:Addr).add (Int.toNat n)))) ?_ ⟨_,_,_,by rw [hsz];exact hhd,rfl,by show Int.toNat n<List.length ys;omega,by rw [hsz];exact hlt'⟩
           simp only [execOp,hop]
           rw [hv,hhd,show a.eval i= .int kk n from hi,Sem.run_bind,y1k hT ht _ _ cap kk n h0 h1,an hb.1,an hb.2,Nat.mul_one]
           rfl
        ·cases he
       ·cases he
      |_=>simp [hcs] at he
   |_=>simp [hq] at he
 ·cases he
theorem yue (hT:TOk C P) (h:Rel P w0 lent H0 s a w G) (hK:y4A P w0 lent H0 s o k r K) (hout:Out o) {t:Nat} {x:Operand} (hop:o.op= .box t x) (he:jb C call ct wn o s.opd lk k=some r):o.wp P a w K Q:=by
 have hx:=h.opd x
 simp only [jb,hop] at he
 split at he
 ·rename_i ti d ht hd
  cases hb:Nat.beq (s.opd x).cells.length ti.ts.length&&k6 (s.opd x).cells with
  |false=>simp [hb] at he
  |true=>
   simp only [hb,ai] at he
   simp only [al] at hb
   have hl:=Q4 hb.2 hx
   obtain ⟨G',_,hrel,hra⟩:=h.newBox d t (H0.none (hout d hd)) hl (Q3 hb.2 hl)
   refine YZ (v:= .pointer (some ⟨w.heap.size,0,none⟩)) (w':=w.alloc (.cells (a.eval x).cells t)) ?_ (hK _ _ _ G' he ?_)
   ·simp [execOp,hop,Instr.box,newVar,newRow]
   ·have:=hrel.put o.dst hra
    simpa [St.apply,St.makeAll,St.setAll] using this
 ·cases he
theorem yf7 {G:Gh}: ∀ ts:List Ty,RL G (ts.map yhs) (ts.map Q2)
 |[]=>trivial
 |t::ts=>⟨by cases t<;>rfl,yf7 ts⟩
theorem ylj: ∀ ts:List Ty,∀ v∈ts.map Q2,v.oneCell'=true:=by
 intro ts v hv
 obtain ⟨t,_,rfl⟩:=b_.1 hv
 cases t<;>rfl
theorem y7j (d:Nat): ∀ ts:List Ty,zy d (ts.map yhs)=ts.map yhs
 |[]=>rfl
 |t::ts=>by
  simp only [bB,zy,y7j d ts]
  cases t<;>rfl
theorem ylk (hT:TOk C P) (h:Rel P w0 lent H0 s a w G) (hK:y4A P w0 lent H0 s o k r K) (hout:Out o) {t:Nat} (hop:o.op= .alloc t) (he:jb C call ct wn o s.opd lk k=some r):o.wp P a w K Q:=by
 simp only [jb,hop] at he
 split at he
 ·rename_i ti d ht hd
  obtain ⟨i,z,hi,hs,hby,hz,hzc,hp,hbp⟩:=hT.info t ti ht
  obtain ⟨G',_,hrel,hra⟩:=h.newBox d t (H0.none (hout d hd)) (yf7 ti.ts) (ylj ti.ts)
  refine YZ (v:= .pointer (some ⟨w.heap.size,0,none⟩)) (w':=w.alloc (.cells z.cells t)) ?_ (hK _ _ _ G' he ?_)
  ·simp [execOp,hop,Instr.alloc,zeroValue,typeInfo,hi,hz,newVar,newRow]
  ·have:=hrel.put o.dst hra
   rw [y7j,← hzc] at this
   simpa [St.apply,St.makeAll,St.setAll] using this
 ·cases he
theorem yuf (hT:TOk C P) (h:Rel P w0 lent H0 s a w G) (hK:y4A P w0 lent H0 s o k r K) (hlk:y5e lk s) {c:Call} {x:Operand} {t:Nat} {ts:List Nat} (hop:o.op= .call c) (hc:c.callee= .builtin .len) (hx:c.args.toList=[x]) (ht:c.argTypes.toList=t::ts) (he:jb C call ct wn o s.opd lk k=some r):o.wp P a w K Q:=by
 simp only [jb,hop,hc,hx,ht] at he
 split at he
 ·rename_i n hn hty
  have:=yiH (P:=P) (ty:=o.type) hT h hlk hn hty (h.opd x)
  refine kQ h hK he (v:= .int .i64 n) ?_ rfl
  have e1:c.args= #[x]:=by rw [← be (xs:=c.args),hx]
  have e2:c.argTypes=(t::ts).toArray:=by rw [← be (xs:=c.argTypes),ht]
  have e3:Builtin.len_ (t::ts).toArray o.type #[a.eval x]=Builtin.len_ #[t] o.type #[a.eval x]:=by simp [Builtin.len_]
  simp [execOp,hop,resolve,hc,invoke,builtin,e1,e2,e3,this]
 ·cases he
end
section
variable {P:Program} {C:Ctx} {w0:World} {lent:Nat→Prop} {H0:Base} {s:St} {a:Act} {w:World} {G:Gh} {o:Oper} {K:Act→World→Prop} {Q:Exit→Act→World→Prop} {R:Type} {k:Eff→Option R} {r:R} {lk:Lk} {call:C.Sem}
def yiM (lk:Lk) (s:St):Prop:= ∀ i ob e ts xs,lk i=some ob→Rw ob e ts xs→ ∃ ob',yF s.o i=some ob'∧Rw ob' e ts xs
theorem y5e.rows (h:y5e lk s):yiM lk s:=fun i ob e ts xs hi hw=>⟨ob,h i _ hi,hw⟩
def JD (lk:Lk) (G:Gh) (is:List Nat):Prop:= ∀ i∈is,∀ ob e ts xs,lk i=some ob→Rw ob e ts xs→RdT G.H (.sl e ts) xs (G.sv i)
theorem JD.grown {G G':Gh} {is:List Nat} (h:JD lk G is) (hg:Grown G G'):JD lk G' is:=fun i hi ob e ts xs hl hw=>by
 rw [hg.sv]
 exact RdT.mono hg.H _ _ _ (h i hi ob e ts xs hl hw)
theorem yiM.set {i e:Nat} {ob:Ob} {ts:List Ty} {xs:List (yJ ts)} (h:yiM lk s) (hi:yF s.o i=some ob) (hw:Rw ob e ts xs):yiM lk (s.set i (.root false e ts xs)):=by
 intro j ob' e' ts' xs' hj hw'
 obtain ⟨ob2,h2,hw2⟩:=h j ob' e' ts' xs' hj hw'
 show ∃ ob',yF (Vx s.o i _) j=_∧_
 rw [Yj]
 by_cases hji:j=i
 ·subst hji
  rw [hi] at h2
  injection h2 with h2
  subst h2
  obtain ⟨rfl,rfl,rfl⟩:=hw.same hw2
  exact ⟨_,by simp [hi],.inl ⟨false,rfl⟩⟩
 ·exact ⟨ob2,by simp [hji,h2],hw2⟩
theorem Rel.settles (hs:yiM lk s) (h:Rel P w0 lent H0 s a w G): ∀ (is:List Nat),∃ G',Grown G G'∧Rel P w0 lent H0 (s.setAll (settles lk is)) a w G'∧JD lk G' is:=by
 intro is
 induction is generalizing s G with
 |nil=>exact ⟨G,Grown.refl G,h,fun i hi=>by simp at hi⟩
 |cons i is ih=>
  have row: ∀ (ob:Ob) (e:Nat) (ts:List Ty) (xs:List (yJ ts)),lk i=some ob→Rw ob e ts xs→Go.Proofs.YtekbnpmmjciloaaGreat.R.settles lk (i::is)=(i,.root false e ts xs)::Go.Proofs.YtekbnpmmjciloaaGreat.R.settles lk is→ ∃ G',Grown G G'∧Rel P w0 lent H0 (s.setAll (Go.Proofs.YtekbnpmmjciloaaGreat.R.settles lk (i::is))) a w G'∧JD lk G' (i::is):=by
   intro ob e ts xs hi hw he
   obtain ⟨ob',hl,hw'⟩:=hs i ob e ts xs hi hw
   obtain ⟨G1,hg1,hr1,hrd⟩:=h.settleW hl hw'
   obtain ⟨G',hg,hr,hset⟩:=ih (hs.set hl hw') hr1
   refine ⟨G',hg1.trans hg,by rw [he];exact hr,fun j hj ob2 e2 ts2 xs2 hl2 hw2=> ?_⟩
   rcases aA.1 hj with rfl|hj
   ·rw [hi] at hl2
    injection hl2 with hl2
    subst hl2
    obtain ⟨rfl,rfl,rfl⟩:=hw.same hw2
    rw [hg.sv]
    exact RdT.mono hg.H _ _ _ hrd
   ·exact hset j hj ob2 e2 ts2 xs2 hl2 hw2
  have no:(∀ ob e ts (xs:List (yJ ts)),lk i=some ob→ ¬ Rw ob e ts xs)→Go.Proofs.YtekbnpmmjciloaaGreat.R.settles lk (i::is)=Go.Proofs.YtekbnpmmjciloaaGreat.R.settles lk is→ ∃ G',Grown G G'∧Rel P w0 lent H0 (s.setAll (Go.Proofs.YtekbnpmmjciloaaGreat.R.settles lk (i::is))) a w G'∧JD lk G' (i::is):=by
   intro hn he
   obtain ⟨G',hg,hr,hset⟩:=ih hs h
   refine ⟨G',hg,by rw [he];exact hr,fun j hj ob e ts xs hl hw=> ?_⟩
   rcases aA.1 hj with rfl|hj
   ·exact absurd hw (hn ob e ts xs hl)
   ·exact hset j hj ob e ts xs hl hw
  cases hi:lk i with
  |none=>exact no (fun ob e ts xs hl=>by rw [hi] at hl;cases hl) (by simp [Go.Proofs.YtekbnpmmjciloaaGreat.R.settles,hi])
  |some ob=>
   cases ob with
   |root own e ts xs=>exact row _ e ts xs hi (.inl ⟨own,rfl⟩) (by simp [Go.Proofs.YtekbnpmmjciloaaGreat.R.settles,hi])
   |deep fin tag e ts xs=>exact row _ e ts xs hi (.inr ⟨fin,tag,rfl⟩) (by simp [Go.Proofs.YtekbnpmmjciloaaGreat.R.settles,hi])
   |_=>
    refine no (fun ob e ts xs hl hw=> ?_) (by simp [Go.Proofs.YtekbnpmmjciloaaGreat.R.settles,hi])
    rw [hi] at hl
    injection hl with hl
    subst hl
    rcases hw with ⟨_,hw⟩|⟨_,_,hw⟩<;>cases hw
theorem qK {H:Hp} {t t':Ty} {x:El t} {y:El t'} {v:Value} (h:j9 t t' x=some y) (hr:RdT H t x v):RdT H t' y v:=by
 unfold j9 at h
 split at h
 ·rename_i he
  have:=Ty.eqb_eq t t' he
  subst this
  injection h with h
  subst h
  exact hr
 ·cases h
theorem yf8 {H:Hp}: ∀ t:Ty,RdT H t (y5g t) (Q2 t)
 | .int _=>rfl
 | .bool=>rfl
 | .str=>rfl
 | .sl e ts=>⟨none,0,rfl,aS _,by simp [y5g],fun h=>by simp [y5g] at h⟩
theorem y4B {t:Ty} {x:A} {y:El t} {is:List Nat} (h:toT lk t x=some (y,is)) (hs:JD lk G is) {v:Value} (hr:RA G x v):RdT G.H t y v:=by
 cases x with
 |val t' x=>
  simp only [toT,aq] at h
  obtain ⟨z,hz,he⟩:=h
  injection he with he _
  subst he
  exact qK hz hr
 |nils=>
  cases t with
  |sl e ts=>
   simp only [toT,ap,aY] at h
   rw [← h.1,show v= .slice none 0 0 from hr]
   exact yf8 (.sl e ts)
  |_=>simp [toT] at h
 |win q m=>
  cases hq:lk q with
  |none=>simp [toT,hq] at h
  |some ob=>
   cases ob with
   |root own e ts xs=>
    simp only [toT,hq,aq] at h
    obtain ⟨z,hz,he⟩:=h
    injection he with he hi
    subst he hi
    have hrd:=hs q (by simp) _ e ts xs hq (.inl ⟨own,rfl⟩)
    obtain ⟨A,n,c,e1,e2,e3⟩:=hr
    obtain ⟨A2,c2,f1,f2,f3,f4⟩:=hrd
    rw [e1] at f1
    injection f1 with g1 g2 g3
    subst g1 g2 g3
    refine qK hz ?_
    rw [e2]
    have hlen:(xs.take (Int.toNat m)).length=Int.toNat m:=by rw [ak];omega
    refine ⟨A,c,by rw [show List.length (List.take (Int.toNat m) xs)=Int.toNat m from hlen],by rw [show List.length (List.take (Int.toNat m) xs)=Int.toNat m from hlen];omega,by rw [show List.length (List.take (Int.toNat m) xs)=Int.toNat m from hlen];omega,fun hp=> ?_⟩
    rw [show List.length (List.take (Int.toNat m) xs)=Int.toNat m from hlen] at hp
    obtain ⟨ad,ea,hx⟩:=f4 (by omega)
    refine ⟨ad,ea,fun j x hj=>hx j x ?_⟩
    have hj':(xs.take (Int.toNat m))[j]? =some x:=hj
    rw [aD] at hj'
    split at hj'
    ·exact hj'
    ·cases hj'
   |_=>simp [toT,hq] at h
 |own q=>
  cases hq:lk q with
  |none=>simp [toT,hq] at h
  |some ob=>
   cases ob with
   |root own e ts xs=>
    simp only [toT,hq,aq] at h
    obtain ⟨z,hz,he⟩:=h
    injection he with he hi
    subst he hi
    rw [show v=G.sv q from hr.1]
    exact qK hz (hs q (by simp) _ e ts xs hq (.inl ⟨own,rfl⟩))
   |deep fin tag e ts xs=>
    simp only [toT,hq,aq] at h
    obtain ⟨z,hz,he⟩:=h
    injection he with he hi
    subst he hi
    rw [show v=G.sv q from hr.1]
    exact qK hz (hs q (by simp) _ e ts xs hq (.inr ⟨fin,tag,rfl⟩))
   |_=>simp [toT,hq] at h
 |_=>simp [toT] at h
theorem JD.left {is js:List Nat} (h:JD lk G (is++js)):JD lk G is:=fun i hi=>h i (by simp [hi])
theorem JD.right {is js:List Nat} (h:JD lk G (is++js)):JD lk G js:=fun i hi=>h i (by simp [hi])
theorem yiN: ∀ (ts:List Ty) (l:List A) (y:yJ ts) (is:List Nat),toE lk ts l=some (y,is)→JD lk G is→ ∀ (vs:List Value),RL G l vs→RdE G.H ts y (fun i=>vs[i]?)∧vs.length=ts.length:=by
 intro ts
 induction ts with
 |nil=>
  intro l y is h hs vs hr
  cases l with
  |nil=>
   cases vs with
   |nil=>exact ⟨trivial,rfl⟩
   |cons _ _=>exact hr.elim
  |cons x l=>exact absurd h (by rw [show toE lk [] (x::l)=none from rfl];exact fun h=>by cases h)
 |cons t ts ih=>
  intro l y is h hs vs hr
  cases ts with
  |nil=>
   cases l with
   |nil=>exact absurd h (by rw [show toE lk [t] []=none from rfl];exact fun h=>by cases h)
   |cons x l=>
    cases l with
    |nil=>
     have h':toT lk t x=some (y,is):=h
     cases vs with
     |nil=>exact hr.elim
     |cons v vs=>
      cases vs with
      |nil=>exact ⟨⟨v,rfl,y4B h' hs hr.1⟩,rfl⟩
      |cons _ _=>exact hr.2.elim
    |cons x2 l=>exact absurd h (by rw [show toE lk [t] (x::x2::l)=none from rfl];exact fun h=>by cases h)
  |cons u r=>
   cases l with
   |nil=>exact absurd h (by rw [show toE lk (t::u::r) []=none from rfl];exact fun h=>by cases h)
   |cons x l=>
    have h':(match toT lk t x with
     |some (x,is)=>match toE lk (u::r) l with
      |some (y,js)=>some (((x,y):yJ (t::u::r)),is++js)
      |none=>none
     |none=>none)=some (y,is):=h
    cases hx:toT lk t x with
    |none=>
     rw [hx] at h'
     cases h'
    |some p=>
     obtain ⟨x',js⟩:=p
     rw [hx] at h'
     cases hl:toE lk (u::r) l with
     |none=>
      rw [hl] at h'
      cases h'
     |some q=>
      obtain ⟨y',js'⟩:=q
      rw [hl] at h'
      injection h' with h'
      injection h' with h1 h2
      subst h1 h2
      cases vs with
      |nil=>exact hr.elim
      |cons v vs=>
       obtain ⟨h1,h2⟩:=ih l y' js' hl hs.right vs hr.2
       exact ⟨⟨⟨v,rfl,y4B hx hs.left hr.1⟩,h1⟩,by simp [h2]⟩
end
section
variable {P:Program} {C:Ctx} {w0:World} {lent:Nat→Prop} {H0:Base} {s:St} {a:Act} {w:World} {G:Gh} {o:Oper} {K:Act→World→Prop} {Q:Exit→Act→World→Prop} {R:Type} {k:Eff→Option R} {r:R} {lk:Lk} {call:C.Sem} {ct wn:Bool}
theorem ZH {i:Nat}: ∀ (l:List (Nat×Ob)) (s:St),qR (zp l) i=false→yF (s.setAll l).o i=yF s.o i
 |[],_,_=>rfl
 |(j,x)::l,s,h=>by
  simp only [zp,qR,aL] at h
  rw [St.setAll,ZH l (s.set j x) h.2]
  show yF (Vx s.o j x) i=_
  rw [Yj,am]
  intro e
  subst e
  rw [yp] at h
  exact absurd h.1 (by simp)
theorem y5Q (lk:Lk) {i:Nat}: ∀ is:List Nat,qR is i=false→qR (zp (settles lk is)) i=false
 |[],_=>rfl
 |j::is,h=>by
  simp only [qR,aL] at h
  have ih:=y5Q lk is h.2
  unfold settles
  split
  ·simp only [zp,qR,h.1,ih,Bool.or_false]
  ·simp only [zp,qR,h.1,ih,Bool.or_false]
  ·exact ih
theorem St.setAll_append: ∀ (l l':List (Nat×Ob)) (s:St),s.setAll (l++l')=(s.setAll l).setAll l'
 |[],_,_=>rfl
 |(i,x)::l,l',s=>St.setAll_append l l' (s.set i x)
theorem JE {l:List Nat} {i:Nat}:qR l i=true↔i∈l:=by
 induction l with
 |nil=>simp [qR]
 |cons j r ih=>
  simp only [qR,ck,ih,aA]
  constructor
  ·rintro (h|h)
   ·exact .inl (an h).symm
   ·exact .inr h
  ·rintro (rfl|h)
   ·exact .inl (yp _)
   ·exact .inr h
theorem qT: ∀ {l:List Nat},y0F l=true→l.Nodup
 |[],_=>List.nodup_nil
 |i::r,h=>by
  simp only [y0F,al,bd] at h
  refine cj.2 ⟨fun hi=> ?_,qT h.2⟩
  rw [JE.2 hi] at h
  exact absurd h.1 (by simp)
theorem Rel.gones: ∀ (gs:List Nat) {s:St},Rel P w0 lent H0 s a w G→Rel P w0 lent H0 (s.setAll (YB gs)) a w G
 |[],_,h=>h
 |i::gs,_,h=>Rel.gones gs (h.gone i)
theorem kW: ∀ (gs:List Nat) (s:St) (i:Nat),yF (s.setAll (YB gs)).o i=if i∈gs then (yF s.o i).map (fun _=> .gone) else yF s.o i
 |[],s,i=>by simp [YB,St.setAll]
 |j::gs,s,i=>by
  have hs:yF (s.set j .gone).o i=if i=j then (yF s.o j).map (fun _=> .gone) else yF s.o i:=Yj j i .gone s.o
  rw [YB,St.setAll,kW gs,hs]
  by_cases hij:i=j
  ·subst hij
   by_cases hg:i∈gs
   ·cases yF s.o i<;>simp [hg]
   ·simp [hg]
  ·simp [hij]
def In (bs:List (Nat→Prop)) (k:Nat):Prop:= ∃ b∈bs,b k
def y3A (bs:List (Nat→Prop)):Prop:=bs.Pairwise fun b c=> ∀ k,b k→ ¬ c k
def y20 (s:St) (G:Gh) (gs:List Nat) (bs:List (Nat→Prop)):Prop:= ∀ k,In bs k→ ∃ q∈gs,∃ ob,yF s.o q=some ob∧ze G q ob k
theorem In.cons {b:Nat→Prop} {bs:List (Nat→Prop)} {k:Nat}:In (b::bs) k↔b k∨In bs k:=by simp [In]
theorem In.append {bs cs:List (Nat→Prop)} {k:Nat}:In (bs++cs) k↔In bs k∨In cs k:=by simp [In,or_and_right,exists_or]
theorem In.nil {k:Nat}: ¬ In [] k:=by simp [In]
theorem y3d: ∀ (ts:List Ty) (x:yJ ts) (c:Nat) (y:Sigma El),Kb ts x c=some y→c<ts.length:=by
 intro ts
 induction ts with
 |nil=>intro x c y h;simp [Kb] at h
 |cons t ts ih=>
  intro x c y h
  cases ts with
  |nil=>cases c<;>simp [Kb] at h ⊢
  |cons u r=>
   cases c with
   |zero=>simp
   |succ c=>
    have:=ih x.2 c y h
    simp only [ah] at*
    omega
theorem Ke {t t':Ty} {x:El t} {y:El t'} (h:j9 t t' x=some y):(⟨t,x⟩:Sigma El)=⟨t',y⟩:=by
 unfold j9 at h
 split at h
 ·rename_i he
  have:=Ty.eqb_eq t t' he
  subst this
  injection h with h
  subst h
  rfl
 ·cases h
theorem y6I: ∀ (ts:List Ty) (x:yJ ts) (c:Nat) (ys:List (Sigma El)) (x':yJ ts),y0k ts x c ys=some x'→(∀ i,Kb ts x' i=if c≤i∧i<c+ys.length then ys[i - c]? else Kb ts x i)∧(ys=[]∨c+ys.length≤ts.length):=by
 intro ts
 induction ts with
 |nil=>
  intro x c ys x' h
  cases ys with
  |nil=>exact ⟨fun i=>by simp [Kb],.inl rfl⟩
  |cons y ys=>cases c<;>exact absurd h (by rw [show y0k [] x _ (y::ys)=none from rfl];exact fun h=>by cases h)
 |cons t ts ih=>
  intro x c ys x' h
  cases ys with
  |nil=>
   have hxx:some x=some x':=by
    cases ts<;>cases c<;>exact h
   injection hxx with hxx
   subst hxx
   refine ⟨fun i=> ?_,.inl rfl⟩
   rw [am (by simp only [aj];omega)]
  |cons y ys=>
   obtain ⟨u,y⟩:=y
   cases ts with
   |nil=>
    cases c with
    |succ c=>exact absurd h (by rw [show y0k [t] x (c+1) (⟨u,y⟩::ys)=none by cases ys<;>rfl];exact fun h=>by cases h)
    |zero=>
     cases ys with
     |cons y2 ys=>exact absurd h (by rw [show y0k [t] x 0 (⟨u,y⟩::y2::ys)=none from rfl];exact fun h=>by cases h)
     |nil=>
      have h':j9 u t y=some x':=h
      refine ⟨fun i=> ?_,.inr (by simp)⟩
      cases i with
      |zero=>simp [Kb,Ke h']
      |succ i=>simp [Kb]
   |cons t2 ts=>
    cases c with
    |zero=>
     have h':(match j9 u t y with
      |some z=>match y0k (t2::ts) x.2 0 ys with
       |some w=>some ((z,w):yJ (t::t2::ts))
       |none=>none
      |none=>none)=some x':=h
     cases hc:j9 u t y with
     |none=>
      rw [hc] at h'
      cases h'
     |some z=>
      rw [hc] at h'
      cases hs:y0k (t2::ts) x.2 0 ys with
      |none=>
       rw [hs] at h'
       cases h'
      |some w=>
       rw [hs] at h'
       injection h' with h'
       subst h'
       obtain ⟨h1,h2⟩:=ih x.2 0 ys w hs
       refine ⟨fun i=> ?_,.inr ?_⟩
       ·cases i with
        |zero=>simp [Kb,Ke hc]
        |succ i=>
         show Kb (t2::ts) w i=if 0≤i+1∧i+1<0+(⟨u,y⟩::ys:List (Sigma El)).length then (⟨u,y⟩::ys:List (Sigma El))[i+1 - 0]? else Kb (t2::ts) x.2 i
         rw [h1 i]
         by_cases hi:0≤i∧i<0+ys.length
         ·rw [af hi,af (by simp only [ah];omega)]
          simp
         ·rw [am hi,am (by simp only [ah];omega)]
       ·rcases h2 with rfl|h2
        ·simp
        ·simp only [ah] at h2 ⊢
         omega
    |succ c=>
     have h':(match y0k (t2::ts) x.2 c (⟨u,y⟩::ys) with
      |some w=>some ((x.1,w):yJ (t::t2::ts))
      |none=>none)=some x':=h
     cases hs:y0k (t2::ts) x.2 c (⟨u,y⟩::ys) with
     |none=>
      rw [hs] at h'
      cases h'
     |some w=>
      rw [hs] at h'
      injection h' with h'
      subst h'
      obtain ⟨h1,h2⟩:=ih x.2 c (⟨u,y⟩::ys) w hs
      refine ⟨fun i=> ?_,.inr ?_⟩
      ·cases i with
       |zero=>rw [am (by omega)];rfl
       |succ i=>
        show Kb (t2::ts) w i=if c+1≤i+1∧i+1<c+1+(⟨u,y⟩::ys:List (Sigma El)).length then (⟨u,y⟩::ys:List (Sigma El))[i+1 - (c+1)]? else Kb (t2::ts) x.2 i
        rw [h1 i]
        by_cases hi:c≤i∧i<c+(⟨u,y⟩::ys:List (Sigma El)).length
        ·rw [af hi,af (by omega),show i+1 - (c+1)=i - c by omega]
        ·rw [am hi,am (by omega)]
      ·rcases h2 with h2|h2
       ·cases h2
       ·simp only [ah] at h2 ⊢
        omega
theorem y9N {w:World} {t t':Ty} {B:Nat→Prop} {x:El t} {y:El t'} {v:Value} (h:j9 t t' x=some y) (hr:DpT w t B x v):DpT w t' B y v:=by
 have hs:=Ke h
 injection hs with h1 h2
 subst h1
 have:=eq_of_heq h2
 subst this
 exact hr
theorem ynv {w:World} {H:Hp} {Bs:Nat→Nat→Prop}: ∀ (ts:List Ty) (x:yJ ts) (f:Nat→Option Value),vM ts=true→RdE H ts x f→DpE w ts Bs x f:=by
 intro ts
 induction ts generalizing Bs with
 |nil=>intro _ _ _ _;trivial
 |cons t ts ih=>
  intro x f hf hr
  simp only [vM,al] at hf
  cases ts with
  |nil=>
   obtain ⟨v,hv,hr⟩:=hr
   exact ⟨v,hv,(DpT.flat hf.1 H).2 hr⟩
  |cons u r=>
   obtain ⟨⟨v,hv,hr⟩,hs⟩:=hr
   exact ⟨⟨v,hv,(DpT.flat hf.1 H).2 hr⟩,ih x.2 _ hf.2 hs⟩
theorem ynw {w:World} {H:Hp} {Bs:Nat→Nat→Prop}: ∀ (ts:List Ty) (x:yJ ts) (f:Nat→Option Value),vM ts=true→DpE w ts Bs x f→RdE H ts x f:=by
 intro ts
 induction ts generalizing Bs with
 |nil=>intro _ _ _ _;trivial
 |cons t ts ih=>
  intro x f hf hr
  simp only [vM,al] at hf
  cases ts with
  |nil=>
   obtain ⟨v,hv,hr⟩:=hr
   exact ⟨v,hv,(DpT.flat hf.1 H).1 hr⟩
  |cons u r=>
   obtain ⟨⟨v,hv,hr⟩,hs⟩:=hr
   exact ⟨⟨v,hv,(DpT.flat hf.1 H).1 hr⟩,ih x.2 _ hf.2 hs⟩
theorem DpT.nil {w:World} {e:Nat} {ts:List Ty} (hp:0<ts.length):DpT w (.sl e ts) (fun _=>False) (y5g (.sl e ts)) (.slice none 0 0):=
 ⟨hp,[],fun _ _=>False,World.ownsRow_nil w 0 e ts.length,by simp,fun k hk=>by simp [Value.ownBlock] at hk,fun _ _ h=>h.elim,fun _ _ _ h=>h.elim,fun j x hx=>by simp [y5g] at hx⟩
def TgB (s:St) (w:World) (G:Gh) (o:Nat) (i:Int) (c:Nat) (B:Nat→Prop):Prop:=
 ∃ (tag e:Nat) (ts:List Ty) (xs:List (yJ ts)) (cells:List Value) (Bs:Nat→Nat→Prop),yF s.o o=some (.deep true tag e ts xs)∧DpR w (G.dp o) e ts xs (G.sv o) cells Bs∧(∀ (m:Nat) (A:Option Addr) (n c:Nat),cells[m]? =some (.slice A n c)→G.hd o m= .slice A n c)∧B=Bs (i.toNat*ts.length+c)∧i.toNat<xs.length
theorem y7k (h:Rel P w0 lent H0 s a w G) (hlk:y5e lk s) {bk:Bool} {t:Ty} {x:A} {y:El t} {gs:List Nat} (hx:VK lk bk t x=some (y,gs)) {v:Value} (hr:RA G x v):
  ∃ B,DpT w t B y v∧y20 s G gs [B]∧(∀ k,B k→k<w.heap.size)∧ ∀ o i c,x= .bor o i c→TgB s w G o i c B:=by
 have blk: ∀ {q:Nat} {ob:Ob} {k:Nat},yF s.o q=some ob→ze G q ob k→k<w.heap.size:=fun hq hb=>(h.objs _ _ hq).blk hb
 cases x with
 |own q=>
  simp only [VK] at hx
  cases hq:lk q with
  |none=>simp [hq] at hx
  |some ob=>
   have hlq:=hlk q _ hq
   cases ob with
   |root own e ts xs=>
    cases own with
    |false=>simp [hq] at hx
    |true=>
     simp only [hq] at hx
     cases hf:vM ts with
     |false=>simp [hf] at hx
     |true=>
      simp only [hf,ai] at hx
      obtain ⟨z,hz,he⟩:=aq.1 hx
      injection he with e1 e2
      subst e1 e2
      obtain ⟨hsz,hpos,cells,hown,hone,hblk,hrd⟩:=h.objs q _ hlq
      refine ⟨fun k=>(G.sv q).ownBlock=some k,y9N hz ?_,fun k hk=>⟨q,by simp,_,hlq,by simpa [In,ze] using hk⟩,fun k hk=>blk hlq hk,fun _ _ _ he=>by cases he⟩
      rw [hr.1]
      exact ⟨hpos,cells,fun _ _=>False,hown,hone,fun k hk=>hk,fun _ _ h=>h.elim,fun _ _ _ h=>h.elim,fun j x hj=>ynv ts x _ hf (hrd j x hj)⟩
   |deep fin tag e ts xs=>
    simp only [hq] at hx
    obtain ⟨z,hz,he⟩:=aq.1 hx
    injection he with e1 e2
    subst e1 e2
    obtain ⟨hsz,hpos,_,cells,Bs,hd,_,_⟩:=Kc h hlq
    refine ⟨G.dp q,y9N hz ?_,fun k hk=>⟨q,by simp,_,hlq,by simpa [In,ze] using hk⟩,fun k hk=>blk hlq hk,fun _ _ _ he=>by cases he⟩
    rw [hr.1]
    exact DpT.row.2 ⟨cells,Bs,hd⟩
   |_=>simp [hq] at hx
 |bor q i c=>
  cases bk with
  |false=>cases t<;>simp [VK] at hx
  |true=>
   simp only [VK,ai] at hx
   cases hq:lk q with
   |none=>simp [hq] at hx
   |some ob=>
    have hlq:=hlk q _ hq
    cases ob with
    |deep fin tag e ts xs=>
     cases fin with
     |false=>simp [hq] at hx
     |true=>
      simp only [hq] at hx
      cases hcs:Kb ts (rdE ts xs i) c with
      |none=>simp [hcs] at hx
      |some p=>
       obtain ⟨t',y'⟩:=p
       cases t' with
       |sl e' us=>
        simp only [hcs] at hx
        obtain ⟨z,hz,he⟩:=aq.1 hx
        injection he with e1 e2
        subst e1 e2
        obtain ⟨hsz,hpos,_,cells,Bs,hd,hfin,_⟩:=Kc h hlq
        obtain ⟨⟨h1,hlt2⟩,_⟩:=hr
        have hlt':i.toNat<xs.length:=by
         rw [hsz] at hlt2
         exact hlt2
        have hg:xs[i.toNat]? =some (rdE ts xs i):=by simp [rdE,hlt']
        obtain ⟨u,hu,hdu⟩:=(JC ts _ _ _).1 (hd.rd i.toNat _ hg) c _ hcs
        obtain ⟨A,n,m,rfl⟩:=DpT.slice hdu
        have hv:v= .slice A n m:=by
         rw [h1,hsz]
         exact hfin rfl _ A n m hu
        refine ⟨Bs (i.toNat*ts.length+c),y9N hz (by rw [hv];exact hdu),fun k hk=>⟨q,by simp,_,hlq,(hd.sub _ k (by simpa [In] using hk)).1⟩,fun k hk=>blk hlq (hd.sub _ k hk).1,fun _ _ _ he=>by
         injection he with e1 e2 e3
         subst e1 e2 e3
         exact ⟨_,_,_,_,cells,Bs,hlq,hd,hfin rfl,rfl,hlt'⟩⟩
       |_=>simp [hcs] at hx
    |_=>simp [hq] at hx
 |nils=>
  cases t with
  |sl e ts=>
   simp only [VK] at hx
   cases hb:Nat.blt 0 ts.length with
   |false=>simp [hb] at hx
   |true=>
    simp only [hb,ai] at hx
    injection hx with hx
    injection hx with e1 e2
    subst e1 e2
    rw [show v= .slice none 0 0 from hr]
    exact ⟨fun _=>False,DpT.nil (wM hb),fun k hk=>by simp [In] at hk,fun _ h=>h.elim,fun _ _ _ he=>by cases he⟩
  |_=>simp [VK] at hx
 |val t' x'=>
  simp only [VK] at hx
  cases hf:Ty.flat t with
  |false=>simp [hf] at hx
  |true=>
   simp only [hf,ai] at hx
   obtain ⟨z,hz,he⟩:=aq.1 hx
   injection he with e1 e2
   subst e1 e2
   exact ⟨fun _=>False,(DpT.flat hf G.H).2 (qK hz hr),fun k hk=>by simp [In] at hk,fun _ h=>h.elim,fun _ _ _ he=>by cases he⟩
 |_=>cases t<;>simp [VK] at hx
def DpS (w:World):List (Sigma El)→List (Nat→Prop)→List Value→Prop
 |[],[],[]=>True
 |y::ys,b::bs,v::vs=>DpT w y.1 b y.2 v∧DpS w ys bs vs
 |_,_,_=>False
theorem DpS.lens {w:World}: ∀ {ys:List (Sigma El)} {bs:List (Nat→Prop)} {vs:List Value},DpS w ys bs vs→bs.length=ys.length∧vs.length=ys.length
 |[],[],[],_=>⟨rfl,rfl⟩
 |_::ys,_::bs,_::vs,h=>by simp [DpS.lens h.2]
theorem DpS.get {w:World}: ∀ {ys:List (Sigma El)} {bs:List (Nat→Prop)} {vs:List Value},DpS w ys bs vs→ ∀ (i:Nat) (y:Sigma El),ys[i]? =some y→ ∃ v,vs[i]? =some v∧DpT w y.1 (bs.getD i fun _=>False) y.2 v
 |y::ys,b::bs,v::vs,h,0,z,hz=>by
  have:y=z:=by simpa using hz
  subst this
  exact ⟨v,rfl,h.1⟩
 |y::ys,b::bs,v::vs,h,i+1,z,hz=>DpS.get h.2 i z (by simpa using hz)
theorem y7l (h:Rel P w0 lent H0 s a w G) {gs hs:List Nat} {bs cs:List (Nat→Prop)} (hb:y20 s G gs bs) (hc:y20 s G hs cs) (hd: ∀ q∈gs,q∉hs): ∀ k,In bs k→ ¬ In cs k:=by
 intro k h1 h2
 obtain ⟨q,hq,ob,hl,hbq⟩:=hb k h1
 obtain ⟨q',hq',ob',hl',hbq'⟩:=hc k h2
 have:=h.apart q q' _ _ k hl hl' hbq hbq'
 subst this
 exact hd q hq hq'
theorem y20.mono {gs hs:List Nat} {bs:List (Nat→Prop)} (h:y20 s G gs bs) (hm: ∀ q∈gs,q∈hs):y20 s G hs bs:=fun k hk=>by
 obtain ⟨q,hq,r⟩:=h k hk
 exact ⟨q,hm q hq,r⟩
theorem y5R (h:Rel P w0 lent H0 s a w G) (hlk:y5e lk s): ∀ (ts:List Ty) (c:Nat) (l:List A) (ys:List (Sigma El)) (gs:List Nat),qY lk ts c l=some (ys,gs)→gs.Nodup→ ∀ (vs:List Value),RL G l vs→
  ∃ bs,DpS w ys bs vs∧y20 s G gs bs∧y3A bs∧ ∀ k,In bs k→k<w.heap.size:=by
 have nil: ∀ (vs:List Value) (l:List A),l=[]→RL G l vs→ ∃ bs,DpS w [] bs vs∧y20 s G [] bs∧y3A bs∧ ∀ k,In bs k→k<w.heap.size:=by
  intro vs l hl hr
  subst hl
  cases vs with
  |nil=>exact ⟨[],trivial,fun k hk=>absurd hk In.nil,List.Pairwise.nil,fun k hk=>absurd hk In.nil⟩
  |cons _ _=>exact hr.elim
 intro ts
 induction ts with
 |nil=>
  intro c l ys gs hx hn vs hr
  cases l with
  |nil=>
   have:some (([]:List (Sigma El)),([]:List Nat))=some (ys,gs):=by
    cases c<;>exact hx
   injection this with this
   injection this with h1 h2
   subst h1 h2
   exact nil vs [] rfl hr
  |cons x l=>cases c<;>exact absurd hx (by simp [qY])
 |cons t ts ih=>
  intro c l ys gs hx hn vs hr
  cases l with
  |nil=>
   have:some (([]:List (Sigma El)),([]:List Nat))=some (ys,gs):=by
    cases c<;>exact hx
   injection this with this
   injection this with h1 h2
   subst h1 h2
   exact nil vs [] rfl hr
  |cons x l=>
   cases c with
   |succ c=>exact ih c (x::l) ys gs hx hn vs hr
   |zero=>
    have h':(match VK lk false t x with
     |some (x,is)=>match qY lk ts 0 l with
      |some (r,js)=>some ((⟨t,x⟩:Sigma El)::r,is++js)
      |none=>none
     |none=>none)=some (ys,gs):=hx
    cases hx1:VK lk false t x with
    |none=>
     rw [hx1] at h'
     cases h'
    |some p=>
     obtain ⟨x',js⟩:=p
     rw [hx1] at h'
     cases hl:qY lk ts 0 l with
     |none=>
      rw [hl] at h'
      cases h'
     |some q=>
      obtain ⟨r',js'⟩:=q
      rw [hl] at h'
      injection h' with h'
      injection h' with h1 h2
      subst h1 h2
      cases vs with
      |nil=>exact hr.elim
      |cons v vs=>
       obtain ⟨n1,n2,n3⟩:=bY.1 hn
       obtain ⟨B,b1,b2,b3,_⟩:=y7k h hlk hx1 hr.1
       obtain ⟨bs,c1,c2,c3,c4⟩:=ih 0 l r' js' hl n2 vs hr.2
       have hap:=y7l h b2 c2 (fun q hq hq'=>n3 q hq q hq' rfl)
       refine ⟨B::bs,⟨b1,c1⟩,fun k hk=> ?_,bq.2 ⟨fun c hc k hb hck=>hap k (by simpa [In] using hb) ⟨c,hc,hck⟩,c3⟩,fun k hk=> ?_⟩
       ·rcases In.cons.1 hk with hk|hk
        ·obtain ⟨q,hq,r⟩:=b2 k (by simpa [In] using hk)
         exact ⟨q,by simp [hq],r⟩
        ·obtain ⟨q,hq,r⟩:=c2 k hk
         exact ⟨q,by simp [hq],r⟩
       ·rcases In.cons.1 hk with hk|hk
        ·exact b3 k hk
        ·exact c4 k hk
theorem yiO {bk:Bool} {t:Ty} {x:A} {p:El t×List Nat} (h:VK lk bk t x=some p):x.one=true:=by
 cases x<;>first|rfl|(cases t<;>simp [VK] at h)
theorem ygj: ∀ (ts:List Ty) (c:Nat) (l:List A) (ys:List (Sigma El)) (is:List Nat),qY lk ts c l=some (ys,is)→k6 l=true:=by
 intro ts
 induction ts with
 |nil=>
  intro c l ys is h
  cases l with
  |nil=>rfl
  |cons x l=>cases c<;>exact absurd h (by simp [qY])
 |cons t ts ih=>
  intro c l ys is h
  cases l with
  |nil=>rfl
  |cons x l=>
   cases c with
   |succ c=>exact ih c (x::l) ys is h
   |zero=>
    have h':(match VK lk false t x with
     |some (x,is)=>match qY lk ts 0 l with
      |some (r,js)=>some ((⟨t,x⟩:Sigma El)::r,is++js)
      |none=>none
     |none=>none)=some (ys,is):=h
    cases hx:VK lk false t x with
    |none=>
     rw [hx] at h'
     cases h'
    |some p=>
     rw [hx] at h'
     cases hl:qY lk ts 0 l with
     |none=>
      rw [hl] at h'
      cases h'
     |some q=>simp [k6,yiO hx,ih 0 l q.1 q.2 hl]
def Gh.setDp (G:Gh) (q:Nat) (B:Nat→Prop):Gh:= {G with dp:=fun j=>if j=q then B else G.dp j}
theorem Rel.setDp (h:Rel P w0 lent H0 s a w G) {q:Nat} (hq:yF s.o q=some .gone) (B:Nat→Prop):Rel P w0 lent H0 s a w (G.setDp q B):=by
 have hb: ∀ (j:Nat) (ob:Ob),yF s.o j=some ob→ze (G.setDp q B) j ob=ze G j ob:=by
  intro j ob hj
  by_cases hjq:j=q
  ·subst hjq
   rw [hq] at hj
   injection hj with hj
   subst hj
   rfl
  ·cases ob with
   |deep _ _ _ _ _=>funext k;simp [ze,Gh.setDp,hjq]
   |root own _ _ _=>cases own<;>rfl
   |_=>rfl
 refine {h with defers:=h.defers,len:=h.len,slots:=fun i x hx=>RA.mono (G:=G) (G':=G.setDp q B) (Hp.le.refl _) rfl rfl rfl rfl rfl x _ (h.slots i x hx),objs:=fun i ob hi=> ?_,away:=fun i ob k hi hbk=>h.away i ob k hi (by rw [← hb i ob hi];exact hbk),apart:=fun i j oi oj k hi hj hbi hbj=>h.apart i j oi oj k hi hj (by rw [← hb i oi hi];exact hbi) (by rw [← hb j oj hj];exact hbj)}
 have hro:=h.objs i ob hi
 by_cases hiq:i=q
 ·subst hiq
  rw [hq] at hi
  injection hi with hi
  subst hi
  trivial
 ·cases ob with
  |box cells=>exact ⟨hro.1,fun m x hm=>by
    obtain ⟨h1,v,h2,h3,h4⟩:=hro.2 m x hm
    exact ⟨h1,v,h2,h3,RA.mono (G:=G) (G':=G.setDp q B) (Hp.le.refl _) rfl rfl rfl rfl rfl x v h4⟩⟩
  |root own e ts xs=>cases own<;>exact hro
  |deep fin tag e ts xs=>
   have hd:(G.setDp q B).dp i=G.dp i:=by simp [Gh.setDp,hiq]
   obtain ⟨h1,h2,h3,h4,cells,Bs,h5,h6⟩:=hro
   exact ⟨h1,by rw [hd];exact h2,h3,h4,cells,Bs,by rw [hd];exact h5,h6⟩
  |gone=>trivial
end
section
variable {P:Program} {C:Ctx} {w0:World} {lent:Nat→Prop} {H0:Base} {s:St} {a:Act} {w:World} {G:Gh} {o:Oper} {K:Act→World→Prop} {Q:Exit→Act→World→Prop} {R:Type} {k:Eff→Option R} {r:R} {lk:Lk} {call:C.Sem} {ct wn:Bool}
def RdS (H:Hp):List (Sigma El)→List Value→Prop
 |[],[]=>True
 |y::ys,v::vs=>RdT H y.1 y.2 v∧RdS H ys vs
 |_,_=>False
theorem yf9: ∀ (ts:List Ty) (c:Nat) (l:List A) (ys:List (Sigma El)) (is:List Nat),y6l lk ts c l=some (ys,is)→JD lk G is→ ∀ (vs:List Value),RL G l vs→RdS G.H ys vs:=by
 intro ts
 induction ts with
 |nil=>
  intro c l ys is h hs vs hr
  cases l with
  |nil=>
   have:some (([]:List (Sigma El)),([]:List Nat))=some (ys,is):=by
    cases c<;>exact h
   injection this with this
   injection this with h1 h2
   subst h1
   cases vs with
   |nil=>trivial
   |cons _ _=>exact hr.elim
  |cons x l=>
   cases c<;>exact absurd h (by simp [y6l])
 |cons t ts ih=>
  intro c l ys is h hs vs hr
  cases l with
  |nil=>
   have:some (([]:List (Sigma El)),([]:List Nat))=some (ys,is):=by
    cases c<;>exact h
   injection this with this
   injection this with h1 h2
   subst h1
   cases vs with
   |nil=>trivial
   |cons _ _=>exact hr.elim
  |cons x l=>
   cases c with
   |succ c=>exact ih c (x::l) ys is h hs vs hr
   |zero=>
    have h':(match toT lk t x with
     |some (x,is)=>match y6l lk ts 0 l with
      |some (r,js)=>some ((⟨t,x⟩:Sigma El)::r,is++js)
      |none=>none
     |none=>none)=some (ys,is):=h
    cases hx:toT lk t x with
    |none=>
     rw [hx] at h'
     cases h'
    |some p=>
     obtain ⟨x',js⟩:=p
     rw [hx] at h'
     cases hl:y6l lk ts 0 l with
     |none=>
      rw [hl] at h'
      cases h'
     |some q=>
      obtain ⟨r',js'⟩:=q
      rw [hl] at h'
      injection h' with h'
      injection h' with h1 h2
      subst h1 h2
      cases vs with
      |nil=>exact hr.elim
      |cons v vs=>exact ⟨y4B hx hs.left hr.1,ih 0 l r' js' hl hs.right vs hr.2⟩
theorem yfa {t:Ty} {x:A} {p:El t×List Nat} (h:toT lk t x=some p):x.one=true:=by
 cases x<;>first|rfl|(simp [toT] at h)
theorem yps: ∀ (ts:List Ty) (c:Nat) (l:List A) (ys:List (Sigma El)) (is:List Nat),y6l lk ts c l=some (ys,is)→k6 l=true:=by
 intro ts
 induction ts with
 |nil=>
  intro c l ys is h
  cases l with
  |nil=>rfl
  |cons x l=>cases c<;>exact absurd h (by simp [y6l])
 |cons t ts ih=>
  intro c l ys is h
  cases l with
  |nil=>rfl
  |cons x l=>
   cases c with
   |succ c=>exact ih c (x::l) ys is h
   |zero=>
    have h':(match toT lk t x with
     |some (x,is)=>match y6l lk ts 0 l with
      |some (r,js)=>some ((⟨t,x⟩:Sigma El)::r,is++js)
      |none=>none
     |none=>none)=some (ys,is):=h
    cases hx:toT lk t x with
    |none=>
     rw [hx] at h'
     cases h'
    |some p=>
     rw [hx] at h'
     cases hl:y6l lk ts 0 l with
     |none=>
      rw [hl] at h'
      cases h'
     |some q=>simp [k6,yfa hx,ih 0 l q.1 q.2 hl]
theorem yhE {H:Hp}: ∀ (ts:List Ty) (x:yJ ts) (c:Nat) (ys:List (Sigma El)) (x':yJ ts),y0k ts x c ys=some x'→ ∀ (vs:List Value) (f:Nat→Option Value),RdS H ys vs→RdE H ts x f→
  RdE H ts x' (fun i=>if c≤i∧i<c+vs.length then vs[i - c]? else f i)∧(vs=[]∨c+vs.length≤ts.length):=by
 intro ts
 induction ts with
 |nil=>
  intro x c ys x' h vs f hy hr
  cases ys with
  |nil=>
   cases vs with
   |nil=>exact ⟨trivial,.inl rfl⟩
   |cons _ _=>exact hy.elim
  |cons y ys=>cases c<;>exact absurd h (by rw [show y0k [] x _ (y::ys)=none from rfl];exact fun h=>by cases h)
 |cons t ts ih=>
  intro x c ys x' h vs f hy hr
  cases ys with
  |nil=>
   cases vs with
   |cons _ _=>exact hy.elim
   |nil=>
    have hxx:some x=some x':=by
     cases ts<;>cases c<;>exact h
    injection hxx with hxx
    subst hxx
    refine ⟨RdE.mono (Hp.le.refl H) _ x _ _ (fun i v hv=> ?_) hr,.inl rfl⟩
    rw [am (by simp only [aj];omega)]
    exact hv
  |cons y ys=>
   obtain ⟨u,y⟩:=y
   cases vs with
   |nil=>exact hy.elim
   |cons v vs=>
    cases ts with
    |nil=>
     cases c with
     |succ c=>exact absurd h (by rw [show y0k [t] x (c+1) (⟨u,y⟩::ys)=none by cases ys<;>rfl];exact fun h=>by cases h)
     |zero=>
      cases ys with
      |cons y2 ys=>exact absurd h (by rw [show y0k [t] x 0 (⟨u,y⟩::y2::ys)=none from rfl];exact fun h=>by cases h)
      |nil=>
       have h':j9 u t y=some x':=h
       cases vs with
       |cons _ _=>exact hy.2.elim
       |nil=>exact ⟨⟨v,by simp,qK h' hy.1⟩,.inr (by simp)⟩
    |cons t2 ts=>
     obtain ⟨⟨v0,hv0,hr0⟩,hrs⟩:=hr
     cases c with
     |zero=>
      have h':(match j9 u t y with
       |some z=>match y0k (t2::ts) x.2 0 ys with
        |some w=>some ((z,w):yJ (t::t2::ts))
        |none=>none
       |none=>none)=some x':=h
      cases hc:j9 u t y with
      |none=>
       rw [hc] at h'
       cases h'
      |some z=>
       rw [hc] at h'
       cases hs:y0k (t2::ts) x.2 0 ys with
       |none=>
        rw [hs] at h'
        cases h'
       |some w=>
        rw [hs] at h'
        injection h' with h'
        subst h'
        obtain ⟨h1,h2⟩:=ih x.2 0 ys w hs vs _ hy.2 hrs
        refine ⟨⟨⟨v,by simp,qK hc hy.1⟩,RdE.mono (Hp.le.refl H) _ w _ _ (fun i v' hv'=> ?_) h1⟩,.inr ?_⟩
        ·show (if 0≤i+1∧i+1<0+(v::vs).length then (v::vs)[i+1 - 0]? else f (i+1))=some v'
         by_cases hi:0≤i∧i<0+vs.length
         ·rw [af hi] at hv'
          rw [af (by simp only [ah];omega)]
          simpa using hv'
         ·rw [am hi] at hv'
          rw [am (by simp only [ah];omega)]
          exact hv'
        ·rcases h2 with rfl|h2
         ·simp
         ·simp only [ah] at h2 ⊢
          omega
     |succ c=>
      have h':(match y0k (t2::ts) x.2 c (⟨u,y⟩::ys) with
       |some w=>some ((x.1,w):yJ (t::t2::ts))
       |none=>none)=some x':=h
      cases hs:y0k (t2::ts) x.2 c (⟨u,y⟩::ys) with
      |none=>
       rw [hs] at h'
       cases h'
      |some w=>
       rw [hs] at h'
       injection h' with h'
       subst h'
       obtain ⟨h1,h2⟩:=ih x.2 c (⟨u,y⟩::ys) w hs (v::vs) _ hy hrs
       refine ⟨⟨⟨v0,by simpa using hv0,hr0⟩,RdE.mono (Hp.le.refl H) _ w _ _ (fun i v' hv'=> ?_) h1⟩,.inr ?_⟩
       ·show (if c+1≤i+1∧i+1<c+1+(v::vs).length then (v::vs)[i+1 - (c+1)]? else f (i+1))=some v'
        by_cases hi:c≤i∧i<c+(v::vs).length
        ·rw [af hi] at hv'
         rw [af (by simp only [ah] at hi ⊢;omega),show i+1 - (c+1)=i - c by omega]
         exact hv'
        ·rw [am hi] at hv'
         rw [am (by simp only [ah] at hi ⊢;omega)]
         exact hv'
       ·rcases h2 with h2|h2
        ·cases h2
        ·simp only [ah] at h2 ⊢
         omega
theorem Rel.setRoot (h:Rel P w0 lent H0 s a w G) {q e:Nat} {ts:List Ty} {xs:List (yJ ts)} (hq:yF s.o q=some (.root true e ts xs)) {i c:Nat} (hi:i<xs.length) {x x':yJ ts} {ys:List (Sigma El)} {vs:List Value}
  (hx:xs[i]? =some x) (hs:y0k ts x c ys=some x') (hy:RdS G.H ys vs) (h1: ∀ v∈vs,v.oneCell'=true) (hne:vs≠[]):
  Rel P w0 lent H0 (s.set q (.root true e ts (xs.set i x'))) a (w.setCells (G.g q).1 (i*ts.length+c) vs) G∧
  (∀ j,j<vs.length→(w.cell? ⟨(G.g q).1,i*ts.length+c+j,none⟩).isSome=true∧w.frozen? ⟨(G.g q).1,i*ts.length+c+j,none⟩=false):=by
 obtain ⟨hsz,hpos,cells,hown,hone,hblk,hrd⟩:=h.objs q _ hq
 rcases hown.2 with ⟨_,hn⟩|⟨g,cap,cur,hv,_,hh,hcap,hmax,hcs,htk⟩
 ·omega
 have hg:g=(G.g q).1:=hblk g (by simp [hv,Value.ownBlock])
 subst hg
 obtain ⟨hE,hfit⟩:=yhE (H:=G.H) ts x c ys x' hs vs _ hy (hrd i x hx)
 have hfit':c+vs.length≤ts.length:=hfit.resolve_left hne
 have hi1:(i+1)*ts.length≤xs.length*ts.length:=aI _ hi
 rw [bn,bv] at hi1
 have hn2:xs.length*ts.length≤cap*ts.length:=aI _ hcap
 have hbound:i*ts.length+c+vs.length≤cur.size:=by omega
 have hin: ∀ j,j<vs.length→(w.cell? ⟨(G.g q).1,i*ts.length+c+j,none⟩).isSome=true∧w.frozen? ⟨(G.g q).1,i*ts.length+c+j,none⟩=false:=by
  intro j hj
  constructor
  ·rw [cell_of_row w _ _ cur e (0,0) hh]
   have hlt:i*ts.length+c+j<cur.size:=by omega
   simp [hlt]
  ·simp [World.frozen?,hh]
 refine ⟨?_,hin⟩
 obtain ⟨e1,e2,e3,e4⟩:=zg (G.g q).1 vs (i*ts.length+c) w
 have hbq:ze G q (.root true e ts xs) (G.g q).1:=by simp [ze,hv,Value.ownBlock]
 have h2:=(h.gone q).heap (w':=w.setCells (G.g q).1 (i*ts.length+c) vs) e1 e2 e3 (by omega) (fun k hk=>by
  by_cases hkb:k=(G.g q).1
  ·subst hkb
   exact .inr (jY h hq hbq)
  ·exact .inl (yN _ _ _ _ _ hkb))
 have hh':=zq (G.g q).1 vs (i*ts.length+c) w cur hh
 have hget:=fun j=>zK vs cur (i*ts.length+c) j hbound
 have hold: ∀ m,m<xs.length*ts.length→cells[m]? =cur[m]? :=by
  intro m hm
  rw [← htk,aD,af hm]
  simp
 have hnew: ∀ m,m<xs.length*ts.length→((zR cur (i*ts.length+c) vs).toList.take (xs.length*ts.length))[m]? =if i*ts.length+c≤m∧m<i*ts.length+c+vs.length then vs[m - (i*ts.length+c)]? else cells[m]? :=by
  intro m hm
  rw [aD,af hm,hold m hm,aQ,hget m]
 have h3:=h2.set (i:=q) (ob:= .root true e ts (xs.set i x')) (by
  refine ⟨by rw [aG];exact hsz,hpos,(zR cur (i*ts.length+c) vs).toList.take (xs.length*ts.length),⟨?_,.inr ⟨(G.g q).1,cap,zR cur (i*ts.length+c) vs,by rw [aG];exact hv,bQ _,hh',by rw [aG];exact hcap,hmax,by rw [yC];exact hcs,by rw [aG]⟩⟩,fun u hu=> ?_,hblk,fun j y hj=> ?_⟩
  ·simp [yC,aG]
   omega
  ·obtain ⟨m,hm⟩:=cf.1 hu
   have hml:m<xs.length*ts.length:=by
    have:=(av.1 hm).1
    rw [ak] at this
    omega
   rw [hnew m hml] at hm
   split at hm
   ·exact h1 u (aV hm)
   ·exact hone u (aV hm)
  ·have hjl:j<xs.length:=by
    have:=(av.1 hj).1
    rwa [aG] at this
   have hj1:(j+1)*ts.length≤xs.length*ts.length:=aI _ hjl
   rw [bn,bv] at hj1
   by_cases hji:j=i
   ·subst hji
    rw [bh hi] at hj
    injection hj with hj
    subst hj
    refine RdE.ext ts x' _ _ (fun m v hm hv=> ?_) hE
    rw [hnew _ (by omega)]
    by_cases hc:c≤m∧m<c+vs.length
    ·have hv':(if c≤m∧m<c+vs.length then vs[m - c]? else cells[j*ts.length+m]?)=some v:=hv
     rw [af hc] at hv'
     rw [af (by omega),show j*ts.length+m - (j*ts.length+c)=m - c by omega]
     exact hv'
    ·have hv':(if c≤m∧m<c+vs.length then vs[m - c]? else cells[j*ts.length+m]?)=some v:=hv
     rw [am hc] at hv'
     rw [am (by omega)]
     exact hv'
   ·rw [bl (fun e=>hji e.symm)] at hj
    refine RdE.ext ts y _ _ (fun m v hm hv=> ?_) (hrd j y hj)
    rw [hnew _ (by omega),am ?_]
    ·exact hv
    ·intro hc
     rcases cw hji with hlt|hlt
     ·have:(j+1)*ts.length≤i*ts.length:=aI _ hlt
      rw [bn,bv] at this
      omega
     ·have:(i+1)*ts.length≤j*ts.length:=aI _ hlt
      rw [bn,bv] at this
      omega) (fun k hk=> ?_)
 ·rw [St.set_set] at h3
  exact h3
 ·have hk':(G.g q).1=k:=by simpa [ze,hv,Value.ownBlock] using hk
  subst hk'
  obtain ⟨f1,f2,f3⟩:=jY h hq hbq
  exact ⟨f1,f2,fun j oj _ hj=>f3 j oj hj⟩
theorem y1l {G:Gh} {q:Nat} {B:Nat→Prop} {j:Nat} {oj:Ob} (hj:j≠q):ze (G.setDp q B) j oj=ze G j oj:=by
 cases oj with
 |deep _ _ _ _ _=>funext k;simp [ze,Gh.setDp,hj]
 |root own _ _ _=>cases own<;>rfl
 |_=>rfl
theorem DpS.noSlice {w:World}: ∀ {ys:List (Sigma El)} {bs:List (Nat→Prop)} {vs:List Value},DpS w ys bs vs→yeX ys=true→ ∀ (j:Nat) (A:Option Addr) (n cc:Nat),vs[j]? ≠some (.slice A n cc)
 |[],[],[],_,_,j,A,n,cc=>by simp
 |⟨t,y⟩::ys,b::bs,v::vs,hd,hf,0,A,n,cc=>by
  intro he
  have hv:v= .slice A n cc:=by simpa using he
  have hd1:DpT w t b y v:=hd.1
  simp only [yeX,al] at hf
  rw [hv] at hd1
  cases t with
  |sl _ _=>simp [Ty.flat] at hf
  |int _=>cases (show Value.slice A n cc=_ from hd1)
  |bool=>cases (show Value.slice A n cc=_ from hd1)
  |str=>cases (show Value.slice A n cc=_ from hd1)
 |⟨t,y⟩::ys,b::bs,v::vs,hd,hf,j+1,A,n,cc=>by
  simp only [yeX,al] at hf
  have:=DpS.noSlice hd.2 hf.2 j A n cc
  simpa using this
theorem DpR.store {w:World} {B:Nat→Prop} {e:Nat} {ts:List Ty} {xs:List (yJ ts)} {sv:Value} {cells:List Value} {Bs:Nat→Nat→Prop} (hd:DpR w B e ts xs sv cells Bs) {g cap:Nat} {cur:Array Value} (hv:sv= .slice (some ⟨g,0,none⟩) xs.length cap) (hh:w.heap[g]? =some (.cells cur e (0,0))) (hcap:xs.length≤cap) (hmax:cap≤maxLen) (hcs:cur.size=cap*ts.length) (htk:cur.toList.take (xs.length*ts.length)=cells)
  {i c:Nat} (hi:i<xs.length) {x x':yJ ts} {ys:List (Sigma El)} {vs:List Value} {bs:List (Nat→Prop)} (hx:xs[i]? =some x) (hs:y0k ts x c ys=some x') (hy:DpS w ys bs vs) (hap:y3A bs) (hgd: ∀ k,In bs k→ ¬ B k) (h1: ∀ v∈vs,v.oneCell'=true) (hfit':c+vs.length≤ts.length):
  ∃ cells' Bs',DpR (w.setCells g (i*ts.length+c) vs) (fun k=>B k∨In bs k) e ts (xs.set i x') sv cells' Bs'∧ ∀ m,m<cells'.length→cells'[m]? =if i*ts.length+c≤m∧m<i*ts.length+c+vs.length then vs[m - (i*ts.length+c)]? else cells[m]? :=by
 classical
 obtain ⟨hE,hfit⟩:=y6I ts x c ys x' hs
 obtain ⟨hlb,hlv⟩:=hy.lens
 have hi1:(i+1)*ts.length≤xs.length*ts.length:=aI _ hi
 rw [bn,bv] at hi1
 have hn2:xs.length*ts.length≤cap*ts.length:=aI _ hcap
 have hbound:i*ts.length+c+vs.length≤cur.size:=by omega
 have hob:sv.ownBlock=some g:=by rw [hv];rfl
 have htop:B g:=hd.top _ hob
 have hh':=zq g vs (i*ts.length+c) w cur hh
 have hget:=fun j=>zK vs cur (i*ts.length+c) j hbound
 have hold: ∀ m,m<xs.length*ts.length→cells[m]? =cur[m]? :=by
  intro m hm
  rw [← htk,aD,af hm]
  simp
 have hnew: ∀ m,m<xs.length*ts.length→((zR cur (i*ts.length+c) vs).toList.take (xs.length*ts.length))[m]? =if i*ts.length+c≤m∧m<i*ts.length+c+vs.length then vs[m - (i*ts.length+c)]? else cells[m]? :=by
  intro m hm
  rw [aD,af hm,hold m hm,aQ,hget m]
 have hother: ∀ k,k≠g→(w.setCells g (i*ts.length+c) vs).heap[k]? =w.heap[k]? :=fun k hk=>yN _ _ _ _ _ hk
 have hget2: ∀ (l:List (Nat→Prop)) (m k:Nat),(l.getD m fun _=>False) k→ ∃ b,l[m]? =some b∧b k:=by
  intro l m k hk
  rw [au] at hk
  cases hl:l[m]? with
  |none=>rw [hl] at hk;exact hk.elim
  |some b=>exact ⟨b,rfl,by rw [hl] at hk;exact hk⟩
 let Bs':Nat→Nat→Prop:=fun m=>if i*ts.length+c≤m∧m<i*ts.length+c+vs.length then bs.getD (m - (i*ts.length+c)) (fun _=>False) else Bs m
 have hBs: ∀ m k,Bs' m k→(i*ts.length+c≤m∧m<i*ts.length+c+vs.length∧ ∃ b,bs[m - (i*ts.length+c)]? =some b∧b k)∨(¬ (i*ts.length+c≤m∧m<i*ts.length+c+vs.length)∧Bs m k):=by
  intro m k hk
  have hk':(if i*ts.length+c≤m∧m<i*ts.length+c+vs.length then bs.getD (m - (i*ts.length+c)) (fun _=>False) else Bs m) k:=hk
  by_cases hm:i*ts.length+c≤m∧m<i*ts.length+c+vs.length
  ·rw [af hm] at hk'
   obtain ⟨b,hb,hbk⟩:=hget2 _ _ _ hk'
   exact .inl ⟨hm.1,hm.2,b,hb,hbk⟩
  ·rw [am hm] at hk'
   exact .inr ⟨hm,hk'⟩
 refine ⟨_,Bs',(?_:DpR (w.setCells g (i*ts.length+c) vs) (fun k=>B k∨In bs k) e ts (xs.set i x') sv ((zR cur (i*ts.length+c) vs).toList.take (xs.length*ts.length)) Bs'),fun m hm=>hnew m (by rw [ak] at hm;omega)⟩
 ·refine ⟨hd.pos,⟨?_,.inr ⟨g,cap,zR cur (i*ts.length+c) vs,by rw [aG];exact hv,bQ _,hh',by rw [aG];exact hcap,hmax,by rw [yC];exact hcs,by rw [aG]⟩⟩,fun u hu=> ?_,fun k hk=> .inl (hd.top k hk),fun m k hk=> ?_,fun m m' k hk hk'=> ?_,fun j y hj=> ?_⟩
  ·simp [yC,aG]
   omega
  ·obtain ⟨m,hm⟩:=cf.1 hu
   have hml:m<xs.length*ts.length:=by
    have:=(av.1 hm).1
    rw [ak] at this
    omega
   rw [hnew m hml] at hm
   split at hm
   ·exact h1 u (aV hm)
   ·exact hd.one u (aV hm)
  ·rcases hBs m k hk with ⟨_,_,b,hb,hbk⟩|⟨_,hb⟩
   ·have hInk:In bs k:=⟨b,aV hb,hbk⟩
    exact ⟨.inr hInk,fun he=>hgd k hInk (hd.top k he)⟩
   ·exact ⟨.inl (hd.sub m k hb).1,(hd.sub m k hb).2⟩
  ·rcases hBs m k hk with ⟨a1,a2,b,hb,hbk⟩|⟨a1,hb⟩<;>rcases hBs m' k hk' with ⟨a1',a2',b',hb',hbk'⟩|⟨a1',hb'⟩
   ·have hpw:=List.pairwise_iff_getElem.1 hap
    obtain ⟨l1,g1⟩:=av.1 hb
    obtain ⟨l2,g2⟩:=av.1 hb'
    rcases Nat.lt_trichotomy (m - (i*ts.length+c)) (m' - (i*ts.length+c)) with hlt|heq|hlt
    ·exact absurd (by rw [g2];exact hbk') (hpw _ _ l1 l2 hlt k (by rw [g1];exact hbk))
    ·omega
    ·exact absurd (by rw [g1];exact hbk) (hpw _ _ l2 l1 hlt k (by rw [g2];exact hbk'))
   ·exact absurd (hd.sub m' k hb').1 (hgd k ⟨b,aV hb,hbk⟩)
   ·exact absurd (hd.sub m k hb).1 (hgd k ⟨b',aV hb',hbk'⟩)
   ·exact hd.dis m m' k hb hb'
  ·have hjl:j<xs.length:=by
    have:=(av.1 hj).1
    rwa [aG] at this
   have hj1:(j+1)*ts.length≤xs.length*ts.length:=aI _ hjl
   rw [bn,bv] at hj1
   refine (JC ts _ _ _).2 fun c' y' hc'=> ?_
   have hcl:=y3d ts _ _ _ hc'
   by_cases hji:j=i
   ·subst hji
    rw [bh hi] at hj
    injection hj with hj
    subst hj
    rw [hE c'] at hc'
    by_cases hc2:c≤c'∧c'<c+ys.length
    ·rw [af hc2] at hc'
     obtain ⟨u,hu,hdu⟩:=hy.get _ _ hc'
     refine ⟨u,?_,?_⟩
     ·show ((zR cur (j*ts.length+c) vs).toList.take (xs.length*ts.length))[j*ts.length+c']? =some u
      rw [hnew _ (by omega),af (by omega),show j*ts.length+c' - (j*ts.length+c)=c' - c by omega]
      exact hu
     ·show DpT _ _ (if _ then _ else _) _ _
      rw [af (by omega),show j*ts.length+c' - (j*ts.length+c)=c' - c by omega]
      refine DpT.frame _ _ _ _ _ (fun k hk=>hother k fun he=> ?_) (fun _ hk=>hk) hdu
      obtain ⟨b,hb,hbk⟩:=hget2 _ _ _ hk
      subst he
      exact hgd _ ⟨b,aV hb,hbk⟩ htop
    ·rw [am hc2] at hc'
     obtain ⟨u,hu,hdu⟩:=(JC ts _ _ _).1 (hd.rd j x hx) c' y' hc'
     refine ⟨u,?_,?_⟩
     ·show ((zR cur (j*ts.length+c) vs).toList.take (xs.length*ts.length))[j*ts.length+c']? =some u
      rw [hnew _ (by omega),am (by omega)]
      exact hu
     ·show DpT _ _ (if _ then _ else _) _ _
      rw [am (by omega)]
      exact DpT.frame _ _ _ _ _ (fun k hk=>hother k fun he=>(hd.sub _ k hk).2 (by rw [he];exact hob)) (fun _ hk=>hk) hdu
   ·rw [bl (fun e=>hji e.symm)] at hj
    obtain ⟨u,hu,hdu⟩:=(JC ts _ _ _).1 (hd.rd j y hj) c' y' hc'
    have hout: ¬ (i*ts.length+c≤j*ts.length+c'∧j*ts.length+c'<i*ts.length+c+vs.length):=by
     intro hc
     rcases cw hji with hlt|hlt
     ·have:(j+1)*ts.length≤i*ts.length:=aI _ hlt
      rw [bn,bv] at this
      omega
     ·have:(i+1)*ts.length≤j*ts.length:=aI _ hlt
      rw [bn,bv] at this
      omega
    refine ⟨u,?_,?_⟩
    ·show ((zR cur (i*ts.length+c) vs).toList.take (xs.length*ts.length))[j*ts.length+c']? =some u
     rw [hnew _ (by omega),am hout]
     exact hu
    ·show DpT _ _ (if _ then _ else _) _ _
     rw [am hout]
     exact DpT.frame _ _ _ _ _ (fun k hk=>hother k fun he=>(hd.sub _ k hk).2 (by rw [he];exact hob)) (fun _ hk=>hk) hdu
theorem Rel.setDeep (h:Rel P w0 lent H0 s a w G) {q e tag:Nat} {fin:Bool} {ts:List Ty} {xs:List (yJ ts)} (hq:yF s.o q=some (.deep fin tag e ts xs)) {i c:Nat} (hi:i<xs.length) {x x':yJ ts} {ys:List (Sigma El)} {vs:List Value} {bs:List (Nat→Prop)} {gs:List Nat}
  (hx:xs[i]? =some x) (hs:y0k ts x c ys=some x') (hy:DpS w ys bs vs) (hgs:y20 s G gs bs) (hap:y3A bs) (hlt: ∀ k,In bs k→k<w.heap.size) (hqg:q∉gs) (h1: ∀ v∈vs,v.oneCell'=true) (hne:vs≠[]):
  Rel P w0 lent H0 ((s.setAll (YB gs)).set q (.deep (fin&&yeX ys) tag e ts (xs.set i x'))) a (w.setCells (G.g q).1 (i*ts.length+c) vs) (G.setDp q fun k=>G.dp q k∨In bs k)∧
  (∀ j,j<vs.length→(w.cell? ⟨(G.g q).1,i*ts.length+c+j,none⟩).isSome=true∧w.frozen? ⟨(G.g q).1,i*ts.length+c+j,none⟩=false):=by
 classical
 obtain ⟨hsz,hdlt,htag,hblk,cells,Bs,hd,hfin⟩:=h.objs q _ hq
 rcases hd.row.2 with ⟨_,hn⟩|⟨g,cap,cur,hv,_,hh,hcap,hmax,hcs,htk⟩
 ·omega
 have hg:g=(G.g q).1:=hblk g (by simp [hv,Value.ownBlock])
 subst hg
 obtain ⟨hE,hfit⟩:=y6I ts x c ys x' hs
 obtain ⟨hlb,hlv⟩:=hy.lens
 have hfit':c+vs.length≤ts.length:=by
  rcases hfit with h0|h0
  ·rw [h0] at hlv
   exact absurd (aP.1 hlv) hne
  ·omega
 have hi1:(i+1)*ts.length≤xs.length*ts.length:=aI _ hi
 rw [bn,bv] at hi1
 have hn2:xs.length*ts.length≤cap*ts.length:=aI _ hcap
 have hbound:i*ts.length+c+vs.length≤cur.size:=by omega
 have hin: ∀ j,j<vs.length→(w.cell? ⟨(G.g q).1,i*ts.length+c+j,none⟩).isSome=true∧w.frozen? ⟨(G.g q).1,i*ts.length+c+j,none⟩=false:=by
  intro j hj
  constructor
  ·rw [cell_of_row w _ _ cur e (0,0) hh]
   have hlt:i*ts.length+c+j<cur.size:=by omega
   simp [hlt]
  ·simp [World.frozen?,hh]
 refine ⟨?_,hin⟩
 obtain ⟨e1,e2,e3,e4⟩:=zg (G.g q).1 vs (i*ts.length+c) w
 have hob:(G.sv q).ownBlock=some (G.g q).1:=by rw [hv];rfl
 have htop:G.dp q (G.g q).1:=hd.top _ hob
 have h0:=Rel.gones gs h
 have hq0:yF (s.setAll (YB gs)).o q=some (.deep fin tag e ts xs):=by
  rw [kW,am hqg]
  exact hq
 have hgone:=h0.gone q
 have hlq:yF ((s.setAll (YB gs)).set q .gone).o q=some .gone:=by
  show yF (Vx _ q _) q=_
  rw [Yj]
  simp [hq0]
 have h2:=hgone.heap (w':=w.setCells (G.g q).1 (i*ts.length+c) vs) e1 e2 e3 (by omega) (fun k hk=>by
  by_cases hkb:k=(G.g q).1
  ·subst hkb
   exact .inr (jY h0 hq0 htop)
  ·exact .inl (yN _ _ _ _ _ hkb))
 have h2':=h2.setDp hlq (fun k=>G.dp q k∨In bs k)
 have hgd: ∀ k,In bs k→ ¬ G.dp q k:=fun k hk hdk=>by
  obtain ⟨q',hq',ob,hl,hbq⟩:=hgs k hk
  have:=h.apart q' q _ _ k hl hq hbq hdk
  subst this
  exact hqg hq'
 obtain ⟨cells',Bs',hR,hnew⟩:=hd.store hv hh hcap hmax hcs htk hi hx hs hy hap hgd h1 hfit'
 have hdp:(G.setDp q fun k=>G.dp q k∨In bs k).dp q=fun k=>G.dp q k∨In bs k:=by simp [Gh.setDp]
 have h3:=h2'.set (i:=q) (ob:= .deep (fin&&yeX ys) tag e ts (xs.set i x')) ⟨by rw [aG];exact hsz,fun k hk=>by
   rw [hdp] at hk
   rw [e4]
   exact hk.elim (hdlt k) (hlt k),htag,hblk,cells',Bs',by rw [hdp];exact hR,fun hf m A n cc hm=>by
   simp only [al] at hf
   rw [hnew m (av.1 hm).1] at hm
   by_cases hm2:i*ts.length+c≤m∧m<i*ts.length+c+vs.length
   ·rw [af hm2] at hm
    exact absurd hm (hy.noSlice hf.2 _ A n cc)
   ·rw [am hm2] at hm
    exact hfin hf.1 m A n cc hm⟩ (fun k hk=>by
   have hk':G.dp q k∨In bs k:=by
    have hk2:(G.setDp q fun k=>G.dp q k∨In bs k).dp q k:=hk
    rw [hdp] at hk2
    exact hk2
   have hbl: ∀ (j:Nat) (oj:Ob),j≠q→yF ((s.setAll (YB gs)).set q .gone).o j=some oj→yF (s.setAll (YB gs)).o j=some oj:=by
    intro j oj hj hl
    have hl':yF (Vx (s.setAll (YB gs)).o q .gone) j=some oj:=hl
    rw [Yj,am hj] at hl'
    exact hl'
   have hbeq: ∀ (j:Nat) (oj:Ob),j≠q→ze (G.setDp q fun k=>G.dp q k∨In bs k) j oj=ze G j oj:=fun j oj hj=>y1l hj
   rcases hk' with hk'|hk'
   ·obtain ⟨a1,a2⟩:=h.away q _ k hq hk'
    refine ⟨a1,a2,fun j oj hj hl hbj=>hj ?_⟩
    rw [hbeq j oj hj] at hbj
    exact h0.apart j q _ _ k (hbl j oj hj hl) hq0 hbj hk'
   ·obtain ⟨q',hq',ob,hl',hbq⟩:=hgs k hk'
    obtain ⟨a1,a2⟩:=h.away q' _ k hl' hbq
    refine ⟨a1,a2,fun j oj hj hl hbj=> ?_⟩
    rw [hbeq j oj hj] at hbj
    have hl2:=hbl j oj hj hl
    rw [kW] at hl2
    split at hl2
    ·obtain ⟨_,_,rfl⟩:=aq.1 hl2
     exact hbj
    ·rename_i hjg
     have:=h.apart j q' _ _ k hl2 hl' hbj hbq
     subst this
     exact hjg hq')
 rw [St.set_set] at h3
 exact h3
theorem ygk {u:Ty} (h:u.flat=true):u.eqb u=true:=by
 cases u with
 |int k=>cases k<;>rfl
 |bool=>rfl
 |str=>rfl
 |sl _ _=>simp [Ty.flat] at h
theorem DpR.inner {w w':World} {B:Nat→Prop} {e:Nat} {ts:List Ty} {xs:List (yJ ts)} {sv:Value} {cells:List Value} {Bs:Nat→Nat→Prop} (hd:DpR w B e ts xs sv cells Bs) {g i c:Nat} (hi:i<xs.length) {x x':yJ ts} (hx:xs[i]? =some x) {e1:Nat} {us:List Ty} {zs zs':El (.sl e1 us)} {u0:Value}
  (hcs:Kb ts x c=some ⟨.sl e1 us,zs⟩) (hs:y0k ts x c [⟨.sl e1 us,zs'⟩]=some x') (hu0:cells[i*ts.length+c]? =some u0) (hg:Bs (i*ts.length+c) g) (hw: ∀ k,k≠g→w'.heap[k]? =w.heap[k]?) (hin:DpT w' (.sl e1 us) (Bs (i*ts.length+c)) zs' u0):DpR w' B e ts (xs.set i x') sv cells Bs:=by
 obtain ⟨hE,_⟩:=y6I ts x c _ x' hs
 have hcl:=y3d ts _ _ _ hcs
 refine ⟨hd.pos,⟨by rw [aG];exact hd.row.1,?_⟩,hd.one,hd.top,hd.sub,hd.dis,fun j y hj=>(JC ts _ _ _).2 fun c' y' hc'=> ?_⟩
 ·rw [aG]
  rcases hd.row.2 with h1|⟨g2,cap,cur,hv,hb,hg2,r⟩
  ·exact .inl h1
  ·exact .inr ⟨g2,cap,cur,hv,hb,(hw g2 fun e=>(hd.sub _ g hg).2 (by rw [hv,← e];rfl)).trans hg2,r⟩
 ·have hcl':=y3d ts _ _ _ hc'
  by_cases hji:j=i
  ·subst hji
   rw [bh hi] at hj
   injection hj with hj
   subst hj
   rw [hE c'] at hc'
   by_cases hc2:c'=c
   ·subst hc2
    rw [af ⟨aS _,by simp⟩,Nat.sub_self] at hc'
    have:y'=⟨.sl e1 us,zs'⟩:=by simpa using hc'.symm
    subst this
    exact ⟨u0,hu0,hin⟩
   ·rw [am (by simp only [ah,aj];omega)] at hc'
    obtain ⟨u,hu,hdu⟩:=(JC ts _ _ _).1 (hd.rd j x hx) c' y' hc'
    exact ⟨u,hu,DpT.frame _ _ _ _ _ (fun k hk=>hw k fun e=>hc2 (by
     have:=hd.dis _ _ k hk (by rw [e];exact hg)
     omega)) (fun _ hk=>hk) hdu⟩
  ·rw [bl (fun e=>hji e.symm)] at hj
   obtain ⟨u,hu,hdu⟩:=(JC ts _ _ _).1 (hd.rd j y hj) c' y' hc'
   refine ⟨u,hu,DpT.frame _ _ _ _ _ (fun k hk=>hw k fun e=> ?_) (fun _ hk=>hk) hdu⟩
   have hm:=hd.dis _ _ k hk (by rw [e];exact hg)
   rcases cw hji with hlt|hlt
   ·have:(j+1)*ts.length≤i*ts.length:=aI _ hlt
    rw [bn,bv] at this
    omega
   ·have:(i+1)*ts.length≤j*ts.length:=aI _ hlt
    rw [bn,bv] at this
    omega
theorem Rel.setInner (h:Rel P w0 lent H0 s a w G) {q e tag:Nat} {ts:List Ty} {xs:List (yJ ts)} (hq:yF s.o q=some (.deep true tag e ts xs)) {i c:Nat} (hi:i<xs.length) {x x':yJ ts} (hx:xs[i]? =some x) {e1:Nat} {u:Ty} {zs:List (yJ [u])} (hcs:Kb ts x c=some ⟨.sl e1 [u],zs⟩) {k n m:Nat} (hkn:k<n) {y:El u}
  (hs:y0k ts x c [⟨.sl e1 [u],zs.set k (show yJ [u] from y)⟩]=some x') (hu:u.flat=true) {v:Value} (hv:RdT G.H u y v) (h1:v.oneCell'=true) {ad:Addr} (hhd:G.hd q (i*ts.length+c)= .slice (some ad) n m):
  ∃ g,ad=⟨g,0,none⟩∧Rel P w0 lent H0 (s.set q (.deep true tag e ts (xs.set i x'))) a (w.setCells g k [v]) G∧(w.cell? ⟨g,k,none⟩).isSome=true∧w.frozen? ⟨g,k,none⟩=false:=by
 obtain ⟨hsz,hdlt,htag,hblk,cells,Bs,hd,hfin⟩:=h.objs q _ hq
 obtain ⟨u0,hu0,hdu⟩:=(JC ts _ _ _).1 (hd.rd i x hx) c _ hcs
 obtain ⟨cells1,Bs1,hR⟩:=DpT.row.1 hdu
 rcases hR.row.2 with ⟨hu2,hn⟩|⟨g,cap,cur,hv2,_,hh,hcap,hmax,hcs2,htk⟩
 ·have hhd2:=hfin rfl _ _ _ _ (by rw [← hu2];exact hu0)
  rw [hhd] at hhd2
  injection hhd2 with hA _ _
  cases hA
 have hhd2:=hfin rfl _ _ _ _ (by rw [← hv2];exact hu0)
 rw [hhd] at hhd2
 injection hhd2 with hA hlen _
 injection hA with hA
 have hk:k<zs.length:=by
  have:n=zs.length:=hlen
  omega
 have hgB:=hR.top g (by rw [hv2];rfl)
 obtain ⟨hsubB,hne⟩:=hd.sub _ g hgB
 have hin0: ∀ b,¬ In [fun _:Nat=>False] b:=fun b hb=>by simp [In] at hb
 have hse1:y0k [u] (zs[k]) 0 [⟨u,y⟩]=some (show yJ [u] from y):=by
  show j9 u u y=some y
  unfold j9
  rw [dif_pos (ygk hu)]
 obtain ⟨cells',Bs',hR',_⟩:=hR.store hv2 hh hcap hmax hcs2 htk hk (x:=zs[k]) (x':=(show yJ [u] from y)) (ys:=[⟨u,y⟩]) (vs:=[v]) (bs:=[fun _=>False]) (c:=0) (aJ hk) hse1 ⟨(DpT.flat hu G.H).2 hv,trivial⟩ (bZ _ _) (fun b hb=>(hin0 b hb).elim) (fun z hz=>by rw [aW.1 hz];exact h1) (by simp)
 have hk1:k*[u].length+0=k:=by simp
 rw [hk1] at hR'
 have hR2:=DpR.frame (w':=w.setCells g k [v]) (B':=Bs (i*ts.length+c)) hR' (fun _ _=>rfl) (fun b hb=>hb.elim id fun hb=>(hin0 b hb).elim)
 have hD:=hd.inner (w':=w.setCells g k [v]) hi hx hcs hs hu0 hgB (fun b hb=>yN _ _ _ _ _ hb) (DpT.row.2 ⟨cells',Bs',hR2⟩)
 have hsize:k<cur.size:=by
  have:zs.length*[u].length≤cap*[u].length:=aI _ hcap
  simp at this hcs2
  omega
 refine ⟨g,hA,?_,by rw [cell_of_row w _ _ cur e1 (0,0) hh];simp [hsize],by simp [World.frozen?,hh]⟩
 obtain ⟨f1,f2,f3,f4⟩:=zg g [v] k w
 have h2:=(h.gone q).heap (w':=w.setCells g k [v]) f1 f2 f3 (by omega) (fun b hb=>by
  by_cases hbg:b=g
  ·subst hbg
   exact .inr (jY h hq hsubB)
  ·exact .inl (yN _ _ _ _ _ hbg))
 have h3:=h2.set (i:=q) (ob:= .deep true tag e ts (xs.set i x')) ⟨by rw [aG];exact hsz,fun b hb=>by rw [f4];exact hdlt b hb,htag,hblk,cells,Bs,hD,fun _=>hfin rfl⟩ (fun b hb=>by
  obtain ⟨a1,a2⟩:=h.away q _ b hq hb
  refine ⟨a1,a2,fun j oj hj hl hbj=>hj ?_⟩
  have hl':yF (Vx s.o q .gone) j=some oj:=hl
  rw [Yj,am hj] at hl'
  exact h.apart j q _ _ b hl' hq hbj hb)
 rw [St.set_set] at h3
 exact h3
theorem yll (hT:TOk C P) (h:Rel P w0 lent H0 s a w G) (hK:y4A P w0 lent H0 s o k r K) (hlk:y5e lk s) {t:Nat} {p x:Operand} (hop:o.op= .store t p x) (he:jb C call ct wn o s.opd lk k=some r):o.wp P a w K Q:=by
 have hp:=h.opd p
 have hx:=h.opd x
 simp only [jb,hop] at he
 cases ht:C.info t with
 |none=>simp [ht] at he
 |some ti=>
  simp only [ht] at he
  cases hb:Nat.beq (s.opd x).cells.length ti.ts.length with
  |false=>simp [hb] at he
  |true=>
   simp only [hb,ai] at he
   have hbl:=an hb
   cases hpa:s.opd p with
   |box b off=>
    rw [hpa] at hp he
    simp only [ycF] at he
    cases hl:lk b with
    |none=>simp [hl] at he
    |some ob=>
     cases ob with
     |box cs=>
      simp only [hl] at he
      cases hs:JA cs off (s.opd x).cells with
      |none=>simp [hs] at he
      |some cs'=>
       simp only [hs] at he
       cases h1:k6 (s.opd x).cells with
       |false=>simp [h1] at he
       |true=>
        simp only [h1,ai] at he
        have hlr:=Q4 h1 hx
        have hone:=Q3 h1 hlr
        obtain ⟨hrel,hin⟩:=h.setBox (hlk b _ hl) hs hlr hone
        refine wp_skip (w':=w.setCells (G.g b).1 ((G.g b).2+off) (a.eval x).cells.toList) ?_ (hK _ _ _ G he ?_)
        ·have:=y4z (P:=P) hT ht (G.g b).1 ((G.g b).2+off) (a.eval x) (by rw [← hlr.length];exact hbl) hin hone
         simp [execOp,hop,show a.eval p=_ from hp,this]
        ·exact hrel.put o.dst (x:= .dead) trivial
     |_=>simp [hl] at he
   |rtp q i c=>
    rw [hpa] at hp he
    simp only [ycF] at he
    cases hl:lk q with
    |none=>simp [hl] at he
    |some ob=>
     cases ob with
     |root own e ts xs=>
      cases own with
      |false=>simp [hl] at he
      |true=>
       simp only [hl] at he
       cases hts:y6l lk ts c (s.opd x).cells with
       |none=>simp [hts] at he
       |some q2=>
        obtain ⟨ys,is⟩:=q2
        simp only [hts] at he
        cases hse:y0k ts (rdE ts xs i) c ys with
        |none=>simp [hse] at he
        |some x'=>
         simp only [hse] at he
         cases hm:qR is q with
         |true=>simp [hm] at he
         |false=>
          simp only [hm,ag] at he
          obtain ⟨G1,hg1,hr1,hset⟩:=h.settles hlk.rows is
          have hq1:yF (s.setAll (settles lk is)).o q=some (.root true e ts xs):=by
           rw [ZH _ _ (y5Q lk is hm)]
           exact hlk q _ hl
          obtain ⟨hsz,hpos,_,_⟩:=qJ h (hlk q _ hl)
          obtain ⟨hpv,hlt⟩:=hp
          rw [hsz] at hlt hpv
          have hlt':i.toNat<xs.length:=hlt
          have hxi:xs[i.toNat]? =some (rdE ts xs i):=by simp [rdE,hlt']
          have h1:k6 (s.opd x).cells=true:=yps ts c _ ys is hts
          have hlr:=Q4 h1 hx
          have hone:=Q3 h1 hlr
          have hyr:=yf9 ts c _ ys is hts hset _ (hlr.grown hg1)
          have hne:(a.eval x).cells.toList≠[]:=by
           intro e0
           have:=hlr.length
           rw [hbl,e0] at this
           obtain ⟨_,_,_,_,_,_,_,hp0,_⟩:=hT.info t ti ht
           rw [this] at hp0
           exact absurd hp0 (Nat.lt_irrefl 0)
          obtain ⟨hrel,hin⟩:=hr1.setRoot hq1 hlt' hxi hse hyr hone hne
          rw [hg1.g] at hrel hin
          refine wp_skip (w':=w.setCells (G.g q).1 (i.toNat*ts.length+c) (a.eval x).cells.toList) ?_ (hK _ _ _ G1 he ?_)
          ·have:=y4z (P:=P) hT ht (G.g q).1 (i.toNat*ts.length+c) (a.eval x) (by rw [← hlr.length];exact hbl) hin hone
           simp [execOp,hop,show a.eval p=_ from hpv,this]
          ·have:=hrel.put o.dst (x:= .dead) (v:=undef) trivial
           simpa [St.apply,St.makeAll,St.setAll_append,St.setAll] using this
     |deep fin tag e ts xs=>
      simp only [hl] at he
      cases hts:qY lk ts c (s.opd x).cells with
      |none=>simp [hts] at he
      |some q2=>
       obtain ⟨ys,gs⟩:=q2
       simp only [hts] at he
       cases hse:y0k ts (rdE ts xs i) c ys with
       |none=>simp [hse] at he
       |some x'=>
        simp only [hse] at he
        cases hm:qR gs q|| !y0F gs with
        |true=>simp [hm] at he
        |false=>
         simp only [hm,ag] at he
         simp only [aL,bc] at hm
         obtain ⟨hsz,hpos,_,_⟩:=Kc h (hlk q _ hl)
         obtain ⟨hpv,hlt⟩:=hp
         rw [hsz] at hlt hpv
         have hlt':i.toNat<xs.length:=hlt
         have hxi:xs[i.toNat]? =some (rdE ts xs i):=by simp [rdE,hlt']
         have h1:k6 (s.opd x).cells=true:=ygj ts c _ ys gs hts
         have hlr:=Q4 h1 hx
         have hone:=Q3 h1 hlr
         obtain ⟨bs,c1,c2,c3,c4⟩:=y5R h hlk ts c _ ys gs hts (qT hm.2) _ hlr
         have hne:(a.eval x).cells.toList≠[]:=by
          intro e0
          have:=hlr.length
          rw [hbl,e0] at this
          obtain ⟨_,_,_,_,_,_,_,hp0,_⟩:=hT.info t ti ht
          rw [this] at hp0
          exact absurd hp0 (Nat.lt_irrefl 0)
         have hqg:q∉gs:=fun hq=>by
          rw [JE.2 hq] at hm
          exact absurd hm.1 (by simp)
         obtain ⟨hrel,hin⟩:=h.setDeep (hlk q _ hl) hlt' hxi hse c1 c2 c3 c4 hqg hone hne
         refine wp_skip (w':=w.setCells (G.g q).1 (i.toNat*ts.length+c) (a.eval x).cells.toList) ?_ (hK _ _ _ (G.setDp q fun k=>G.dp q k∨In bs k) he ?_)
         ·have:=y4z (P:=P) hT ht (G.g q).1 (i.toNat*ts.length+c) (a.eval x) (by rw [← hlr.length];exact hbl) hin hone
          simp [execOp,hop,show a.eval p=_ from hpv,this]
         ·have:=hrel.put o.dst (x:= .dead) (v:=undef) trivial
          simpa [St.apply,St.makeAll,St.setAll_append,St.setAll] using this
     |_=>simp [hl] at he
   |bep q i c n=>
    rw [hpa] at hp he
    simp only [ycF] at he
    cases hl:lk q with
    |none=>simp [hl] at he
    |some ob=>
     cases ob with
     |deep fin tag e ts xs=>
      cases fin with
      |false=>simp [hl] at he
      |true=>
       simp only [hl] at he
       cases hcs:Kb ts (rdE ts xs i) c with
       |none=>simp [hcs] at he
       |some pr=>
        obtain ⟨t',ys⟩:=pr
        cases t' with
        |sl e1 vs=>
         cases vs with
         |nil=>simp [hcs] at he
         |cons u vs2=>
          cases vs2 with
          |cons _ _=>simp [hcs] at he
          |nil=>
           simp only [hcs] at he
           cases hxa:s.opd x with
           |val t2 y=>
            rw [hxa] at he hx hbl
            simp only at he
            cases hb3:u.flat with
            |false=>simp [hb3] at he
            |true=>
             simp only [hb3,ai] at he
             cases hca:j9 t2 u y with
             |none=>simp [hca] at he
             |some y'=>
              simp only [hca] at he
              cases hse:y0k ts (rdE ts xs i) c [⟨.sl e1 [u],List.set ys n.toNat (show yJ [u] from y')⟩] with
              |none=>simp [hse] at he
              |some x'=>
               simp only [hse] at he
               obtain ⟨hsz,_⟩:=Kc h (hlk q _ hl)
               obtain ⟨ad,n1,m1,hhd,hpv,hk1,hi1⟩:=hp
               rw [hsz] at hhd hi1
               have hi':i.toNat<xs.length:=hi1
               have hxi:xs[i.toNat]? =some (rdE ts xs i):=by simp [rdE,hi']
               obtain ⟨ho1,ho2⟩:=y41 (x:= .val t2 y) rfl hx
               obtain ⟨g,hA,hrel,hsome,hfr⟩:=h.setInner (hlk q _ hl) hi' hxi hcs hk1 hse hb3 (qK hca hx) ho1 hhd
               subst hA
               rw [JR] at hpv
               refine wp_skip (w':=w.setCells g n.toNat (a.eval x).cells.toList) ?_ (hK _ _ _ G he ?_)
               ·have:=y4z (P:=P) hT ht g n.toNat (a.eval x) (by rw [ho2];exact hbl) (fun j hj=>by
                 rw [ho2] at hj
                 have:j=0:=by simpa using hj
                 subst this
                 exact ⟨hsome,hfr⟩) (fun z hz=>by
                 rw [ho2] at hz
                 rw [aW.1 hz]
                 exact ho1)
                simp [execOp,hop,show a.eval p=_ from hpv,this]
               ·rw [ho2]
                exact hrel.put o.dst (x:= .dead) trivial
           |_=>simp [hxa] at he
        |_=>simp [hcs] at he
     |_=>simp [hl] at he
   |_=>simp [hpa,ycF] at he
end
section
variable {P:Program} {C:Ctx} {w0:World} {lent:Nat→Prop} {H0:Base} {s:St} {a:Act} {w:World} {G:Gh} {o:Oper} {K:Act→World→Prop} {Q:Exit→Act→World→Prop} {R:Type} {k:Eff→Option R} {r:R} {lk:Lk} {call:C.Sem} {ct wn:Bool}
theorem yE6 (h:Rel P w0 lent H0 s a w G) {lo:Option Operand} {kk:IntKind} {l:Int} (hl:loA s.opd lo= .val (.int kk) l):yDw (lo.map a.eval) l:=by
 cases lo with
 |none=>
  simp only [loA,hiA] at hl
  injection hl with h1 h2
  injection h1 with h1
  subst h1
  exact .inl ⟨rfl,h2.symm⟩
 |some x=>
  have hx:=h.opd x
  have hl':s.opd x= .val (.int kk) l:=hl
  rw [hl'] at hx
  exact .inr ⟨kk,by rw [ci,show a.eval x= .int kk l from hx]⟩
theorem ylm (h:Rel P w0 lent H0 s a w G) {hi:Option Operand} {kk:IntKind} {m:Int} {n:Int} {len:Nat} (hn:n=len) (hl:hiA s.opd hi n= .val (.int kk) m):yDx (hi.map a.eval) m len:=by
 cases hi with
 |none=>
  simp only [loA,hiA] at hl
  injection hl with h1 h2
  injection h1 with h1
  subst h1
  exact .inl ⟨rfl,by rw [← hn];exact h2.symm⟩
 |some x=>
  have hx:=h.opd x
  have hl':s.opd x= .val (.int kk) m:=hl
  rw [hl'] at hx
  exact .inr ⟨kk,by rw [ci,show a.eval x= .int kk m from hx]⟩
theorem jm (s:St) {q d:Nat} (hne:q≠d) (ob:Ob):(s.set q .gone).make d ob=(s.make d ob).set q .gone:=by
 have key: ∀ l:List (Nat×Ob),YY d (Vx l q .gone)=Vx (YY d l) q .gone:=by
  intro l
  induction l with
  |nil=>rfl
  |cons p l ih=>
   obtain ⟨j,x⟩:=p
   by_cases hj:j=q
   ·subst hj
    simp [Vx,YY,yp,yB hne,Ob.forget]
   ·by_cases hd:j=d
    ·subst hd
     simp [Vx,YY,yp,yB hj,ih]
    ·simp [Vx,YY,yB hj,yB hd,ih]
 simp [St.set,St.make,key,Vx,yB (fun e:d=q=>hne e.symm)]
theorem yln (hT:TOk C P) (h:Rel P w0 lent H0 s a w G) (hK:y4A P w0 lent H0 s o k r K) (hout:Out o) (hlk:y5e lk s) {t:Nat} {x:Operand} {lo hi:Option Operand} (hop:o.op= .slice t x lo hi none) (he:jb C call ct wn o s.opd lk k=some r):o.wp P a w K Q:=by
 have hx:=h.opd x
 simp only [jb,hop] at he
 split at he
 ·rename_i l0 k1 l hlo
  have hlo':=yE6 h hlo
  split at he
  ·rename_i n hn
   split at he
   ·rename_i k2 m hhi
    split at he
    ·rename_i h0
     split at he
     ·rename_i h1
      split at he
      ·rename_i h2
       split at he
       ·
        rename_i b xv ht hxa
        rw [hxa] at hx hn
        have hnn:n=(ByteArray.size xv:Nat):=by
         have:=hn
         simp only [ygd,ap] at this
         exact this.symm
        subst hnn
        have hhi':=ylm h rfl hhi
        refine kQ h hK he (v:= .string (ByteArray.extract xv (Int.toNat l) (Int.toNat m))) ?_ rfl
        simp only [execOp,hop,cx]
        rw [show a.eval x= .string xv from hx,Sem.run_bind,yiI hT ht xv hlo' hhi' h0 h1 h2]
        rfl
       ·
        rename_i e2 us b e ts xs ht hxa
        rw [hxa] at hx hn
        have hnn:n=(List.length xs:Nat):=by
         have:=hn
         simp only [ygd,ycD,ap] at this
         exact this.symm
        subst hnn
        have hhi':=ylm h rfl hhi
        cases hb:Nat.beq us.length ts.length with
        |false=>simp [hb] at he
        |true=>
         simp only [hb,ai] at he
         have hx':RdT G.H (.sl e ts) xs (a.eval x):=hx
         obtain ⟨A,c,hv,hc,hm,hrd⟩:=id hx'
         rw [hv] at hx'
         have hcut:=ynu hx' (l:=Int.toNat l) (h:=Int.toNat m) (by omega) (by omega)
         refine kQ h hK he ?_ hcut
         simp only [execOp,hop,cx]
         rw [hv,Sem.run_bind,y0J hT ht A _ c hlo' hhi' h0 h1 h2 hc,an hb]
         rfl
       ·
        rename_i e2 us b e ts xs ht hxa
        rw [hxa] at hx hn
        have hnn:n=(List.length xs:Nat):=by
         have:=hn
         simp only [ygd,ycD,ap] at this
         exact this.symm
        subst hnn
        have hhi':=ylm h rfl hhi
        cases hb:Nat.beq us.length ts.length with
        |false=>simp [hb] at he
        |true=>
         simp only [hb,ai] at he
         have hx':RdR G.H G.pv.tp ts xs (a.eval x):=hx
         obtain ⟨A,c,hv,hc,hm,hrd⟩:=id hx'
         rw [hv] at hx'
         have hcut:=yiJ hx' (l:=Int.toNat l) (h:=Int.toNat m) (by omega) (by omega)
         refine kQ h hK he ?_ hcut
         simp only [execOp,hop,cx]
         rw [hv,Sem.run_bind,y0J hT ht A _ c hlo' hhi' h0 h1 h2 hc,an hb]
         rfl
       ·
        rename_i e2 us b q ht hxa
        rw [hxa] at hx hn
        cases hq:lk q with
        |none=>simp [hq] at he
        |some ob=>
         cases ob with
         |root own e ts xs=>
          simp only [hq] at he
          have hnn:n=(List.length xs:Nat):=by
           have:=hn
           simp only [ygd,ycD,hq,ap] at this
           exact this.symm
          subst hnn
          have hhi':=ylm h rfl hhi
          cases hb:Nat.beq us.length ts.length with
          |false=>simp [hb] at he
          |true=>
           simp only [hb,ai] at he
           obtain ⟨_,_,⟨A,c,hsv,hc,hm,_⟩,_⟩:=qJ h (hlk q _ hq)
           cases hcut0:ct&&own&&yl6 lo with
           |true=>
            simp only [hcut0,ai] at he
            simp only [al] at hcut0
            cases hd:o.dst with
            |none=>simp [hd] at he
            |some d=>
             simp only [hd] at he
             cases hqd0:Nat.beq q d with
             |true=>simp [hqd0] at he
             |false=>
              simp only [hqd0,ag] at he
              have hqd:q≠d:=fun e=>by
               subst e
               rw [yp] at hqd0
               cases hqd0
              have hown1:own=true:=hcut0.1.2
              subst hown1
              have hl0:Int.toNat l=0:=by
               cases lo with
               |none=>
                simp only [loA] at hlo
                cases hlo
                rfl
               |some _=>simp [yl6] at hcut0
              have hlq:=hlk q _ hq
              obtain ⟨_,hpos,cells,hown,hone,hblk,hrd⟩:=h.objs q _ hlq
              have hgone:=h.gone q
              have hfree: ∀ k,(G.sv q).ownBlock=some k→qC w0 lent (s.set q .gone) G k:=fun k hk=>jY h hlq hk
              have hmn:Int.toNat m≤xs.length:=by omega
              have hlen:(xs.take (Int.toNat m)).length=Int.toNat m:=by rw [ak];omega
              have hrow:w.ownsRow 0 e ts.length (.slice (if c=Int.toNat l then A else A.map (·.add (Int.toNat l*ts.length))) (Int.toNat m - Int.toNat l) (c - Int.toNat l)) (xs.take (Int.toNat m)).length (cells.take (Int.toNat m*ts.length))∧
                ∀ k,(Value.slice (if c=Int.toNat l then A else A.map (·.add (Int.toNat l*ts.length))) (Int.toNat m - Int.toNat l) (c - Int.toNat l)).ownBlock=some k→(G.sv q).ownBlock=some k:=by
               rw [hlen,hl0]
               have hmm:Int.toNat m*ts.length≤xs.length*ts.length:=aI _ hmn
               have hcl:=hown.1
               rcases hown.2 with ⟨hv,hn0⟩|⟨g,cap,cur,hv,hb0,hg,hnc,hcm,hcs,htk⟩
               ·rw [hsv] at hv
                injection hv with hA _ hc0
                subst hA hc0
                have hm0:Int.toNat m=0:=by omega
                rw [hm0]
                refine ⟨⟨by simp,.inl ⟨by simp,rfl⟩⟩,fun k hk=> ?_⟩
                simp [Value.ownBlock] at hk
               ·rw [hsv] at hv
                injection hv with hA _ hc0
                subst hA hc0
                have hadd:(if c=0 then (some (⟨g,0,none⟩:Addr)) else (some (⟨g,0,none⟩:Addr)).map (·.add (0*ts.length)))=some ⟨g,0,none⟩:=by
                 split
                 ·rfl
                 ·simp [Addr.add]
                rw [hadd]
                refine ⟨⟨by rw [ak];omega,.inr ⟨g,c,cur,by simp,hb0,hg,by omega,hcm,hcs,?_⟩⟩,fun k hk=>by rw [hsv];exact hk⟩
                rw [← htk,List.take_take,bw hmm]
              obtain ⟨G',_,hrel,hra⟩:=hgone.newRoot d (H0.none (hout d hd)) (e:=e) (ts:=ts) (xs:=xs.take (Int.toNat m)) (w':=w) rfl rfl rfl (aS _) (fun k _=> .inl rfl) hpos hrow.1 (fun u hu=>hone u (a0 hu)) (fun k hk=>hfree k (hrow.2 k hk))
               (fun j x hx=>by
                have hj:j<Int.toNat m:=by
                 have:=(av.1 hx).1
                 rw [hlen] at this
                 exact this
                rw [aD,af hj] at hx
                refine RdE.ext ts x _ _ (fun k v hk hv=> ?_) (hrd j x hx)
                have hjm:j*ts.length+k<Int.toNat m*ts.length:=by
                 have:=aI ts.length (show j+1≤Int.toNat m by omega)
                 rw [bn] at this
                 omega
                rw [aD,af hjm]
                exact hv)
              refine YZ (v:= .slice (if c=Int.toNat l then A else A.map (·.add (Int.toNat l*ts.length))) (Int.toNat m - Int.toNat l) (c - Int.toNat l)) (w':=w) ?_ (hK _ _ _ G' he ?_)
              ·simp only [execOp,hop,cx]
               rw [hx.1,hsv,Sem.run_bind,y0J hT ht A _ c hlo' hhi' h0 h1 h2 hc,an hb]
               rfl
              ·have:=hrel.put o.dst hra
               rw [jm s hqd,hd] at this
               simpa [St.apply,St.makeAll,St.setAll,hd] using this
           |false=>
           simp only [hcut0,ag] at he
           cases hwin:wn&&own&&yl6 lo with
           |true=>
            simp only [hwin,ai] at he
            simp only [al] at hwin
            have hl0:Int.toNat l=0:=by
             cases lo with
             |none=>
              simp only [loA] at hlo
              cases hlo
              rfl
             |some _=>simp [yl6] at hwin
            have hadd:(if c=0 then A else A.map (·.add (0*ts.length)))=A:=by
             split
             ·rfl
             ·rw [Nat.zero_mul]
              cases A<;>rfl
            have hrun:=y0J (P:=P) (w:=w) hT ht A (List.length xs) c hlo' hhi' h0 h1 h2 hc
            refine kQ h hK he (v:= .slice A (Int.toNat m) c) ?_ ⟨A,_,c,hsv,rfl,by omega⟩
            simp only [execOp,hop,cx]
            rw [hx.1,hsv,Sem.run_bind,hrun,an hb,hl0,hadd,Nat.sub_zero,Nat.sub_zero]
            rfl
           |false=>
           simp only [hwin,ag] at he
           cases htl:wn&&own&&yl6 hi with
           |true=>
            simp only [htl,ai] at he
            simp only [al] at htl
            have hm0:Int.toNat m=List.length xs:=by
             cases hi with
             |none=>
              simp only [hiA] at hhi
              cases hhi
              exact aR _
             |some _=>simp [yl6] at htl
            have hszq:(G.sz q).1=ts.length:=by
             have:=h.objs q _ (hlk q _ hq)
             cases own with
             |true=>exact congrArg Prod.fst this.1
             |false=>exact congrArg Prod.fst this.1
            have hrun:=y0J (P:=P) (w:=w) hT ht A (List.length xs) c hlo' hhi' h0 h1 h2 hc
            refine kQ h hK he (v:= .slice (if c=Int.toNat l then A else A.map (·.add (Int.toNat l*(G.sz q).1))) (List.length xs - Int.toNat l) (c - Int.toNat l)) ?_ ⟨A,_,c,hsv,by omega,rfl⟩
            simp only [execOp,hop,cx]
            rw [hx.1,hsv,Sem.run_bind,hrun,an hb,hm0,hszq]
            rfl
           |false=>
           simp only [htl,ag] at he
           have hset: ∃ G1,Grown G G1∧Rel P w0 lent H0 (s.setAll (bif own then [(q,.root false e ts xs)] else [])) a w G1∧RdT G1.H (.sl e ts) xs (G1.sv q):=by
            cases own with
            |true=>
             obtain ⟨G1,hg1,hr1,hrd⟩:=h.settle (hlk q _ hq)
             exact ⟨G1,hg1,by simpa [St.setAll] using hr1,hrd⟩
            |false=>exact ⟨G,Grown.refl G,by simpa [St.setAll] using h,(h.objs q _ (hlk q _ hq)).2.2.1⟩
           obtain ⟨G1,hg1,hr1,hrd⟩:=hset
           rw [hg1.sv,hsv] at hrd
           have hcut:=ynu hrd (l:=Int.toNat l) (h:=Int.toNat m) (by omega) (by omega)
           refine YZ (v:= .slice (if c=Int.toNat l then A else A.map (·.add (Int.toNat l*ts.length))) (Int.toNat m - Int.toNat l) (c - Int.toNat l)) (w':=w) ?_ (hK _ _ _ G1 he ?_)
           ·simp only [execOp,hop,cx]
            rw [hx.1,hsv,Sem.run_bind,y0J hT ht A _ c hlo' hhi' h0 h1 h2 hc,an hb]
            rfl
           ·have:=hr1.put o.dst (x:= .val (.sl e ts) ((xs.take (Int.toNat m)).drop (Int.toNat l))) hcut
            simpa [St.apply,St.makeAll] using this
         |_=>simp [hq] at he
       ·cases he
      ·cases he
     ·cases he
    ·cases he
   ·cases he
  ·cases he
 ·cases he
theorem yug (h:Rel P w0 lent H0 s a w G) (hK:y4A P w0 lent H0 s o k r K) {c:Call} {x y:Operand} (hop:o.op= .call c) (hc:c.callee= .builtin .min) (hx:c.args.toList=[x,y]) (he:jb C call ct wn o s.opd lk k=some r):o.wp P a w K Q:=by
 have h1:=h.opd x
 have h2:=h.opd y
 simp only [jb,hop,hc,hx] at he
 split at he
 ·rename_i k1 n k2 m hxa hya
  rw [hxa] at h1
  rw [hya] at h2
  split at he
  ·rename_i hk
   subst hk
   refine kQ h hK he (v:= .int k1 (if (show Int from m)<(show Int from n) then m else n)) ?_ rfl
   have e1:c.args= #[x,y]:=by rw [← be (xs:=c.args),hx]
   simp [execOp,hop,resolve,hc,invoke,builtin,e1,Builtin.min_,Builtin.min2,show a.eval x= .int k1 n from h1,show a.eval y= .int k1 m from h2]
  ·cases he
 ·cases he
end
end Go.Proofs.YtekbnpmmjciloaaGreat.R
