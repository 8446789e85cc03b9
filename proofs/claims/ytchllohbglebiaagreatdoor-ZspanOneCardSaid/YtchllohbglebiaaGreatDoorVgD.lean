/-
  A part of the proof.
-/
import Derived.Test.YtchllohbglebiaaGreatDoorVgA
import Derived.WideKeyMaps
import Derived.WideKeyEntry
set_option linter.unusedSimpArgs false
set_option linter.unusedVariables false
namespace Go.VG
open Go

inductive Ex where
 |norm|exit (id:Nat)|ret|goto (l:Nat)|pan (v:Value)
def nC(f:AS->Prop) (K:Ex->AS->Prop) (e:Ex) (s:AS):Prop:=match e with
 |.norm=>f s
 |e=>K e s

def AS.put(s:AS) (d:Option Nat) (v:V):AS:=⟨s.nt,match d with
 |some d=>(d,v)::s.tm
 |none=>s.tm,s.sg,s.kl⟩

def AS.back(s:AS) (d:Option Nat) (x:V) (sg:List O) (ks:List Nat):AS:=
 ⟨s.nt,match d with
  |some d=>(d,x)::kK ks s.tm
  |none=>kK ks s.tm,sg,gW ks s.kl⟩

def oO(s:AS) (d:Option Nat) (x:V) (sg:List O) (ks:List Nat) (K:AS->Prop):Prop:=match s,d with
 |⟨nt,tm,_,kl⟩,some d=>mG x fun x=>p4 (kK ks tm) fun tm=>lE sg fun sg=>kF (gW ks kl) fun kl=>K ⟨nt,(d,x)::tm,sg,kl⟩
 |⟨nt,tm,_,kl⟩,none=>p4 (kK ks tm) fun tm=>lE sg fun sg=>kF (gW ks kl) fun kl=>K ⟨nt,tm,sg,kl⟩
@[simp] theorem Oq(s:AS) (d:Option Nat) (x:V) (sg:List O) (ks:List Nat) (K:AS->Prop):oO s d x sg ks K=K (s.back d x sg ks):=by
 obtain⟨nt,tm,sg',kl⟩:=s;cases d<;>simp[oO,AS.back,qh]

def e9(s:AS):Option Nat->Bool
 |some d=>Nat.blt d s.nt
 |none=>true

def cO:List Oper->Nat->Option Nat
 |[],_=>none
 |o::_,0=>o.dst
 |_::os,j+1=>cO os j

def n9(P:Program) (f:FuncId):Prop:=∃fn,P.funcs[f]?=some fn/\(fn.name== "runtime.NumGoroutine") =false/\fn.body.isNone=false

def aL(gl:Nat->Option (List V)) (st:St):Prop:=∀b cs,gl b=some cs->∀g:au,∃vs,aC st g cs 0 vs/\∀j,j<vs.length->st b j=vs[j]?

structure kn(E:Env) (st:St) (g:au) (n:Nat) (st':St) (g':au) (n':Nat) (ks:List Nat):Prop where
 mono:∀b o v,st b o=some v->st' b o=some v
 aO:∀i,i<n->aH i ks=false->g' i=g i
 len:n<=n'

def GU(C:Ctx) (f:FuncId) (args:List V) (sg:List O) (K:V->List O->List Nat->Prop):Prop:=
 n9 C.P f/\∀(E:Env) (st:St) (g:au) (w:World) (vs:List Value),aF E st g sg w->aL C.gl st->aC st g args sg.length vs->
  Calls C.P f vs.toArray w fun e w'=>∃v x sg' ks st' g',e=.returned v/\aF E st' g' sg' w'/\VR st' g' x sg'.length v/\kn E st g sg.length st' g' sg'.length ks/\K x sg' ks

def yieldOf(C:Ctx) (s:AS) (c:Call):Option (Nat×List V):=
 match c.callee with
 |.value x=>match s.ev C x with
   |.func (.yield l) [] []=>some (l,s.evs C c.args.toList)
   |_=>none
 |_=>none
def zR(C:Ctx) (s:AS) (x:Operand) (d:Option Nat) (K:Ef->AS->Prop):Prop:=match s.ev C x with
 |.ptr k 0=>match aD s.sg k with
   |.miter (.map i) bs ck left _=>match aD s.sg i with
     |.map _ _ _ bs' ck'=>(bs'=bs/\ck'=ck)/\(left=[]->fS s d ⟨.tuple [.bool false],[],[],[],[k,i]⟩ fun s'=>K ⟨.tuple [.bool false],[],[],[],[k,i]⟩ s')/\
      (∀j,j∈left->fS s d ⟨.tuple [.bool true,.undef,.undef],[],[(k,.miter (.map i) bs ck (left.erase j) j)],[],[k,i]⟩ fun s'=>K ⟨.tuple [.bool true,.undef,.undef],[],[(k,.miter (.map i) bs ck (left.erase j) j)],[],[k,i]⟩ s')
     |_=>False
   |_=>False
 |_=>False
def su(s:AS) (e:Ef) (X:Value->AS->Prop):Prop:=kD e fun e=>iu (mQ e.v) fun u=>fS s none ⟨.undef,e.ks,e.up,e.nw,e.rd⟩ (X u)
def Ii(C:Ctx) (ops:List Oper) (o:Oper) (s:AS) (R:Ex->AS->Prop):Prop:=
 mh (e9 s o.dst) (match o.guard with
 |none=>go s
 |some (j,want) =>match cO ops j with
   |none=>False
   |some t=>match lk s.tm t with
     |.bool b=>dY b (cond want (run' (.bool true) t) (skip (.bool true) t)) (cond want (skip (.bool false) t) (run' (.bool false) t))
     |.tuple []=>skip (.tuple []) t
     |_=>False)
where
 go (s : AS) : Prop := match o.op with
   | .call c => match target C s c with
     | some (f, args) => match i9 C s.sg f args with
       | some (pre, e) => pre /\ kD e fun e => fS s o.dst e (R .norm)
       | none => match i9 C.kO s.sg f args, i9 C.mR s.sg f args with
         | some (p, e1), some (q, e2) => (p \/ q) /\ (p -> su s e1 fun u => R (.pan u)) /\ (q -> kD e2 fun e => fS s o.dst e (R .norm))
         | _, _ => GU C f args s.sg fun x sg ks => oO s o.dst x sg ks (R .norm)
     | none => match yieldOf C s c with
       | some (l, args) => match C.yd l args s.sg s.kl with
         | some (pre, x, sg', ks) => pre /\ oO s o.dst x sg' ks (R .norm)
         | none => False
       | none => cL C s o fun e => fS s o.dst e (R .norm)
   | .next x false => zR C s x o.dst fun _ s' => R .norm s'
   | .panic x => iu (mQ (s.ev C x)) fun u => R (.pan u) s
   | _ => cL C s o fun e => fS s o.dst e (R .norm)
 run' (b : V) (t : Nat) : Prop := fS s (some t) (pe b) go
 skip (b : V) (t : Nat) : Prop := fS s (some t) (pe b) fun s => fS s o.dst (pe (.tuple [])) (R .norm)

def zK(C:Ctx) (ops:List Oper) (o:Oper) (rest:List Oper):Option (Nat×Nat):=match o.op,o.dst,rest with
  |.buildSlice t _ _,some d,o2::_=>match o2.op,o2.dst,(C.ti t).k with
    |.convert a b (.tmp d'),some d2,.slice e=>match (C.ti e).k with
      |.int .u8=>cond (Nat.beq a t&&Nat.beq b t&&Nat.beq d d'&&!C.lits d) (match o.guard,o2.guard with
        |none,none=>some (d,d2)
        |some (j,x),some (j',x') =>match cO ops j with
          |some u=>cond (Nat.beq j j'&&Bool.and (x==x') (!Nat.beq u d)) (some (d,d2)) none
          |none=>none
        |_,_=>none) none
      |_=>none
    |_,_,_=>none
  |_,_,_=>none
def jV(s:AS) (p:Option (Nat×Nat)) (K:Bool->AS->Prop):Prop:=match p with
 |none=>K false s
 |some (d,d2) =>mh (Nat.blt d2 s.nt) (mG (lk s.tm d) fun x=>K true (s.put (some d2) x))

def gG(C:Ctx) (ops:List Oper):Bool->List Oper->AS->(Ex->AS->Prop)->Prop
 |_,[],s,K=>K .norm s
 |true,_::rest,s,K=>gG C ops false rest s K
 |false,o::rest,s,K=>Ii C ops o s (nC (fun s'=>jV s' (zK C ops o rest) fun b s''=>gG C ops b rest s'' K) K)

def iY(C:Ctx) (ops:List Oper) (o:Oper) (s:AS) (K:Ef->AS->Prop) (U:AS->V->List O->List Nat->Prop) (X:Value->AS->Prop):Prop:=
 mh (e9 s o.dst) (match o.guard with
 |none=>run
 |some (j,want) =>match cO ops j with
   |none=>False
   |some t=>match lk s.tm t with
     |.bool b=>dY b (cond want (run' (.bool true) t) (skip (.bool true) t)) (cond want (skip (.bool false) t) (run' (.bool false) t))
     |.tuple []=>skip (.tuple []) t
     |_=>False)
where
 go (s : AS) : Prop := match o.op with
   | .call c => match target C s c with
     | some (f, args) => match i9 C s.sg f args with
       | some (pre, e) => pre /\ kD e fun e => fS s o.dst e fun s' => K e s'
       | none => match i9 C.kO s.sg f args, i9 C.mR s.sg f args with
         | some (p, e1), some (q, e2) => (p \/ q) /\ (p -> su s e1 X) /\ (q -> kD e2 fun e => fS s o.dst e fun s' => K e s')
         | _, _ => GU C f args s.sg (U s)
     | none => match yieldOf C s c with
       | some (l, args) => match C.yd l args s.sg s.kl with
         | some (pre, x, sg', ks) => pre /\ U s x sg' ks
         | none => False
       | none => cL C s o fun e => fS s o.dst e fun s' => K e s'
   | .next x false => zR C s x o.dst K
   | .panic x => iu (mQ (s.ev C x)) fun u => X u s
   | _ => cL C s o fun e => fS s o.dst e fun s' => K e s'
 run : Prop := go s
 run' (b : V) (t : Nat) : Prop := fS s (some t) (pe b) fun s => go s
 skip (b : V) (t : Nat) : Prop := fS s (some t) (pe b) fun s => fS s o.dst (pe (.tuple [])) fun s' => K (pe (.tuple [])) s'

theorem Pw(C:Ctx) (ops:List Oper) (o:Oper) (s:AS) (f:AS->Prop) (K:Ex->AS->Prop):Ii C ops o s (nC f K) =iY C ops o s (fun _ s'=>f s') (fun s x sg ks=>oO s o.dst x sg ks f) (fun u s'=>K (.pan u) s'):=rfl

def oy:Option Operand->List Operand
 |some x=>[x]
 |none=>[]
def xu:List (Nat×Operand)->List Operand
 |[]=>[]
 |(_,x)::r=>x::xu r
def kg:Op->List Operand
 |.move x|.assign x|.box _ x|.load _ x|.nilCheck x|.unOp _ _ x|.convert _ _ x|.makeInterface _ x|.fieldAddr _ x _|.field _ x _|.range _ x|.next x _|.typeAssert x _ _ _|.extract x _|.sliceToArrayPointer _ x=>[x]
 |.pick c a b=>[c,a,b]
 |.makeMap _ r=>oy r
 |.lookup _ a b _|.mapEntry _ a b=>[a,b]
 |.mapUpdate _ a b c|.entryStore _ a b c=>[a,b,c]
 |.entry x=>[x]
 |.build _ ps|.buildSlice _ _ ps=>xu ps.toList
 |.store _ a v|.binOp _ _ a v _|.makeSlice _ a v|.indexAddr _ a v|.index _ a v=>[a,v]
 |.makeFunc _ a b=>a.toList++b.toList
 |.slice _ x lo hi mx=>x::(oy lo++(oy hi++oy mx))
 |.call c=>match c.callee with
   |.value f=>f::c.args.toList
   |.invoke r _=>r::c.args.toList
   |.builtin _=>c.args.toList
 |_=>[]
def tmpsOf:List Operand->List Nat
 |[]=>[]
 |.tmp t::r=>t::tmpsOf r
 |_::r=>tmpsOf r
def u9(ops:List Oper):Option (Nat×Bool)->List Nat
 |none=>[]
 |some (j,_) =>match cO ops j with
   |some t=>[t]
   |none=>[]
def looks(ops:List Oper) (o:Oper):List Nat:=tmpsOf (kg o.op)++u9 ops o.guard

mutual
def V.free(ks:List Nat):V->Bool
 |.ptr j _|.bptr j _ _|.view j _ _|.buf j|.map j=>!aH j ks
 |.agg cs|.tuple cs=>V.o9 ks cs
 |.iface _ x=>V.free ks x
 |.func _ fs cs=>V.o9 ks fs&&V.o9 ks cs
 |_=>true
def V.o9(ks:List Nat):List V->Bool
 |[]=>true
 |c::cs=>V.free ks c&&V.o9 ks cs
end
mutual
def V.pB:V->Bool
 |.undef=>false
 |.agg cs|.tuple cs=>V.oE cs
 |.iface _ x=>V.pB x
 |.func _ fs cs=>V.oE fs&&V.oE cs
 |_=>true
def V.oE:List V->Bool
 |[]=>true
 |c::cs=>V.pB c&&V.oE cs
end
def qk(ks:List Nat):List O->Bool
 |[]=>true
 |.cells cs::os=>V.o9 ks cs&&qk ks os
 |.miter m _ _ _ _::os=>V.free ks m&&qk ks os
 |_::os=>qk ks os
def qV:List O->Bool
 |[]=>true
 |.cells cs::os=>V.oE cs&&qV os
 |.miter m _ _ _ _::os=>V.pB m&&qV os
 |.dead::_=>false
 |_::os=>qV os
def mL(sg:List O):List Nat->List O
 |[]=>[]
 |i::is=>aD sg i::mL sg is

structure Rc where
 d:Option Nat
 us:List Nat
 anc:List Nat
 e:Ef
 n:Nat
 ov:List V
 oo:List O
 lu:Nat×List Nat

def quiet(e:Ef):Bool:=match e with
 |⟨_,[],[],[],_⟩=>true
 |_=>false
def vX(d:Option Nat) (us:List Nat):Bool:=match d with
 |some d=>!aH d us
 |none=>true
def HS:Option Nat->Option Nat->Bool
 |some a,some b=>!Nat.beq a b
 |_,_=>true
def vJ:List (Nat×O)->List Nat->Bool
 |[],_=>true
 |(i,_)::r,rd=>!aH i rd&&vJ r rd
def vI:List Nat->Nat->Bool
 |[],_=>true
 |i::is,n=>Nat.blt i n&&vI is n
def mb(o:Oper):Nat×List Nat:=match o.guard,o.op with
 |none,.lookup t (.tmp m) (.tmp x) false=>(1,[t,m,x])
 |none,.mapEntry t (.tmp m) (.tmp x) =>(2,[t,m,x])
 |none,.alloc _=>(3,[])
 |_,_=>(0,[])
def yN:List Nat->List Nat->Bool
 |[],[]=>true
 |a::r,b::q=>Nat.beq a b&&yN r q
 |_,_=>false
def xt(j i:Rc):Bool:=Nat.beq j.lu.1 1&&(Nat.beq i.lu.1 2&&yN j.lu.2 i.lu.2)
def Gf(j i:Rc):Bool:=match j.e,i.e with
 |⟨_,[a],_,[],_⟩,⟨_,[b],_,[],_⟩=>Nat.beq j.lu.1 3&&Nat.beq i.lu.1 3&&!Nat.beq a b
 |_,_=>false
def indep(j i:Rc):Bool:=
 vX j.d i.us&&vX i.d j.us&&HS i.d j.d&&(xt j i||
 match quiet j.e,quiet i.e with
  |true,true=>true
  |true,false=>V.o9 i.e.ks j.ov&&qk i.e.ks j.oo&&V.free i.e.ks j.e.v&&vJ i.e.up j.e.rd&&vI j.e.rd i.n
  |false,true=>V.oE i.ov&&qV i.oo&&V.free j.e.ks i.e.v&&vJ j.e.up i.e.rd&&vI i.e.rd j.n
  |false,false=>Gf j i)
def s8(i:Rc):List Rc->Nat->Bool
 |[],_=>true
 |j::js,k=>(aH k i.anc||indep j i)&&s8 i js (k+1)

def fU:Ground->Bool
 |.textOnly _|.gcOnly _=>false
 |_=>true
def pS:List Rc->Nat->List Nat
 |[],_=>[]
 |r::_,0=>r.anc
 |_::rs,j+1=>pS rs j
def tc(bn:List Rc):List Edge->List Nat->List Nat
 |[],acc=>acc
 |⟨on,gr⟩::es,acc=>cond (fU gr) (rU (gW (on::pS bn on) acc) fun acc=>tc bn es acc) (tc bn es acc)
def oQ(i:Nat):List Edge->Bool
 |[]=>true
 |⟨on,gr⟩::es=>(Nat.blt on i||!fU gr)&&oQ i es

def stepT(C:Ctx) (ops:List Oper) (s:AS) (o:Oper):Tr Ef:=match o.guard with
 |none=>cL C s o
 |some (j,want) =>match cO ops j with
   |none=>fail
   |some t=>match lk s.tm t with
     |.bool b=>cond want (nh b (cL C s o) (ret (pe (.tuple [])))) (nh b (ret (pe (.tuple []))) (cL C s o))
     |.tuple []=>ret (pe (.tuple []))
     |_=>fail

def kU(C:Ctx) (ops:List Oper) (bn:List Rc) (s:AS) (o:Oper) (e:Ef):Rc:=
 ⟨o.dst,looks ops o,tc bn o.after.toList [],e,s.sg.length,s.evs C (kg o.op),mL s.sg e.rd,mb o⟩
def yU(r:Rc) (K:Rc->Prop):Prop:=match r with
 |⟨d,us,anc,e,n,ov,oo,lu⟩=>kF us fun us=>kF anc fun anc=>kD e fun e=>ia ov fun ov=>lE oo fun oo=>K ⟨d,us,anc,e,n,ov,oo,lu⟩
@[simp] theorem CQ(r:Rc) (K:Rc->Prop):yU r K=K r:=by cases r;simp[yU,mH]

def tM(C:Ctx) (ops:List Oper):List Oper->Nat->List Rc->AS->(AS->Prop)->Prop
 |[],_,_,s,K=>K s
 |o::rest,i,bn,s,K=>mh (e9 s o.dst&&oQ i o.after.toList) (stepT C ops s o fun e=>
  kD e fun e=>yU (kU C ops bn s o e) fun r=>mh (s8 r bn 0) (kF (bn++[r]) fun bn=>fS s o.dst e fun s'=>tM C ops rest (i+1) bn s' K))

def xf(s:AS) (t:Nat) (b:Bool) (k:AS->Prop):Prop:=match s with
 |⟨nt,tm,sg,kl⟩=>k ⟨nt,(t,.bool b)::tm,sg,kl⟩
def Bp(C:Ctx) (ops:List Oper) (s:AS) (o:Oper) (K:Ef->AS->Prop):Prop:=match o.guard with
 |none=>cL C s o fun e=>K e s
 |some (j,want) =>match cO ops j with
   |none=>False
   |some t=>match lk s.tm t with
     |.bool b=>cond want (dY b (xf s t true fun s=>cL C s o fun e=>K e s) (xf s t false fun s=>K (pe (.tuple [])) s))
      (dY b (xf s t true fun s=>K (pe (.tuple [])) s) (xf s t false fun s=>cL C s o fun e=>K e s))
     |.tuple []=>K (pe (.tuple [])) s
     |_=>False
def o7(C:Ctx) (ops:List Oper):List Oper->Nat->List Rc->AS->(AS->Prop)->Prop
 |[],_,_,s,K=>K s
 |o::rest,i,bn,s,K=>mh (e9 s o.dst&&oQ i o.after.toList) (Bp C ops s o fun e s=>
  kD e fun e=>yU (kU C ops bn s o e) fun r=>mh (s8 r bn 0) (kF (bn++[r]) fun bn=>fS s o.dst e fun s'=>o7 C ops rest (i+1) bn s' K))

def lK:List Edge->List Nat
 |[]=>[]
 |⟨on,gr⟩::es=>cond (fU gr) (on::lK es) (lK es)
def ry(ops:List Oper):Nat->List Nat->List Nat
 |0,cl=>cl
 |k+1,cl=>ry ops k (cond (aH k cl) (match ops[k]? with|some o=>lK o.after.toList++cl|none=>cl) cl)
def vH(l:List Nat):Nat->Bool
 |0=>true
 |k+1=>aH k l&&vH l k
def Ctx.both(C:Ctx):Ctx:={C with Γ:=fun f a s=>match C.Γ f a s with
 |some r=>some r
 |none=>C.mR.Γ f a s}
def Dp(C:Ctx) (o:Oper) (c:Call) (K:Ex->AS->Prop) (s:AS):Prop:=match target C s c with
 |some (f,args) =>match i9 C.kO s.sg f args,i9 C.mR s.sg f args with
   |some (p,e1),some (q,e2) =>mh (e9 s o.dst) ((p\/q)/\(p->su s e1 fun u=>K (.pan u))/\(q->kD e2 fun e=>fS s o.dst e (K .norm)))
   |_,_=>False
 |none=>False
def DY(C:Ctx) (f:FuncId) (d:Tmp) (s:AS) (K:Ex->AS->Prop) (s':AS):Prop:=match i9 C.kO s.sg f [lk s'.tm d] with
 |some (p,e1) =>p/\su ⟨s.nt,[],s.sg,s.kl⟩ e1 fun u=>K (.pan u)
 |none=>False
def lO:List Oper->Nat->Oper->List Oper
 |[],_,_=>[]
 |_::os,0,o=>o::os
 |p::os,i+1,o=>p::lO os i o
def qOp:Op->Bool
 |.move _|.load _ _|.fieldAddr _ _ _|.field _ _ _|.nilCheck _=>true
 |_=>false
def uG(i:Nat):List Oper->Nat->Bool
 |[],_=>true
 |o::os,k=>(Nat.beq k i||qOp o.op)&&uG i os (k+1)
def tH(i d:Nat):List Oper->Nat->Bool
 |[],_=>true
 |o::os,k=>(Nat.beq k i||(match o.dst with|some d'=>!Nat.beq d' d|none=>true))&&tH i d os (k+1)
def vf(ops:List Oper) (i:Nat):List Oper->Nat->Bool
 |[],_=>true
 |o::os,n=>aH i (ry ops n (lK o.after.toList))&&vf ops i os (n+1)
inductive vz (C:Ctx) (ops:List Oper) (s:AS) (K:Ex->AS->Prop):Prop where
 |last (L:List Oper) (o:Oper) (c:Call) (hops:ops=L++[o]) (hc:o.op=.call c) (hg:o.guard=none) (he:oQ L.length o.after.toList=true) (hb:vH (ry ops L.length (lK o.after.toList)) L.length=true) (h:o7 C.both L L 0 [] s (Dp C o c K))
 |pan (L T:List Oper) (i:Nat) (o:Oper) (x:Operand) (d:Tmp) (f:FuncId) (c:Call) (hops:ops=L++T) (hi:L[i]?=some o) (hc:o.op=.call c) (hcv:c.callee=.value (.func f)) (hca:c.args=#[x]) (hg:o.guard=none)
  (hd:o.dst=some d) (hq:uG i L 0=true) (hu:tH i d L 0=true) (ht:vf ops i T L.length=true) (h:o7 C.both (lO L i {o with op:=.move x}) (lO L i {o with op:=.move x}) 0 [] s (DY C f d s K))

def Bs(s:AS) (n:Nat):List (Nat×V)->Prop
 |[]=>True
 |(t,x)::r=>(lk s.tm t=x/\x.il n=true)/\Bs s n r

def xQ:List Nat->List Nat->Bool
 |[],_=>true
 |k::ks,l=>aH k l&&xQ ks l
structure Sub(n:Nat) (s t:AS):Prop where
 nt:s.nt=t.nt
 tm:Bs s t.sg.length t.tm
 sg:gm s.sg t.sg t.sg.length
 kl:xQ s.kl t.kl=true
 len:Nat.ble n t.sg.length=true
theorem ay{n nt:Nat} {tm tm':List (Nat×V)} {sg sg':List O} {kl kl':List Nat} (h1:Bs ⟨nt,tm,sg,kl⟩ sg'.length tm') (h2:gm sg sg' sg'.length) (h3:xQ kl kl'=true) (h4:Nat.ble n sg'.length=true):Sub n ⟨nt,tm,sg,kl⟩ ⟨nt,tm',sg',kl'⟩:=⟨rfl,h1,h2,h3,h4⟩

mutual
def V.wf:V->Prop
 |.int k n=>k.min<=n/\n<=k.max
 |.str s=>s.length<=maxLen
 |.list _ _ l=>l.length<=maxLen/\V.eK l
 |.agg cs|.tuple cs|.box cs _=>V.eK cs
 |.iface _ x=>V.wf x
 |_=>True
def V.eK:List V->Prop
 |[]=>True
 |c::cs=>V.wf c/\V.eK cs
end
def O.wf:O->Prop
 |.cells cs=>V.eK cs
 |.buf _ _ l=>l.length<=maxLen/\V.eK l
 |.siter s _=>s.length<=maxLen
 |.map _ _ es bs _=>es.length=bs.length
 |_=>True
def oK:List (Nat×V)->List Nat->Prop
 |[],_=>True
 |(t,x)::r,seen=>(match aH t seen with
   |true=>True
   |false=>x.wf)/\oK r (t::seen)
def iz:List O->Prop
 |[]=>True
 |o::os=>o.wf/\iz os

def si(s:AS) (c:Operand) (b:Bool) (K:AS->Prop):Prop:=match c,s with
 |.tmp t,⟨nt,tm,sg,kl⟩=>K ⟨nt,(t,.bool b)::tm,sg,kl⟩
 |_,s=>K s

def swp(i j k:Nat):Nat:=cond (Nat.beq k i) j (cond (Nat.beq k j) i k)
def uH(f:Nat->Option Nat):List (Nat×V)->List (Nat×V)
 |[]=>[]
 |(t,x)::r=>(t,x.bN f)::uH f r
def swapAt(sg:List O) (i j:Nat):List O:=gk (gk sg i (aD sg j)) j (aD sg i)
def nD:List V->Nat->V->List V
 |[],_,_=>[]
 |_::xs,0,y=>y::xs
 |x::xs,n+1,y=>x::nD xs n y
mutual
def V.put(i:Nat) (y:V) (z:Nat->V):V->V
 |.buf j=>cond (Nat.beq j i) y (.buf j)
 |.agg cs=>.agg (V.pq i y z cs)
 |.tuple cs=>.tuple (V.pq i y z cs)
 |.iface t x=>.iface t (V.put i y z x)
 |.func f a b=>.func f (V.pq i y z a) (V.pq i y z b)
 |.undef=>.undef|.int k n=>.int k n|.bool b=>.bool b|.str s=>.str s|.list c z l=>.list c z l
 |.nilptr=>.nilptr|.box cs o=>.box cs o|.nilIface=>.nilIface|.nilFunc=>.nilFunc|.nilmap=>.nilmap
 |.ptr j o=>cond (Nat.beq j i) (z o) (.ptr j o)
 |.bptr j a o=>.bptr j a o|.view j a o=>.view j a o|.map j=>.map j
def V.pq(i:Nat) (y:V) (z:Nat->V):List V->List V
 |[]=>[]
 |c::cs=>V.put i y z c::V.pq i y z cs
end
def O.put(i:Nat) (y:V) (z:Nat->V):O->O
 |.cells cs=>.cells (V.pq i y z cs)
 |.dead=>.dead|.buf a b l=>.buf a b l|.siter s p=>.siter s p|.map a sh es bs ck=>.map a sh es bs ck
 |.miter m bs ck l x=>.miter (V.put i y z m) bs ck l x
def kQ(i:Nat) (y:V) (z:Nat->V):List O->List O
 |[]=>[]
 |o::os=>o.put i y z::kQ i y z os
def qO(i:Nat) (y:V) (z:Nat->V):List (Nat×V)->List (Nat×V)
 |[]=>[]
 |(t,x)::r=>(t,V.put i y z x)::qO i y z r
def AS.nA(s:AS):gz->AS
 |.tm t sz=>match lk s.tm t,sz with
   |.list true _ [],sz+1=>⟨s.nt,(t,.buf s.sg.length)::s.tm,s.sg++[.buf (sz+1) 0 []],s.kl⟩
   |_,_=>s
 |.cell i off sz=>match aD s.sg i,sz with
   |.cells cs,sz+1=>match mJ cs off with
     |some (.list true _ []) =>⟨s.nt,s.tm,gk s.sg i (.cells (nD cs off (.buf s.sg.length)))++[.buf (sz+1) 0 []],s.kl⟩
     |_=>s
   |_,_=>s
 |.swap i j=>match Nat.blt i s.sg.length&&Nat.blt j s.sg.length with
   |true=>⟨s.nt,uH (fun k=>some (swp i j k)) s.tm,lJ (fun k=>some (swp i j k)) (swapAt s.sg i j),i::j::s.kl⟩
   |false=>s
 |.nw=>⟨s.nt,s.tm,s.sg++[.buf 1 0 []],s.kl⟩
 |.res=>⟨s.nt,s.tm,s.sg++[.dead],s.kl⟩
 |.c9 i=>match aD s.sg i with
   |.buf sz _ l=>⟨s.nt,qO i (.list false sz l) (.ptr i) s.tm,gk (kQ i (.list false sz l) (.ptr i) s.sg) i .dead,s.kl⟩
   |_=>s
 |.fbx i=>match aD s.sg i with
   |.cells cs=>cond (V.gd cs) ⟨s.nt,qO i (.buf i) (.box cs) s.tm,gk (kQ i (.buf i) (.box cs) s.sg) i .dead,s.kl⟩ s
   |_=>s
def AS.dq(s:AS):List gz->AS
 |[]=>s
 |p::ps=>(s.nA p).dq ps

def CP(s:AS) (K:AS->Prop):Prop:=match s with
 |⟨nt,tm,sg,kl⟩=>p4 tm fun tm=>lE sg fun sg=>kF kl fun kl=>K ⟨nt,tm,sg,kl⟩
@[simp] theorem ZX(s:AS) (K:AS->Prop):CP s K=K s:=by cases s;simp[CP]
def Ab(s:AS) (ps:List gz) (K:AS->Prop):Prop:=match ps with
 |[]=>K s
 |p::ps=>CP (s.dq (p::ps)) K
theorem E6(s:AS) (ps:List gz) (K:AS->Prop):Ab s ps K=K (s.dq ps):=by cases ps<;>simp[Ab,AS.dq]

def vL(id:Nat) (K:Ex->AS->Prop) (e:Ex) (s:AS):Prop:=match e with
 |.exit j=>match Nat.beq j id with
   |true=>K .norm s
   |false=>K (.exit j) s
 |e=>K e s
inductive aZ (n:Nat) (s:AS) (R:AS->(Ex->AS->Prop)->Prop) (K:Ex->AS->Prop):Prop where
 |mk (X:Type) (inv:X->Prop) (I:X->AS) (μ:X->Nat) (ps:List gz) (x0:X) (h0:inv x0) (hs:Sub n (s.dq ps) (I x0))
  (h:∀x,inv x->oK (I x).tm []->iz (I x).sg->R (I x) (nC (fun s'=>∃(qs:List gz) (x':X),inv x'/\Sub n (s'.dq qs) (I x')/\μ x'<μ x) K))

def za(l:Nat) (f:AS->Prop) (K:Ex->AS->Prop) (e:Ex) (s:AS):Prop:=match e with
 |.goto j=>match Nat.beq j l with
   |true=>f s
   |false=>False
 |e=>K e s
def qI(K:Ex->AS->Prop) (e:Ex) (s:AS):Prop:=match e with
 |.goto _=>False
 |e=>K e s
inductive rk (n l:Nat) (s:AS) (R:AS->(Ex->AS->Prop)->Prop) (K:Ex->AS->Prop):Prop where
 |mk (X:Type) (inv:X->Prop) (I:X->AS) (μ:X->Nat) (ps:List gz) (x0:X) (h0:inv x0) (hs:Sub n (s.dq ps) (I x0))
  (h:∀x,inv x->oK (I x).tm []->iz (I x).sg->R (I x) (za l (fun s'=>∃(qs:List gz) (x':X),inv x'/\Sub n (s'.dq qs) (I x')/\μ x'<μ x) K))

structure n8(n:Nat) (st0:St) (g0:au) (st:St) (g:au) (s:AS):Prop where
 mono:∀b o v,st0 b o=some v->st b o=some v
 aO:∀i,i<n->aH i s.kl=false->g i=g0 i
 len:n<=s.sg.length
structure jo(E0 E:Env):Prop where
 G:∀b,E.G b->E0.G b
 w0:∀b,¬E0.G b->E.w0.heap[b]?=E0.w0.heap[b]?
 os:E.w0.os=E0.w0.os
 tape:E.w0.tape=E0.w0.tape
 output:E.w0.output=E0.w0.output
 size:E0.w0.heap.size<=E.w0.heap.size
 st0:E.st0=E0.st0
 gnew:∀b,E0.w0.heap.size<=b->E0.G b
 ds:∃Ds:List Nat,E.ds=Ds.map (fun D=>{target:=.collected D,args:=#[]})++E0.ds/\Ds.Nodup/\∀D∈Ds,E0.G D/\¬E.G D/\E.w0.heap[D]?=some (.deferred (some []))
abbrev YT:Type:=List V->List O->List Nat->Option (Prop×V×List O×List Nat)
def Og(C:Ctx) (E:Env) (n:Nat) (st0:St) (g0:au) (l:Nat) (Y:YT):Prop:=∀args (s:AS) pre x sg' ks,Y args s.sg s.kl=some (pre,x,sg',ks)->pre->∀(st:St) (g:au) (w:World) (vs:List Value),aF E st g s.sg w->aL C.gl st->aC st g args s.sg.length vs->n8 n st0 g0 st g s->
 YieldAt Fence.wide 0 C.P l vs.toArray w fun en w'=>∃v st' g',en=.returned v/\aF E st' g' sg' w'/\VR st' g' x sg'.length v/\kn E st g s.sg.length st' g' sg'.length ks
def px:Code->Bool
 |.skip|.label _|.exit _|.ret|.goto _=>true
 |.region _ _ d=>!d
 |.seq a b|.cond _ a b=>px a&&px b
 |.block _ a|.loop a=>px a
 |_=>false
def vc(C:Ctx) (n:Nat):Code->AS->(Ex->AS->Prop)->Prop
 |.skip,s,K=>K .norm s
 |.label _,s,K=>K .norm s
 |.region id ops false,s,K=>Ab s (C.hint id) fun s=>gG C ops.toList false ops.toList s K
 |.region id ops true,s,K=>Ab s (C.hint id) fun s=>cond (C.pdr id) (vz C ops.toList s K) (o7 C ops.toList ops.toList 0 [] s (K .norm))
 |.seq a b,s,K=>vc C n a s (nC (fun s'=>vc C n b s' K) K)
 |.cond c x y,s,K=>match s.ev C c with
   |.bool b=>dY b (si s c true fun s=>vc C n x s K) (si s c false fun s=>vc C n y s K)
   |_=>False
 |.block id c,s,K=>vc C n c s (vL id K)
 |.loop c,s,K=>aZ n s (vc C n c) K
 |.scope (.seq a (.seq (.label l) b)),s,K=>match findLabel a l with
   |none=>vc C n a s (nC (fun s'=>rk n l s' (vc C n b) K) (qI K))
   |some _=>False
 |.scope c,s,K=>vc C n c s (qI K)
 |.exit id,s,K=>K (.exit id) s
 |.goto l,s,K=>K (.goto l) s
 |.ret,s,K=>K .ret s
 |_,_,_=>False

def hP:List V->Nat->List (Nat×V)
 |[],_=>[]
 |x::xs,i=>(i,x)::hP xs (i+1)
def DZ(agg:Bool) (size:Nat) (cs:List V) (off:Nat):Option V:=match agg with
 |true=>match jO (ly cs off) size with
   |some r=>some (.agg r)
   |none=>none
 |false=>mJ cs off
def qQ(ti:TypeId->TI) (s:AS):List ResultVar->Option (List V)
 |[]=>some []
 |.tmp t::r=>match qQ ti s r with
   |some xs=>some (lk s.tm t::xs)
   |none=>none
 |.cell b t::r=>match lk s.tm b with
   |.ptr i off=>match aD s.sg i with
     |.cells cs=>match (ti t).k with
       |.other=>none
       |k=>match DZ k.isAgg (ti t).size cs off,qQ ti s r with
         |some x,some xs=>some (x::xs)
         |_,_=>none
     |_=>none
   |_=>none
def pw(ti:TypeId->TI) (s:AS) (rs:List ResultVar):Option V:=match qQ ti s rs with
 |some [x]=>some x
 |some xs=>some (.tuple xs)
 |none=>none

def nx(sg:List O) (aO:Bool):List Nat->Bool
 |[]=>true
 |k::ks=>(match aD sg k with
   |.buf _ _ _=>!aO
   |_=>Nat.ble sg.length k)&&nx sg aO ks

def y0(ti:TypeId->TI) (rs:List ResultVar) (sg:List O) (x:V) (r:Option (List O)) (s:AS):Prop:=iu (pw ti s rs) fun y=>match r with
 |none=>y=x/\x.il sg.length=true/\gm s.sg sg sg.length/\nx sg true s.kl=true
 |some sg'=>y=x/\x.il sg'.length=true/\gm s.sg sg' sg'.length/\nx sg (fg sg') s.kl=true/\Nat.ble sg.length sg'.length=true
inductive ab (ti:TypeId->TI) (rs:List ResultVar) (sg:List O) (x:V) (r:Option (List O)) (s:AS):Prop where
 |mk (ps:List gz) (h:y0 ti rs sg x r (s.dq ps))
def Ends(ti:TypeId->TI) (rs:List ResultVar) (sg:List O) (x:V) (r:Option (List O)) (e:Ex) (s:AS):Prop:=match e with
 |.exit _=>False
 |.goto _=>False
 |.pan _=>False
 |_=>ab ti rs sg x r s
def PanQ(sg:List O) (r:Option (List O)) (s:AS):Prop:=match r with
 |none=>gm s.sg sg sg.length/\nx sg true s.kl=true
 |some sg'=>gm s.sg sg' sg'.length/\nx sg (fg sg') s.kl=true/\Nat.ble sg.length sg'.length=true
inductive bC (sg:List O) (r:Option (List O)) (s:AS):Prop where
 |mk (ps:List gz) (h:PanQ sg r (s.dq ps))
def GV(u:Value) (sg:List O) (r:Option (List O)) (e:Ex) (s:AS):Prop:=match e with
 |.pan v=>v=u/\bC sg r s
 |_=>False

end Go.VG
namespace Go.VG
open Go

def BV(P:Program) (t:TypeId) (sh:List Sc):Prop:=∀(st:St) (g:au) (n:Nat) (cs ds:List V) (r:Bool) (a b:Array Value) (w:World),
 cP sh cs=true->cP sh ds=true->eqs cs ds=some r->cs.length=P.cellsOf t->aC st g cs n a.toList->aC st g ds n b.toList->(Op.equal t (.agg a) (.agg b)).run P w=.ok r w/\P.eqGuardType P.depth t=false

def oN(P:Program) (k:TypeId):Bool:=match P.underlying k with
 |some (.struct _)|some (.array _ _) =>true
 |_=>false
def sW(P:Program) (k:TypeId) (sh:List Sc):Prop:=WideMaps.KeyLaw P k/\∀x,lB (oN P k) sh x=true->sq x->∃l,keyOf P k (du x) =some l
def TK.CD(P:Program) (t:TypeId) (sh:List Sc):TK->Prop
 |.map k _=>sW P k sh
 |_=>BV P t sh
def TK.ok(P:Program) (t:TypeId):TK->Prop
 |.bool=>P.underlying t=some .bool
 |.int k=>P.underlying t=some (.int k)
 |.string=>P.underlying t=some .string
 |.slice e=>P.underlying t=some (.slice e)
 |.array n e=>P.underlying t=some (.array n e)
 |.ptr e=>P.underlying t=some (.pointer e)
 |.struct fs=>∃fields,P.underlying t=some (.struct fields)/\fields.toList.map (fun f=>(f.offset,f.type)) =fs/\(fields.toList.mapM (fun f=>(P.info? f.type).map fun i=>(f.offset,i.size))).isSome=true
 |.iface=>∃ms,P.underlying t=some (.interface ms)
 |.func=>∃a b c,P.underlying t=some (.func a b c)
 |.map k e=>P.underlying t=some (.map k e)
 |.other=>False

def lS(P:Program) (t:TypeId) (i:TI):Prop:=match i.k with
 |.other=>True
 |k=>k.ok P t/\(∃info,P.info? t=some info/\info.size=i.size/\info.bytes=i.bytes/\∃z,info.zero=some z/\∀(st:St) (g:au) (n:Nat),VR st g i.zero n z)/\
  (i.feq≠[]->i.k.CD P t i.feq)

theorem lS.of{P:Program} {t:TypeId} {i:TI} (h:lS P t i) (hk:i.k≠.other):i.k.ok P t/\(∃info,P.info? t=some info/\info.size=i.size/\info.bytes=i.bytes/\∃z,info.zero=some z/\∀(st:St) (g:au) (n:Nat),VR st g i.zero n z)/\
     (i.feq≠[]->i.k.CD P t i.feq):=by
 unfold lS at h;split at h
 . contradiction
 . exact h

section
variable {P:Program} {t:TypeId} {i:TI} (w:World)

theorem gj(h:lS P t i) (hk:i.k≠.other):(sizeOf t).run P w=.ok i.size w:=by
 obtain⟨_,⟨info,h1,h2,_⟩,_⟩:=h.of hk;simp[sizeOf,typeInfo,h1,h2]
theorem Ce(h:lS P t i) (hk:i.k≠.other):P.cellsOf t=i.size:=by
 obtain⟨_,⟨info,h1,h2,_⟩,_⟩:=h.of hk;simp[Program.cellsOf,h1,h2]
theorem Ap(h:lS P t i) (hk:i.k≠.other):∃z,(zeroValue t).run P w=.ok z w/\∀(st:St) (g:au) (n:Nat),VR st g i.zero n z:=by
 obtain⟨_,⟨info,h1,h2,_,z,h4,h5⟩,_⟩:=h.of hk;exact⟨z,by simp[zeroValue,typeInfo,h1,h4],h5⟩
theorem Al(h:lS P t i) (hk:i.k≠.other):(isAgg t).run P w=.ok i.k.isAgg w:=by
 obtain⟨h1,_,_⟩:=h.of hk;cases hk':i.k<;>rw[hk'] at h1<;>simp only[TK.ok] at h1
 case struct fs=>obtain⟨f,h1,_⟩:=h1;simp[isAgg,run_underlying h1,TK.isAgg]
 case iface=>obtain⟨f,h1⟩:=h1;simp[isAgg,run_underlying h1,TK.isAgg]
 case func=>obtain⟨a,b,c,h1⟩:=h1;simp[isAgg,run_underlying h1,TK.isAgg]
 all_goals simp[isAgg,run_underlying h1,TK.isAgg]
end

theorem yZ:∀(xs:List V) (n:Nat),mJ xs n=xs[n]?
 |[],n=>by cases n<;>simp[mJ]
 |x::xs,0=>by simp[mJ]
 |x::xs,n+1=>by simp[mJ,yZ xs n]
theorem vW:∀(xs:List V) (n:Nat),ly xs n=xs.drop n
 |xs,0=>by simp[ly]
 |[],n+1=>by simp[ly]
 |x::xs,n+1=>by simp[ly,vW xs n]
theorem Bv:∀{xs:List V} {n:Nat} {r:List V},jO xs n=some r->r=xs.take n/\n<=xs.length
 |xs,0,r,h=>by simp[jO] at h;simp[h]
 |[],n+1,r,h=>by simp[jO] at h
 |x::xs,n+1,r,h=>by
   simp only[jO] at h;split at h
   . rename_i r' hr;obtain⟨h1,h2⟩:=Bv hr;cases h;subst h1;exact⟨by simp,by simpa using h2⟩
   . cases h
def over{α:Type} (xs:List α) (o:Nat) (ys:List α):List α:=xs.take o++ys++xs.drop (o+ys.length)
theorem uL:∀{xs:List V} {o:Nat} {ys r:List V},jM xs o ys=some r->r=over xs o ys/\(ys=[]\/o+ys.length<=xs.length)
 |xs,o,[],r,h=>by simp[jM] at h;simp[over,h]
 |[],_,_::_,r,h=>by simp[jM] at h
 |x::xs,0,y::ys,r,h=>by
   simp only[jM] at h;split at h
   . rename_i r' hr;obtain⟨h1,h2⟩:=uL hr;cases h;subst h1;refine⟨by simp[over],.inr ?_⟩;rcases h2 with rfl|h2
     . simp
     . simpa using h2
   . cases h
 |x::xs,n+1,y::ys,r,h=>by
   simp only[jM] at h;split at h
   . rename_i r' hr;obtain⟨h1,h2⟩:=uL hr;cases h;subst h1;refine⟨?_,.inr ?_⟩
     . simp only[over,List.take_succ_cons,List.cons_append];rw[show n+1+(y::ys).length=(n+(y::ys).length)+1 by omega,List.drop_succ_cons]
     . rcases h2 with h2|h2
       . cases h2
       . simp at h2⊢;omega
   . cases h

theorem mc{α:Type} {xs:List α} {o:Nat} {ys:List α} (h:ys=[]\/o+ys.length<=xs.length):(over xs o ys).length=xs.length:=by
 rcases h with rfl|h
 . simp[over]
 . simp[over];omega

theorem yi{st:St} {g:au} {n o:Nat} {cs ds:List V} {vs us:List Value} (h:aC st g cs n vs) (k:aC st g ds n us):aC st g (over cs o ds) n (over vs o us):=by
 unfold over;rw[<-eN k];exact tb (tb (vG h) k) (vD h)

theorem eY:∀{sg:List O} {i:Nat} {o:O},aD sg i=o->o≠.dead->sg[i]?=some o/\i<sg.length
 |[],i,o,h,hn=>by simp[aD] at h;exact absurd h.symm hn
 |p::ps,0,o,h,hn=>by simp[aD] at h;simp[h]
 |p::ps,i+1,o,h,hn=>by
   simp only[aD] at h;obtain⟨h1,h2⟩:=eY h hn;exact⟨by simpa using h1,by simpa using h2⟩
theorem Kq(ks:List Nat):∀sg:List O,zx ks sg=sg.map (O.kill ks)
 |[]=>rfl
 |o::os=>by simp[zx,Kq ks os]
theorem jD:∀(sg:List O) (i:Nat) (o:O),gk sg i o=sg.set i o
 |[],i,o=>by simp[gk]
 |p::ps,0,o=>by simp[gk]
 |p::ps,i+1,o=>by simp[gk,jD ps i o]
mutual
theorem jh:∀(x:V),x.kill []=x
 |.undef|.int .. |.bool _|.str _|.list .. |.nilptr|.box .. |.nilIface|.nilFunc|.nilmap|.ptr .. |.bptr .. |.view .. |.buf _|.map _=>by simp[V.kill,aH]
 |.agg cs|.tuple cs=>by simp[V.kill,wY cs]
 |.iface t x=>by simp[V.kill,jh x]
 |.func f a b=>by simp[V.kill,wY a,wY b]
theorem wY:∀(x:List V),V.dE [] x=x
 |[]=>by simp[V.dE]
 |c::cs=>by simp[V.dE,jh c,wY cs]
end
theorem UY(o:O):o.kill []=o:=by cases o<;>simp[O.kill,wY,jh]
theorem sc(ks:List Nat) (sg:List O):ir ks sg=sg.map (O.kill ks):=by
 cases ks with
 |nil=>simp only[ir];rw[show(O.kill []) =id from funext UY];simp
 |cons k ks=>simp[ir,Kq]
theorem yj(a b:List O):jS a b=a++b:=by cases b<;>simp[jS]

theorem KV(ks:List Nat):∀(tm:List (Nat×V)) (t:Nat),lk (xa ks tm) t=(lk tm t).kill ks
 |[],t=>by simp[xa,lk,V.kill]
 |(k,x)::r,t=>by
   simp only[xa,lk];cases Nat.beq k t<;>simp[KV ks r t]
theorem pf(ks:List Nat) (tm:List (Nat×V)) (t:Nat):lk (kK ks tm) t=(lk tm t).kill ks:=by
 cases ks with
 |nil=>simp[kK,jh]
 |cons k ks=>simp[kK,KV]

theorem kp{st:St} {g:au} {x:V} {n:Nat} {v:Value} (h:VR st g x n v) (hu:x.eZ=false):aC st g x.cells n v.cells.toList:=by
 cases x<;>first
  |(simp[V.eZ] at hu;done)
  | (simp only [VR] at h
     first
      |(obtain⟨vs,rfl,h⟩:=h;exact h)
      |(rename_i cs;obtain⟨vs,rfl,h⟩:=h;simp only[V.cells,Value.cells];refine cy ?_ dM;simp only[VR];exact⟨vs,rfl,h⟩))
  |skip
 all_goals (
  have h':=h;simp only[VR] at h;first
   |(subst h;simp only[V.cells,Value.cells];exact cy h' dM)
   |(obtain⟨rfl,_⟩:=h;simp only[V.cells,Value.cells];exact cy h' dM)
   |(obtain⟨_,_,rfl,_⟩:=h;simp only[V.cells,Value.cells];exact cy h' dM)
   |(obtain⟨_,_,_,rfl,_⟩:=h;simp only[V.cells,Value.cells];exact cy h' dM)
   |(obtain⟨_,_,_,rfl⟩:=h;simp only[V.cells,Value.cells];exact cy h' dM)
   |(obtain⟨_,_,_,_,_,_,rfl⟩:=h;simp only[V.cells,Value.cells];exact cy h' dM)
   |skip)

end Go.VG
