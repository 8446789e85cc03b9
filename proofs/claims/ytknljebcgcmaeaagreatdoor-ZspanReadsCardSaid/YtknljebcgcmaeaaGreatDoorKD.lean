/-
  A part of the proof.
-/
import Derived.Test.YtknljebcgcmaeaaGreatDoorJSm
import Derived.Test.YtknljebcgcmaeaaGreatDoorJTw
set_option linter.unusedSimpArgs false
set_option linter.unusedVariables false
set_option maxHeartbeats 4000000
set_option maxRecDepth 100000
namespace Go.Proofs.YtknljebcgcmaeaaGreatDoor
open Go Go.VG
theorem Zn(s:g8) (hs:s.length<=100000000):OK 211 [.str s] [] (.str (quote s)) none:=by
 refine ai (C:=cx [(207,A8)]) (ak ⟨Ka,trivial⟩) (fn:=Tryz.f211) fun _ _=>?_;refine aM.mk Nat (fun i=>i<=s.length) (fun i=>⟨45,[(0,.str s),(3,.str (34::oI (s.take i))),(4,.int .i64 i)],[],[]⟩) (fun i=>s.length-i) [] 0 (ci _) ?_ (fun i hi _ _=>?_)
 . apply ao<;>(repeat' first|trivial)
 have hcut:(s.take (IntKind.i64.wrap ((i:Int)+1)).toNat).drop ((i:Int).toNat)=if i<s.length then[s.getD i 0] else(s.take (IntKind.i64.wrap ((i:Int)+1)).toNat).drop ((i:Int).toNat):=by
  split
  . rw[show(IntKind.i64.wrap ((i:Int)+1)).toNat=i+1 by(simp(discharger:=omega) only[wR];omega)];exact sx 0 (by assumption)
  . rfl
 have hq:=Dq (s.take i);rw[eo] at hq;repeat'((conv=>whnf);first|apply af|(apply aj<;>intro h)|with_reducible refine cg ?_ fun hc=>?_)
 all_goals try conv=>whnf
 all_goals try(refine ae.mk ?_;try dsimp only)
 all_goals (try rw[hcut,if_pos (by omega)])
 all_goals first|refine stay ?_|omega|(simp(discharger:=omega) only[wR];omega)|(simp only[du,ns];omega)|skip
 all_goals first
  |(exfalso;omega)
  | (refine ⟨[],i + 1,by omega,?_,by omega⟩
     apply ao<;>(repeat' first|trivial|apply ah|apply cV|apply aC|apply bV)
     . rw[LW (by omega)];unfold u7;first
       |(rw[if_pos (by omega)];simp;done)
       |(rw[if_neg (by omega),if_pos (by omega)];simp;done)
       |(rw[if_neg (by omega),if_neg (by omega)];simp;done)
     . (simp(discharger:=omega) only[wR];omega)
    )
  |skip
 refine ab.mk [] ?_<;>(repeat' first|trivial|apply ah|apply cV|apply bV)
 rw[gg (by omega)];rfl
def Zr:Sm:=fun args σ=>match args,σ with
 |[.str s],[]=>some (s.length<=100000000,.str (quote s),none)
 |_,_=>none
theorem Pj(l:List V) (t:g8) (h:l.length+t.length<=4000000000):OK 141 [.str t,.ptr 0 0] [.cells [.buf 1],.buf 1 0 l] (.tuple []) (some [.cells [.buf 1],.buf 1 0 (l++bl t)]):=by
 refine ai (C:=cx []) (ak trivial) (fn:=Tryz.f141) fun _ _=>?_;repeat'((conv=>whnf);apply af)
 all_goals try conv=>whnf
 all_goals try(refine ae.mk ?_;try dsimp only)
 all_goals first|refine stay ?_|(simp only[du,ns];omega)|skip
 refine ab.mk [] ?_<;>(repeat' first|trivial)
def DS:Sm:=fun args σ=>match args,σ with
 |[.str t,.ptr 0 0],[.cells [.buf 1],.buf 1 0 l]=>some (l.length+t.length<=4000000000,.tuple [],some [.cells [.buf 1],.buf 1 0 (l++bl t)])
 |_,_=>none
theorem SB:aq 141 DS:=by
 intro args sg pre x r he hp;unfold DS at he;split at he<;>cases he;exact Pj _ _ hp
theorem PB(s:g8) (l:List V) (hs:s.length<=100000000) (hl:l.length<=3000000000):OK 140 [.str s,.func (.func 141) [] [.ptr 0 0]] [.cells [.buf 1],.buf 1 0 l] (.tuple []) (some [.cells [.buf 1],.buf 1 0 (l++bl (quote s))]):=by
 refine ai (C:=cx [(141,DS),(144,wO)]) (ak ⟨SB,Cq,trivial⟩) (fn:=Tryz.f140) fun _ _=>?_;repeat'((conv=>whnf);apply af)
 all_goals try conv=>whnf
 all_goals try(refine ae.mk ?_;try dsimp only)
 all_goals first|refine stay ?_|(simp only[du,ns];omega)|skip
 refine aM.mk Nat (fun i=>i<=s.length) (fun i=>⟨53,[(0,.str s),(1,.func (.func 141) [] [.ptr 0 0]),(9,.int .i64 s.length),(10,.int .i64 i)],[.cells [.buf 1],.buf 1 0 (l++bl (34::oI (s.take i)))],[1]⟩) (fun i=>s.length-i) [] 0 (ci _) ?_ (fun i hi _ _=>?_)
 . apply ao<;>(repeat' first|trivial)
 have hcut:(s.take (IntKind.i64.wrap ((i:Int)+1)).toNat).drop ((i:Int).toNat)=if i<s.length then[s.getD i 0] else(s.take (IntKind.i64.wrap ((i:Int)+1)).toNat).drop ((i:Int).toNat):=by
  split
  . rw[show(IntKind.i64.wrap ((i:Int)+1)).toNat=i+1 by(simp(discharger:=omega) only[wR];omega)];exact sx 0 (by assumption)
  . rfl
 have hq:=Dq (s.take i);rw[eo] at hq;repeat'((conv=>whnf);first|apply af|(apply aj<;>intro h)|with_reducible refine cg ?_ fun hc=>?_)
 all_goals try conv=>whnf
 all_goals try(refine ae.mk ?_;try dsimp only)
 all_goals (try rw[hcut,if_pos (by omega)])
 all_goals first|refine stay ?_|omega|(simp(discharger:=omega) only[wR];omega)|(simp only[du,ns];omega)|skip
 all_goals first
  | (refine ⟨[],i + 1,by omega,?_,by omega⟩
     apply ao<;>(repeat' first|trivial|apply ah|apply aC|apply bg)
     . (simp(discharger:=omega) only[wR];omega)
     . rw[LW (by omega),gc,<-dZ];refine congrArg (fun x=>l++bl x) ?_;unfold u7;first
       |(rw[if_pos (by omega)];simp;done)
       |(rw[if_neg (by omega),if_pos (by omega)];simp;done)
       |(rw[if_neg (by omega),if_neg (by omega)];simp;done)
    )
  |skip
 refine ab.mk [] ?_<;>(repeat' first|trivial|apply ah|apply bg)
 rw[gg (by omega),gc,<-dZ];rfl
def zJ:Sm:=fun args σ=>match args,σ with
 |[.str s,.func (.func 141) [] [.ptr 0 0]],[.cells [.buf 1],.buf 1 0 l]=>some (s.length<=100000000/\l.length<=3000000000,.tuple [],some [.cells [.buf 1],.buf 1 0 (l++bl (quote s))])
 |_,_=>none
theorem JN:aq 140 zJ:=by
 intro args sg pre x r he hp;unfold zJ at he;split at he<;>cases he;exact PB _ _ hp.1 hp.2
theorem Iv(s:g8) (l:List V) (hs:s.length<=100000000) (hl:l.length<=3000000000):OK 87 [.buf 0,.str s] [.buf 1 0 l] (.buf 0) (some [.buf 1 0 (l++bl (quote s))]):=by
 refine ai (C:=cx [(140,zJ)]) (ak ⟨JN,trivial⟩) (fn:=Tryz.f87) fun _ _=>?_;repeat'((conv=>whnf);apply af)
 all_goals try conv=>whnf
 all_goals try(refine ae.mk ?_;try dsimp only)
 all_goals first|refine stay ?_|(simp(discharger:=omega) only[wR];omega)|(simp(discharger:=omega) [-List.getD_eq_getElem?_getD,wR]<;>omega)|skip
 refine ab.mk [.swap 0 1] ?_<;>(repeat' first|trivial|apply ah|apply bg)
 simp
theorem Q1(c:Bool) (l:List V) (s:g8) (hs:s.length<=100000000) (hl:l.length<=3000000000):OK 87 [.list c 1 l,.str s] [] (.buf 0) (some [.buf 1 0 (l++bl (quote s))]):=by
 refine ai (C:=cx [(140,zJ)]) (ak ⟨JN,trivial⟩) (fn:=Tryz.f87) fun _ _=>?_;repeat'((conv=>whnf);apply af)
 all_goals try conv=>whnf
 all_goals try(refine ae.mk ?_;try dsimp only)
 all_goals first|refine stay ?_|(simp(discharger:=omega) only[wR];omega)|(simp(discharger:=omega) [-List.getD_eq_getElem?_getD,wR]<;>omega)|skip
 refine ab.mk [] ?_<;>(repeat' first|trivial|apply ah|apply bg)
 simp
def wP:Sm:=fun args σ=>match args,σ with
 |[.buf 0,.str s],[.buf 1 0 l]=>some (s.length<=100000000/\l.length<=3000000000,.buf 0,some [.buf 1 0 (l++bl (quote s))])
 |[.list true _ [],.str s],[]=>some (s.length<=100000000,.buf 0,some [.buf 1 0 (bl (quote s))])
 |[.list _ 1 l,.str s],[]=>some (s.length<=100000000/\l.length<=3000000000,.buf 0,some [.buf 1 0 (l++bl (quote s))])
 |_,_=>none
theorem Cr:aq 87 wP:=by
 intro args sg pre x r he hp;unfold wP at he;split at he<;>cases he
 . exact Iv _ _ hp.1 hp.2
 . exact eH.nil 0 _ 0 rfl (Iv _ [] hp (by simp))
 . exact Q1 _ _ _ hp.1 hp.2
structure Fr where
 e:UInt8
 b:Bool
 k:Bool
instance:Inhabited Fr:=⟨⟨0,false,false⟩⟩
structure WS where
 out:g8
 l:List Fr
 whole:Bool
 code:Int
structure JOp where
 kind:Int
 text:g8
 n:Int
instance:Inhabited JOp:=⟨⟨0,[],0⟩⟩
abbrev ef(f:Fr):V:=.agg [.int .u8 f.e.toNat,.bool f.b,.bool f.k]
abbrev eW(w:WS):List O:=[.cells [.buf 1,.buf 2,.bool w.whole,.int .i64 w.code,.func (.func 87) [] []],.buf 1 0 (bl w.out),.buf 3 0 (w.l.map ef)]
def ub:List V->g8
 |[]=>[]
 |.int _ n::r=>byte n::ub r
 |_::r=>0::ub r
@[simp] theorem ub_bl(s:g8):ub (bl s) =s:=by
 induction s with
 |nil=>rfl
 |cons b s ih=>simp only[bl,bv,ub,ih,dd]
def uD:List V->List Fr
 |[]=>[]
 |.agg [.int _ n,.bool b,.bool k]::r=>⟨byte n,b,k⟩::uD r
 |_::r=>default::uD r
@[simp] theorem ufr_map(l:List Fr):uD (l.map ef) =l:=by
 induction l with
 |nil=>rfl
 |cons b s ih=>simp only[List.map_cons,uD,ih,dd]
def cy(o l:List V) (wh:Bool) (c:Int):WS:=⟨ub o,uD l,wh,c⟩
@[simp] theorem dg(w:WS):cy (bl w.out) (w.l.map ef) w.whole w.code=w:=by simp[cy]
def okW(o l:List V):Prop:=o=bl (ub o)/\l=(uD l).map ef/\o.length<=2000000000/\l.length<=1000
theorem lH{s:g8} {l:List Fr} (h:s.length<=2000000000) (k:l.length<=1000):okW (bl s) (l.map ef):=by
 refine⟨by simp,by simp,by simpa[iA] using h,by simpa using k⟩
theorem kD{o l:List V} {h:Bool} {c:Int} (k:okW o l):[O.cells [.buf 1,.buf 2,.bool h,.int .i64 c,.func (.func 87) [] []],.buf 1 0 o,.buf 3 0 l]=eW (cy o l h c):=by
 unfold eW cy;rw[<-k.1,<-k.2.1]
def WS.fail(w:WS) (c:Int):WS:=if w.code=0 then{w with code:=c} else w
def WS.top(w:WS):Fr:=w.l.getD (w.l.length-1) default
def WS.jO(w:WS) (f:Fr):WS:={w with l:=w.l.set (w.l.length-1) f}
def WS.may(w:WS):WS×Bool:=
 if w.code≠0 then(w,false)
 else if w.l.length=0 then(if w.whole=true then(w.fail 12,false) else({w with whole:=true},true))
 else if w.top.e.toNat=125 then(if w.top.k=true then(w.jO {w.top with k:=false},true) else(w.fail 12,false))
 else({w.jO {w.top with b:=true} with out:=if w.top.b=true then w.out++[44] else w.out},true)
def WS.put(w:WS) (s:g8):WS:=if w.may.2=true then{w.may.1 with out:=w.may.1.out++s} else w.may.1
def WS.begin(w:WS) (a e:UInt8):WS:=
 if w.code≠0 then w
 else if w.l.length>=32 then w.fail 33
 else if w.may.2=true then{w.may.1 with out:=w.may.1.out++[a],l:=w.may.1.l++[⟨e,false,false⟩]} else w.may.1
def WS.fin(w:WS):WS:=
 if w.code≠0 then w
 else if w.l.length=0\/w.top.k=true then w.fail 12
 else{w with out:=w.out++[w.top.e],l:=w.l.take (w.l.length-1)}
def WS.key(w:WS) (s:g8):WS:=
 if w.code≠0 then w
 else if w.l.length=0\/w.top.e.toNat≠125\/w.top.k=true then w.fail 12
 else{w.jO {w.top with b:=true,k:=true} with out:=(if w.top.b=true then w.out++[44] else w.out)++(quote s++[58])}
def vB(b:Bool):g8:=if b=true then[116,114,117,101] else[102,97,108,115,101]
def WS.op(w:WS) (o:JOp):WS:=
 if o.kind=123 then w.begin 123 125
 else if o.kind=91 then w.begin 91 93
 else if o.kind=101 then w.fin
 else if o.kind=107 then w.key o.text
 else if o.kind=115 then w.put (quote o.text)
 else if o.kind=110 then w.put (kM o.n)
 else if o.kind=116\/o.kind=102 then w.put (vB (o.kind==116))
 else w.put [110,117,108,108]
def WS.done(w:WS):g8×Int:=
 if w.code≠0 then([],w.code) else if w.l.length>0\/w.whole=false then([],1) else(w.out,0)
def WS.new:WS:=⟨[],[],false,0⟩
theorem nF(w:WS):w.may.1.out.length<=w.out.length+1/\w.may.1.l.length=w.l.length:=by
 unfold WS.may WS.fail WS.jO;repeat' split
 all_goals (constructor<;>simp)
theorem VQ(w:WS) (o:JOp) (h:-9223372036854775808<=o.n/\o.n<=9223372036854775807):(w.op o).out.length<=w.out.length+6*o.text.length+30/\(w.op o).l.length<=w.l.length+1:=by
 have h1:=nF w;have h2:=LX o.text;have h3:=OJ h.1 h.2;have h4:(vB (o.kind==116)).length<=5:=by unfold vB;split<;>simp
 unfold WS.op WS.begin WS.fin WS.key WS.put WS.fail WS.jO;repeat' split
 all_goals (constructor<;>(try simp only[an,List.length_cons,List.length_nil,List.length_set,eo])<;>omega)
theorem VP(w:WS) (o:JOp) (h:w.l.length<=32):(w.op o).l.length<=32:=by
 have h1:=nF w;unfold WS.op WS.begin WS.fin WS.key WS.put WS.fail WS.jO;repeat' split
 all_goals ((try simp only[an,List.length_cons,List.length_nil,List.length_set,eo])<;>omega)
abbrev vT(t:Tk):V:=.agg (eT t)
theorem Lj(s:g8):(Cu.new s).ok:=⟨ci _,co _⟩
theorem M7(t:g8):∀(n i:Nat) (o:g8),(dw t n i o).1=0->i<(dw t n i o).2.1/\(dw t n i o).2.1<=t.length
 |0,_,_,h=>by rw[dw] at h;simp at h
 |n+1,i,o,h=>by
   rw[dw] at h⊢;by_cases a:t.length<=i
   . rw[if_pos a] at h;simp at h
   rw[if_neg a] at h⊢;by_cases b:(t.getD i 0).toNat=34
   . rw[if_pos b];exact⟨by show i<i+1;omega,by show i+1<=_;omega⟩
   rw[if_neg b] at h⊢;by_cases c:(cA t i).2.2≠0
   . rw[if_pos c] at h;exact absurd h c
   rw[if_neg c] at h⊢;have h1:=M7 t n (cA t i).2.1.toNat _ h;have h2:=LH t i (by omega);omega
theorem CX(t:g8) (i:Nat) (h:(cS t i).2=0):i<(cS t i).1:=by
 revert h;unfold cS;repeat' split
 all_goals (intro h;first|(dsimp only;omega)|(exfalso;simp at h))
theorem Ls(t:g8) (i:Nat) (hi:i<=t.length) (h:(cM t i).2=0):i<(cM t i).1:=by
 have h1:=rE t i 45 45 hi;have w:(aZ t i).2=0->i<(aZ t i).1/\(aZ t i).1<=t.length:=by
  unfold aZ;split
  . rename_i q;have:=(il.1 q).1;intro _;dsimp only;omega
  . intro h;have:=CX t _ h;have:=oE t _ h1.2;omega
 have b:(cf t (aZ t i)).2=0->i<(cf t (aZ t i)).1/\(cf t (aZ t i)).1<=t.length:=by
  generalize aZ t i=x at*;unfold cf;split
  . rename_i q;intro h;have:=(il.1 q.2).1;have:=w q.1;have:=CX t _ h;have:=oE t (x.1+1) (by omega);omega
  . exact w
 revert h;unfold cM;generalize cf t (aZ t i) =x at*;unfold jM;split
 . rename_i q;intro h;have:=b q.1;have:=(il.1 q.2).1;have:=rE t (x.1+1) 43 45 (by omega);have:=CX t _ h;omega
 . exact fun h=>(b h).1
theorem yV{c:Cu} (hk:c.ok) (h:c.bB.1.c=0):c.bB.1.ok/\c.bB.1.s=c.s/\c.bB.1.e=c.e/\c.c=0/\c.p<=c.bB.1.p/\(c.bB.2.k≠0->c.p<c.bB.1.p):=by
 have hl:=i7 hk;unfold Cu.bB at h⊢;by_cases h0:c.c=0
 . rw[if_neg (by omega)] at h⊢;have hr:=wF dn c.ar c.p;have hp:=hk.1;have hd:Cu.ok {c with p:=dy dn c.ar c.p}:=⟨by show dy dn c.ar c.p<=c.e;omega,hk.2⟩
   have hr1:c.p<=({c with p:=dy dn c.ar c.p}:Cu).p:=hr.1;have e1:({c with p:=dy dn c.ar c.p}:Cu).s=c.s:=rfl;have e2:({c with p:=dy dn c.ar c.p}:Cu).e=c.e:=rfl;have e3:({c with p:=dy dn c.ar c.p}:Cu).c=0:=h0;generalize ({c with p:=dy dn c.ar c.p}:Cu) =d at*;have hdl:=i7 hd;have fl:∀k:Int,k≠0->(d.fail k).c≠0:=fun k hk=>by rw[jn _ e3];exact hk
   rw[<-e1,<-e2];unfold Cu.jh at h⊢;by_cases a:d.p=d.e
   . rw[if_pos a];exact⟨hd,rfl,rfl,h0,hr1,fun k=>absurd rfl k⟩
   rw[if_neg a] at h⊢;have hlt:d.p<d.e:=by have:=hd.1;omega
   have adv:∀n,d.p+n<=d.e->0<n->Cu.ok {d with p:=d.p+n}/\c.p<=d.p+n/\c.p<d.p+n:=fun n hn h0=>⟨⟨hn,hd.2⟩,by omega,by omega⟩
   by_cases b:dj d.get=true
   . rw[if_pos b];exact⟨(adv 1 (by omega) (by omega)).1,rfl,rfl,h0,by show c.p<=d.p+1;omega,fun _=>by show c.p<d.p+1;omega⟩
   rw[if_neg b] at h⊢;by_cases g:d.get.toNat=34
   . rw[if_pos g] at h⊢;unfold held Cu.gJ at h⊢;rw[if_neg (by omega),if_neg a,if_neg (by omega)] at h⊢;by_cases z:(dw (d.s.take d.e) (d.e-d.p) (d.p+1) []).1=0
     . rw[if_pos z];have:=M7 _ _ _ _ z;have hlen:(d.s.take d.e).length=d.e:=hdl;generalize dw (d.s.take d.e) (d.e-d.p) (d.p+1) []=R at*;refine⟨⟨by show R.2.1<=d.e;omega,hd.2⟩,rfl,rfl,h0,by show c.p<=R.2.1;omega,fun _=>by show c.p<R.2.1;omega⟩
     . rw[if_neg z] at h;exact absurd h (fl _ z)
   rw[if_neg g] at h⊢;by_cases f:d.get.toNat=45\/ba d.get=true
   . rw[if_pos f] at h⊢;unfold held Cu.jq at h⊢;rw[if_neg (by omega)] at h⊢;by_cases z:(cM d.ar d.p).2=0
     . rw[if_neg (by omega)];have q1:=Ls d.ar d.p (by omega) z;have q2:=wj d.ar d.p (by omega);generalize cM d.ar d.p=R at*;refine⟨⟨by show R.1<=d.e;omega,hd.2⟩,rfl,rfl,h0,by show c.p<=R.1;omega,fun _=>by show c.p<R.1;omega⟩
     . rw[if_pos z] at h;exact absurd h (fl _ z)
   rw[if_neg f] at h⊢;have hw:∀k,0<(spell k).length->(d.dQ k).1.c=0->(d.dQ k).1.ok/\(d.dQ k).1.s=d.s/\(d.dQ k).1.e=d.e/\c.c=0/\c.p<=(d.dQ k).1.p/\((d.dQ k).2.k≠0->c.p<(d.dQ k).1.p):=fun k hsp h=>by
    have hwe:∀(s:g8) (i:Nat),fk d s i=0->s=[]\/d.p+i+s.length<=d.e:=by
     intro s
     induction s with
     |nil=>intro i _;exact .inl rfl
     |cons b s ih=>
       intro i hi;unfold fk at hi;split at hi
       . simp at hi
       . split at hi
         . simp at hi
         . right;rcases ih (i+1) hi with e|e
           . subst e;simp;omega
           . simp;omega
    unfold Cu.dQ at h⊢;by_cases z:fk d (spell k) 0=0
    . rw[if_neg (by omega)];refine⟨⟨?_,hd.2⟩,rfl,rfl,h0,by show c.p<=d.p+(spell k).length;omega,fun hk0=>?_⟩
      . rcases hwe _ _ z with e|e
        . rw[e];exact hd.1
        . show d.p+(spell k).length<=d.e;omega
      . show c.p<d.p+(spell k).length;omega
    . rw[if_pos z] at h;exact absurd h (fl _ z)
   by_cases w:d.get.toNat=116\/d.get.toNat=102
   . rw[if_pos w] at h⊢;refine hw _ ?_ h;unfold spell;rcases w with w|w<;>simp[w]
   rw[if_neg w] at h⊢;by_cases v:d.get.toNat=110
   . rw[if_pos v] at h⊢;exact hw _ (by decide) h
   rw[if_neg v] at h;exact absurd h (fl 3 (by decide))
 . rw[if_pos h0] at h;exact absurd h h0
def textT(t:Tk):g8:=if t.k.toNat=115 then quote t.t else if t.k.toNat=110 then t.t else if dj t.k=true then[t.k] else spell t.k
structure Nd where
 k:UInt8
 key:g8
 t:g8
 sz:Int
instance:Inhabited Nd:=⟨⟨0,[],[],0⟩⟩
abbrev eNc(n:Nd):List V:=[.int .u8 n.k.toNat,.str n.key,.str n.t,.int .i64 n.sz]
abbrev aN(n:Nd):V:=.agg (eNc n)
def Cu.aK(c:Cu):Int:=if c.next.1.c≠0 then c.next.1.c else if c.next.2.k=0 then 1 else 0
abbrev RT:Type:=Int×List Nd×Cu
def gZ(k:UInt8):Bool:=decide (k.toNat=115\/k.toNat=110\/k.toNat=116\/k.toNat=102\/k.toNat=122)
abbrev VF:Type:=Tk->g8->Cu->RT
def iF(v:VF):Nat->Tk->Cu->List Nd->RT
 |0,_,c,_=>(1,[],c)
 |n+1,t,c,acc=>
   if(v t [] c).1≠0 then((v t [] c).1,[],c)
   else if(v t [] c).2.2.aK≠0 then((v t [] c).2.2.aK,[],c)
   else if(v t [] c).2.2.next.2.k.toNat=93 then(0,acc++(v t [] c).2.1,(v t [] c).2.2.next.1)
   else if(v t [] c).2.2.next.2.k.toNat≠44 then(3,[],c)
   else if(v t [] c).2.2.next.1.aK≠0 then((v t [] c).2.2.next.1.aK,[],c)
   else iF v n (v t [] c).2.2.next.1.next.2 (v t [] c).2.2.next.1.next.1 (acc++(v t [] c).2.1)
def bW(v:VF) (c:Cu):RT:=
 if c.aK≠0 then(c.aK,[],c) else if c.next.2.k.toNat=93 then(0,[],c.next.1) else iF v (c.next.1.e-c.next.1.p+1) c.next.2 c.next.1 []
def fJ(t:Tk) (c:Cu) (ks:List g8):Int:=
 if t.k.toNat≠115 then 3 else if t.t∈ks then 8 else if c.aK≠0 then c.aK else if c.next.2.k.toNat≠58 then 3 else c.next.1.aK
def c7(v:VF) (t:Tk) (c:Cu):RT:=v c.next.1.next.2 t.t c.next.1.next.1
def iG(v:VF):Nat->Tk->Cu->List g8->List Nd->RT
 |0,_,c,_,_=>(1,[],c)
 |n+1,t,c,ks,acc=>
   if fJ t c ks≠0 then(fJ t c ks,[],c)
   else if(c7 v t c).1≠0 then((c7 v t c).1,[],c)
   else if(c7 v t c).2.2.aK≠0 then((c7 v t c).2.2.aK,[],c)
   else if(c7 v t c).2.2.next.2.k.toNat=125 then(0,acc++(c7 v t c).2.1,(c7 v t c).2.2.next.1)
   else if(c7 v t c).2.2.next.2.k.toNat≠44 then(3,[],c)
   else if(c7 v t c).2.2.next.1.aK≠0 then((c7 v t c).2.2.next.1.aK,[],c)
   else iG v n (c7 v t c).2.2.next.1.next.2 (c7 v t c).2.2.next.1.next.1 (ks++[t.t]) (acc++(c7 v t c).2.1)
def bS(v:VF) (c:Cu):RT:=
 if c.aK≠0 then(c.aK,[],c) else if c.next.2.k.toNat=125 then(0,[],c.next.1) else iG v (c.next.1.e-c.next.1.p+1) c.next.2 c.next.1 [] []
def gv:Nat->VF
 |0,t,key,c=>if t.k.toNat=123\/t.k.toNat=91 then(33,[],c) else if gZ t.k=true then(0,[⟨t.k,key,t.t,1⟩],c) else(3,[],c)
 |k+1,t,key,c=>
   if t.k.toNat=123 then((bS (gv k) c).1,⟨t.k,key,t.t,(bS (gv k) c).2.1.length+1⟩::(bS (gv k) c).2.1,(bS (gv k) c).2.2)
   else if t.k.toNat=91 then((bW (gv k) c).1,⟨t.k,key,t.t,(bW (gv k) c).2.1.length+1⟩::(bW (gv k) c).2.1,(bW (gv k) c).2.2)
   else if gZ t.k=true then(0,[⟨t.k,key,t.t,1⟩],c) else(3,[],c)
def Cu.live(c:Cu):Prop:=c.ok/\c.c=0/\c.s.length<=10000000
theorem bQ{c:Cu} (h:c.live) (h0:c.aK=0):c.next.1.live/\c.next.1.s=c.s/\c.next.1.e=c.e/\c.p<c.next.1.p/\c.next=c.bB:=by
 have hs:=yX h.1;unfold Cu.aK at h0;split at h0
 . rename_i h1;exact absurd h0 h1
 . rename_i h1;split at h0
   . cases h0
   . rename_i h2;have h1:c.next.1.c=0:=by omega
     have hd:c.bB.1.c=0:=by rw[<-hs.2.1];exact h1
     have he:c.next=c.bB:=Prod.ext (hs.2.2 hd) hs.1;have hn:=yV h.1 hd;rw[he] at h2⊢;exact⟨⟨hn.1,hd,by rw[hn.2.1];exact h.2.2⟩,hn.2.1,hn.2.2.1,hn.2.2.2.2.2 h2,rfl⟩
structure Fit(c:Cu) (r:RT):Prop where
 live:r.2.2.live
 s:r.2.2.s=c.s
 e:r.2.2.e=c.e
 p:c.p<=r.2.2.p
 len:r.2.1.length<=r.2.2.p-c.p+1
def ll(v:VF):Prop:=∀t key c,c.live->(v t key c).1=0->Fit c (v t key c)
theorem J4{v:VF} (hv:ll v):∀(n:Nat) (t:Tk) (c c0:Cu) (acc:List Nd),c.live->c.s=c0.s->c.e=c0.e->c0.p<=c.p->acc.length<=c.p-c0.p->(iF v n t c acc).1=0->
   Fit c0 (iF v n t c acc)/\(iF v n t c acc).2.1.length<=(iF v n t c acc).2.2.p-c0.p
 |0,_,_,_,_,_,_,_,_,_,h=>by rw[iF] at h;cases h
 |n+1,t,c,c0,acc,hc,hs,he,hp,ha,h=>by
   rw[iF] at h⊢;by_cases h1:(v t [] c).1≠0
   . rw[if_pos h1] at h;exact absurd h h1
   rw[if_neg h1] at h⊢;have f1:=hv t [] c hc (by omega);by_cases h2:(v t [] c).2.2.aK≠0
   . rw[if_pos h2] at h;exact absurd h h2
   rw[if_neg h2] at h⊢;obtain⟨l1,l2,l3,l4,_⟩:=bQ f1.live (by omega);have fs:=f1.s;have fe:=f1.e;have fp:=f1.p;have fl:=f1.len;by_cases h3:(v t [] c).2.2.next.2.k.toNat=93
   . rw[if_pos h3] at h⊢;have e:(acc++(v t [] c).2.1).length<=(v t [] c).2.2.next.1.p-c0.p:=by rw[an];omega
     exact⟨⟨l1,by rw[l2,fs,hs],by rw[l3,fe,he],by show c0.p<=(v t [] c).2.2.next.1.p;omega,Nat.le_trans e (Nat.le_succ _)⟩,e⟩
   rw[if_neg h3] at h⊢;by_cases h4:(v t [] c).2.2.next.2.k.toNat≠44
   . rw[if_pos h4] at h;cases h
   rw[if_neg h4] at h⊢;by_cases h5:(v t [] c).2.2.next.1.aK≠0
   . rw[if_pos h5] at h;exact absurd h h5
   rw[if_neg h5] at h⊢;obtain⟨m1,m2,m3,m4,_⟩:=bQ l1 (by omega);exact J4 hv n _ _ c0 _ m1 (by rw[m2,l2,fs,hs]) (by rw[m3,l3,fe,he]) (by omega) (by rw[an];omega) h
theorem C9{v:VF} (hv:ll v) {c:Cu} (hc:c.live) (h:(bW v c).1=0):Fit c (bW v c)/\(bW v c).2.1.length<=(bW v c).2.2.p-c.p:=by
 unfold bW at h⊢;by_cases h1:c.aK≠0
 . rw[if_pos h1] at h;exact absurd h h1
 rw[if_neg h1] at h⊢;obtain⟨l1,l2,l3,l4,_⟩:=bQ hc (by omega);by_cases h3:c.next.2.k.toNat=93
 . rw[if_pos h3] at h⊢;exact⟨⟨l1,l2,l3,by show c.p<=c.next.1.p;omega,ci _⟩,ci _⟩
 rw[if_neg h3] at h⊢;exact J4 hv _ _ _ c _ l1 l2 l3 (by omega) (ci _) h
theorem yR{t:Tk} {c:Cu} {ks:List g8} (hc:c.live) (h:fJ t c ks=0):t.k.toNat=115/\t.t∉ks/\c.aK=0/\c.next.2.k.toNat=58/\c.next.1.aK=0:=by
 unfold fJ at h;by_cases h1:t.k.toNat≠115
 . rw[if_pos h1] at h;cases h
 rw[if_neg h1] at h;by_cases h2:t.t∈ks
 . rw[if_pos h2] at h;cases h
 rw[if_neg h2] at h;by_cases h3:c.aK≠0
 . rw[if_pos h3] at h;exact absurd h h3
 rw[if_neg h3] at h;by_cases h4:c.next.2.k.toNat≠58
 . rw[if_pos h4] at h;cases h
 rw[if_neg h4] at h;exact⟨by omega,h2,by omega,by omega,h⟩
theorem Jc{v:VF} (hv:ll v):∀(n:Nat) (t:Tk) (c c0:Cu) (ks:List g8) (acc:List Nd),c.live->c.s=c0.s->c.e=c0.e->c0.p<=c.p->acc.length<=c.p-c0.p->(iG v n t c ks acc).1=0->
   Fit c0 (iG v n t c ks acc)/\(iG v n t c ks acc).2.1.length<=(iG v n t c ks acc).2.2.p-c0.p
 |0,_,_,_,_,_,_,_,_,_,_,h=>by rw[iG] at h;cases h
 |n+1,t,c,c0,ks,acc,hc,hs,he,hp,ha,h=>by
   rw[iG] at h⊢;by_cases h0:fJ t c ks≠0
   . rw[if_pos h0] at h;exact absurd h h0
   rw[if_neg h0] at h⊢;obtain⟨_,_,q1,_,q2⟩:=yR (t:=t) (ks:=ks) hc (by omega);obtain⟨a1,a2,a3,a4,_⟩:=bQ hc q1;obtain⟨b1,b2,b3,b4,_⟩:=bQ a1 q2;by_cases h1:(c7 v t c).1≠0
   . rw[if_pos h1] at h;exact absurd h h1
   rw[if_neg h1] at h⊢;have f1:Fit c.next.1.next.1 (c7 v t c):=hv _ _ _ b1 (show(c7 v t c).1=0 by omega);by_cases h2:(c7 v t c).2.2.aK≠0
   . rw[if_pos h2] at h;exact absurd h h2
   rw[if_neg h2] at h⊢;obtain⟨l1,l2,l3,l4,_⟩:=bQ f1.live (by omega);have fs:=f1.s;have fe:=f1.e;have fp:=f1.p;have fl:=f1.len;by_cases h3:(c7 v t c).2.2.next.2.k.toNat=125
   . rw[if_pos h3] at h⊢;have e:(acc++(c7 v t c).2.1).length<=(c7 v t c).2.2.next.1.p-c0.p:=by rw[an];omega
     exact⟨⟨l1,by rw[l2,fs,b2,a2,hs],by rw[l3,fe,b3,a3,he],by show c0.p<=(c7 v t c).2.2.next.1.p;omega,Nat.le_trans e (Nat.le_succ _)⟩,e⟩
   rw[if_neg h3] at h⊢;by_cases h4:(c7 v t c).2.2.next.2.k.toNat≠44
   . rw[if_pos h4] at h;cases h
   rw[if_neg h4] at h⊢;by_cases h5:(c7 v t c).2.2.next.1.aK≠0
   . rw[if_pos h5] at h;exact absurd h h5
   rw[if_neg h5] at h⊢;obtain⟨m1,m2,m3,m4,_⟩:=bQ l1 (by omega);exact Jc hv n _ _ c0 _ _ m1 (by rw[m2,l2,fs,b2,a2,hs]) (by rw[m3,l3,fe,b3,a3,he]) (by omega) (by rw[an];omega) h
theorem Ca{v:VF} (hv:ll v) {c:Cu} (hc:c.live) (h:(bS v c).1=0):Fit c (bS v c)/\(bS v c).2.1.length<=(bS v c).2.2.p-c.p:=by
 unfold bS at h⊢;by_cases h1:c.aK≠0
 . rw[if_pos h1] at h;exact absurd h h1
 rw[if_neg h1] at h⊢;obtain⟨l1,l2,l3,l4,_⟩:=bQ hc (by omega);by_cases h3:c.next.2.k.toNat=125
 . rw[if_pos h3] at h⊢;exact⟨⟨l1,l2,l3,by show c.p<=c.next.1.p;omega,ci _⟩,ci _⟩
 rw[if_neg h3] at h⊢;exact Jc hv _ _ _ c _ _ l1 l2 l3 (by omega) (ci _) h
theorem iU:∀k,ll (gv k)
 |0=>fun t key c hc h=>by
   rw[gv] at h⊢;by_cases h1:t.k.toNat=123\/t.k.toNat=91
   . rw[if_pos h1] at h;cases h
   rw[if_neg h1] at h⊢;by_cases h2:gZ t.k=true
   . rw[if_pos h2];exact⟨hc,rfl,rfl,co _,by simp⟩
   . rw[if_neg h2] at h;cases h
 |k+1=>fun t key c hc h=>by
   rw[gv] at h⊢;by_cases h1:t.k.toNat=123
   . rw[if_pos h1] at h⊢;obtain⟨f,hl⟩:=Ca (iU k) hc h;exact⟨f.live,f.s,f.e,f.p,by show(_::_:List Nd).length<=_;rw[List.length_cons];show(bS (gv k) c).2.1.length+1<=(bS (gv k) c).2.2.p-c.p+1;omega⟩
   rw[if_neg h1] at h⊢;by_cases h3:t.k.toNat=91
   . rw[if_pos h3] at h⊢;obtain⟨f,hl⟩:=C9 (iU k) hc h;exact⟨f.live,f.s,f.e,f.p,by show(_::_:List Nd).length<=_;rw[List.length_cons];show(bW (gv k) c).2.1.length+1<=(bW (gv k) c).2.2.p-c.p+1;omega⟩
   rw[if_neg h3] at h⊢;by_cases h2:gZ t.k=true
   . rw[if_pos h2];exact⟨hc,rfl,rfl,co _,by simp⟩
   . rw[if_neg h2] at h;cases h
theorem MZ(c:Cu):(c.next.1.c≠0/\c.aK=c.next.1.c)\/(c.next.1.c=0/\c.next.2.k.toNat=0/\c.aK=1)\/(c.next.1.c=0/\c.next.2.k.toNat≠0/\c.aK=0):=by
 unfold Cu.aK;by_cases h:c.next.1.c≠0
 . rw[if_pos h];exact .inl ⟨h,rfl⟩
 . rw[if_neg h];have h0:c.next.1.c=0:=by omega
   by_cases h2:c.next.2.k=0
   . rw[if_pos h2];exact .inr (.inl ⟨h0,by rw[h2];rfl,rfl⟩)
   . rw[if_neg h2];exact .inr (.inr ⟨h0,fun q=>h2 (UInt8.toNat_inj.1 q),rfl⟩)
theorem R6(c:Cu) (l:List V) (hp:c.ok/\c.s.length<=10000000) (hc:¬(c.aK≠0)):OK 39 ([.ptr 0 0]) ([.cells [.ptr 1 0,.buf 2],.cells (eC c),.buf 4 0 l]) (.agg (eT c.next.2)) (some [.cells [.ptr 1 0,.buf 2],.cells (eC c.next.1),.buf 4 0 l]):=by
 refine ai (C:=cx [(85,uk),(86,mi)]) (ak ⟨yo,nz,trivial⟩) (fn:=Tryz.f39) fun hw hs=>?_;have ht:=MZ c;repeat'((conv=>whnf);first|apply af|apply aI|(apply aj<;>intro h))
 all_goals try conv=>whnf
 all_goals try(refine ae.mk ?_;try dsimp only)
 all_goals (try simp only[aT] at*)
 all_goals first|refine stay ?_|trivial|skip
 all_goals first
  |(exfalso;omega)
  | (show ab _ _ _ _ _ _
     refine ab.mk [] ?_<;>(repeat' first|trivial)
     done)
theorem W5(c:Cu) (l:List V) (hp:c.ok/\c.s.length<=10000000) (hc:c.aK≠0):j6 39 ([.ptr 0 0]) ([.cells [.ptr 1 0,.buf 2],.cells (eC c),.buf 4 0 l]) (.iface 99 (.int .i64 c.aK)) (some [.dead,.dead,.dead,.buf 1 0 []]):=by
 refine je (C:=cx [(85,uk),(86,mi)]) (ak ⟨yo,nz,trivial⟩) (fn:=Tryz.f39) rfl rfl rfl rfl fun hw hs=>?_;have ht:=MZ c;repeat'((conv=>whnf);first|apply af|apply fD|apply aI|(apply aj<;>intro h))
 all_goals try conv=>whnf
 all_goals try(refine ae.mk ?_;try dsimp only)
 all_goals (try simp only[aT] at*)
 all_goals first|refine stay ?_|trivial|(simp(discharger:=omega) [-List.getD_eq_getElem?_getD,wR]<;>omega)|skip
 all_goals first
  | (show bI _ _ _
     (refine bI.mk [.nw,.swap 3 5] ?_<;>(repeat' first|trivial|rfl|apply ah);done)
     done)
  |(exfalso;omega)
def oG:dL:=fun args σ=>match args,σ with
 |[.ptr 0 0],[.cells [.ptr 1 0,.buf 2],.cells ([.str s_c,.int .i64 (.ofNat a_c),.int .i64 (.ofNat e_c),.int .i64 c_c]),.buf 4 0 l]=>some (True/\((Cu.mk s_c a_c e_c c_c).ok/\(Cu.mk s_c a_c e_c c_c).s.length<=10000000),(Cu.mk s_c a_c e_c c_c).aK≠0,.iface 99 (.int .i64 (Cu.mk s_c a_c e_c c_c).aK),some [.dead,.dead,.dead,.buf 1 0 []],.agg (eT (Cu.mk s_c a_c e_c c_c).next.2),some [.cells [.ptr 1 0,.buf 2],.cells (eC (Cu.mk s_c a_c e_c c_c).next.1),.buf 4 0 l])
 |_,_=>none
theorem rh:dR 39 (oG):=by
 intro args sg pre c u r x r2 he hp;unfold oG at he;split at he<;>cases he
 . rw[cX (hp).1];exact⟨fun hc=>⟨_,rfl,W5 (hp:=hp.2) (hc:=hc) ..⟩,fun hc=>R6 (hp:=hp.2) (hc:=hc) ..⟩
theorem R4(c:Cu) (l:List V) (k:UInt8) (hp:c.ok/\c.s.length<=10000000) (hc:¬(c.aK≠0\/c.next.2.k≠k)):OK 129 ([.ptr 0 0,bv k]) ([.cells [.ptr 1 0,.buf 2],.cells (eC c),.buf 4 0 l]) (.tuple []) (some [.cells [.ptr 1 0,.buf 2],.cells (eC c.next.1),.buf 4 0 l]):=by
 refine ai (C:=gy [] [(39,oG)]) (gW trivial ⟨rh,trivial⟩) (fn:=Tryz.f129) fun hw hs=>?_;have h1:c.aK=0:=Decidable.not_not.1 fun q=>hc (.inl q);have h2:c.next.2.k=k:=Decidable.not_not.1 fun q=>hc (.inr q);repeat'((conv=>whnf);first|with_reducible refine cK ?_ (fun h=>?_) fun h=>?_|apply fD|apply aI)
 all_goals try conv=>whnf
 all_goals try(refine ae.mk ?_;try dsimp only)
 all_goals (try simp only[aT] at*)
 all_goals first|refine stay ?_|trivial|skip
 all_goals first
  |(exfalso;omega)
  |(rw[h2];exact beq_self_eq_true _)
  |(rw[h2];exact bne_self_eq_false _)
  | (show ab _ _ _ _ _ _
     refine ab.mk [] ?_<;>(repeat' first|trivial)
     done)
theorem W0(c:Cu) (l:List V) (k:UInt8) (hp:c.ok/\c.s.length<=10000000) (hc:c.aK≠0\/c.next.2.k≠k):j6 129 ([.ptr 0 0,bv k]) ([.cells [.ptr 1 0,.buf 2],.cells (eC c),.buf 4 0 l]) (.iface 99 (.int .i64 (if c.aK≠0 then c.aK else 3))) (some [.dead,.dead,.dead,.buf 1 0 []]):=by
 refine je (C:=gy [] [(39,oG)]) (gW trivial ⟨rh,trivial⟩) (fn:=Tryz.f129) rfl rfl rfl rfl fun hw hs=>?_;have hk:(c.next.2.k.toNat:Int)=k.toNat->c.next.2.k=k:=fun h=>UInt8.toNat_inj.1 (by omega);repeat'((conv=>whnf);first|with_reducible refine cK ?_ (fun h=>?_) fun h=>?_|apply af|apply fD)
 all_goals try conv=>whnf
 all_goals try(refine ae.mk ?_;try dsimp only)
 all_goals (try simp only[aT] at*)
 all_goals first|refine stay ?_|trivial|(simp(discharger:=omega) [-List.getD_eq_getElem?_getD,wR]<;>omega)|skip
 all_goals first
  | (show bI _ _ _
     first|(refine bI.mk [] ?_<;>(repeat' first|trivial|rfl|apply ah);done)|(refine bI.mk [.nw,.swap 3 3] ?_<;>(repeat' first|trivial|rfl|apply ah);done)
     done)
  | (have h2:c.next.2.k ≠ k:=hc.resolve_left (by assumption)
     refine bne_iff_ne.2 fun q=>h2 (hk q))
  |(exfalso;omega)
def zf:dL:=fun args σ=>match args,σ with
 |[.ptr 0 0,.int .u8 n_k],[.cells [.ptr 1 0,.buf 2],.cells ([.str s_c,.int .i64 (.ofNat a_c),.int .i64 (.ofNat e_c),.int .i64 c_c]),.buf 4 0 l]=>some ((0<=n_k/\n_k<=255)/\(True/\((Cu.mk s_c a_c e_c c_c).ok/\(Cu.mk s_c a_c e_c c_c).s.length<=10000000)),(Cu.mk s_c a_c e_c c_c).aK≠0\/(Cu.mk s_c a_c e_c c_c).next.2.k≠(byte n_k),.iface 99 (.int .i64 (if(Cu.mk s_c a_c e_c c_c).aK≠0 then(Cu.mk s_c a_c e_c c_c).aK else 3)),some [.dead,.dead,.dead,.buf 1 0 []],.tuple [],some [.cells [.ptr 1 0,.buf 2],.cells (eC (Cu.mk s_c a_c e_c c_c).next.1),.buf 4 0 l])
 |_,_=>none
theorem Kx:dR 129 (zf):=by
 intro args sg pre c u r x r2 he hp;unfold zf at he;split at he<;>cases he
 . rw[gd (hp).1];rw[cX (hp.2).1];exact⟨fun hc=>⟨_,rfl,W0 (hp:=hp.2.2) (hc:=hc) ..⟩,fun hc=>R4 (hp:=hp.2.2) (hc:=hc) ..⟩
theorem Re(c:Cu) (l:List V) (hp:c.ok/\c.s.length<=10000000) (hc:¬(c.next.2.k≠0\/c.next.1.c≠0)):OK 40 ([.ptr 0 0]) ([.cells [.ptr 1 0,.buf 2],.cells (eC c),.buf 4 0 l]) (.tuple []) (some [.cells [.ptr 1 0,.buf 2],.cells (eC c.next.1),.buf 4 0 l]):=by
 refine ai (C:=cx [(85,uk),(86,mi)]) (ak ⟨yo,nz,trivial⟩) (fn:=Tryz.f40) fun hw hs=>?_;have h1:c.next.2.k=0:=Decidable.not_not.1 fun q=>hc (.inl q);have h2:c.next.1.c=0:=Decidable.not_not.1 fun q=>hc (.inr q);repeat'((conv=>whnf);first|apply af|apply fD|apply aI)
 all_goals try conv=>whnf
 all_goals try(refine ae.mk ?_;try dsimp only)
 all_goals (try simp only[aT] at*)
 all_goals first|refine stay ?_|trivial|(simp(discharger:=omega) [-List.getD_eq_getElem?_getD,wR]<;>omega)|skip
 all_goals first
  |(rw[h1];rfl)
  |(rw[h2];rfl)
  |(exfalso;omega)
  | (show ab _ _ _ _ _ _
     refine ab.mk [] ?_<;>(repeat' first|trivial)
     done)
theorem W8(c:Cu) (l:List V) (hp:c.ok/\c.s.length<=10000000) (hc:c.next.2.k≠0\/c.next.1.c≠0):j6 40 ([.ptr 0 0]) ([.cells [.ptr 1 0,.buf 2],.cells (eC c),.buf 4 0 l]) (.iface 99 (.int .i64 2)) (some [.dead,.dead,.dead,.buf 1 0 []]):=by
 refine je (C:=cx [(85,uk),(86,mi)]) (ak ⟨yo,nz,trivial⟩) (fn:=Tryz.f40) rfl rfl rfl rfl fun hw hs=>?_;have hk:(c.next.2.k.toNat:Int)=0->c.next.2.k=0:=fun h=>UInt8.toNat_inj.1 (by show c.next.2.k.toNat=0;omega);repeat'((conv=>whnf);first|apply af|apply fD|apply aI|(apply aj<;>intro h))
 all_goals try conv=>whnf
 all_goals try(refine ae.mk ?_;try dsimp only)
 all_goals (try simp only[aT] at*)
 all_goals first|refine stay ?_|trivial|skip
 all_goals first
  | (show bI _ _ _
     (refine bI.mk [.nw,.swap 3 4] ?_<;>(repeat' first|trivial|rfl|apply ah);done)
     done)
  | (have h2:c.next.1.c ≠ 0:=hc.resolve_left (fun q=>q (hk (by assumption)))
     exact bne_iff_ne.2 h2)
  |(exfalso;omega)
def Dh:dL:=fun args σ=>match args,σ with
 |[.ptr 0 0],[.cells [.ptr 1 0,.buf 2],.cells ([.str s_c,.int .i64 (.ofNat a_c),.int .i64 (.ofNat e_c),.int .i64 c_c]),.buf 4 0 l]=>some (True/\((Cu.mk s_c a_c e_c c_c).ok/\(Cu.mk s_c a_c e_c c_c).s.length<=10000000),(Cu.mk s_c a_c e_c c_c).next.2.k≠0\/(Cu.mk s_c a_c e_c c_c).next.1.c≠0,.iface 99 (.int .i64 2),some [.dead,.dead,.dead,.buf 1 0 []],.tuple [],some [.cells [.ptr 1 0,.buf 2],.cells (eC (Cu.mk s_c a_c e_c c_c).next.1),.buf 4 0 l])
 |_,_=>none
theorem UM:dR 40 (Dh):=by
 intro args sg pre c u r x r2 he hp;unfold Dh at he;split at he<;>cases he
 . rw[cX (hp).1];exact⟨fun hc=>⟨_,rfl,W8 (hp:=hp.2) (hc:=hc) ..⟩,fun hc=>Re (hp:=hp.2) (hc:=hc) ..⟩
theorem p6(t:Tk):(⟨byte (t.k.toNat:Int),t.t⟩:Tk) =t:=by
 have h:byte (t.k.toNat:Int) =t.k:=UInt8.toNat_inj.1 (by have:=eK (n:=t.k.toNat) ⟨by omega,by have:=t.k.toNat_lt;omega⟩;omega);rw[h]
theorem jt:({data:=#[]}:ByteArray).data.toList=[]:=rfl
theorem tN{l:List V} {L a:List Nd} (h:l=L.map aN):∃M:List Nd,l++a.map aN=M.map aN:=⟨L++a,by rw[h,gq]⟩
structure LInv(k:Nat) (c:Cu) (x:Nat×Tk×Cu×List Nd):Prop where
 live:x.2.2.1.live
 s:x.2.2.1.s=c.s
 e:x.2.2.1.e=c.e
 acc:x.2.2.2.length+1+c.p<=x.2.2.1.p
 n:x.2.2.1.e-x.2.2.1.p+1<=x.1
 r:bW (gv k) c=iF (gv k) x.1 x.2.1 x.2.2.1 x.2.2.2
-- #name trValue (*jtree.reader).value
def l7(k:Nat):dL:=fun args σ=>match args,σ with
 |[.ptr 0 0,.agg [.int .u8 a,.str tt],.str key,.int .i64 d],[.cells [.ptr 1 0,.buf 2],.cells [.str s,.int .i64 (.ofNat p),.int .i64 (.ofNat e),.int .i64 cc],.buf 4 0 l]=>
   some ((0<=a/\a<=255)/\(⟨s,p,e,cc⟩:Cu).live/\d+k=32/\(∃L:List Nd,l=L.map aN)/\l.length+(e-p)+1<=100000000,
    (gv k ⟨byte a,tt⟩ key ⟨s,p,e,cc⟩).1≠0,.iface 99 (.int .i64 (gv k ⟨byte a,tt⟩ key ⟨s,p,e,cc⟩).1),some [.dead,.dead,.dead,.buf 1 0 []],
    .tuple [],some [.cells [.ptr 1 0,.buf 2],.cells (eC (gv k ⟨byte a,tt⟩ key ⟨s,p,e,cc⟩).2.2),.buf 4 0 (l++(gv k ⟨byte a,tt⟩ key ⟨s,p,e,cc⟩).2.1.map aN)])
 |_,_=>none
theorem QZ(k:Nat) (hv:dR 38 (l7 k)) (c:Cu) (l:List V) (d:Int) (hp:c.live/\d+k=32/\(∃L:List Nd,l=L.map aN)/\l.length+(c.e-c.p)<=100000000) (hc:¬((bW (gv k) c).1≠0)):OK 84 ([.ptr 0 0,.int .i64 d]) ([.cells [.ptr 1 0,.buf 2],.cells (eC c),.buf 4 0 l]) (.tuple []) (some [.cells [.ptr 1 0,.buf 2],.cells (eC (bW (gv k) c).2.2),.buf 4 0 (l++(bW (gv k) c).2.1.map aN)]):=by
 refine ai (C:=gy [] [(39,oG),(38,l7 k)]) (gW trivial ⟨rh,hv,trivial⟩) (fn:=Tryz.f84) fun hw hs=>?_;have hn:=fun h=>bQ hp.1 h;repeat'((conv=>whnf);first|with_reducible refine cK ?_ (fun h=>?_) fun h=>?_|(apply aj<;>intro h))
 all_goals try conv=>whnf
 all_goals try(refine ae.mk ?_;try dsimp only)
 . exact⟨trivial,hp.1.1,hp.1.2.2⟩
 . exfalso;unfold bW at hc;rw[if_pos (by assumption)] at hc;exact hc (by assumption)
 . simp only[aT] at*;have hr:bW (gv k) c=(0,[],c.next.1):=by unfold bW;rw[if_neg (by assumption),if_pos (by omega)]
   rw[hr];refine ab.mk [] ?_<;>(repeat' first|trivial|apply ah|apply bg)
   simp
 simp only[aT] at*;have hn:=hn (by omega);refine aM.mk (Nat×Tk×Cu×List Nd) (LInv k c) (fun x=>⟨25,[(0,.ptr 0 0),(1,.int .i64 d),(4,.ptr 3 0)],[.cells [.ptr 1 0,.buf 2],.cells (eC x.2.2.1),.buf 4 0 (l++x.2.2.2.map aN),.cells (eT x.2.1)],[2]⟩) (fun x=>x.1) [] (c.next.1.e-c.next.1.p+1,c.next.2,c.next.1,[]) ⟨hn.1,hn.2.1,hn.2.2.1,by show 0+1+c.p<=c.next.1.p;omega,co _,by unfold bW;rw[if_neg (by assumption),if_neg (by omega)]⟩ ?_ (fun⟨n,t,c',acc⟩ hI _ _=>?_)
 . apply ao<;>(repeat' first|trivial|apply ah|apply bg)
   simp
 obtain⟨i1,i2,i3,i4,i5,i6⟩:=hI;dsimp only at i1 i2 i3 i4 i5 i6;obtain⟨n,rfl⟩:∃m,n=m+1:=⟨n-1,by omega⟩
 rw[iF] at i6;have fit:=iU k t [] c' i1;obtain⟨L,hL⟩:=hp.2.2.1;have hma:(acc.map aN).length=acc.length:=aB ..;have hpe:=i1.1.1;repeat'((conv=>whnf);first|with_reducible refine cK ?_ (fun h=>?_) fun h=>?_|apply fD|(apply aj<;>intro h))
 all_goals try conv=>whnf
 all_goals try(refine ae.mk ?_;try dsimp only)
 all_goals (try simp only[aT,p6,jt] at*)
 all_goals generalize gv k t [] c'=r at*
 all_goals skip
 . exact⟨⟨by omega,by have:=t.k.toNat_lt;omega⟩,i1,hp.2.1,tN hL,by have:=hp.2.2.2;rw[an,hma,i3];omega⟩
 . rw[if_pos (by assumption)] at i6;rw[i6] at hc;exact hc (by assumption)
 . have f:=fit (by omega);exact⟨trivial,f.live.1,f.live.2.2⟩
 . rw[if_neg (by assumption),if_pos (by assumption)] at i6;rw[i6] at hc;exact hc (by assumption)
 . rw[if_neg (by assumption),if_neg (by assumption),if_pos (by omega)] at i6;rw[i6];refine ab.mk [] ?_<;>(repeat' first|trivial|apply ah|apply bg)
   rw[gq,gc]
 all_goals
  have h44:r.2.2.next.2.k.toNat=44:=by
   refine Decidable.byContradiction fun q=>hc ?_;rw[if_neg (by assumption),if_neg (by assumption),if_neg (by omega),if_pos q] at i6;rw[i6];exact(by decide:(3:Int)≠0)
 . rw[h44];rfl
 all_goals
  have f:=fit (by omega);obtain⟨o1,o2,o3,o4,_⟩:=bQ f.live (by omega);have f2:=f.p;have f3:=f.e;have f4:=f.len;have f5:=f.s
 . exact⟨trivial,o1.1,o1.2.2⟩
 . rw[if_neg (by assumption),if_neg (by assumption),if_neg (by omega),if_neg (fun q=>q h44),if_pos (by assumption)] at i6;rw[i6] at hc;exact hc (by assumption)
 . rw[if_neg (by assumption),if_neg (by assumption),if_neg (by omega),if_neg (fun q=>q h44),if_neg (by assumption)] at i6;obtain⟨u1,u2,u3,u4,_⟩:=bQ o1 (by omega);have u5:=u1.1.1;refine⟨[],(n,r.2.2.next.1.next.2,r.2.2.next.1.next.1,acc++r.2.1),⟨u1,by show _=c.s;rw[u2,o2,f5,i2],by show _=c.e;rw[u3,o3,f3,i3],by show(acc++r.2.1).length+1+c.p<=r.2.2.next.1.next.1.p;rw[an];omega,by show r.2.2.next.1.next.1.e-r.2.2.next.1.next.1.p+1<=n;rw[u3,o3,f3] at u5⊢;omega,i6⟩,?_,Nat.lt_succ_self n⟩;apply ao<;>(repeat' first|trivial|apply ah|apply bg)
   rw[gq,gc]
theorem VZ(k:Nat) (hv:dR 38 (l7 k)) (c:Cu) (l:List V) (d:Int) (hp:c.live/\d+k=32/\(∃L:List Nd,l=L.map aN)/\l.length+(c.e-c.p)<=100000000) (hc:(bW (gv k) c).1≠0):j6 84 ([.ptr 0 0,.int .i64 d]) ([.cells [.ptr 1 0,.buf 2],.cells (eC c),.buf 4 0 l]) (.iface 99 (.int .i64 (bW (gv k) c).1)) (some [.dead,.dead,.dead,.buf 1 0 []]):=by
 refine je (C:=gy [] [(39,oG),(38,l7 k)]) (gW trivial ⟨rh,hv,trivial⟩) (fn:=Tryz.f84) rfl rfl rfl rfl fun hw hs=>?_;have hn:=fun h=>bQ hp.1 h;repeat'((conv=>whnf);first|with_reducible refine cK ?_ (fun h=>?_) fun h=>?_|apply af|(apply aj<;>intro h))
 all_goals try conv=>whnf
 all_goals try(refine ae.mk ?_;try dsimp only)
 . exact⟨trivial,hp.1.1,hp.1.2.2⟩
 . simp only[aT] at*;have hr:bW (gv k) c=(c.aK,[],c):=by unfold bW;rw[if_pos (by assumption)]
   rw[hr]
 . (refine bI.mk [] ?_<;>(repeat' first|trivial|rfl|apply ah);done)
 . exfalso;simp only[aT] at*;have hr:bW (gv k) c=(0,[],c.next.1):=by unfold bW;rw[if_neg (by assumption),if_pos (by omega)]
   rw[hr] at hc;exact hc rfl
 simp only[aT] at*;have hn:=hn (by omega);refine aM.mk (Nat×Tk×Cu×List Nd) (LInv k c) (fun x=>⟨25,[(0,.ptr 0 0),(1,.int .i64 d),(4,.ptr 3 0)],[.cells [.ptr 1 0,.buf 2],.cells (eC x.2.2.1),.buf 4 0 (l++x.2.2.2.map aN),.cells (eT x.2.1)],[2]⟩) (fun x=>x.1) [] (c.next.1.e-c.next.1.p+1,c.next.2,c.next.1,[]) ⟨hn.1,hn.2.1,hn.2.2.1,by show 0+1+c.p<=c.next.1.p;omega,co _,by unfold bW;rw[if_neg (by assumption),if_neg (by omega)]⟩ ?_ (fun⟨n,t,c',acc⟩ hI _ _=>?_)
 . apply ao<;>(repeat' first|trivial|apply ah|apply bg)
   simp
 obtain⟨i1,i2,i3,i4,i5,i6⟩:=hI;dsimp only at i1 i2 i3 i4 i5 i6;obtain⟨n,rfl⟩:∃m,n=m+1:=⟨n-1,by omega⟩
 rw[iF] at i6;have fit:=iU k t [] c' i1;obtain⟨L,hL⟩:=hp.2.2.1;have hma:(acc.map aN).length=acc.length:=aB ..;have hpe:=i1.1.1;repeat'((conv=>whnf);first|with_reducible refine cK ?_ (fun h=>?_) fun h=>?_|apply af|(apply aj<;>intro h))
 all_goals try conv=>whnf
 all_goals try(refine ae.mk ?_;try dsimp only)
 all_goals (try simp only[aT,p6,jt] at*)
 all_goals generalize gv k t [] c'=r at*
 all_goals skip
 . exact⟨⟨by omega,by have:=t.k.toNat_lt;omega⟩,i1,hp.2.1,tN hL,by have:=hp.2.2.2;rw[an,hma,i3];omega⟩
 . rw[if_pos (by assumption)] at i6;rw[i6]
 . (refine bI.mk [.nw,.swap 3 4] ?_<;>(repeat' first|trivial|rfl|apply ah);done)
 . have f:=fit (by omega);exact⟨trivial,f.live.1,f.live.2.2⟩
 . rw[if_neg (by assumption),if_pos (by assumption)] at i6;rw[i6]
 . (refine bI.mk [.nw,.swap 3 4] ?_<;>(repeat' first|trivial|rfl|apply ah);done)
 . rw[if_neg (by assumption),if_neg (by assumption),if_pos (by omega)] at i6;rw[i6] at hc;exact hc rfl
 . have f:=fit (by omega);obtain⟨o1,o2,o3,o4,_⟩:=bQ f.live (by omega);exact⟨trivial,o1.1,o1.2.2⟩
 . rw[if_neg (by assumption),if_neg (by assumption),if_neg (by omega),if_neg (by omega),if_pos (by assumption)] at i6;rw[i6]
 . (refine bI.mk [.nw,.swap 3 4] ?_<;>(repeat' first|trivial|rfl|apply ah);done)
 . rw[if_neg (by assumption),if_neg (by assumption),if_neg (by omega),if_neg (by omega),if_neg (by assumption)] at i6;have f:=fit (by omega);obtain⟨o1,o2,o3,o4,_⟩:=bQ f.live (by omega);have f2:=f.p;have f3:=f.e;have f4:=f.len;have f5:=f.s;obtain⟨u1,u2,u3,u4,_⟩:=bQ o1 (by omega);have u5:=u1.1.1;refine⟨[],(n,r.2.2.next.1.next.2,r.2.2.next.1.next.1,acc++r.2.1),⟨u1,by show _=c.s;rw[u2,o2,f5,i2],by show _=c.e;rw[u3,o3,f3,i3],by show(acc++r.2.1).length+1+c.p<=r.2.2.next.1.next.1.p;rw[an];omega,by show r.2.2.next.1.next.1.e-r.2.2.next.1.next.1.p+1<=n;rw[u3,o3,f3] at u5⊢;omega,i6⟩,?_,Nat.lt_succ_self n⟩;apply ao<;>(repeat' first|trivial|apply ah|apply bg)
   rw[gq,gc]
 . rw[if_neg (by assumption),if_neg (by assumption),if_neg (by omega),if_pos (by omega)] at i6;rw[i6]
 . (refine bI.mk [.nw,.swap 3 4] ?_<;>(repeat' first|trivial|rfl|apply ah);done)
def rz(k:Nat):dL:=fun args σ=>match args,σ with
 |[.ptr 0 0,.int .i64 d],[.cells [.ptr 1 0,.buf 2],.cells ([.str s_c,.int .i64 (.ofNat a_c),.int .i64 (.ofNat e_c),.int .i64 c_c]),.buf 4 0 l]=>some (True/\((Cu.mk s_c a_c e_c c_c).live/\d+k=32/\(∃L:List Nd,l=L.map aN)/\l.length+((Cu.mk s_c a_c e_c c_c).e-(Cu.mk s_c a_c e_c c_c).p)<=100000000),(bW (gv k) (Cu.mk s_c a_c e_c c_c)).1≠0,.iface 99 (.int .i64 (bW (gv k) (Cu.mk s_c a_c e_c c_c)).1),some [.dead,.dead,.dead,.buf 1 0 []],.tuple [],some [.cells [.ptr 1 0,.buf 2],.cells (eC (bW (gv k) (Cu.mk s_c a_c e_c c_c)).2.2),.buf 4 0 (l++(bW (gv k) (Cu.mk s_c a_c e_c c_c)).2.1.map aN)])
 |_,_=>none
theorem UK(k:Nat) (hv:dR 38 (l7 k)):dR 84 (rz k):=by
 intro args sg pre c u r x r2 he hp;unfold rz at he;split at he<;>cases he
 . rw[cX (hp).1];exact⟨fun hc=>⟨_,rfl,VZ (hv:=hv) (hp:=hp.2) (hc:=hc) ..⟩,fun hc=>QZ (hv:=hv) (hp:=hp.2) (hc:=hc) ..⟩
theorem dX:Int.toNat 0=0:=rfl
theorem dY:Int.toNat 1=1:=rfl
def c6(s:g8):Nat:=s.foldl (fun n b=>10*n+(b.toNat-48)) 0
theorem YP(s:g8) (b:UInt8):c6 (s++[b]) =10*c6 s+(b.toNat-48):=by unfold c6;rw[List.foldl_append];rfl
theorem Nn(s:g8):∀n,s.foldl (fun n b=>10*n+(b.toNat-48)) n=n*10^s.length+c6 s:=by
 unfold c6
 induction s with
 |nil=>intro n;simp
 |cons b s ih=>
   intro n;rw[List.foldl_cons,List.foldl_cons,ih,ih (10*0+_),List.length_cons,Nat.pow_succ];rw[Nat.add_mul,Nat.mul_zero,Nat.zero_add,Nat.mul_comm 10 n,Nat.mul_assoc,Nat.mul_comm 10,Nat.add_assoc]
theorem uE(b:UInt8) (s:g8):c6 (b::s) =(b.toNat-48)*10^s.length+c6 s:=by
 show(b::s).foldl _ 0=_;rw[List.foldl_cons,Nn];simp
theorem YO(s t:g8):c6 (s++t) =c6 s*10^t.length+c6 t:=by
 show(s++t).foldl _ 0=_;rw[List.foldl_append,Nn];rfl
def bf(s:g8):Prop:=∀b∈s,ba b=true
theorem lS{s:g8} (h:bf s) {i:Nat} (hi:i<s.length):48<=(s.getD i 0).toNat/\(s.getD i 0).toNat<=57:=by
 rw[ac,am hi];exact of_decide_eq_true (h _ (List.getElem_mem hi))
theorem rR:∀{s:g8},bf s->c6 s<10^s.length
 |[],_=>by decide
 |b::s,h=>by
   have h1:=rR (s:=s) fun x hx=>h x (d8 _ hx);have h2:48<=b.toNat/\b.toNat<=57:=of_decide_eq_true (h b List.mem_cons_self);rw[uE,List.length_cons,Nat.pow_succ];have:(b.toNat-48)*10^s.length<=9*10^s.length:=gA _ (by omega);omega
theorem Gj(s:g8) (i:Nat):c6 (s.take i)<=c6 s:=by
 have e:=YO (s.take i) (s.drop i);rw[List.take_append_drop] at e;rw[e];exact Nat.le_trans (Nat.le_mul_of_pos_right _ (Nat.pow_pos (by decide))) (Nat.le_add_right _ _)
theorem xh{s:g8} {i:Nat} (hi:i<s.length):c6 (s.take (i+1)) =10*c6 (s.take i)+((s.getD i 0).toNat-48):=by
 rw[oO hi,YP]
def dM(s:g8):Bool:=s.all ba&&(decide (s=[48])||(decide (s≠[])&&decide ((s.getD 0 0).toNat≠48)))
theorem qR{s:g8} (h:dM s=true):bf s:=by
 unfold dM at h;rw[aA,List.all_eq_true] at h;exact h.1
theorem BX{s:g8} (h:s=[]\/((s.getD 0 0).toNat=48/\s.length>1)):dM s=false:=by
 unfold dM;rcases h with rfl|⟨h1,h2⟩
 . decide
 . rw[decide_eq_false (fun e=>by rw[e] at h2;simp at h2),decide_eq_false (p:=_≠48) (by omega)];simp
theorem tj{s:g8} {i:Nat} (hi:i<s.length) (h:(s.getD i 0).toNat<48\/(s.getD i 0).toNat>57):dM s=false:=by
 cases e:dM s with
 |false=>rfl
 |true=>have:=lS (qR e) hi;omega
theorem BY{s:g8} (h0:s≠[]) (h:(s.getD 0 0).toNat=48->¬s.length>1) (hd:bf s):dM s=true:=by
 unfold dM;rw[aA,List.all_eq_true,Bool.or_eq_true,aA,decide_eq_true_eq,decide_eq_true_eq,decide_eq_true_eq];refine⟨hd,?_⟩;by_cases e:(s.getD 0 0).toNat=48
 . left;have:=h e;cases s with
   |nil=>exact absurd rfl h0
   |cons b s=>
     have:s=[]:=by cases s with
      |nil=>rfl
      |cons=>simp at this
     subst this;rw[show b=48 from UInt8.toNat_inj.1 e]
 . exact .inr ⟨h0,e⟩
structure Dg(s:g8) (i:Nat):Prop where
 le:i<=s.length
 d:bf (s.take i)
theorem Dg.next{s:g8} {i:Nat} (h:Dg s i) (hi:i<s.length) (h1:¬(s.getD i 0).toNat<48) (h2:¬(s.getD i 0).toNat>57):Dg s (i+1):=
 ⟨by omega,by
  rw[oO hi];intro b hb;rcases List.mem_append.1 hb with hb|hb
  . exact h.d b hb
  . rw[List.mem_singleton.1 hb];unfold ba;rw[decide_eq_true_eq];omega⟩
theorem Dg.all{s:g8} {i:Nat} (h:Dg s i) (hi:¬i<s.length):bf s:=by
 have:=h.d;rwa [gg (by omega)] at this
theorem Dg.zero(s:g8):Dg s 0:=⟨ci _,fun _ h=>by cases h⟩
theorem w8{b:Nat} (h:48<=b/\b<=57):IntKind.u8.wrap ((b:Int)-48) =((b-48:Nat):Int):=by rw[n6];omega
theorem wI{n:Int} (h:0<=n) (k:n<=9223372036854775807):IntKind.i64.wrap n=n:=by rw[bz];omega
theorem wU{n:Int} (h:0<=n) (k:n<=18446744073709551615):IntKind.u64.wrap n=n:=by rw[ld];omega
def E6:Sm:=fun args σ=>match args,σ with
 |[.str s],[]=>some (s.length<=100000000,.bool (dM s),none)
 |_,_=>none
theorem SK:aq 234 E6:=by
 intro args sg pre x r he hp;unfold E6 at he;split at he<;>cases he
 . rename_i s;refine ai (C:=cx []) (ak trivial) (fn:=Tryz.f234) fun hw hs=>?_;have hne:s≠[]->0<s.length:=fun h=>by cases s;exact absurd rfl h;simp
   repeat'((conv=>whnf);first|apply af|((first|apply aj|apply dr)<;>intro h)|with_reducible refine fH ?_ fun hc=>?_)
   all_goals try conv=>whnf
   all_goals try(refine ae.mk ?_;try dsimp only)
   all_goals (try simp only[dX,dY] at*)
   all_goals first|refine stay ?_|trivial|skip
   . rw[BX (.inl ‹_›)];refine ab.mk [] ?_<;>(repeat' first|trivial)
   . exact hne ‹_›
   . rw[BX (.inr ⟨by omega,by omega⟩)];refine ab.mk [] ?_<;>(repeat' first|trivial)
   . refine aM.mk Nat (Dg s) (fun i=>⟨32,[(0,.str s),(17,.int .i64 s.length),(18,.int .i64 i)],[],[]⟩) (fun i=>s.length-i) [] 0 (.zero s) ?_ (fun i hI _ _=>?_)
     . apply ao<;>(repeat' first|trivial)
     have hle:=hI.le;have hb:(s.getD i 0).toNat<256:=UInt8.toNat_lt _;repeat'((conv=>whnf);first|apply af|(apply aj<;>intro h)|with_reducible refine cg ?_ fun hc=>?_)
     all_goals try conv=>whnf
     all_goals try(refine ae.mk ?_;try dsimp only)
     all_goals (try simp only[dX,dY] at*)
     all_goals first|refine stay ?_|omega|skip
     . rw[tj (i:=i) (by omega) (by omega)];refine ab.mk [] ?_<;>(repeat' first|trivial)
     . rw[tj (i:=i) (by omega) (by omega)];refine ab.mk [] ?_<;>(repeat' first|trivial)
     . refine⟨[],i+1,hI.next (by omega) (by omega) (by omega),?_,by omega⟩;apply ao<;>(repeat' first|trivial|apply ah|apply aC)
       all_goals (simp(discharger:=omega) only[wR];omega)
     . rw[BY ‹s≠_› (by omega) (hI.all (by omega))];refine ab.mk [] ?_<;>(repeat' first|trivial)
   . refine aM.mk Nat (Dg s) (fun i=>⟨32,[(0,.str s),(17,.int .i64 s.length),(18,.int .i64 i)],[],[]⟩) (fun i=>s.length-i) [] 0 (.zero s) ?_ (fun i hI _ _=>?_)
     . apply ao<;>(repeat' first|trivial)
     have hle:=hI.le;have hb:(s.getD i 0).toNat<256:=UInt8.toNat_lt _;repeat'((conv=>whnf);first|apply af|(apply aj<;>intro h)|with_reducible refine cg ?_ fun hc=>?_)
     all_goals try conv=>whnf
     all_goals try(refine ae.mk ?_;try dsimp only)
     all_goals (try simp only[dX,dY] at*)
     all_goals first|refine stay ?_|omega|skip
     . rw[tj (i:=i) (by omega) (by omega)];refine ab.mk [] ?_<;>(repeat' first|trivial)
     . rw[tj (i:=i) (by omega) (by omega)];refine ab.mk [] ?_<;>(repeat' first|trivial)
     . refine⟨[],i+1,hI.next (by omega) (by omega) (by omega),?_,by omega⟩;apply ao<;>(repeat' first|trivial|apply ah|apply aC)
       all_goals (simp(discharger:=omega) only[wR];omega)
     . rw[BY ‹s≠_› (by omega) (hI.all (by omega))];refine ab.mk [] ?_<;>(repeat' first|trivial)
def EZ:Sm:=fun args σ=>match args,σ with
 |[.str s],[]=>some (s.length<=100000000,.bool (dM s),none)
 |_,_=>none
theorem Tz:aq 208 EZ:=by
 intro args sg pre x r he hp;unfold EZ at he;split at he<;>cases he
 . rename_i s;refine ai (C:=cx []) (ak trivial) (fn:=Tryz.f208) fun hw hs=>?_;have hne:s≠[]->0<s.length:=fun h=>by cases s;exact absurd rfl h;simp
   all_goals try conv=>whnf
   all_goals try(refine ae.mk ?_;try dsimp only)
   all_goals try refine stay ?_
   refine aM.mk Nat (Dg s) (fun i=>⟨31,[(0,.str s),(3,.int .i64 i)],[],[]⟩) (fun i=>s.length-i) [] 0 (.zero s) ?_ (fun i hI _ _=>?_)
   . apply ao<;>(repeat' first|trivial)
   have hle:=hI.le;have hb:(s.getD i 0).toNat<256:=UInt8.toNat_lt _;repeat'((conv=>whnf);first|apply af|apply aI|((first|apply aj|apply dr)<;>intro h)|with_reducible (first|refine cg ?_ fun hc=>?_|refine fH ?_ fun hc=>?_))
   all_goals try conv=>whnf
   all_goals try(refine ae.mk ?_;try dsimp only)
   all_goals (try simp only[dX,dY] at*)
   all_goals first|refine stay ?_|trivial|omega|skip
   . rw[tj (i:=i) (by omega) (by omega)];refine ab.mk [] ?_<;>(repeat' first|trivial)
   . rw[tj (i:=i) (by omega) (by omega)];refine ab.mk [] ?_<;>(repeat' first|trivial)
   . refine⟨[],i+1,hI.next (by omega) (by omega) (by omega),?_,by omega⟩;apply ao<;>(repeat' first|trivial|apply ah|apply aC)
     all_goals (simp(discharger:=omega) only[wR];omega)
   . have e:=‹s=[48]›
     subst e;refine ab.mk [] ?_<;>(repeat' first|trivial)
   . rw[BX (.inl ‹_›)];refine ab.mk [] ?_<;>(repeat' first|trivial)
   . exact hne ‹_›
   . have hd:=hI.all (by omega);have e:dM s=(((s.getD 0 0).toNat:Int) !=48):=by
      unfold dM;rw[List.all_eq_true.2 hd,decide_eq_false ‹s≠[48]›,decide_eq_true ‹s≠_›,Bool.eq_iff_iff,bne_iff_ne];simp only[Bool.true_and,Bool.false_or,decide_eq_true_eq];omega
     rw[e];refine ab.mk [] ?_<;>(repeat' first|trivial)
def eE(m:Nat) (s:g8):Int×Int:=if c6 s<=m then(c6 s,0) else(0,4)
structure Wt(m:Nat) (s:g8) (i:Nat):Prop where
 le:i<=s.length
 v:c6 (s.take i)<=m
theorem NB{m:Nat} {s:g8} {i:Nat} (hi:i<s.length) (h:¬10*c6 (s.take i)+((s.getD i 0).toNat-48)<=m):eE m s=(0,4):=by
 have:=Gj s (i+1);rw[xh hi] at this;unfold eE;rw[if_neg (by omega)]
theorem NC{m:Nat} {s:g8} {i:Nat} (hI:Wt m s i) (hi:¬i<s.length):eE m s=((c6 (s.take i):Int),0):=by
 have h:=hI.v;rw[gg (by omega)] at h⊢;unfold eE;rw[if_pos h]
theorem Wt.next{m:Nat} {s:g8} {i:Nat} (hi:i<s.length) (h:10*c6 (s.take i)+((s.getD i 0).toNat-48)<=m):Wt m s (i+1):=⟨by omega,by rw[xh hi];exact h⟩
def E8:Sm:=fun args σ=>match args,σ with
 |[.str s,.int .i64 m],[]=>some (bf s/\9<=m/\m<=9223372036854775807/\s.length<=100000000,.tuple [.int .i64 (eE m.toNat s).1,.int .i64 (eE m.toNat s).2],none)
 |_,_=>none
theorem SM:aq 235 E8:=by
 intro args sg pre x r he hp;unfold E8 at he;split at he<;>cases he
 . rename_i s m;refine ai (C:=cx []) (ak trivial) (fn:=Tryz.f235) fun hw hs=>?_;obtain⟨hd,h9,hm,hl⟩:=hp;obtain⟨m,rfl⟩:=Int.eq_ofNat_of_zero_le (show 0<=m by omega);rw[Int.toNat_natCast];all_goals try conv=>whnf
   all_goals try(refine ae.mk ?_;try dsimp only)
   refine aM.mk Nat (Wt m s) (fun i=>⟨31,[(0,.str s),(1,.int .i64 m),(6,.int .i64 (c6 (s.take i))),(10,.int .i64 s.length),(11,.int .i64 i)],[],[]⟩) (fun i=>s.length-i) [] 0 ⟨ci _,ci _⟩ ?_ (fun i hI _ _=>?_)
   . apply ao<;>(repeat' first|trivial)
   have hle:=hI.le;have hv:=hI.v;have hb:=fun h=>lS hd (i:=i) h;repeat'((conv=>whnf);first|apply af|(apply aj<;>intro h)|with_reducible refine cg ?_ fun hc=>?_)
   all_goals try conv=>whnf
   all_goals try(refine ae.mk ?_;try dsimp only)
   all_goals (try have hb:=hb (by omega))
   all_goals (try have e1:=w8 hb)
   all_goals (try have e2:IntKind.i64.wrap (((s.getD i 0).toNat-48:Nat):Int) =(((s.getD i 0).toNat-48:Nat):Int):=wI (by omega) (by omega))
   all_goals (try have e3:IntKind.i64.wrap ((m:Int)-(((s.getD i 0).toNat-48:Nat):Int)) =(m:Int)-(((s.getD i 0).toNat-48:Nat):Int):=wI (by omega) (by omega))
   all_goals (try have e4:((m:Int)-(((s.getD i 0).toNat-48:Nat):Int)).tdiv 10=((m:Int)-(((s.getD i 0).toNat-48:Nat):Int))/10:=Int.tdiv_eq_ediv_of_nonneg (by omega))
   all_goals (try have e5:IntKind.i64.wrap (((m:Int)-(((s.getD i 0).toNat-48:Nat):Int))/10) =((m:Int)-(((s.getD i 0).toNat-48:Nat):Int))/10:=wI (by omega) (by omega))
   all_goals (try simp only[e1,e2,e3,e4,e5] at*)
   all_goals (try simp only[dX,dY] at*)
   all_goals first|refine stay ?_|trivial|omega|skip
   . rw[NB (i:=i) (by omega) (by omega)];refine ab.mk [] ?_<;>(repeat' first|trivial)
   . refine⟨[],i+1,.next (by omega) (by omega),?_,by omega⟩;apply ao<;>(repeat' first|trivial|apply ah|apply aC)
     all_goals first
      |(rw[xh (by omega),wI (n:=(c6 (s.take i):Int)*10) (by omega) (by omega),wI (by omega) (by omega)];omega)
      |(simp(discharger:=omega) only[wR];omega)
   . rw[NC hI (by omega)];refine ab.mk [] ?_<;>(repeat' first|trivial)
def E9:Sm:=fun args σ=>match args,σ with
 |[.str s,.int .u64 m],[]=>some (bf s/\9<=m/\m<=9223372036854775808/\s.length<=100000000,.tuple [.int .u64 (eE m.toNat s).1,.int .i64 (eE m.toNat s).2],none)
 |_,_=>none
theorem SN:aq 236 E9:=by
 intro args sg pre x r he hp;unfold E9 at he;split at he<;>cases he
 . rename_i s m;refine ai (C:=cx []) (ak trivial) (fn:=Tryz.f236) fun hw hs=>?_;obtain⟨hd,h9,hm,hl⟩:=hp;obtain⟨m,rfl⟩:=Int.eq_ofNat_of_zero_le (show 0<=m by omega);rw[Int.toNat_natCast];all_goals try conv=>whnf
   all_goals try(refine ae.mk ?_;try dsimp only)
   refine aM.mk Nat (Wt m s) (fun i=>⟨31,[(0,.str s),(1,.int .u64 m),(6,.int .u64 (c6 (s.take i))),(10,.int .i64 s.length),(11,.int .i64 i)],[],[]⟩) (fun i=>s.length-i) [] 0 ⟨ci _,ci _⟩ ?_ (fun i hI _ _=>?_)
   . apply ao<;>(repeat' first|trivial)
   have hle:=hI.le;have hv:=hI.v;have hb:=fun h=>lS hd (i:=i) h;repeat'((conv=>whnf);first|apply af|(apply aj<;>intro h)|with_reducible refine cg ?_ fun hc=>?_)
   all_goals try conv=>whnf
   all_goals try(refine ae.mk ?_;try dsimp only)
   all_goals (try have hb:=hb (by omega))
   all_goals (try have e1:=w8 hb)
   all_goals (try have e2:IntKind.u64.wrap (((s.getD i 0).toNat-48:Nat):Int) =(((s.getD i 0).toNat-48:Nat):Int):=wU (by omega) (by omega))
   all_goals (try have e3:IntKind.u64.wrap ((m:Int)-(((s.getD i 0).toNat-48:Nat):Int)) =(m:Int)-(((s.getD i 0).toNat-48:Nat):Int):=wU (by omega) (by omega))
   all_goals (try have e4:((m:Int)-(((s.getD i 0).toNat-48:Nat):Int)).tdiv 10=((m:Int)-(((s.getD i 0).toNat-48:Nat):Int))/10:=Int.tdiv_eq_ediv_of_nonneg (by omega))
   all_goals (try have e5:IntKind.u64.wrap (((m:Int)-(((s.getD i 0).toNat-48:Nat):Int))/10) =((m:Int)-(((s.getD i 0).toNat-48:Nat):Int))/10:=wU (by omega) (by omega))
   all_goals (try simp only[e1,e2,e3,e4,e5] at*)
   all_goals (try simp only[dX,dY] at*)
   all_goals first|refine stay ?_|trivial|omega|skip
   . rw[NB (i:=i) (by omega) (by omega)];refine ab.mk [] ?_<;>(repeat' first|trivial)
   . refine⟨[],i+1,.next (by omega) (by omega),?_,by omega⟩;apply ao<;>(repeat' first|trivial|apply ah|apply aC)
     all_goals first
      |(rw[xh (by omega),wU (n:=(c6 (s.take i):Int)*10) (by omega) (by omega),wU (by omega) (by omega)];omega)
      |(simp(discharger:=omega) only[wR];omega)
   . rw[NC hI (by omega)];refine ab.mk [] ?_<;>(repeat' first|trivial)
def dx(s:g8):Int×Int:=
 if s=[]\/(s.getD 0 0).toNat≠45 then(if dM s=true then eE 9223372036854775807 s else(0,3))
 else if dM (s.drop 1) =true/\s.drop 1≠[48] then(-(eE 9223372036854775808 (s.drop 1)).1,(eE 9223372036854775808 (s.drop 1)).2) else(0,3)
theorem ND(m:Nat) (s:g8):0<=(eE m s).1/\(eE m s).1<=m:=by unfold eE;split<;>constructor<;>(try dsimp only)<;>omega
theorem Lh{u:Int} (h:0<=u) (k:u<=(9223372036854775808:Nat)):IntKind.i64.wrap (IntKind.u64.wrap (-u)) =-u:=by
 have e:IntKind.u64.wrap (-u) =if u=0 then 0 else 18446744073709551616-u:=by rw[ld];split<;>omega
 rw[e,bz];split<;>omega
def E7:Sm:=fun args σ=>match args,σ with
 |[.str s],[]=>some (s.length<=100000000,.tuple [.int .i64 (dx s).1,.int .i64 (dx s).2],none)
 |_,_=>none
theorem SL:aq 193 E7:=by
 intro args sg pre x r he hp;unfold E7 at he;split at he<;>cases he
 . rename_i s;refine ai (C:=cx [(234,E6),(235,E8),(236,E9)]) (ak ⟨SK,SM,SN,trivial⟩) (fn:=Tryz.f193) fun hw hs=>?_;have hne:s≠[]->0<s.length:=fun h=>by cases s;exact absurd rfl h;simp
   have hdl:(s.drop 1).length=s.length-1:=fo;have hR1:s=[]\/(s.getD 0 0).toNat≠45->dM s=true->dx s=eE 9223372036854775807 s:=fun h k=>by unfold dx;rw[if_pos h,if_pos k]
   have hR2:s=[]\/(s.getD 0 0).toNat≠45->dM s=false->dx s=(0,3):=fun h k=>by unfold dx;rw[if_pos h,if_neg (by rw[k];decide)]
   have hR3:s≠[]->(s.getD 0 0).toNat=45->dM (s.drop 1)=true->s.drop 1≠[48]->dx s=(-(eE 9223372036854775808 (s.drop 1)).1,(eE 9223372036854775808 (s.drop 1)).2):=fun h h2 k k2=>by
    unfold dx;rw[if_neg (fun q=>q.elim h fun q=>q h2),if_pos ⟨k,k2⟩]
   have hR4:s≠[]->(s.getD 0 0).toNat=45->(dM (s.drop 1)=false\/s.drop 1=[48])->dx s=(0,3):=fun h h2 k=>by
    unfold dx;rw[if_neg (fun q=>q.elim h fun q=>q h2),if_neg (fun q=>by rcases k with k|k;rw[k] at q;cases q.1;exact q.2 k)]
   have hng:=Lh (ND 9223372036854775808 (s.drop 1)).1 (ND 9223372036854775808 (s.drop 1)).2;repeat'((conv=>whnf);first|apply af|apply aI|((first|apply aj|apply dr|apply e9)<;>intro h)|with_reducible refine fH ?_ fun hc=>?_)
   all_goals try conv=>whnf
   all_goals try(refine ae.mk ?_;try dsimp only)
   all_goals (try simp only[dX,dY] at*)
   all_goals first|refine stay ?_|trivial|omega|skip
   all_goals first
    |exact hne ‹_›
    |(have:=hne ‹s≠_›;exact⟨by omega,by omega⟩)
    |exact⟨qR ‹_›,by omega,by omega,by omega⟩
    | (first | rw [hR1 (.inl ‹_›) ‹_›] | rw [hR1 (.inr (by omega)) ‹_›] | rw [hR2 (.inl ‹_›) ‹_›] | rw [hR2 (.inr (by omega)) ‹_›] | rw [hR3 ‹s ≠ _› (by omega) ‹_› ‹_›] | rw [hR4 ‹s ≠ _› (by omega) (.inl ‹_›)] | rw [hR4 ‹s ≠ _› (by omega) (.inr ‹_›)]
       refine ab.mk [] ?_<;>(repeat' first|trivial|apply ah|apply aC|apply gC|apply bV)
       all_goals (show IntKind.i64.wrap (IntKind.u64.wrap (0-_))=_;rw[Int.zero_sub];exact hng))
def F2:Sm:=fun args σ=>match args,σ with
 |[.str s],[]=>some (bf s/\c6 s<=18446744073709551615/\s.length<=100000000,.int .u64 (c6 s),none)
 |_,_=>none
theorem TC:aq 210 F2:=by
 intro args sg pre x r he hp;unfold F2 at he;split at he<;>cases he
 . rename_i s;refine ai (C:=cx []) (ak trivial) (fn:=Tryz.f210) fun hw hs=>?_;obtain⟨hd,hv,hl⟩:=hp;all_goals try conv=>whnf
   all_goals try(refine ae.mk ?_;try dsimp only)
   refine aM.mk Nat (fun i=>i<=s.length) (fun i=>⟨20,[(0,.str s),(3,.int .u64 (c6 (s.take i))),(4,.int .i64 i)],[],[]⟩) (fun i=>s.length-i) [] 0 (ci _) ?_ (fun i hle _ _=>?_)
   . apply ao<;>(repeat' first|trivial)
   have ht:=Gj s i;have hb:=fun h=>lS hd (i:=i) h;have hn:=fun h=>xh (s:=s) (i:=i) h;have ht2:=Gj s (i+1);repeat'((conv=>whnf);first|apply af|(apply aj<;>intro h)|with_reducible refine cg ?_ fun hc=>?_)
   all_goals try conv=>whnf
   all_goals try(refine ae.mk ?_;try dsimp only)
   all_goals (try simp only[dX,dY] at*)
   all_goals first|refine stay ?_|omega|skip
   . refine⟨[],i+1,by omega,?_,by omega⟩;have hb:=hb (by omega);have hn:=hn (by omega);apply ao<;>(repeat' first|trivial|apply ah|apply aC)
     all_goals first
      |(rw[w8 hb,wU (n:=(((s.getD i 0).toNat-48:Nat):Int)) (by omega) (by omega),wU (n:=10*(c6 (s.take i):Int)) (by omega) (by omega),wU (by omega) (by omega)];omega)
      |(simp(discharger:=omega) only[wR];omega)
   . rw[gg (by omega)];refine ab.mk [] ?_<;>(repeat' first|trivial)
def abv(s t:g8):Bool:=decide (c6 t<c6 s)
theorem KS:∀{s t:g8},bf s->bf t->s.length=t.length->Op.bytesLess s t=decide (c6 s<c6 t)
 |[],[],_,_,_=>by decide
 |[],_::_,_,_,h=>by simp at h
 |_::_,[],_,_,h=>by simp at h
 |a::s,b::t,hs,ht,h=>by
   have hl:s.length=t.length:=by simpa using h
   have h1:=KS (s:=s) (t:=t) (fun x hx=>hs x (d8 _ hx)) (fun x hx=>ht x (d8 _ hx)) hl;have s1:=rR (s:=s) (fun x hx=>hs x (d8 _ hx));have t1:=rR (s:=t) (fun x hx=>ht x (d8 _ hx));have ha:48<=a.toNat/\a.toNat<=57:=of_decide_eq_true (hs a List.mem_cons_self);have hb:48<=b.toNat/\b.toNat<=57:=of_decide_eq_true (ht b List.mem_cons_self);rw[Op.bytesLess,h1,uE,uE,hl];rw[hl] at s1;generalize 10^t.length=P at*;rw[Bool.eq_iff_iff];simp only[Bool.or_eq_true,aA,decide_eq_true_eq,beq_iff_eq];rcases Nat.lt_trichotomy a.toNat b.toNat with q|q|q
   . have m:(a.toNat-48+1)*P<=(b.toNat-48)*P:=gA _ (by omega);rw[Nat.add_mul] at m;exact⟨fun _=>by omega,fun _=>.inl (UInt8.lt_iff_toNat_lt.2 q)⟩
   . have e:a=b:=UInt8.toNat_inj.1 q;subst e;refine⟨fun k=>?_,fun k=>.inr ⟨rfl,by omega⟩⟩;rcases k with k|k
     . exact absurd (UInt8.lt_iff_toNat_lt.1 k) (by omega)
     . omega
   . have m:(b.toNat-48+1)*P<=(a.toNat-48)*P:=gA _ (by omega);rw[Nat.add_mul] at m;refine⟨fun k=>?_,fun k=>by omega⟩;rcases k with k|k
     . exact absurd (UInt8.lt_iff_toNat_lt.1 k) (by omega)
     . exact absurd (congrArg UInt8.toNat k.1) (by omega)
theorem val_inj:∀{s t:g8},bf s->bf t->s.length=t.length->c6 s=c6 t->s=t
 |[],[],_,_,_,_=>rfl
 |[],_::_,_,_,h,_=>by simp at h
 |_::_,[],_,_,h,_=>by simp at h
 |a::s,b::t,hs,ht,h,k=>by
   have hl:s.length=t.length:=by simpa using h
   have s1:=rR (s:=s) (fun x hx=>hs x (d8 _ hx));have t1:=rR (s:=t) (fun x hx=>ht x (d8 _ hx));have ha:48<=a.toNat/\a.toNat<=57:=of_decide_eq_true (hs a List.mem_cons_self);have hb:48<=b.toNat/\b.toNat<=57:=of_decide_eq_true (ht b List.mem_cons_self);rw[uE,uE,hl] at k;rw[hl] at s1;have e:a.toNat=b.toNat:=by
    generalize 10^t.length=P at*;rcases Nat.lt_trichotomy a.toNat b.toNat with q|q|q
    . have m:(a.toNat-48+1)*P<=(b.toNat-48)*P:=gA _ (by omega);rw[Nat.add_mul] at m;omega
    . exact q
    . have m:(b.toNat-48+1)*P<=(a.toNat-48)*P:=gA _ (by omega);rw[Nat.add_mul] at m;omega
   rw[e] at k;rw[UInt8.toNat_inj.1 e,val_inj (fun x hx=>hs x (d8 _ hx)) (fun x hx=>ht x (d8 _ hx)) hl (by omega)]
theorem BW{s:g8} {n:Nat} (h:dM s=true) (hn:n+1<s.length):10^(n+1)<=c6 s:=by
 have hd:=qR h;unfold dM at h;rw[aA,Bool.or_eq_true,aA,decide_eq_true_eq,decide_eq_true_eq,decide_eq_true_eq] at h;cases s with
 |nil=>simp at hn
 |cons b s=>
   have h48:48<=b.toNat/\b.toNat<=57:=of_decide_eq_true (hd b List.mem_cons_self);have hb:b.toNat≠48:=by
    rcases h.2 with k|k
    . rw[k] at hn;simp at hn
    . exact k.2
   rw[uE];rw[List.length_cons] at hn;have m1:10^(n+1)<=10^s.length:=Nat.pow_le_pow_right (by decide) (by omega);have m2:1*10^s.length<=(b.toNat-48)*10^s.length:=gA _ (by omega);omega
theorem O1{s t:g8} (hs:dM s=true) (ht:dM t=true):abv s t=(decide (s.length>t.length)||(decide (s.length=t.length)&&!(Op.bytesLess s t||s==t))):=by
 have ds:=qR hs;have dt:=qR ht;have ls:=rR ds;have lt:=rR dt;have ps:0<s.length:=by cases s with
  |nil=>cases hs
  |cons=>simp
 have pt:0<t.length:=by cases t with
  |nil=>cases ht
  |cons=>simp
 unfold abv;rcases Nat.lt_trichotomy s.length t.length with q|q|q
 . have b:10^s.length<=c6 t:=by
     obtain⟨n,e⟩:∃n,s.length=n+1:=⟨s.length-1,by omega⟩
     rw[e];exact BW ht (by omega)
   rw[decide_eq_false (p:=c6 t<c6 s) (by omega),decide_eq_false (p:=s.length>t.length) (by omega),decide_eq_false (p:=s.length=t.length) (by omega)];rfl
 . rw[decide_eq_false (p:=s.length>t.length) (by omega),decide_eq_true q,KS ds dt q,Bool.false_or,Bool.true_and,Bool.eq_iff_iff];simp only[decide_eq_true_eq,Bool.not_eq_true',Bool.or_eq_false_iff,decide_eq_false_iff_not,beq_eq_false_iff_ne];constructor
   . intro k;exact⟨by omega,fun e=>by rw[e] at k;omega⟩
   . rintro⟨k1,k2⟩;rcases Nat.lt_trichotomy (c6 t) (c6 s) with r|r|r
     . exact r
     . exact absurd (val_inj ds dt q r.symm) k2
     . exact absurd r k1
 . have b:10^t.length<=c6 s:=by
     obtain⟨n,e⟩:∃n,t.length=n+1:=⟨t.length-1,by omega⟩
     rw[e];exact BW hs (by omega)
   rw[decide_eq_true (p:=c6 t<c6 s) (by omega),decide_eq_true (p:=s.length>t.length) (by omega)];rfl
def F1:Sm:=fun args σ=>match args,σ with
 |[.str s,.str t],[]=>some (dM s=true/\dM t=true,.bool (abv s t),none)
 |_,_=>none
theorem TB:aq 209 F1:=by
 intro args sg pre x r he hp;unfold F1 at he;split at he<;>cases he
 . rename_i s t;refine ai (C:=cx []) (ak trivial) (fn:=Tryz.f209) fun hw hs=>?_;obtain⟨h1,h2⟩:=hp;rw[O1 h1 h2];repeat'((conv=>whnf);(apply aj<;>intro h))
   all_goals try conv=>whnf
   all_goals try(refine ae.mk ?_;try dsimp only)
   all_goals try refine stay ?_
   . rw[decide_eq_true (p:=s.length>t.length) (by omega)];refine ab.mk [] ?_<;>(repeat' first|trivial)
   . rw[decide_eq_false (p:=s.length>t.length) (by omega),decide_eq_true (p:=s.length=t.length) (by omega)];refine ab.mk [] ?_<;>(repeat' first|trivial)
   . rw[decide_eq_false (p:=s.length>t.length) (by omega),decide_eq_false (p:=s.length=t.length) (by omega)];refine ab.mk [] ?_<;>(repeat' first|trivial)
theorem m7:c6 [57,50,50,51,51,55,50,48,51,54,56,53,52,55,55,53,56,48,55]=9223372036854775807:=by decide
theorem m8:c6 [57,50,50,51,51,55,50,48,51,54,56,53,52,55,55,53,56,48,56]=9223372036854775808:=by decide
def F0:Sm:=fun args σ=>match args,σ with
 |[.str s],[]=>some (s.length<=100000000,.tuple [.int .i64 (dx s).1,.int .i64 (dx s).2],none)
 |_,_=>none
theorem TA:aq 170 F0:=by
 intro args sg pre x r he hp;unfold F0 at he;split at he<;>cases he
 . rename_i s;refine ai (C:=cx [(208,EZ),(209,F1),(210,F2)]) (ak ⟨Tz,TB,TC,trivial⟩) (fn:=Tryz.f170) fun hw hs=>?_;have hne:s≠[]->0<s.length:=fun h=>by cases s;exact absurd rfl h;simp
   have hdl:(s.drop 1).length=s.length-1:=fo;have hR1:s=[]\/(s.getD 0 0).toNat≠45->dM s=true->9223372036854775807<c6 s->dx s=(0,4):=fun h k v=>by unfold dx eE;rw[if_pos h,if_pos k,if_neg (by omega)]
   have hR2:s=[]\/(s.getD 0 0).toNat≠45->dM s=true->¬9223372036854775807<c6 s->dx s=((c6 s:Int),0):=fun h k v=>by unfold dx eE;rw[if_pos h,if_pos k,if_pos (by omega)]
   have hR3:s=[]\/(s.getD 0 0).toNat≠45->dM s=false->dx s=(0,3):=fun h k=>by unfold dx;rw[if_pos h,if_neg (by rw[k];decide)]
   have e48:s≠[]->(s.getD 0 0).toNat=45->s.drop 1=[48]->s=[45,48]:=fun h h2 h3=>by
    cases s with
    |nil=>exact absurd rfl h
    |cons b s=>rw[show b=45 from UInt8.toNat_inj.1 h2,show s=[48] from h3]
   have hR4:s≠[]->(s.getD 0 0).toNat=45->dM (s.drop 1)=true->s≠[45,48]->9223372036854775808<c6 (s.drop 1)->dx s=(0,4):=fun h h2 k k2 v=>by
    unfold dx eE;rw[if_neg (fun q=>q.elim h fun q=>q h2),if_pos ⟨k,fun q=>k2 (e48 h h2 q)⟩,if_neg (by omega)];rfl
   have hR5:s≠[]->(s.getD 0 0).toNat=45->dM (s.drop 1)=true->s≠[45,48]->¬9223372036854775808<c6 (s.drop 1)->dx s=(-(c6 (s.drop 1):Int),0):=fun h h2 k k2 v=>by
    unfold dx eE;rw[if_neg (fun q=>q.elim h fun q=>q h2),if_pos ⟨k,fun q=>k2 (e48 h h2 q)⟩,if_pos (by omega)]
   have hR6:s≠[]->(s.getD 0 0).toNat=45->(dM (s.drop 1)=false\/s=[45,48])->dx s=(0,3):=fun h h2 k=>by
    unfold dx;rw[if_neg (fun q=>q.elim h fun q=>q h2),if_neg (fun q=>by rcases k with k|k;rw[k] at q;cases q.1;rw[k] at q;exact q.2 rfl)]
   repeat'((conv=>whnf);first|apply af|apply aI|((first|apply aj|apply dr|apply e9)<;>intro h)|with_reducible refine fH ?_ fun hc=>?_)
   all_goals try conv=>whnf
   all_goals try(refine ae.mk ?_;try dsimp only)
   all_goals (try simp only[m7,m8,abv,decide_eq_true_eq,decide_eq_false_iff_not] at*)
   all_goals (try simp only[dX,dY] at*)
   all_goals first|refine stay ?_|trivial|omega|skip
   all_goals first
    |exact hne ‹_›
    |(have:=hne ‹s≠[]›;exact⟨by omega,by omega⟩)
    |exact⟨qR ‹_›,by omega,by omega⟩
    | (first | rw [hR3 (.inl ‹_›) ‹_›] | rw [hR3 (.inr (by omega)) ‹_›] | rw [hR1 (.inl ‹_›) ‹_› (by omega)] | rw [hR1 (.inr (by omega)) ‹_› (by omega)] | rw [hR2 (.inl ‹_›) ‹_› (by omega)] | rw [hR2 (.inr (by omega)) ‹_› (by omega)] | rw [hR6 ‹s ≠ []› (by omega) (.inl ‹_›)] | rw [hR6 ‹s ≠ []› (by omega) (.inr ‹_›)] | rw [hR4 ‹s ≠ []› (by omega) ‹_› ‹s ≠ [45,48]› (by omega)] | rw [hR5 ‹s ≠ []› (by omega) ‹_› ‹s ≠ [45,48]› (by omega)]
       refine ab.mk [] ?_<;>(repeat' first|trivial|apply ah|apply aC|apply gC|apply bV)
       all_goals first
        |exact wI (by omega) (by omega)
        |(show IntKind.i64.wrap (IntKind.u64.wrap (0-_))=_;rw[Int.zero_sub];exact Lh (by omega) (by omega)))
theorem QF(t:g8) (i:Nat) (hp:t.length<=100000000/\i<=900000010):OK 231 ([.str t,.int .i64 i]) ([]) (.int .i64 (fL t i)) (none):=by
 refine ai (C:=cx []) (ak trivial) (fn:=Tryz.f231) fun hw hs=>?_;obtain⟨hl,hi⟩:=hp;refine aM.mk Nat (fun j=>i<=j/\j<=900000010/\fL t j=fL t i) (fun j=>⟨24,[(0,.str t),(1,.int .i64 j)],[],[]⟩) (fun j=>900000011-j) [] i ⟨co _,hi,rfl⟩ ?_ (fun j ⟨h1,h2,h3⟩ _ _=>?_)
 . apply ao<;>(repeat' first|trivial)
 have hx:(t.getD j 0).toNat<256:=UInt8.toNat_lt _;have dT:=qx (b:=t.getD j 0);have dF:=sG (b:=t.getD j 0);repeat'((conv=>whnf);first|apply af|(apply aj<;>intro h)|with_reducible refine cg ?_ fun hc=>?_)
 all_goals try conv=>whnf
 all_goals try(refine ae.mk ?_;try dsimp only)
 all_goals (try simp only[aT] at*)
 all_goals first|refine stay ?_|omega|skip
 all_goals first
  | (have e:=ua (t:=t) (i:=j) (by omega) (dT.2 (by omega))
     refine⟨[],j+1,⟨by omega,by omega,by rw[<-e];exact h3⟩,?_,by omega⟩;apply ao<;>(repeat' first|trivial|apply ah|apply aC)
     (simp(discharger:=omega) only[wR];omega))
  | (have e:=pX (t:=t) (i:=j) (.inr (dF.2 (by omega)))
     rw[<-h3,e];refine ab.mk [] ?_<;>(repeat' first|trivial)
     )
  | (have e:=pX (t:=t) (i:=j) (.inl (by omega))
     rw[<-h3,e];refine ab.mk [] ?_<;>(repeat' first|trivial)
     )
  |skip
def Fi:Sm:=fun args σ=>match args,σ with
 |[.str t,.int .i64 (.ofNat i)],[]=>some (t.length<=100000000/\i<=900000010,.int .i64 (fL t i),none)
 |_,_=>none
theorem TU:aq 231 Fi:=by
 intro args sg pre x r he hp;unfold Fi at he;split at he<;>cases he
 . exact QF (hp:=hp) ..
theorem QE(t:g8) (i:Nat) (a:UInt8) (b:UInt8) (hp:t.length<=100000000/\i<=900000010):OK 188 ([.str t,.int .i64 i,bv a,bv b]) ([]) (.bool (cC t i a.toNat b.toNat)) (none):=by
 refine ai (C:=cx []) (ak trivial) (fn:=Tryz.f188) fun hw hs=>?_;obtain⟨hl,hi⟩:=hp;have hx:(t.getD i 0).toNat<256:=UInt8.toNat_lt _;have ha:a.toNat<256:=a.toNat_lt;have hb:b.toNat<256:=b.toNat_lt;repeat'((conv=>whnf);first|apply af|(apply aj<;>intro h)|with_reducible refine cg ?_ fun hc=>?_)
 all_goals try conv=>whnf
 all_goals try(refine ae.mk ?_;try dsimp only)
 all_goals first|refine stay ?_|omega|skip
 all_goals
  refine ab.mk [] ?_<;>(repeat' first|trivial|apply ah|apply jG)
  first
  |(exact(il.2 (by omega)).symm)
  |(exact(tR.2 (by omega)).symm)
  |(cases h:cC t i a.toNat b.toNat with
     |true=>have:=il.1 h;simp[-List.getD_eq_getElem?_getD];omega
     |false=>have:=tR.1 h;simp[-List.getD_eq_getElem?_getD];omega)
def Zt:Sm:=fun args σ=>match args,σ with
 |[.str t,.int .i64 (.ofNat i),.int .u8 n_a,.int .u8 n_b],[]=>some ((0<=n_b/\n_b<=255)/\((0<=n_a/\n_a<=255)/\(t.length<=100000000/\i<=900000010)),.bool (cC t i (byte n_a).toNat (byte n_b).toNat),none)
 |_,_=>none
theorem QD(t:g8) (i:Nat) (hp:t.length<=100000000/\i<=900000010):OK 189 ([.str t,.int .i64 i]) ([]) (.tuple [.int .i64 (cS t i).1,.int .i64 (cS t i).2]) (none):=by
 refine ai (C:=cx [(231,Fi)]) (ak ⟨TU,trivial⟩) (fn:=Tryz.f189) fun hw hs=>?_;obtain⟨hl,hi⟩:=hp;have hr:=nL t i;repeat'((conv=>whnf);first|apply af|(apply aj<;>intro h))
 all_goals try conv=>whnf
 all_goals try(refine ae.mk ?_;try dsimp only)
 all_goals first|refine stay ?_|trivial|skip
 all_goals
  unfold cS
  repeat (first|rw[if_pos (by omega)]|rw[if_neg (by omega)])
  refine ab.mk [] ?_<;>(repeat' first|trivial)
structure NP where
 w:g8
 b:g8
 p:g8
 e:Nat
 c:Int
def bm(t:g8) (i:Nat):NP:=
 ⟨sub t (c5 t i 45 45) (aZ t i).1,
  if(aZ t i).2=0/\cC t (aZ t i).1 46 46=true then sub t ((aZ t i).1+1) (cf t (aZ t i)).1 else[],
  if(cf t (aZ t i)).2=0/\cC t (cf t (aZ t i)).1 101 69=true then sub t ((cf t (aZ t i)).1+1) (cM t i).1 else[],
  (cM t i).1,(cM t i).2⟩
abbrev eNP(x:NP):List V:=[.str x.w,.str x.b,.str x.p,.int .i64 x.e,.int .i64 x.c]
def DQ(on:g8->Nat->UInt8->UInt8->Bool):Sm:=fun args σ=>match args,σ with
 |[.str t,.int .i64 i,.int .u8 a,.int .u8 b],[]=>some ((0<=a/\a<=255)/\(0<=b/\b<=255)/\t.length<=100000000/\0<=i/\i<=900000010,.bool (on t i.toNat (byte a) (byte b)),none)
 |_,_=>none
theorem Tw{on:g8->Nat->UInt8->UInt8->Bool} (h:∀t i a b,on t i a b=cC t i a.toNat b.toNat):aq 188 (DQ on):=by
 intro args sg pre x r he hp;unfold DQ at he;split at he<;>cases he;obtain⟨h1,h2,h3,h4,h5⟩:=hp;rename_i i _ _;obtain⟨n,rfl⟩:=Int.eq_ofNat_of_zero_le h4;rw[h,gd h1,gd h2];exact QE _ _ _ _ ⟨h3,by omega⟩
def DP(nd:g8->Nat->Nat×Int):Sm:=fun args σ=>match args,σ with
 |[.str t,.int .i64 i],[]=>some (t.length<=100000000/\0<=i/\i<=900000010,.tuple [.int .i64 (nd t i.toNat).1,.int .i64 (nd t i.toNat).2],none)
 |_,_=>none
theorem Tv{nd:g8->Nat->Nat×Int} (h:∀t i,nd t i=cS t i):aq 189 (DP nd):=by
 intro args sg pre x r he hp;unfold DP at he;split at he<;>cases he;obtain⟨h3,h4,h5⟩:=hp;rename_i i;obtain⟨n,rfl⟩:=Int.eq_ofNat_of_zero_le h4;rw[h];exact QD _ _ ⟨h3,by omega⟩
theorem wrapS(n:Nat) (h:n<=1000000000):IntKind.i64.wrap ((n:Int)+1) =((n+1:Nat):Int):=by rw[bz];omega
theorem KL{t:g8} {j a b:Nat} (h:cC t j a b=true):j+1<=t.length:=(il.1 h).1
theorem V2{t:g8} {j a b:Nat} (h:cC t j a b=true):((j+1:Nat):Int)<=(t.length:Int):=by have:=KL h;omega
theorem le_i{t:g8} {j:Nat} (h:j<=t.length):(j:Int)<=(t.length:Int):=by omega
theorem V0{t:g8} {j:Nat} (h:j<=t.length):((cS t j).1:Int)<=(t.length:Int):=by have:=(oE t j h).2;omega
theorem Yb{t:g8} {a b:Int} (h1:0<=a) (h2:a<=b) (h3:b<=(t.length:Int)):0<=a/\a<=b/\b<=(t.length:Int):=⟨h1,h2,h3⟩
theorem Pm{on:g8->Nat->UInt8->UInt8->Bool} {nd:g8->Nat->Nat×Int} (ho:∀t i a b,on t i a b=cC t i a.toNat b.toNat) (hn:∀t i,nd t i=cS t i) (t:g8) (i:Nat)
   (hl:t.length<=100000000) (hi:i<=t.length):OK 156 [.str t,.int .i64 i] [] (.agg (eNP (bm t i))) none:=by
 refine ai (C:=cx [(188,DQ on),(189,DP nd)]) (ak ⟨Tw ho,Tv hn,trivial⟩) (fn:=Tryz.f156) fun hw hs=>?_;have G:∀j,j<=(nd t j).1/\(nd t j).1<=t.length+j:=fun j=>by
  have:=nL t j;rw[hn];unfold cS;repeat' split
  all_goals (dsimp only;omega)
 have L1:∀{j:Nat},j<=t.length->((nd t j).1:Int)<=(t.length:Int):=fun h=>by rw[hn];exact V0 h
 have f0:=G (i);have f1:=G (i+1);have f2:=G ((nd t (i)).1+1);have f3:=G ((nd t (i+1)).1+1);have f4:=G (i+1+1);have f5:=G (i+1+1+1);have f6:=G ((nd t ((nd t (i)).1+1)).1+1);have f7:=G ((nd t ((nd t (i+1)).1+1)).1+1);have f8:=G ((nd t (i+1+1)).1+1);have f9:=G ((nd t (i+1+1+1)).1+1);have f10:=G ((nd t (i)).1+1+1);have f11:=G ((nd t (i+1)).1+1+1);have f12:=G (i+1+1+1+1);have f13:=G ((nd t ((nd t (i)).1+1)).1+1+1);have f14:=G ((nd t ((nd t (i+1)).1+1)).1+1+1);have f15:=G ((nd t (i+1+1)).1+1+1);have f16:=G ((nd t (i+1+1+1)).1+1+1);repeat'((conv=>whnf);first|apply af|((first|apply aj|apply e9)<;>intro h))
 all_goals try conv=>whnf
 all_goals try(refine ae.mk ?_;try dsimp only)
 all_goals (try simp only[show(byte 45).toNat=45 from rfl,show(byte 48).toNat=48 from rfl,show(byte 46).toNat=46 from rfl,show(byte 101).toNat=101 from rfl,show(byte 69).toNat=69 from rfl,show(byte 43).toNat=43 from rfl,cond_true,cond_false,Int.toNat_natCast] at*)
 all_goals (try simp(discharger:=omega) only[wrapS,Int.toNat_natCast] at*)
 all_goals clear hw hs
 all_goals (try simp only[ho,show(byte 45).toNat=45 from rfl,show(byte 48).toNat=48 from rfl,show(byte 46).toNat=46 from rfl,show(byte 101).toNat=101 from rfl,show(byte 69).toNat=69 from rfl,show(byte 43).toNat=43 from rfl] at*)
 all_goals first
  |(show ab _ _ _ _ _ _;skip)
  | (refine Yb ?_ ?_ ?_
     . omega
     . omega
     . repeat'(first|exact V2 (by assumption)|exact le_i hi|refine L1 ?_|exact KL (by assumption)|exact hi)
       done)
  | (refine ⟨by omega, by omega, ?_⟩
     omega)
  |skip
 all_goals (simp only[hn] at*)
 all_goals clear f0 f1 f2 f3 f4 f5 f6 f7 f8 f9 f10 f11 f12 f13 f14 f15 f16 G L1 ho hn
 all_goals
  simp only [bm, cM, jM, cf, aZ, c5, *, if_true, if_false, and_self, and_true, true_and, and_false, false_and, Bool.false_eq_true, reduceCtorEq, if_pos, if_neg, not_false_eq_true];refine ab.mk [] ?_<;>(repeat' first|trivial)
theorem Iw(t:g8) (i:Nat) (hp:t.length<=100000000/\i<=t.length):OK 156 ([.str t,.int .i64 i]) ([]) (.agg (eNP (bm t i))) (none):=by
 exact Pm (on:=fun t i a b=>cC t i a.toNat b.toNat) (nd:=cS) (fun _ _ _ _=>rfl) (fun _ _=>rfl) t i hp.1 hp.2
def Ff:Sm:=fun args σ=>match args,σ with
 |[.str t,.int .i64 (.ofNat i)],[]=>some (t.length<=100000000/\i<=t.length,.agg (eNP (bm t i)),none)
 |_,_=>none
theorem TQ:aq 156 Ff:=by
 intro args sg pre x r he hp;unfold Ff at he;split at he<;>cases he
 . exact Iw (hp:=hp) ..
def DR(sp:g8->Nat->NP):Sm:=fun args σ=>match args,σ with
 |[.str t,.int .i64 (.ofNat i)],[]=>some (t.length<=100000000/\i<=t.length,.agg (eNP (sp t i)),none)
 |_,_=>none
theorem Um{sp:g8->Nat->NP} (h:∀t i,sp t i=bm t i):aq 156 (DR sp):=by
 intro args sg pre x r he hp;unfold DR at he;split at he<;>cases he;rw[h];exact Iw _ _ hp
theorem QB{sp:g8->Nat->NP} (hsp:∀t i,sp t i=bm t i) (c:Cu) (hk:c.ok) (hl:c.s.length<=100000000):OK 104 [.agg (eC c)] [] (.tuple [.agg (eC c.jq.1),.str c.jq.2]) none:=by
 refine ai (C:=cx [(156,DR sp),(106,uo)]) (ak ⟨Um hsp,yq,trivial⟩) (fn:=Tryz.f104) fun hw hs=>?_;have h1:=hk.1;have h2:=hk.2;have hlen:=i7 hk;have htx:c.s.take c.e=c.ar:=rfl;have hge:=wj c.ar c.p (by omega);have e1:(sp c.ar c.p).e=(cM c.ar c.p).1:=by rw[hsp];rfl
 have e2:(sp c.ar c.p).c=(cM c.ar c.p).2:=by rw[hsp];rfl
 repeat'((conv=>whnf);first|apply af|apply aI|(apply aj<;>intro h))
 all_goals try conv=>whnf
 all_goals try(refine ae.mk ?_;try dsimp only)
 all_goals (try simp only[Int.toNat_natCast,htx,e1,e2] at*)
 all_goals (try simp only[aT] at*)
 all_goals first|refine stay ?_|trivial|omega|skip
 all_goals
  unfold Cu.jq
  repeat (first|rw[if_pos (by omega)]|rw[if_neg (by omega)])
  refine ab.mk [] ?_<;>(repeat' first|trivial)
theorem QC(c:Cu) (hp:c.ok/\c.s.length<=100000000):OK 104 ([.agg (eC c)]) ([]) (.tuple [.agg (eC c.jq.1),.str c.jq.2]) (none):=by
 exact QB (sp:=bm) (fun _ _=>rfl) c hp.1 hp.2
def Fe:Sm:=fun args σ=>match args,σ with
 |[.agg ([.str s_c,.int .i64 (.ofNat a_c),.int .i64 (.ofNat e_c),.int .i64 c_c])],[]=>some (True/\((Cu.mk s_c a_c e_c c_c).ok/\(Cu.mk s_c a_c e_c c_c).s.length<=100000000),.tuple [.agg (eC (Cu.mk s_c a_c e_c c_c).jq.1),.str (Cu.mk s_c a_c e_c c_c).jq.2],none)
 |_,_=>none
theorem TP:aq 104 Fe:=by
 intro args sg pre x r he hp;unfold Fe at he;split at he<;>cases he
 . rw[cX (hp).1];exact QC (hp:=hp.2) ..
theorem QH(b:UInt8) (hp:True):OK 51 ([bv b]) ([]) (.bool (dj b)) (none):=by
 refine ai (C:=cx []) (ak trivial) (fn:=Tryz.f51) fun hw hs=>?_;have hb:b.toNat<256:=b.toNat_lt;have sT:dj b=true↔(b.toNat=123\/b.toNat=125\/b.toNat=91\/b.toNat=93\/b.toNat=58\/b.toNat=44):=decide_eq_true_iff;repeat'((conv=>whnf);(apply aj<;>intro h))
 all_goals try conv=>whnf
 all_goals try(refine ae.mk ?_;try dsimp only)
 all_goals try refine stay ?_
 all_goals
  refine ab.mk [] ?_<;>(repeat' first|trivial|apply ah|apply jG)
  first
  |exact(sT.2 (by omega)).symm
  |(cases q:dj b with
     |true=>have:=sT.1 q;simp;omega
     |false=>
      have z:¬(b.toNat=123\/b.toNat=125\/b.toNat=91\/b.toNat=93\/b.toNat=58\/b.toNat=44):=fun h=>by rw[sT.2 h] at q;cases q
      simp;omega)
def wV:Sm:=fun args σ=>match args,σ with
 |[.int .u8 n_b],[]=>some ((0<=n_b/\n_b<=255)/\(True),.bool (dj (byte n_b)),none)
 |_,_=>none
theorem Cw:aq 51 wV:=by
 intro args sg pre x r he hp;unfold wV at he;split at he<;>cases he
 . rw[gd (hp).1];exact QH (hp:=hp.2) ..
theorem QI(k:UInt8) (hp:True):OK 157 ([bv k]) ([]) (.str (spell k)) (none):=by
 refine ai (C:=cx []) (ak trivial) (fn:=Tryz.f157) fun hw hs=>?_;have hb:k.toNat<256:=k.toNat_lt;repeat'((conv=>whnf);(apply aj<;>intro h))
 all_goals try conv=>whnf
 all_goals try(refine ae.mk ?_;try dsimp only)
 all_goals (try simp only[aT] at*)
 all_goals try refine stay ?_
 all_goals
  unfold spell
  repeat (first|rw[if_pos (by omega)]|rw[if_neg (by omega)])
  refine ab.mk [] ?_<;>(repeat' first|trivial)
def Fl:Sm:=fun args σ=>match args,σ with
 |[.int .u8 n_k],[]=>some ((0<=n_k/\n_k<=255)/\(True),.str (spell (byte n_k)),none)
 |_,_=>none
theorem TX:aq 157 Fl:=by
 intro args sg pre x r he hp;unfold Fl at he;split at he<;>cases he
 . rw[gd (hp).1];exact QI (hp:=hp.2) ..
theorem QJ(c:Cu) (k:UInt8) (t:g8) (hp:True):OK 103 ([.agg (eC c),bv k,.str t]) ([]) (.tuple [.agg (eC c),.agg (eT (if c.c=0 then⟨k,t⟩ else .no))]) (none):=by
 refine ai (C:=cx []) (ak trivial) (fn:=Tryz.f103) fun hw hs=>?_;have hb:k.toNat<256:=k.toNat_lt;repeat'((conv=>whnf);first|apply aI|(apply aj<;>intro h))
 all_goals try conv=>whnf
 all_goals try(refine ae.mk ?_;try dsimp only)
 all_goals try refine stay ?_
 all_goals
  first|rw[if_pos (by assumption)]|rw[if_neg (by assumption)]
  refine ab.mk [] ?_<;>(repeat' first|trivial)
def Fm:Sm:=fun args σ=>match args,σ with
 |[.agg ([.str s_c,.int .i64 (.ofNat a_c),.int .i64 (.ofNat e_c),.int .i64 c_c]),.int .u8 n_k,.str t],[]=>some ((0<=n_k/\n_k<=255)/\(True/\(True)),.tuple [.agg (eC (Cu.mk s_c a_c e_c c_c)),.agg (eT (if(Cu.mk s_c a_c e_c c_c).c=0 then⟨(byte n_k),t⟩ else .no))],none)
 |_,_=>none
theorem TY:aq 103 Fm:=by
 intro args sg pre x r he hp;unfold Fm at he;split at he<;>cases he
 . rw[gd (hp).1];rw[cX (hp.2).1];exact QJ (hp:=hp.2.2) ..
theorem QK(c:Cu) (k:UInt8) (hp:c.ok/\c.s.length<=100000000):OK 105 ([.agg (eC c),bv k]) ([]) (.tuple [.agg (eC (c.dQ k).1),.agg (eT (c.dQ k).2)]) (none):=by
 refine ai (C:=cx [(157,Fl),(106,uo)]) (ak ⟨TX,yq,trivial⟩) (fn:=Tryz.f105) fun hw hs=>?_;obtain⟨hk,hl⟩:=hp;have h1:=hk.1;have h2:=hk.2;have hb:k.toNat<256:=k.toNat_lt;have hsl:(spell k).length<=5:=by
  unfold spell;repeat' split
  all_goals simp
 have hkk:byte k.toNat=k:=dd _;repeat'((conv=>whnf);apply af)
 all_goals try conv=>whnf
 all_goals try(refine ae.mk ?_;try dsimp only)
 all_goals first|refine stay ?_|(simp(discharger:=omega) [-List.getD_eq_getElem?_getD,wR]<;>omega)|skip
 all_goals (try simp only[hkk] at*)
 refine aM.mk Nat (fun i=>i<=(spell k).length/\fk c (spell k) 0=fk c ((spell k).drop i) i) (fun i=>⟨49,[(1,bv k),(2,.ptr 0 0),(4,.ptr 1 0),(5,.ptr 2 0),(6,.str (spell k)),(7,.int .i64 i)],[.cells (eC c),.cells [.str [],.int .i64 0,.int .i64 0,.int .i64 0],.cells [.int .u8 0,.str []]],[]⟩) (fun i=>(spell k).length-i) [] 0 ⟨by omega,rfl⟩ ?_ (fun i ⟨hi,he⟩ _ _=>?_)
 . apply ao<;>(repeat' first|trivial)
 have hx:((spell k).getD i 0).toNat<256:=UInt8.toNat_lt _;have hy:(c.s.getD (c.p+i) 0).toNat<256:=UInt8.toNat_lt _;have hdr:i<(spell k).length->(spell k).drop i=(spell k).getD i 0::(spell k).drop (i+1):=fun h=>by
  rw[List.drop_eq_getElem_cons h,ac,am h];rfl
 have hw2:IntKind.i64.wrap ((c.p:Int)+i) =((c.p+i:Nat):Int):=by(simp(discharger:=omega) only[wR];omega)
 have hw3:IntKind.i64.wrap ((c.p:Int)+(spell k).length) =((c.p+(spell k).length:Nat):Int):=by(simp(discharger:=omega) only[wR];omega)
 repeat'((conv=>whnf);first|apply af|apply aI|(apply aj<;>intro h)|with_reducible (first|refine cg ?_ fun hc=>?_|refine fH ?_ fun hc=>?_))
 all_goals try conv=>whnf
 all_goals try(refine ae.mk ?_;try dsimp only)
 all_goals (try simp only[hw2,hw3,Int.toNat_natCast] at*)
 all_goals (try simp only[aT] at*)
 all_goals first|refine stay ?_|trivial|omega|skip
 . have z:fk c (spell k) 0=1:=by rw[he,hdr (by omega)];unfold fk;rw[if_pos (by omega)]
   unfold Cu.dQ;rw[z,if_pos (by decide)];refine ab.mk [] ?_<;>(repeat' first|trivial)
 . have z:fk c (spell k) 0=fk c ((spell k).drop (i+1)) (i+1):=by
     rw[he,hdr (by omega)];conv=>lhs;unfold fk
     rw[if_neg (by omega),if_neg (fun e=>e (UInt8.toNat_inj.1 (by omega)))]
   refine⟨[],i+1,⟨by omega,z⟩,?_,by omega⟩;apply ao<;>(repeat' first|trivial|apply ah|apply aC)
   all_goals (simp(discharger:=omega) only[wR];omega)
 . have z:fk c (spell k) 0=3:=by
     rw[he,hdr (by omega)];unfold fk;rw[if_neg (by omega),if_pos (fun e=>by have:=congrArg UInt8.toNat e;omega)]
   unfold Cu.dQ;rw[z,if_pos (by decide)];refine ab.mk [] ?_<;>(repeat' first|trivial)
 . have z:fk c (spell k) 0=0:=by rw[he,List.drop_eq_nil_of_le (by omega)];unfold fk;rfl
   unfold Cu.dQ;rw[z,if_neg (by decide)];refine ab.mk [] ?_<;>(repeat' first|trivial)
def Fo:Sm:=fun args σ=>match args,σ with
 |[.agg ([.str s_c,.int .i64 (.ofNat a_c),.int .i64 (.ofNat e_c),.int .i64 c_c]),.int .u8 n_k],[]=>some ((0<=n_k/\n_k<=255)/\(True/\((Cu.mk s_c a_c e_c c_c).ok/\(Cu.mk s_c a_c e_c c_c).s.length<=100000000)),.tuple [.agg (eC ((Cu.mk s_c a_c e_c c_c).dQ (byte n_k)).1),.agg (eT ((Cu.mk s_c a_c e_c c_c).dQ (byte n_k)).2)],none)
 |_,_=>none
theorem TZ:aq 105 Fo:=by
 intro args sg pre x r he hp;unfold Fo at he;split at he<;>cases he
 . rw[gd (hp).1];rw[cX (hp.2).1];exact QK (hp:=hp.2.2) ..
theorem QG(c:Cu) (hp:c.ok/\c.s.length<=10000000):OK 47 ([.agg (eC c)]) ([]) (.tuple [.agg (eC c.bB.1),.agg (eT c.bB.2)]) (none):=by
 refine ai (C:=cx [(51,wV),(102,F8),(103,Fm),(104,Fe),(105,Fo),(106,uo)]) (ak ⟨Cw,TJ,TY,TP,TZ,yq,trivial⟩) (fn:=Tryz.f47) fun hw hs=>?_;obtain⟨hk,hl⟩:=hp;have h1:=hk.1;have h2:=hk.2;have hlen:=i7 hk;repeat'((conv=>whnf);first|apply aI|(apply aj<;>intro h))
 all_goals try conv=>whnf
 all_goals try(refine ae.mk ?_;try dsimp only)
 all_goals try refine stay ?_
 . have h0:c.c=0:=by assumption
   refine aM.mk Nat (fun p=>c.p<=p/\p<=c.e/\dy dn c.ar p=dy dn c.ar c.p) (fun p=>⟨128,[(1,.ptr 0 0),(2,.ptr 1 0),(3,.ptr 2 0)],[.cells (eC {c with p:=p}),.cells [.str [],.int .i64 0,.int .i64 0,.int .i64 0],.cells [.int .u8 0,.str []]],[]⟩) (fun p=>c.e-p) [] c.p ⟨co _,h1,rfl⟩ ?_ (fun p ⟨p1,p2,p3⟩ _ _=>?_)
   . apply ao<;>(repeat' first|trivial)
   have hx:(c.s.getD p 0).toNat<256:=UInt8.toNat_lt _;have hxx:byte (c.s.getD p 0).toNat=c.s.getD p 0:=dd _;have hg:p<c.e->c.ar.getD p 0=c.s.getD p 0:=fun h=>by unfold Cu.ar;exact getD_take h
   have hit:p<c.e->dn (c.s.getD p 0)=true->dy dn c.ar (p+1)=dy dn c.ar c.p:=fun h b=>by rw[<-p3,Dw (i:=p) (by omega) (by rw[hg h];exact b)]
   have stop:p=c.e\/dn (c.s.getD p 0)=false->c.bB=({c with p:=p}:Cu).jh:=fun h=>by
    unfold Cu.bB;rw[if_neg (by omega),<-p3,zn (i:=p) (by
     rcases eg p c.e with q|q
     . right;rw[hg q];rcases h with h|h;omega;exact h
     . left;omega)]
   have hd:Cu.ok {c with p:=p}:=⟨p2,h2⟩
   have hget:({c with p:=p}:Cu).get=c.s.getD p 0:=rfl;have sT:dj (c.s.getD p 0)=true↔((c.s.getD p 0).toNat=123\/(c.s.getD p 0).toNat=125\/(c.s.getD p 0).toNat=91\/(c.s.getD p 0).toNat=93\/(c.s.getD p 0).toNat=58\/(c.s.getD p 0).toNat=44):=decide_eq_true_iff;have dT:=qx (b:=c.s.getD p 0);repeat'((conv=>whnf);first|apply af|(apply aj<;>intro h)|with_reducible refine cg ?_ fun hc=>?_)
   all_goals try conv=>whnf
   all_goals try(refine ae.mk ?_;try dsimp only)
   all_goals (try simp only[aT] at*)
   all_goals first|refine stay ?_|trivial|omega|(simp(discharger:=omega) [-List.getD_eq_getElem?_getD,wR]<;>omega)|skip
   all_goals (try simp only[hxx] at*)
   all_goals first
    |(exfalso;omega)
    |exact⟨trivial,hd,by omega⟩
    |exact⟨by omega,trivial,hd,by omega⟩
    | (refine ⟨[],p + 1,⟨by omega,by omega,hit (by omega) (Be.2 (by omega))⟩,?_,by omega⟩
       apply ao<;>(repeat' first|trivial|apply ah|apply aC|apply iR|apply bV)
       all_goals (simp(discharger:=omega) only[wR];omega)
       done)
    |skip
   all_goals
    first
    |rw[stop (.inl (by omega))]
    |rw[stop (.inr (Hn.2 (by omega)))]
    unfold Cu.jh;first
    |rw[if_pos (show({c with p:=p}:Cu).p=({c with p:=p}:Cu).e by show p=c.e;omega)]
    |rw[if_neg (show¬({c with p:=p}:Cu).p=({c with p:=p}:Cu).e by show¬p=c.e;omega)]
    try rw[hget]
    repeat (first|rw[if_pos (by rw[sT];omega)]|rw[if_neg (by rw[sT];omega)]|rw[if_pos (by rw[dT];omega)]|rw[if_neg (by rw[dT];omega)]|rw[if_pos (by omega)]|rw[if_neg (by omega)])
    refine ab.mk [] ?_<;>(repeat' first|trivial|apply ah|apply aC|apply fQ|apply gC|apply bV)
    all_goals (simp(discharger:=omega) only[wR];omega)
 . unfold Cu.bB;rw[if_pos (by assumption)];refine ab.mk [] ?_<;>(repeat' first|trivial)
def Fk:Sm:=fun args σ=>match args,σ with
 |[.agg ([.str s_c,.int .i64 (.ofNat a_c),.int .i64 (.ofNat e_c),.int .i64 c_c])],[]=>some (True/\((Cu.mk s_c a_c e_c c_c).ok/\(Cu.mk s_c a_c e_c c_c).s.length<=10000000),.tuple [.agg (eC (Cu.mk s_c a_c e_c c_c).bB.1),.agg (eT (Cu.mk s_c a_c e_c c_c).bB.2)],none)
 |_,_=>none
theorem TW:aq 47 Fk:=by
 intro args sg pre x r he hp;unfold Fk at he;split at he<;>cases he
 . rw[cX (hp).1];exact QG (hp:=hp.2) ..
theorem ux{t:g8} {i j k:Nat} (h:i<=j) (h2:j<=k):sub t i k=sub t i j++sub t j k:=by
 unfold sub;rw[<-List.take_append_drop (j-i) ((t.take k).drop i),List.drop_drop,List.take_drop,List.take_take];rw[show i+(j-i) =j by omega,Nat.min_eq_left h2]
theorem MQ(t:g8):sub t 0 t.length=t:=by unfold sub;rw[List.take_length];rfl
theorem uy{t:g8} {i j:Nat} (h:j<=t.length):(sub t i j).length=j-i:=by unfold sub;rw[fo,eo];omega
theorem sub_one{t:g8} {i:Nat} (h:i<t.length):sub t i (i+1) =[t.getD i 0]:=sx 0 h
theorem yU{t:g8} {i:Nat} (h:(cS t i).2=0):i<(cS t i).1/\bf (sub t i (cS t i).1):=by
 unfold cS at h⊢;split
 . rename_i q;refine⟨q,fun b hb=>?_⟩;have e:sub t i (fL t i) =(t.drop i).takeWhile ba:=by
    unfold sub fL dy;rw[List.drop_take,show i+((t.drop i).takeWhile ba).length-i=((t.drop i).takeWhile ba).length by omega];exact List.prefix_iff_eq_take.1 (List.takeWhile_prefix _)|>.symm
   rw[e] at hb;exact List.all_eq_true.1 List.all_takeWhile _ hb
 . rename_i q;rw[if_neg q] at h;split at h<;>cases h
structure NumF(s:g8) (m:Bool) (w b p:g8) (e:UInt8):Prop where
 eq:s=(if m=true then[45] else[])++(w++((if b=[] then[] else 46::b)++(if p=[] then[] else e::p)))
 w0:w≠[]
 wd:bf w
 bd:bf b
 he:e.toNat=101\/e.toNat=69
 pd:p=[]\/∃g ds,p=g++ds/\(g=[]\/g=[43]\/g=[45])/\ds≠[]/\bf ds
theorem Mo{t:g8} {i a b:Nat}:(c5 t i a b=i/\sub t i (c5 t i a b) =[]/\cC t i a b=false)\/(c5 t i a b=i+1/\sub t i (c5 t i a b) =[t.getD i 0]/\cC t i a b=true):=by
 unfold c5;cases h:cC t i a b with
 |true=>right;rw[if_pos rfl];exact⟨rfl,sub_one (il.1 h).1,rfl⟩
 |false=>left;rw[if_neg (by decide)];exact⟨rfl,sub_self _ _,rfl⟩
theorem D3{s:g8} (h1:(cM s 0).1=s.length) (h2:(cM s 0).2=0):
   ∃e,NumF s (cC s 0 45 45) (bm s 0).w (bm s 0).b (bm s 0).p e:=by
 have g1:=rE s 0 45 45 (ci _);have w1:(aZ s 0).2=0->c5 s 0 45 45<(aZ s 0).1/\(aZ s 0).1<=s.length/\bf (sub s (c5 s 0 45 45) (aZ s 0).1):=by
  unfold aZ;split
  . rename_i q;have q:=il.1 q;refine fun _=>⟨Nat.lt_succ_self _,by dsimp only;omega,?_⟩
    show bf (sub s _ (_+1));rw[sub_one q.1];intro b hb;rw[List.mem_singleton.1 hb];unfold ba;rw[decide_eq_true_eq];omega
  . intro h;exact⟨(yU h).1,(oE s _ g1.2).2,(yU h).2⟩
 unfold cM jM at h1 h2;have b0:(cf s (aZ s 0)).2=0:=by
  by_cases z:(cf s (aZ s 0)).2=0
  . exact z
  . rw[if_neg (fun q=>z q.1)] at h2;exact h2
 have w0:(aZ s 0).2=0:=by
  by_cases z:(aZ s 0).2=0
  . exact z
  . unfold cf at b0;rw[if_neg (fun q=>z q.1)] at b0;exact b0
 obtain⟨w1,w2,w3⟩:=w1 w0;have B:∃b,(if(aZ s 0).2=0/\cC s (aZ s 0).1 46 46=true then sub s ((aZ s 0).1+1) (cf s (aZ s 0)).1 else[]) =b/\sub s (aZ s 0).1 (cf s (aZ s 0)).1=(if b=[] then[] else 46::b)/\bf b/\(aZ s 0).1<=(cf s (aZ s 0)).1/\(cf s (aZ s 0)).1<=s.length:=by
  unfold cf at b0⊢;by_cases z:(aZ s 0).2=0/\cC s (aZ s 0).1 46 46=true
  . rw[if_pos z] at b0⊢;rw[if_pos z];have q:=il.1 z.2;have n:=yU b0;have n2:=(oE s ((aZ s 0).1+1) (by omega)).2;refine⟨_,rfl,?_,n.2,by omega,n2⟩;have hl:=uy (t:=s) (i:=(aZ s 0).1+1) n2;rw[if_neg (fun e=>by rw[e] at hl;simp at hl;omega),ux (i:=(aZ s 0).1) (Nat.le_succ _) (by omega:(aZ s 0).1+1<=_),sub_one q.1];rw[show s.getD (aZ s 0).1 0=46 from UInt8.toNat_inj.1 (by have:=q.2;show _=46;omega)];rfl
  . rw[if_neg z,if_neg z];exact⟨_,rfl,by rw[if_pos rfl];exact sub_self _ _,fun _ hb=>(by cases hb),co _,w2⟩
 obtain⟨b,eb,b1,b2,b3,b4⟩:=B;have P:∃p e,(if(cf s (aZ s 0)).2=0/\cC s (cf s (aZ s 0)).1 101 69=true then sub s ((cf s (aZ s 0)).1+1) (cM s 0).1 else[]) =p/\sub s (cf s (aZ s 0)).1 s.length=(if p=[] then[] else e::p)/\((e:UInt8).toNat=101\/e.toNat=69)/\(p=[]\/∃g ds,p=g++ds/\(g=[]\/g=[43]\/g=[45])/\ds≠[]/\bf ds):=by
  unfold cM jM;by_cases z:(cf s (aZ s 0)).2=0/\cC s (cf s (aZ s 0)).1 101 69=true
  . rw[if_pos z] at h1 h2⊢;rw[if_pos z];have q:=il.1 z.2;generalize (cf s (aZ s 0)).1=i at*;have g2:=rE s (i+1) 43 45 (by omega);have n:=yU h2;refine⟨_,s.getD i 0,rfl,?_,q.2,?_⟩
    . have hl:=uy (t:=s) (i:=i+1) (j:=(cS s (c5 s (i+1) 43 45)).1) (by omega);rw[if_neg (fun e=>by rw[e] at hl;simp at hl;omega),h1,ux (i:=i) (Nat.le_succ _) (by omega:i+1<=_),sub_one q.1];rfl
    . right;refine⟨sub s (i+1) (c5 s (i+1) 43 45),sub s (c5 s (i+1) 43 45) (cS s (c5 s (i+1) 43 45)).1,ux g2.1 (by omega),?_,?_,n.2⟩
      . rcases Mo (t:=s) (i:=i+1) (a:=43) (b:=45) with ⟨_,r,_⟩|⟨_,r,r2⟩
        . exact .inl r
        . rw[r];right;rcases(il.1 r2).2 with k|k
          . left;rw[show s.getD (i+1) 0=43 from UInt8.toNat_inj.1 k]
          . right;rw[show s.getD (i+1) 0=45 from UInt8.toNat_inj.1 k]
      . have hl:=uy (t:=s) (i:=c5 s (i+1) 43 45) (j:=(cS s (c5 s (i+1) 43 45)).1) (by omega);intro e;rw[e] at hl;simp at hl;omega
  . rw[if_neg z] at h1 h2⊢;refine⟨_,101,rfl,?_,by decide,.inl rfl⟩;rw[if_pos rfl,h1];exact sub_self _ _
 obtain⟨p,e,ep,p1,p2,p3⟩:=P;refine⟨e,?_⟩;have hw:(bm s 0).w=sub s (c5 s 0 45 45) (aZ s 0).1:=rfl;have hb:(bm s 0).b=b:=eb;have hp:(bm s 0).p=p:=ep;rw[hw,hb,hp];refine⟨?_,?_,w3,b2,p2,p3⟩
 . rw[<-p1,<-b1,<-ux b3 b4,<-ux (Nat.le_of_lt w1) w2];rcases Mo (t:=s) (i:=0) (a:=45) (b:=45) with ⟨r1,r2,r3⟩|⟨r1,r2,r3⟩
   . rw[r3,r1,if_neg (by decide),List.nil_append,MQ]
   . rw[r3,r1,if_pos rfl];have:s.getD 0 0=45:=UInt8.toNat_inj.1 (by have:=(il.1 r3).2;show _=45;omega);rw[r1,this] at r2;rw[<-r2,<-ux (Nat.le_succ _) (by have:=(il.1 r3).1;omega),MQ]
 . have hl:=uy (t:=s) (i:=c5 s 0 45 45) w2;intro e;rw[e] at hl;simp at hl;omega
end Go.Proofs.YtknljebcgcmaeaaGreatDoor
