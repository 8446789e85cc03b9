/-
  A part of the proof.
-/
import Derived.Test.YtchllohbglebiaaGreatDoorZOb
import Derived.Test.YtchllohbglebiaaGreatDoorZSb
set_option linter.unusedSimpArgs false
set_option linter.unusedVariables false
set_option maxHeartbeats 4000000
set_option maxRecDepth 100000
namespace Go.Proofs.YtchllohbglebiaaGreatDoor
open Go Go.VG
theorem wJ{l:List ak} {a:ak} (h:cF l) (ha:a∈l):fL l a.key=true/\kG l a.key=a.value:=by
 obtain⟨i,hi,rfl⟩:=List.mem_iff_getElem.1 ha;have:=T2 h hi (key:=l[i].key) (by rw[xc hi])
 rwa [xc hi] at this
theorem zb{l:List ak} {k:Ky} (h:∀a∈l,a.key≠k):fL l k=false/\bf l k=[]:=by
 have:=T3 (l:=l) (key:=k) fun j hj=>by rw[xc hj];exact h _ (List.getElem_mem hj)
 exact⟨this.1,by unfold bf;rw[this.2];rfl⟩
theorem D0{l:List ak} {k:Ky} (h:bf l k≠[]):∃a∈l,a.key=k:=
 Classical.byContradiction fun q=>h (zb fun a ha e=>q ⟨a,ha,e⟩).2
theorem tG{l:List ak} {ks:List Ky} {x:ak}:x∈dy l ks↔x∈l/\x.key∉ks:=by
 unfold dy;rw[List.mem_filter];simp
theorem r7:∀{s:Ky},(∀c∈s,c.toNat<128)->cG s
 |[],_=>.nil
 |c::s,h=>cG.append (x:=[c]) (cG.one (yy (h c List.mem_cons_self))) (r7 fun x hx=>h x (d5 _ hx))
def Tx(s:Ky):Prop:=cG s/\s.length<=3200
theorem BC{s:Ky} (h:∀c∈s,c.toNat<128) (h2:s.length<=3200):Tx s:=⟨r7 h,h2⟩
theorem oI:Tx []:=⟨.nil,bu _⟩
def iy(l:List ak):Prop:=∀a∈l,∃k s,a=tA k s/\Tx k/\Tx s
theorem iy.ey{l:List ak} (h:iy l):ey l:=fun a ha=>by
 obtain⟨k,s,rfl,_⟩:=h a ha;rfl
theorem wK{l:List ak} {a b:ak} (h:cF l) (hb:a∈cf l b):a=b\/a∈l:=by
 rcases(qx h).1 hb with q|q
 . exact .inl q
 . exact .inr q.1
theorem iy.cf{l:List ak} {k s:Ky} (h:iy l) (hr:cF l) (hk:Tx k) (hs:Tx s):iy (cf l (tA k s)):=fun a ha=>by
 rcases wK hr ha with rfl|q
 . exact⟨k,s,rfl,hk,hs⟩
 . exact h a q
theorem iy.drop{l:List ak} {ks:List Ky} (h:iy l):iy (dy l ks):=fun a ha=>h a (tG.1 ha).1
theorem Ht(k s:Ky):mw (tA k s) =tA k s:=by simp[mw,kt,tp,cS]
theorem Jx:∀{l:List ak} {a:ak},(∀b∈l,b.key<a.key)->cf l a=l++[a]
 |[],_,_=>rfl
 |b::r,a,h=>by
   rw[Go.Proofs.YtchllohbglebiaaGreatDoor.cf,if_pos (h b List.mem_cons_self),Jx fun c hc=>h c (d5 _ hc)];rfl
theorem Hr:∀(l acc:List ak),iy l->cF (acc++l)->cS l acc=acc++l
 |[],acc,_,_=>by rw[List.append_nil];simp[cS]
 |a::r,acc,h,hr=>by
   obtain⟨k,s,e,_⟩:=h a List.mem_cons_self;have h1:=(List.pairwise_append.1 hr).2.2;rw[cS,e,Ht,<-e,Jx fun b hb=>h1 b hb a List.mem_cons_self];have e2:acc++a::r=(acc++[a])++r:=by simp
   rw[Hr r (acc++[a]) (fun x hx=>h x (d5 _ hx)) (by rw[<-e2];exact hr),<-e2]
theorem ON{l:List ak} (h:iy l) (hr:cF l):cS l []=l:=by
 have:=Hr l [] h hr
 rwa [List.nil_append] at this
structure l9(a:List ak) (cd:Int) (nt:Ky):Prop where
 r:cF a
 t:iy a
 k:∀x∈a,x.key≠cA/\x.key≠dz
 st:(cd=0/\nt=[])\/(cd=1/\nt=[])\/(cd=2/\Tx nt)
section
variable {a:List ak} {cd:Int} {nt:Ky}
theorem l9.b(h:l9 a cd nt):cF (ew a)/\iy (ew a)/\∀x∈ew a,x.key≠cA/\x.key≠dz:=by
 unfold ew;split
 . exact⟨nT h.r,h.t.drop,fun x hx=>h.k x (tG.1 hx).1⟩
 . exact⟨h.r,h.t,h.k⟩
theorem l9.c(h:l9 a cd nt):cF (bQ a cd nt)/\iy (bQ a cd nt):=by
 obtain⟨b1,b2,_⟩:=h.b;refine⟨(Bw h.r h.t.ey).1,?_⟩;unfold bQ;split
 . exact b2.cf b1 (BC (by decide) (by decide)) (BC (by decide) (by decide))
 . split
   . rename_i q;refine b2.cf b1 (BC (by decide) (by decide)) ?_;rcases h.st with ⟨_,q2⟩|⟨_,q2⟩|⟨_,q2⟩
     . rw[q2];exact oI
     . rw[q2];exact oI
     . exact q2
   . exact b2
theorem l9.status(h:l9 a cd nt):dr (bQ a cd nt) =cd/\dA (bQ a cd nt) =nt:=by
 obtain⟨b1,b2,b3⟩:=h.b;unfold dr dA;rcases h.st with ⟨rfl,rfl⟩|⟨rfl,rfl⟩|⟨rfl,h2⟩
 . have e:bQ a 0 []=ew a:=rfl;rw[e,(zb fun x hx=>(b3 x hx).1).1,(zb fun x hx=>(b3 x hx).2).2];exact⟨rfl,rfl⟩
 . have e:bQ a 1 []=cf (ew a) (tA dz mg):=rfl;rw[e];have m:∀x∈cf (ew a) (tA dz mg),x.key≠cA:=fun x hx=>by
    rcases wK b1 hx with rfl|q
    . show dz≠cA;decide
    . exact(b3 x q).1
   have g:=wJ (p6 (a:=tA dz mg) b1) ((qx b1).2 (.inl rfl));have g2:bf (cf (ew a) (tA dz mg)) dz=mg:=congrArg aM.text g.2;rw[(zb m).1,g2];exact⟨rfl,rfl⟩
 . have e:bQ a 2 nt=cf (ew a) (tA cA nt):=rfl;rw[e];have g:=wJ (p6 (a:=tA cA nt) b1) ((qx b1).2 (.inl rfl));have g1:fL (cf (ew a) (tA cA nt)) cA=true:=g.1;have g2:bf (cf (ew a) (tA cA nt)) cA=nt:=congrArg aM.text g.2;rw[g1,g2];exact⟨rfl,rfl⟩
theorem l9.drop(h:l9 a cd nt):dy (bQ a cd nt) [cA,dz]=ew a:=by
 obtain⟨b1,b2,b3⟩:=h.b;refine xC (nT h.c.1) b1 fun x=>?_;rw[tG,List.mem_cons,List.mem_singleton,not_or];unfold bQ;constructor
 . rintro⟨h1,h2,h3⟩;split at h1
   . rcases wK b1 h1 with rfl|q
     . exact absurd rfl h3
     . exact q
   . split at h1
     . rcases wK b1 h1 with rfl|q
       . exact absurd rfl h2
       . exact q
     . exact h1
 . intro hx;refine⟨?_,b3 x hx⟩;split
   . exact(qx b1).2 (.inr ⟨hx,(b3 x hx).2⟩)
   . split
     . exact(qx b1).2 (.inr ⟨hx,(b3 x hx).1⟩)
     . exact hx
theorem l9.peer(h:l9 a cd nt):(if bf a bU≠[] then cf (ew a) (tA bU (bf a bU)) else ew a) =a:=by
 by_cases q:bf a bU≠[]
 . rw[if_pos q,show ew a=dy a [bU] from if_pos q];obtain⟨x,hx,hk⟩:=D0 q;have hd:=nT (ks:=[bU]) h.r;have hv:∀y∈a,y.key=bU->y=tA bU (bf a bU):=fun y hy e=>by
    obtain⟨k,s,rfl,_⟩:=h.t y hy;have e:k=bU:=e;subst e;have:=congrArg aM.text (wJ h.r hy).2;have:bf a bU=s:=this;rw[this]
   refine xC (p6 hd) h.r fun y=>?_;rw[qx hd,tG,List.mem_singleton];constructor
   . rintro(rfl|h2)
     . rw[<-hv x hx hk];exact hx
     . exact h2.1.1
   . intro hy;by_cases e:y.key=bU
     . exact .inl (hv y hy e)
     . exact .inr ⟨⟨hy,e⟩,e⟩
 . rw[if_neg q];exact if_neg q
theorem l9.zV(h:l9 a cd nt):Tx (bf a bU):=by
 by_cases q:bf a bU=[]
 . rw[q];exact oI
 . obtain⟨x,hx,hk⟩:=D0 q;obtain⟨k,s,rfl,_,hs⟩:=h.t x hx;have e:k=bU:=hk;subst e;have:bf a bU=s:=congrArg aM.text (wJ h.r hx).2;rw[this];exact hs
end
theorem qZ{l:List ak} (h:cF l) (ht:iy l) {x:ak} (hx:x∈l):tA x.key (bf l x.key) =x/\Tx x.key/\Tx (bf l x.key):=by
 obtain⟨k,s,rfl,h1,h2⟩:=ht x hx;have:bf l k=s:=congrArg aM.text (wJ h hx).2;show tA k (bf l k) =tA k s/\Tx k/\Tx (bf l k);rw[this];exact⟨rfl,h1,h2⟩
theorem zS{n:Nat} (h:n<16):di (iG n) =n/\eQ (iG n) =true/\(iG n).toNat<128:=DI n h
theorem D3:∀s:Ky,dD (bP s) =true/\cZ (bP s) =s
 |[]=>⟨rfl,rfl⟩
 |b::r=>by
   have hb:=b.toNat_lt;obtain⟨a1,a2,_⟩:=zS (n:=b.toNat/16) (by omega);obtain⟨b1,b2,_⟩:=zS (n:=b.toNat%16) (by omega);obtain⟨h1,h2⟩:=D3 r;rw[bP,dD,cZ,a2,b2,h1,h2];refine⟨rfl,?_⟩
   congr 1
   refine UInt8.toNat_inj.1 ?_;rw[D2,a1,b1];omega
theorem zc:∀s:Ky,cG (bP s)
 |[]=>.nil
 |b::r=>by
   have hb:=b.toNat_lt;rw[bP];exact cG.append (x:=[_]) (cG.one (yy (zS (by omega)).2.2)) (cG.append (x:=[_]) (cG.one (yy (zS (by omega)).2.2)) (zc r))
theorem Nc{t:Ky} (h:t.length=16) (h2:jT t=false):fu (bP t) =(0,t):=by
 obtain⟨a,b⟩:=D3 t;unfold fu;rw[if_pos ⟨a,by rw[fH,h]⟩,b];unfold ik;rw[if_neg (by rw[h2];exact Bool.false_ne_true)]
theorem Jp{t:Ky} (h:t.length=8) (h2:jT t=false):jK (bP t) =(0,t):=by
 obtain⟨a,b⟩:=D3 t;unfold jK;rw[if_pos ⟨a,by rw[fH,h]⟩,b];unfold ik;rw[if_neg (by rw[h2];exact Bool.false_ne_true)]
structure cC where
 t:gA
 i:gA
 p:gA
 nm:Ky
 kd:Int
 b:Int
 d:Int
 svc:Ky
 att:List ak
 cd:Int
 nt:Ky
 evs:List Ev
structure rh(e:Ev):Prop where
 a:e.attrs=[]
 n:Tx e.name
 t:∃u,e.time=u*1000/\0<=u/\u<=9223372036854775
structure cC.Ok(x:cC):Prop where
 t:x.t.length=16/\jT x.t=false
 i:x.i.length=8/\jT x.i=false
 p:x.p=[]\/(x.p.length=8/\jT x.p=false)
 nm:Tx x.nm
 kd:x.kd=0\/x.kd=2\/x.kd=3\/x.kd=4\/x.kd=5
 bd:(dn x.b x.d).1=0
 svc:Tx x.svc
 ao:l9 x.att x.cd x.nt
 ev:∀e∈x.evs,rh e
def cC.tags(x:cC):List ak:=bQ x.att x.cd x.nt
def cC.cQ(x:cC):List It:=v7 x.t x.i x.p (decide (x.p=[])) x.nm x.kd x.b x.d (bf x.att bU) x.evs x.tags x.svc
theorem oH{d:Nat} {k s:Ky} (h:cG s):TT d (iS k s).1 (iS k s).2:=TT.leaf d 115 k s (.inl ⟨rfl,h⟩) rfl
theorem Bz{d:Nat} {k:Ky} {n:Int}:TT d (iN k n).1 (iN k n).2:=TT.leaf d 110 k (fB n) (.inr (.inl ⟨rfl,W0 n⟩)) rfl
theorem tt_E{d:Nat} {k s:Ky} (h:cG s):∀x∈iE k s,TT (d+1) x.1 x.2:=fun x hx=>by
 unfold iE at hx;split at hx
 . cases hx
 . rw[List.mem_singleton.1 hx];refine TT.obj d k [iS jw s] (fun y hy=>?_) ?_ (fun y hy=>?_)
   . rw[List.mem_singleton.1 hy];exact oH h
   . show([jw]:List Ky).Nodup;simp
   . rw[List.mem_singleton.1 hy];exact r7 (s:=jw) (by decide)
theorem tt_X{d:Nat} {k s:Ky} (h:cG s):∀x∈iX k s,TT d x.1 x.2:=fun x hx=>by
 unfold iX at hx;split at hx
 . cases hx
 . rw[List.mem_singleton.1 hx];exact oH h
theorem tt_P{d:Nat} {z:Bool} {p:Ky}:∀x∈iP z p,TT d x.1 x.2:=fun x hx=>by
 unfold iP at hx;split at hx
 . cases hx
 . rw[List.mem_singleton.1 hx];exact oH (zc p)
theorem Nn{d:Nat} {e:Ev} (h:rh e):TT (d+1) (qv e).1 (qv e).2:=by
 refine TT.obj d [] [iN bz (ga e.time),iS fY e.name] (fun y hy=>?_) ?_ (fun y hy=>?_)
 . rcases List.mem_cons.1 hy with rfl|hy
   . exact Bz
   . rw[List.mem_singleton.1 hy];exact oH h.n.1
 . show([bz,fY]:List Ky).Nodup;decide
 . rcases List.mem_cons.1 hy with rfl|hy
   . exact r7 (s:=bz) (by decide)
   . rw[List.mem_singleton.1 hy];exact r7 (s:=fY) (by decide)
theorem tt_A{d:Nat} {evs:List Ev} (h:∀e∈evs,rh e):∀x∈iA evs,TT (d+1+1) x.1 x.2:=fun x hx=>by
 unfold iA at hx;split at hx
 . cases hx
 . rw[List.mem_singleton.1 hx];refine TT.pg (d+1) bh (evs.map qv) (fun y hy=>?_) (fun y hy=>?_)
   . obtain⟨e,he,rfl⟩:=List.mem_map.1 hy;exact Nn (h e he)
   . obtain⟨e,he,rfl⟩:=List.mem_map.1 hy;rfl
theorem Xx{l:List ak} (h:cF l):(l.map ak.key).Nodup:=by
 refine List.pairwise_map.2 (List.Pairwise.imp (fun{a b} h=>?_) h);exact fun e=>qC _ (e▸h)
theorem YU(tags:List ak) (l:List ak):(l.map (uc tags)).map aS=l.map ak.key:=by
 rw[List.map_map];rfl
theorem tt_T{d:Nat} {tags:List ak} (h:cF tags) (ht:iy tags):∀x∈iT tags,TT (d+1) x.1 x.2:=fun x hx=>by
 unfold iT at hx;split at hx
 . cases hx
 . rw[List.mem_singleton.1 hx];refine TT.obj d bk (tags.map (uc tags)) (fun y hy=>?_) ?_ (fun y hy=>?_)
   . obtain⟨a,ha,rfl⟩:=List.mem_map.1 hy;exact oH (qZ h ht ha).2.2.1
   . rw[YU];exact Xx h
   . obtain⟨a,ha,rfl⟩:=List.mem_map.1 hy;exact(qZ h ht ha).2.1.1
theorem Va(k:Int):cG (iH k):=by
 unfold iH;repeat' split
 all_goals exact r7 (by decide)
abbrev kAll:List Ky:=[ct,dh,fX,iq,cJ,bz,eP,c5,ff,bh,bk]
section
variable {x:cC} (h:x.Ok)
include h
theorem cC.Ok.tt:∀y∈x.cQ,TT (29+1+1) y.1 y.2:=fun y hy=>by
 unfold cC.cQ v7 at hy;simp only[List.mem_append,or_assoc] at hy;obtain⟨c1,c2⟩:=h.ao.c;rcases hy with hy|hy|hy|hy|hy|hy|hy|hy|hy
 . rcases List.mem_cons.1 hy with rfl|hy
   . exact oH (zc _)
   . rw[List.mem_singleton.1 hy];exact oH (zc _)
 . exact tt_P y hy
 . exact tt_X h.nm.1 y hy
 . exact tt_X (Va _) y hy
 . rcases List.mem_cons.1 hy with rfl|hy
   . exact Bz
   . rw[List.mem_singleton.1 hy];exact Bz
 . exact tt_E h.svc.1 y hy
 . exact tt_E h.ao.zV.1 y hy
 . exact tt_A h.ev y hy
 . exact tt_T c1 c2 y hy
end
theorem kE{k s:Ky}:(iE k s).map aS=if s=[] then[] else[k]:=by unfold iE;split<;>rfl
theorem kX{k s:Ky}:(iX k s).map aS=if s=[] then[] else[k]:=by unfold iX;split<;>rfl
theorem kP{z:Bool} {p:Ky}:(iP z p).map aS=if z=true then[] else[fX]:=by unfold iP;split<;>rfl
theorem kA{evs:List Ev}:(iA evs).map aS=if evs=[] then[] else[bh]:=by unfold iA;split<;>rfl
theorem kT{tags:List ak}:(iT tags).map aS=if tags=[] then[] else[bk]:=by unfold iT;split<;>rfl
theorem JB(x:cC):x.cQ.map aS=[ct,dh]++(if decide (x.p=[]) =true then[] else[fX])++(if x.nm=[] then[] else[iq])++(if iH x.kd=[] then[] else[cJ])++[bz,eP]++(if x.svc=[] then[] else[c5])++(if bf x.att bU=[] then[] else[ff])++(if x.evs=[] then[] else[bh])++(if x.tags=[] then[] else[bk]):=by
 unfold cC.cQ v7;simp only[fo,kE,kX,kP,kA,kT];rfl
theorem sr{α:Type} {c:Prop} [Decidable c] {k:α}:(if c then[] else[k]).Sublist [k]:=by
 split
 . exact List.nil_sublist _
 . exact List.Sublist.refl _
theorem nu(x:cC):(x.cQ.map aS).Nodup:=by
 have hs:(x.cQ.map aS).Sublist kAll:=by
  rw[JB];have e:kAll=[ct,dh]++[fX]++[iq]++[cJ]++[bz,eP]++[c5]++[ff]++[bh]++[bk]:=rfl;rw[e];exact((((((((List.Sublist.refl _).append sr).append sr).append sr).append (List.Sublist.refl _)).append sr).append sr).append sr).append sr
 exact List.Nodup.sublist hs (by decide)
theorem Wl{c:Prop} [Decidable c] {k key:Ky}:key∈(if c then[] else[k])↔¬c/\key=k:=by
 split<;>simp[*]
theorem p8{x:cC} {key:Ky} (h:key∈x.cQ.map aS):(key=ct\/key=dh)\/(¬(decide (x.p=[]) =true)/\key=fX)\/(¬x.nm=[]/\key=iq)\/(¬iH x.kd=[]/\key=cJ)\/(key=bz\/key=eP)\/(¬x.svc=[]/\key=c5)\/(¬bf x.att bU=[]/\key=ff)\/(¬x.evs=[]/\key=bh)\/(¬x.tags=[]/\key=bk):=by
 rw[JB] at h;simp only[List.mem_append,Wl,or_assoc,List.mem_cons,List.not_mem_nil,or_false] at h⊢;exact h
theorem ns{x:cC} {y:It}:y∈x.cQ↔y∈[iS ct (bP x.t),iS dh (bP x.i)]\/y∈iP (decide (x.p=[])) x.p\/y∈iX iq x.nm\/y∈iX cJ (iH x.kd)\/y∈[iN bz x.b,iN eP x.d]\/y∈iE c5 x.svc\/y∈iE ff (bf x.att bU)\/y∈iA x.evs\/y∈iT x.tags:=by
 unfold cC.cQ v7;simp only[List.mem_append,or_assoc]
abbrev cC.tree(x:cC):List Nd:=(iO [] x.cQ).1
theorem cC.lj(x:cC):eB x.tree (0:Nat) (iO [] x.cQ):=⟨[],[],by simp,rfl⟩
theorem no_P{x:cC} (h:decide (x.p=[]) =true):fX∉x.cQ.map aS:=by
 intro q;rcases p8 q with (q|q)|⟨c,q⟩|⟨c,q⟩|⟨c,q⟩|(q|q)|⟨c,q⟩|⟨c,q⟩|⟨c,q⟩|⟨c,q⟩
 all_goals first
  |exact absurd q (by decide)
  |exact c h
theorem no_N{x:cC} (h:x.nm=[]):iq∉x.cQ.map aS:=by
 intro q;rcases p8 q with (q|q)|⟨c,q⟩|⟨c,q⟩|⟨c,q⟩|(q|q)|⟨c,q⟩|⟨c,q⟩|⟨c,q⟩|⟨c,q⟩
 all_goals first
  |exact absurd q (by decide)
  |exact c h
theorem no_K{x:cC} (h:iH x.kd=[]):cJ∉x.cQ.map aS:=by
 intro q;rcases p8 q with (q|q)|⟨c,q⟩|⟨c,q⟩|⟨c,q⟩|(q|q)|⟨c,q⟩|⟨c,q⟩|⟨c,q⟩|⟨c,q⟩
 all_goals first
  |exact absurd q (by decide)
  |exact c h
theorem no_L{x:cC} (h:x.svc=[]):c5∉x.cQ.map aS:=by
 intro q;rcases p8 q with (q|q)|⟨c,q⟩|⟨c,q⟩|⟨c,q⟩|(q|q)|⟨c,q⟩|⟨c,q⟩|⟨c,q⟩|⟨c,q⟩
 all_goals first
  |exact absurd q (by decide)
  |exact c h
theorem no_R{x:cC} (h:bf x.att bU=[]):ff∉x.cQ.map aS:=by
 intro q;rcases p8 q with (q|q)|⟨c,q⟩|⟨c,q⟩|⟨c,q⟩|(q|q)|⟨c,q⟩|⟨c,q⟩|⟨c,q⟩|⟨c,q⟩
 all_goals first
  |exact absurd q (by decide)
  |exact c h
theorem no_A{x:cC} (h:x.evs=[]):bh∉x.cQ.map aS:=by
 intro q;rcases p8 q with (q|q)|⟨c,q⟩|⟨c,q⟩|⟨c,q⟩|(q|q)|⟨c,q⟩|⟨c,q⟩|⟨c,q⟩|⟨c,q⟩
 all_goals first
  |exact absurd q (by decide)
  |exact c h
theorem no_T{x:cC} (h:x.tags=[]):bk∉x.cQ.map aS:=by
 intro q;rcases p8 q with (q|q)|⟨c,q⟩|⟨c,q⟩|⟨c,q⟩|(q|q)|⟨c,q⟩|⟨c,q⟩|⟨c,q⟩|⟨c,q⟩
 all_goals first
  |exact absurd q (by decide)
  |exact c h
theorem in_X{k s:Ky} (h:s≠[]):iS k s∈iX k s:=by unfold iX;rw[if_neg h];exact List.mem_cons_self
theorem in_E{k s:Ky} (h:s≠[]):iO k [iS jw s]∈iE k s:=by unfold iE;rw[if_neg h];exact List.mem_cons_self
section
variable {x:cC} (h:x.Ok)
include h
theorem cC.Ok.opt{k s:Ky} (h1:s≠[]->iS k s∈x.cQ) (h2:s=[]->k∉x.cQ.map aS):c8 x.tree (0:Nat) k=0/\c7 x.tree (0:Nat) k=decide (s≠[])/\bO x.tree (0:Nat) k=s:=by
 by_cases q:s=[]
 . subst q;exact O8 x.lj h.tt (h2 rfl)
 . obtain⟨a,b,c⟩:=vw x.lj h.tt (nu x) (h1 q);exact⟨a,by rw[b,decide_eq_true q],c⟩
theorem cC.Ok.end{k s:Ky} (hs:cG s) (h1:s≠[]->iO k [iS jw s]∈x.cQ) (h2:s=[]->k∉x.cQ.map aS):er x.tree (0:Nat) k=0/\cV x.tree (0:Nat) k=s:=by
 unfold er cV;by_cases q:s=[]
 . subst q;obtain⟨a,b⟩:=O4 x.lj h.tt (h2 rfl);rw[a,b];exact⟨rfl,rfl⟩
 . obtain⟨j,g,a,b,c⟩:=O5 x.lj h.tt (nu x) (h1 q);obtain⟨a2,b2,c2⟩:=vw (d:=0) (key:=jw) (s:=s) g (fun y hy=>by rw[List.mem_singleton.1 hy];exact oH hs) (by show([jw]:List Ky).Nodup;simp) List.mem_cons_self;rw[a,b,c,if_pos rfl,if_pos rfl,a2,c2];exact⟨rfl,rfl⟩
theorem cC.Ok.names:dW x.tree (0:Nat) =0/\bJ x.tree (0:Nat) =x.t/\cU x.tree (0:Nat) =x.i/\bM x.tree (0:Nat) =x.p/\gu x.tree (0:Nat) =x.nm:=by
 obtain⟨a1,a2,a3⟩:=vw (s:=bP x.t) x.lj h.tt (nu x) (ns.2 (.inl List.mem_cons_self));obtain⟨b1,b2,b3⟩:=vw (s:=bP x.i) x.lj h.tt (nu x) (ns.2 (.inl (d5 _ List.mem_cons_self)));obtain⟨c1,c2,c3⟩:=h.opt (k:=iq) (s:=x.nm) (fun q=>ns.2 (.inr (.inr (.inl (in_X q))))) no_N;have e1:mj x.tree (0:Nat) =0:=by
  unfold mj;rw[a1,a2,a3,Nc h.t.1 h.t.2];rfl
 have e2:dV x.tree (0:Nat) dh=0/\iR x.tree (0:Nat) dh=x.i:=by
  unfold dV iR;rw[b1,b2,b3,Jp h.i.1 h.i.2];exact⟨rfl,rfl⟩
 have e3:dV x.tree (0:Nat) fX=0/\iR x.tree (0:Nat) fX=x.p:=by
  unfold dV iR;rcases h.p with q|⟨q1,q2⟩
  . obtain⟨d1,d2,d3⟩:=O8 x.lj h.tt (no_P (decide_eq_true q));rw[d1,d2,d3,q];exact⟨rfl,rfl⟩
  . have hne:x.p≠[]:=fun e=>by rw[e] at q1;cases q1
    obtain⟨d1,d2,d3⟩:=vw (key:=fX) (s:=bP x.p) x.lj h.tt (nu x) (ns.2 (.inr (.inl (by
     unfold iP;rw[if_neg (by rw[decide_eq_false hne];exact Bool.false_ne_true)];exact List.mem_cons_self))))
    rw[d1,d2,d3,Jp q1 q2];exact⟨rfl,rfl⟩
 have e4:ml x.tree (0:Nat) =0:=by
  unfold ml;rw[e1,e2.1];rfl
 have e5:mm x.tree (0:Nat) =0:=by
  unfold mm;rw[e4,b2,e3.1];rfl
 have e6:dW x.tree (0:Nat) =0:=by
  unfold dW;rw[e5,c1];rfl
 refine⟨e6,?_,?_,?_,?_⟩
 . unfold bJ;rw[if_pos e1,a3,Nc h.t.1 h.t.2]
 . unfold cU;rw[if_pos e4,e2.2]
 . unfold bM;rw[if_pos e5,e3.2]
 . unfold gu;rw[if_pos e6,c3]
theorem cC.Ok.kind:gP x.tree (0:Nat) =0/\gp x.tree (0:Nat) =x.kd:=by
 obtain⟨c1,c2,c3⟩:=h.opt (k:=cJ) (s:=iH x.kd) (fun q=>ns.2 (.inr (.inr (.inr (.inl (in_X q)))))) no_K;unfold gP gp;rw[c1,c2,c3];rcases h.kd with q|q|q|q|q<;>rw[q]<;>exact⟨rfl,rfl⟩
omit h in
theorem DD{u:Int} (h:(bE u).1=0):0<=u/\u<=9223372036854775/\bE u=(0,u*1000):=by
 unfold bE at h⊢;split at h
 . exact absurd h (by decide)
 . rename_i q;rw[if_neg q];exact⟨by omega,by omega,rfl⟩
omit h in
theorem DT{b d:Int} (h:(dn b d).1=0):(0<=b/\b<=9223372036854775)/\(0<=d/\d<=9223372036854775)/\b*1000+d*1000<=9223372036854775807/\dn b d=(0,b*1000,b*1000+d*1000):=by
 unfold dn at h⊢;split at h
 . exact absurd h (by decide)
 . rename_i q;rw[if_neg q];simp only[not_or,Decidable.not_not] at q;obtain⟨b1,b2,b3⟩:=DD q.1;obtain⟨d1,d2,d3⟩:=DD q.2.1;have:=q.2.2;rw[b3,d3] at this;rw[b3,d3];dsimp only at this⊢;exact⟨⟨b1,b2⟩,⟨d1,d2⟩,by omega,rfl⟩
theorem cC.Ok.when:gO x.tree (0:Nat) =0/\dm x.tree (0:Nat) =dn x.b x.d:=by
 obtain⟨⟨b1,b2⟩,⟨d1,d2⟩,_⟩:=DT h.bd;obtain⟨a1,a2,a3⟩:=GS (key:=bz) (n:=x.b) x.lj h.tt (nu x) (ns.2 (.inr (.inr (.inr (.inr (.inl List.mem_cons_self)))))) b1 (by omega);obtain⟨c1,c2,c3⟩:=GS (key:=eP) (n:=x.d) x.lj h.tt (nu x) (ns.2 (.inr (.inr (.inr (.inr (.inl (d5 _ List.mem_cons_self))))))) d1 (by omega);have e:dm x.tree (0:Nat) =dn x.b x.d:=by
  unfold dm;rw[a3,c3]
 unfold gO;rw[e,a1,c1,h.bd];exact⟨rfl,rfl⟩
theorem cC.Ok.local:er x.tree (0:Nat) c5=0/\cV x.tree (0:Nat) c5=x.svc:=
 h.end h.svc.1 (fun q=>ns.2 (.inr (.inr (.inr (.inr (.inr (.inl (in_E q)))))))) no_L
theorem cC.Ok.Me:er x.tree (0:Nat) ff=0/\cV x.tree (0:Nat) ff=bf x.att bU:=
 h.end h.ao.zV.1 (fun q=>ns.2 (.inr (.inr (.inr (.inr (.inr (.inr (.inl (in_E q))))))))) no_R
end
theorem L8{α β:Type} (F:Nat->α) (g:β->It) (G:β->α):∀(es:List β) (a:Nat),(∀l1 e l2,es=l1++e::l2->F (a+(aJ (l1.map g)).length) =G e)->(oF a (es.map g)).map F=es.map G
 |[],_,_=>rfl
 |e::r,a,h=>by
   have h0:=h [] e r rfl;have ih:=L8 F g G r (a+(g e).1.length) fun l1 y l2 q=>by
    have:=h (e::l1) y l2 (by rw[q];rfl);rw[List.map_cons] at this;rw[<-this];show _=F (a+((g e).1++aJ (l1.map g)).length);rw[an,Nat.add_assoc]
   rw[List.map_cons,List.map_cons,oF,List.map_cons,ih];exact congrArg (·::_) h0
theorem eB.map{α β:Type} {L:List Nd} {j:Nat} {N:Nd} {t:Ky} {g:β->It} {es:List β} (h:eB L j (N::aJ (es.map g),t)) {F:Nat->α} {G:β->α} (hF:∀k e,e∈es->eB L k (g e)->F k=G e):(oF (j+1) (es.map g)).map F=es.map G:=
 L8 F g G es (j+1) fun l1 e l2 q=>hF _ e (by rw[q];simp) (h.sub (l1:=l1.map g) (l2:=l2.map g) (by rw[q];simp))
theorem IT(a b:Int):(if a≠0 then a else if b≠0 then b else 0) =if a≠0 then a else b:=by
 by_cases h:b=0
 . subst h;simp
 . rw[if_pos (show b≠0 from h)]
theorem CA(L:List Nd):∀ks:List Nat,gF L ks=cr (ks.map (dv L))
 |[]=>rfl
 |k::r=>by rw[gF,CA L r,List.map_cons,dO,dO,dO,mI];exact IT _ _
theorem G9(L:List Nd):∀ks:List Nat,jl L ks=cr (ks.map (jv L))
 |[]=>rfl
 |k::r=>by rw[jl,G9 L r,List.map_cons,dO,dO,dO,mI];exact IT _ _
theorem CS{α:Type}:∀l:List α,cr (l.map fun _=>(0:Int)) =0
 |[]=>rfl
 |_::r=>by rw[List.map_cons,dO,if_neg (fun q=>q rfl),CS r]
theorem Ik{L:List Nd} {k:Nat} {e:Ev} (h:rh e) (hk:eB L k (qv e)):dv L k=0/\pK L k=e:=by
 obtain⟨u,hu,u0,u1⟩:=h.t;have hm:ga e.time=u:=by unfold ga;rw[hu];omega
 have hn:=hk.nd (by show 1<=(_::_:List Nd).length;simp);have ht:∀y∈[iN bz (ga e.time),iS fY e.name],TT 0 y.1 y.2:=fun y hy=>by
  rcases List.mem_cons.1 hy with rfl|hy
  . exact Bz
  . rw[List.mem_singleton.1 hy];exact oH h.n.1
 have hd:([iN bz (ga e.time),iS fY e.name].map aS).Nodup:=by show([bz,fY]:List Ky).Nodup;decide
 obtain⟨a1,a2,a3⟩:=GS hk ht hd List.mem_cons_self (by omega) (by omega);obtain⟨b1,b2,b3⟩:=vw hk ht hd (d5 _ List.mem_cons_self);unfold dv pK;rw[a1,a2,a3,b1,b2,b3,hn.1,hm];have q:bE u=(0,u*1000):=if_neg (by omega);rw[q];refine⟨rfl,?_⟩;have ha:=h.a;obtain⟨e1,e2,e3⟩:=e;dsimp only at hu ha⊢;rw[hu,ha]
section
variable {x:cC} (h:x.Ok)
include h
theorem cC.Ok.events:jd x.tree (0:Nat) =0/\fR x.tree (0:Nat) =x.evs:=by
 unfold jd fR;by_cases q:x.evs=[]
 . obtain⟨a,b⟩:=ZS x.lj h.tt (no_A q);rw[a,b,q];exact⟨rfl,rfl⟩
 . obtain⟨j,g,a,b⟩:=ZT (e:=1) (m:=x.evs.map qv) x.lj h.tt (nu x) (ns.2 (.inr (.inr (.inr (.inr (.inr (.inr (.inr (.inl (by unfold iA;rw[if_neg q];exact List.mem_cons_self))))))))))
     (fun y hy=>by
      obtain⟨e,he,rfl⟩:=List.mem_map.1 hy;exact Nn (h.ev e he))
   rw[a,b,CA,g.map (G:=fun _=>(0:Int)) fun k e he hk=>(Ik (h.ev e he) hk).1,g.map (G:=id) fun k e he hk=>(Ik (h.ev e he) hk).2,CS,List.map_id];exact⟨rfl,rfl⟩
theorem cC.Ok.vg:jc x.tree (0:Nat) =0/\bm x.tree (0:Nat) =x.tags:=by
 obtain⟨c1,c2⟩:=h.ao.c;unfold jc bm nL;by_cases q:x.tags=[]
 . obtain⟨a,b⟩:=O4 x.lj h.tt (no_T q);rw[a,b,q];exact⟨rfl,by simp[cS]⟩
 . obtain⟨j,g,a,b,c⟩:=O5 (m:=x.tags.map (uc x.tags)) x.lj h.tt (nu x) (ns.2 (.inr (.inr (.inr (.inr (.inr (.inr (.inr (.inr (by unfold iT;rw[if_neg q];exact List.mem_cons_self))))))))));have hk:=g.kids (d:=0) (fun y hy=>by
    obtain⟨e,he,rfl⟩:=List.mem_map.1 hy;exact oH (qZ c1 c2 he).2.2.1) rfl
   have hn:∀k e,eB x.tree k (uc x.tags e)->x.tree.getD k default=⟨115,e.key,bf x.tags e.key,1⟩:=fun k e hk=>(hk.nd (cb _)).1;rw[a,b,if_pos rfl,c,hk,G9,g.map (G:=fun _=>(0:Int)) fun k e he hk=>by unfold jv;rw[hn k e hk];rfl,
    g.map (G:=id) fun k e he hk=>by unfold jg;rw[hn k e hk];exact(qZ c1 c2 he).1]
   rw[CS,List.map_id,ON (l:=x.tags) c2 c1];exact⟨rfl,rfl⟩
theorem cC.Ok.back:zE x.tree (0:Nat) =0/\dk x.tree (0:Nat) =x.att:=by
 obtain⟨g1,g2⟩:=h.vg;refine⟨?_,?_⟩
 . unfold zE;rw[h.names.1,h.kind.1,h.when.1,h.local.1,h.Me.1,h.events.1,g1,if_pos ⟨Int.le_refl 0,by unfold cC.tree iO;simp,rfl⟩];rfl
 . unfold dk;rw[g2,h.Me.2,show dy x.tags [cA,dz]=ew x.att from h.ao.drop];exact h.ao.peer
end
end Go.Proofs.YtchllohbglebiaaGreatDoor
