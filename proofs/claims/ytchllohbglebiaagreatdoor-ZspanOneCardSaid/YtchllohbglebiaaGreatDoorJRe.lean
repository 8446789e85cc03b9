/-
  A part of the proof.
-/
import Derived.Test.YtchllohbglebiaaGreatDoorJSt
import Derived.Test.YtchllohbglebiaaGreatDoorZSb
set_option linter.unusedSimpArgs false
set_option linter.unusedVariables false
set_option maxHeartbeats 4000000
set_option maxRecDepth 100000
namespace Go.Proofs.YtchllohbglebiaaGreatDoor
open Go Go.VG
def Cu.ai(c:Cu):gA:=c.s.take c.e
theorem jf{c:Cu} (h0:c.c=0) (h:c.p<c.e):c.byte={c with p:=c.p+1}/\c.aw=c.ai.getD c.p 0:=by
 refine⟨?_,?_⟩
 . unfold Cu.byte Cu.pass;rw[if_neg (by omega),if_neg (by omega),if_neg (by omega)];rfl
 . unfold Cu.aw Cu.ai;rw[if_pos ⟨h0,h⟩,getD_take h];rfl
theorem ru{c:Cu} (h0:c.c=0) (h:c.p=c.e):c.byte={c with c:=1}/\c.aw=0:=by
 refine⟨?_,?_⟩
 . unfold Cu.byte Cu.pass;rw[if_neg (by omega),if_neg (by omega),if_pos (by omega)]
 . unfold Cu.aw;rw[if_neg (by omega)]
theorem tk{c:Cu} (h0:c.c≠0):c.byte=c/\c.aw=0:=by
 refine⟨?_,?_⟩
 . unfold Cu.byte Cu.pass;rw[if_pos h0]
 . unfold Cu.aw;rw[if_neg (by omega)]
theorem jJ{c:Cu} (k:Int) (h:c.c=0):c.fail k={c with c:=k}:=by unfold Cu.fail;rw[if_pos h]
theorem oY{c:Cu} (k:Int) (h:c.c≠0):c.fail k=c:=by unfold Cu.fail;rw[if_neg h]
theorem ja{c:Cu} (h:c.ok):c.ai.length=c.e:=by have:=h.2;unfold Cu.ai;rw[d8];omega
theorem Tg{c:Cu} (h0:c.c=0) (h:c.p=c.e):c.j4.c=1:=by
 obtain⟨b1,b2⟩:=ru h0 h;unfold Cu.j4;rw[b2,if_neg (by decide),b1,oY _ (by show(1:Int)≠0;decide)]
structure On(c d:Cu) (n:Nat):Prop where
 s:d.s=c.s
 e:d.e=c.e
 c0:d.c=0
 p:d.p=c.p+n
theorem On.trans{c d f:Cu} {n m:Nat} (h:On c d n) (k:On d f m):On c f (n+m):=⟨k.s.trans h.s,k.e.trans h.e,k.c0,by rw[k.p,h.p];omega⟩
theorem On.ai{c d:Cu} {n:Nat} (h:On c d n):d.ai=c.ai:=by unfold Cu.ai;rw[h.s,h.e]
theorem On.byte{c:Cu} (h0:c.c=0) (h:c.p<c.e):On c c.byte 1:=by rw[(jf h0 h).1];exact⟨rfl,rfl,h0,rfl⟩
theorem CR:∀(k:Nat) (c:Cu) (u:Int),c.ok->c.c=0->
   ((cI c.ai k c.p u).2=0->On c (fW k c u).1 k/\(fW k c u).2=(cI c.ai k c.p u).1)/\
   ((cI c.ai k c.p u).2≠0->(fW k c u).1.c=(cI c.ai k c.p u).2/\(fW k c u).2=0)
 |0,c,u,h,h0=>by
   rw[cI,fW];exact⟨fun _=>⟨⟨rfl,rfl,h0,rfl⟩,rfl⟩,fun k=>absurd rfl k⟩
 |k+1,c,u,h,h0=>by
   have hl:=ja h;rw[cI,fW];by_cases hp:c.p=c.e
   . have he:=Tg h0 hp;rw[if_pos (by omega),if_pos (by omega)];exact⟨fun k=>absurd k (by simp),fun _=>⟨he,rfl⟩⟩
   . have hlt:c.p<c.e:=by have:=h.1;omega
     obtain⟨b1,b2⟩:=jf h0 hlt;rw[if_neg (by omega)];by_cases hn:eQ (fj (c.ai.getD c.p 0)) =true
     . have hx:c.j4=c.byte:=by unfold Cu.j4;rw[b2,if_pos hn]
       have hv:c.od=di (fj (c.ai.getD c.p 0)):=by unfold Cu.od;rw[b2]
       have hon:=On.byte h0 hlt;rw[if_pos hn,hx,if_neg (by rw[hon.c0];simp),hv];have ih:=CR k c.byte (16*u+di (fj (c.ai.getD c.p 0))) (gY h) hon.c0;rw[hon.ai,hon.p] at ih;refine⟨fun q=>?_,ih.2⟩;obtain⟨i1,i2⟩:=ih.1 q;have:=hon.trans i1;rw[Nat.add_comm 1 k] at this;exact⟨this,i2⟩
     . have hx:c.j4.c=6:=by
         unfold Cu.j4;rw[b2,if_neg hn,jJ _ (On.byte h0 hlt).c0]
       rw[if_neg hn,if_pos (by omega)];exact⟨fun k=>absurd k (by simp),fun _=>⟨hx,rfl⟩⟩
theorem La{c:Cu} (b:UInt8) (h:c.c≠0):c.dF b=c:=by
 obtain⟨b1,b2⟩:=tk h;unfold Cu.dF;rw[b1];split
 . rfl
 . exact oY _ h
theorem Th{c:Cu} (h:c.c≠0):c.j4=c:=by
 obtain⟨b1,b2⟩:=tk h;unfold Cu.j4;rw[b1,oY _ h];split<;>rfl
theorem SU{c:Cu} (h:c.c≠0):c.four=(c,0):=by
 unfold Cu.four;rw[fW,Th h,if_pos h]
theorem L9{c:Cu} (b:UInt8) (h0:c.c=0) (h:c.p=c.e) (hb:b.toNat≠0):(c.dF b).c=1:=by
 obtain⟨b1,b2⟩:=ru h0 h;unfold Cu.dF;rw[b2,if_neg (by show¬0=b.toNat;omega),b1,oY _ (by show(1:Int)≠0;decide)]
theorem Lc{c:Cu} (b:UInt8) (h0:c.c=0) (h:c.p<c.e) (hb:(c.ai.getD c.p 0).toNat≠b.toNat):(c.dF b).c=6:=by
 obtain⟨b1,b2⟩:=jf h0 h;unfold Cu.dF;rw[b2,if_neg hb,jJ _ (On.byte h0 h).c0]
theorem Ld{c:Cu} (b:UInt8) (h0:c.c=0) (h:c.p<c.e) (hb:(c.ai.getD c.p 0).toNat=b.toNat):On c (c.dF b) 1:=by
 obtain⟨b1,b2⟩:=jf h0 h;unfold Cu.dF;rw[b2,if_pos hb];exact On.byte h0 h
def Cu.two(c:Cu):Cu:=(c.dF 92).dF 117
theorem Zb{c:Cu} (hk:c.ok) (h0:c.c=0) (n:Int) (hn:55296<=n/\n<=56319):
   ((jz c.ai c.p n).2.2=0->On c c.two.four.1 6/\56320<=c.two.four.2/\c.two.four.2<=57343/\jz c.ai c.p n=(cN (65536+1024*(n-55296)+c.two.four.2-56320),(c.p:Int)+6,0))/\
   ((jz c.ai c.p n).2.2≠0->(c.two.four.2<56320\/57344<=c.two.four.2)/\(c.two.four.1.fail 6).c=(jz c.ai c.p n).2.2):=by
 have hl:=ja hk;have h1:=hk.1;have bad:∀x:Int,x≠0->c.two.c=x->(c.two.four.2<56320\/57344<=c.two.four.2)/\(c.two.four.1.fail 6).c=x:=fun x hx hc=>by
  have hne:c.two.c≠0:=by rw[hc];exact hx
  rw[SU hne];exact⟨.inl (by show(0:Int)<56320;decide),by show(c.two.fail 6).c=x;rw[oY _ hne,hc]⟩
 unfold jz;by_cases a:c.p=c.e
 . rw[if_pos (by omega)];refine⟨fun k=>absurd k (by simp),fun _=>bad 1 (by decide) ?_⟩;have:=L9 92 h0 a (by decide);unfold Cu.two;rw[La _ (by omega)];exact this
 have a':c.p<c.e:=by omega
 rw[if_neg (by omega)];by_cases b:(c.ai.getD c.p 0).toNat≠92
 . rw[if_pos b];refine⟨fun k=>absurd k (by simp),fun _=>bad 6 (by decide) ?_⟩;have:=Lc 92 h0 a' b;unfold Cu.two;rw[La _ (by omega)];exact this
 have on1:=Ld 92 h0 a' (by show _=92;omega);rw[if_neg b];have hk1:=uv hk 92;by_cases d:c.ai.length<=c.p+1
 . rw[if_pos d];refine⟨fun k=>absurd k (by simp),fun _=>bad 1 (by decide) ?_⟩;exact L9 117 on1.c0 (by rw[on1.p,on1.e];omega) (by decide)
 rw[if_neg d];have a2:(c.dF 92).p<(c.dF 92).e:=by rw[on1.p,on1.e];omega
 by_cases f:(c.ai.getD (c.p+1) 0).toNat≠117
 . rw[if_pos f];refine⟨fun k=>absurd k (by simp),fun _=>bad 6 (by decide) ?_⟩;exact Lc 117 on1.c0 a2 (by rw[on1.ai,on1.p];exact f)
 rw[if_neg f];have on2:On c c.two 2:=on1.trans (Ld 117 on1.c0 a2 (by rw[on1.ai,on1.p];show _=117;omega));have hk2:=uv hk1 117;have fe:=CR 4 c.two 0 hk2 on2.c0;rw[on2.ai,on2.p] at fe;have fe:((cI c.ai 4 (c.p+2) 0).2=0->On c.two c.two.four.1 4/\c.two.four.2=(cI c.ai 4 (c.p+2) 0).1)/\((cI c.ai 4 (c.p+2) 0).2≠0->c.two.four.1.c=(cI c.ai 4 (c.p+2) 0).2/\c.two.four.2=0):=fe;by_cases g:(cI c.ai 4 (c.p+2) 0).2≠0
 . rw[if_pos g];obtain⟨q1,q2⟩:=fe.2 g;exact⟨fun k=>absurd k g,fun _=>⟨.inl (by rw[q2];decide),by rw[oY _ (by rw[q1];exact g),q1]⟩⟩
 rw[if_neg g];obtain⟨q1,q2⟩:=fe.1 (by omega);rw[<-q2];by_cases m:c.two.four.2<56320\/57343<c.two.four.2
 . rw[if_pos m];exact⟨fun k=>absurd k (by simp),fun _=>⟨by omega,by rw[jJ _ q1.c0]⟩⟩
 . rw[if_neg m];exact⟨fun _=>⟨on2.trans q1,by omega,by omega,rfl⟩,fun k=>absurd rfl k⟩
theorem W8(c:Cu):c.number=if c.four.2<55296\/57344<=c.four.2 then c.four
 else if 56320<=c.four.2 then(c.four.1.fail 6,0)
 else if c.four.1.two.four.2<56320\/57344<=c.four.1.two.four.2 then(c.four.1.two.four.1.fail 6,0)
 else(c.four.1.two.four.1,65536+(c.four.2-55296)*1024+(c.four.1.two.four.2-56320)):=rfl
theorem Pl{c:Cu} (hk:c.ok) (h0:c.c=0):
   ((i7 c.ai c.p).2.2=0->∃n,On c c.fV n/\(i7 c.ai c.p).2.1=((c.p+n:Nat):Int)/\c.jX=(i7 c.ai c.p).1)/\
   ((i7 c.ai c.p).2.2≠0->c.fV.c=(i7 c.ai c.p).2.2):=by
 have hl:=ja hk;have h1:=hk.1;unfold i7;by_cases a:c.p=c.e
 . obtain⟨b1,b2⟩:=ru h0 a;rw[if_pos (by omega)];refine⟨fun k=>absurd k (by simp),fun _=>?_⟩;unfold Cu.fV;rw[b2,if_neg (by decide),if_neg (by decide),b1,oY _ (by show(1:Int)≠0;decide)]
 have a':c.p<c.e:=by omega
 obtain⟨b1,b2⟩:=jf h0 a';have on1:=On.byte h0 a';rw[if_neg (by omega)];by_cases b:(c.ai.getD c.p 0).toNat≠117
 . rw[if_pos b];by_cases p:lL (c.ai.getD c.p 0) =true
   . rw[if_pos p];refine⟨fun _=>⟨1,?_,rfl,?_⟩,fun k=>absurd rfl k⟩
     . unfold Cu.fV;rw[b2,if_neg b,if_pos p];exact on1
     . unfold Cu.jX pA;rw[b2,if_neg b,if_pos p]
   . rw[if_neg p];refine⟨fun k=>absurd k (by simp),fun _=>?_⟩;unfold Cu.fV;rw[b2,if_neg b,if_neg p,jJ _ on1.c0]
 rw[if_neg b];have hb:(c.ai.getD c.p 0).toNat=117:=by omega
 have hk1:=gY hk;have hC:c.fV=c.byte.number.1:=by unfold Cu.fV;rw[b2,if_pos hb]
 have hO:c.jX=if c.byte.number.1.c=0 then cN c.byte.number.2 else[]:=by unfold Cu.jX;rw[b2,if_pos hb]
 have fe:((cI c.byte.ai 4 c.byte.p 0).2=0->On c.byte c.byte.four.1 4/\c.byte.four.2=(cI c.byte.ai 4 c.byte.p 0).1)/\((cI c.byte.ai 4 c.byte.p 0).2≠0->c.byte.four.1.c=(cI c.byte.ai 4 c.byte.p 0).2/\c.byte.four.2=0):=CR 4 c.byte 0 hk1 on1.c0;rw[on1.ai,on1.p] at fe;rw[hC,hO,W8];by_cases g:(cI c.ai 4 (c.p+1) 0).2≠0
 . rw[if_pos g];obtain⟨q1,q2⟩:=fe.2 g;refine⟨fun k=>absurd k g,fun _=>?_⟩;rw[if_pos (.inl (by rw[q2];decide)),q1]
 rw[if_neg g];obtain⟨q1,q2⟩:=fe.1 (by omega);have on5:=on1.trans q1;rw[<-q2];by_cases m1:55296<=c.byte.four.2/\c.byte.four.2<=56319
 . rw[if_pos m1,if_neg (by omega),if_neg (by omega)];have te:=Zb (yW hk1) q1.c0 c.byte.four.2 m1;rw[on5.ai,on5.p] at te;have te:((jz c.ai (c.p+5) c.byte.four.2).2.2=0->On c.byte.four.1 c.byte.four.1.two.four.1 6/\56320<=c.byte.four.1.two.four.2/\c.byte.four.1.two.four.2<=57343/\jz c.ai (c.p+5) c.byte.four.2=(cN (65536+1024*(c.byte.four.2-55296)+c.byte.four.1.two.four.2-56320),((c.p+5:Nat):Int)+6,0))/\
    ((jz c.ai (c.p+5) c.byte.four.2).2.2≠0->(c.byte.four.1.two.four.2<56320\/57344<=c.byte.four.1.two.four.2)/\(c.byte.four.1.two.four.1.fail 6).c=(jz c.ai (c.p+5) c.byte.four.2).2.2):=te
   refine⟨fun k=>?_,fun k=>?_⟩
   . obtain⟨t1,t2,t3,t4⟩:=te.1 k;rw[if_neg (by omega)];refine⟨11,on5.trans t1,?_,?_⟩
     . rw[t4];show((c.p+5:Nat):Int)+6=_;omega
     . rw[t4,if_pos t1.c0];show cN _=cN _
       congr 1;omega
   . obtain⟨t1,t2⟩:=te.2 k;rw[if_pos t1];exact t2
 . rw[if_neg m1];by_cases m2:56320<=c.byte.four.2/\c.byte.four.2<=57343
   . rw[if_pos m2,if_neg (by omega),if_pos m2.1];refine⟨fun k=>absurd k (by simp),fun _=>?_⟩;show(c.byte.four.1.fail 6).c=6;rw[jJ _ q1.c0]
   . rw[if_neg m2,if_pos (by omega)];exact⟨fun _=>⟨5,on5,by show(c.p:Int)+5=_;omega,by rw[if_pos q1.c0]⟩,fun k=>absurd rfl k⟩
theorem M8:∀(k:Nat) (c:Cu) (s:gA),c.ok->c.c=0->∃j,j<=k/\On c (eI k c s).1 j/\(eI k c s).2=s++(c.ai.drop c.p).take j/\(∀i,i<j->cont (c.ai.getD (c.p+i) 0) =true)/\
   c.p+j<=c.e/\(j=k\/c.p+j=c.e\/cont (c.ai.getD (c.p+j) 0) =false)
 |0,c,s,h,h0=>by
   rw[eI];exact⟨0,cb _,⟨rfl,rfl,h0,rfl⟩,by simp,by omega,by have:=h.1;omega,.inl rfl⟩
 |k+1,c,s,h,h0=>by
   rw[eI];by_cases hp:c.p<c.e
   . obtain⟨b1,b2⟩:=jf h0 hp;have hl:=ja h;by_cases hc:cont (c.ai.getD c.p 0) =true
     . rw[if_pos ⟨h0,hp,by rw[b2];exact hc⟩];have on1:=On.byte h0 hp;obtain⟨j,q1,q2,q3,q4,q5,q6⟩:=M8 k c.byte (s++[c.aw]) (gY h) on1.c0;rw[on1.ai,on1.p] at q3 q4 q6;rw[on1.p,on1.e] at q5;rw[on1.e] at q6;refine⟨j+1,by omega,?_,?_,fun i hi=>?_,by omega,?_⟩
       . have:=on1.trans q2;rw[Nat.add_comm 1 j] at this;exact this
       . rw[q3,b2,eg]
         congr 1
         rw[List.drop_eq_getElem_cons (show c.p<c.ai.length by omega),List.take_succ_cons,ac,am (show c.p<c.ai.length by omega)];rfl
       . cases i with
         |zero=>exact hc
         |succ i=>rw[show c.p+(i+1) =c.p+1+i by omega];exact q4 i (by omega)
       . rw[show c.p+(j+1) =c.p+1+j by omega];rcases q6 with q6|q6|q6
         . exact .inl (by omega)
         . exact .inr (.inl q6)
         . exact .inr (.inr q6)
     . rw[if_neg (by rw[b2];exact fun h=>hc h.2.2)];refine⟨0,by omega,⟨rfl,rfl,h0,rfl⟩,by simp,by omega,by omega,.inr (.inr ?_)⟩;cases hq:cont (c.ai.getD (c.p+0) 0) with
       |false=>rfl
       |true=>exact absurd hq hc
   . rw[if_neg (by omega)];have:=h.1;exact⟨0,by omega,⟨rfl,rfl,h0,rfl⟩,by simp,by omega,by omega,.inr (.inl (by omega))⟩
theorem J8(x:gA) (m:Nat):∀r i a,i+r<=m->m<=x.length->iM (x.take m) r i a=iM x r i a
 |0,_,_,_,_=>rfl
 |r+1,i,a,h,hm=>by
   simp only[iM];rw[getD_take (by omega),J8 x m r (i+1) _ (by omega) hm]
theorem J5(x:gA):∀r i a,iM x r i a≠none->∀j,i<=j->j<i+r->cont (x.getD j 0) =true
 |0,_,_,_,_,_,_=>by omega
 |r+1,i,a,h,j,h1,h2=>by
   simp only[iM] at h;by_cases hc:cont (x.getD i 0) =true
   . rw[if_pos hc] at h;by_cases e:j=i
     . subst e;exact hc
     . exact J5 x r (i+1) _ h j (by omega) (by omega)
   . rw[if_neg hc] at h;exact absurd rfl h
theorem Zi(n:Nat) (o:Option Nat):(pF n o).2=0\/((pF n o).2=n/\o≠none):=by
 cases o with
 |none=>exact .inl rfl
 |some r=>
   rw[BE];repeat' split
   . exact .inl rfl
   . exact .inr ⟨rfl,by simp⟩
   . exact .inl rfl
theorem Aq(x:gA) (hx:0<x.length):(ez x 0).2=0\/((ez x 0).2=bg (x.getD 0 0).toNat/\1<=bg (x.getD 0 0).toNat/\bg (x.getD 0 0).toNat<=x.length/\∀j,1<=j->j<bg (x.getD 0 0).toNat->cont (x.getD j 0) =true):=by
 unfold ez;rw[if_neg (by omega)];split
 . exact .inl rfl
 split
 . exact .inl rfl
 split
 . rename_i h1 h2 h3;exact .inr ⟨h3.symm,by omega,by omega,by omega⟩
 . rename_i h1 h2 h3;rcases Zi (bg (x.getD 0 0).toNat) (iM x (bg (x.getD 0 0).toNat-1) (0+1) ((x.getD 0 0).toNat%2^(7-bg (x.getD 0 0).toNat))) with h|⟨h,k⟩
   . exact .inl h
   . exact .inr ⟨h,by omega,by omega,fun j a b=>J5 x _ _ _ k j a (by omega)⟩
theorem Ar(x:gA) (m:Nat) (hm:bg (x.getD 0 0).toNat<=m) (h1:1<=m) (hx:m<=x.length):ez (x.take m) 0=ez x 0:=by
 have e:(x.take m).getD 0 0=x.getD 0 0:=getD_take (by omega);have l:(x.take m).length=m:=by rw[d8];omega
 unfold ez;rw[e,l,if_neg (show¬m<=0 by omega),if_neg (show¬x.length<=0 by omega)];by_cases a:bg (x.getD 0 0).toNat=0
 . rw[if_pos a,if_pos a]
 . rw[if_neg a,if_neg a,if_neg (show¬m<0+bg (x.getD 0 0).toNat by omega),if_neg (show¬x.length<0+bg (x.getD 0 0).toNat by omega),J8 x m _ _ _ (by omega) hx]
theorem OR{s:gA} (hs:0<s.length) (h:(bW s 0).2=0):oJ s=0:=by
 have hw:mf s 0 0=(0,0):=by rw[mf,if_neg (by omega),dif_pos h]
 unfold oJ;rw[hw,if_neg (show¬0=s.length by omega)];rfl
theorem check_1{s:gA} (hs:0<s.length) (h:(bW s 0).2=s.length):oJ s=-1:=by
 have hw:mf s 0 0=(0+(bW s 0).2,0+1):=by
  rw[mf,if_neg (by omega),dif_neg (by omega),mf,if_pos (by omega)]
 unfold oJ;rw[hw,if_pos (show 0+(bW s 0).2=s.length by omega)]
theorem YR{b:UInt8}:bg b.toNat=0\/dQ b+1=bg b.toNat:=by
 unfold bg dQ;repeat' split
 all_goals omega
theorem Xo{d:Cu} (hk:d.ok) (h0:d.c=0) (hp:d.p<d.e):
   ((bW d.ai d.p).2=0->(d.byte.iK (d.ai.getD d.p 0)).c=5)/\
   ((bW d.ai d.p).2≠0->On d (d.byte.iK (d.ai.getD d.p 0)) (bW d.ai d.p).2/\d.byte.kR (d.ai.getD d.p 0) =(d.ai.take (d.p+(bW d.ai d.p).2)).drop d.p):=by
 have hl:=ja hk;have on1:=On.byte h0 hp;have hxl:(d.ai.drop d.p).length=d.e-d.p:=by rw[d9,hl]
 have hx0:(d.ai.drop d.p).getD 0 0=d.ai.getD d.p 0:=by simp[ac,List.getElem?_drop]
 have hxc:d.ai.drop d.p=d.ai.getD d.p 0::d.ai.drop (d.p+1):=by
  rw[List.drop_eq_getElem_cons (show d.p<d.ai.length by omega),ac,am (show d.p<d.ai.length by omega)];rfl
 have hu:bW d.ai d.p=ez (d.ai.drop d.p) 0:=by rw[As,if_neg (by omega),oB]
 obtain⟨j,q1,q2,q3,q4,q5,q6⟩:=M8 (dQ (d.ai.getD d.p 0)) d.byte [d.ai.getD d.p 0] (gY hk) on1.c0;rw[on1.ai,on1.p] at q3 q4 q6;rw[on1.p,on1.e] at q5;rw[on1.e] at q6;have hS:(eI (dQ (d.ai.getD d.p 0)) d.byte [d.ai.getD d.p 0]).2=(d.ai.drop d.p).take (j+1):=by
  rw[q3,hxc,List.take_succ_cons];rfl
 have hSl:((d.ai.drop d.p).take (j+1)).length=j+1:=by rw[d8,hxl];omega
 have hS0:((d.ai.drop d.p).take (j+1)).getD 0 0=d.ai.getD d.p 0:=by rw[getD_take (by omega),hx0]
 rw[hu];unfold Cu.iK Cu.kR;rw[hS];refine⟨fun hn=>?_,fun hn=>?_⟩
 . have hz:(bW ((d.ai.drop d.p).take (j+1)) 0).2=0:=by
     rw[<-oB];rcases Aq ((d.ai.drop d.p).take (j+1)) (by omega) with h|⟨h1,h2,h3,h4⟩
     . exact h
     . rw[hS0] at h1 h2 h3;rw[Ar _ (j+1) (by rw[hx0];omega) (by omega) (by omega)];exact hn
   rw[OR (by omega) hz,if_pos (by decide),jJ _ q2.c0]
 . rcases Aq (d.ai.drop d.p) (by omega) with h|⟨h1,h2,h3,h4⟩
   . exact absurd h hn
   . rw[hx0] at h1 h2 h3 h4;have ht:=YR (b:=d.ai.getD d.p 0);have hj:j+1=bg (d.ai.getD d.p 0).toNat:=by
      rcases q6 with q6|q6|q6
      . omega
      . omega
      . by_cases e:j+1=bg (d.ai.getD d.p 0).toNat
        . exact e
        . exfalso;have:=h4 (j+1) (by omega) (by omega);rw[show(d.ai.drop d.p).getD (j+1) 0=d.ai.getD (d.p+1+j) 0 by
           rw[ac,ac,List.getElem?_drop,show d.p+(j+1) =d.p+1+j by omega],q6] at this
          cases this
     have hz:(bW ((d.ai.drop d.p).take (j+1)) 0).2=((d.ai.drop d.p).take (j+1)).length:=by
      rw[<-oB,Ar _ (j+1) (by rw[hx0];omega) (by omega) (by omega),h1,hSl,hj]
     rw[check_1 (by omega) hz,if_neg (by decide),if_neg (by decide),h1,<-hj];refine⟨?_,?_⟩
     . have:=on1.trans q2;rw[Nat.add_comm 1 j] at this;exact this
     . rw[List.drop_take,show d.p+(j+1)-d.p=j+1 by omega]
theorem sC{n:Nat} {c:Cu} {o:gA} (hn:0<n) (h:c.c≠0):jC n c o=(c,[]):=by
 cases n with
 |zero=>omega
 |succ n=>rw[jC,if_pos h]
def yb(d:Cu) (P:Cu×gA) (R:Int×Nat×gA):Prop:=
 (R.1=0->P.1.c=0/\P.1.p=R.2.1/\P.2=R.2.2/\P.1.s=d.s/\P.1.e=d.e)/\(R.1≠0->P.1.c=R.1/\P.2=[])
theorem go_eq:∀(n m:Nat) (d:Cu) (o:gA),d.ok->d.c=0->d.mu<n->d.ai.length-d.p+1<=m->yb d (jC n d o) (dI d.ai m d.p o)
 |0,_,_,_,_,_,h,_=>by omega
 |n+1,0,_,_,_,_,_,h=>by omega
 |n+1,m+1,d,o,hk,h0,hn,hm=>by
   have hl:=ja hk;have h1:=hk.1;have hmu:d.mu=d.e-d.p+1:=by unfold Cu.mu;rw[if_neg (by omega)]
   rw[jC,dI,if_neg (by omega)];by_cases a:d.p=d.e
   . obtain⟨b1,b2⟩:=ru h0 a;have hc:d.byte.c=1:=by rw[b1]
     rw[if_pos (by omega),if_pos (by omega),sC (by omega) (by omega)];exact⟨fun k=>absurd k (by decide),fun _=>⟨hc,rfl⟩⟩
   have a':d.p<d.e:=by omega
   obtain⟨b1,b2⟩:=jf h0 a';have on1:=On.byte h0 a';have hkb:=gY hk;rw[if_neg (show¬d.byte.c≠0 by rw[on1.c0];decide),if_neg (show¬d.ai.length<=d.p by omega),b2];by_cases q34:(d.ai.getD d.p 0).toNat=34
   . rw[if_pos q34,if_pos q34];exact⟨fun _=>⟨on1.c0,on1.p,rfl,on1.s,on1.e⟩,fun k=>absurd rfl k⟩
   rw[if_neg q34,if_neg q34];by_cases q32:(d.ai.getD d.p 0).toNat<32
   . have hp:da d.ai d.p=([],0,3):=by unfold da;rw[if_neg (by omega),if_pos q32]
     have hc:(d.byte.fail 3).c=3:=by rw[jJ _ on1.c0]
     rw[if_pos q32,hp,if_pos (by decide),sC (by omega) (by omega)];exact⟨fun k=>absurd k (by decide),fun _=>⟨hc,rfl⟩⟩
   rw[if_neg q32];have step:∀(f:Cu) (k:Nat) (w:gA),On d f k->0<k->f.ok->yb d (jC n f (o++w)) (dI d.ai m (d.p+k) (o++w)):=fun f k w hf hk0 hfk=>by
    have hfm:f.mu=f.e-f.p+1:=by unfold Cu.mu;rw[if_neg (by have:=hf.c0;omega)]
    have ih:=go_eq n m f (o++w) hfk hf.c0 (by rw[hfm,hf.e,hf.p];omega) (by rw[hf.ai,hf.p];omega);rw[hf.ai,hf.p] at ih;exact⟨fun q=>by obtain⟨i1,i2,i3,i4,i5⟩:=ih.1 q;exact⟨i1,i2,i3,i4.trans hf.s,i5.trans hf.e⟩,ih.2⟩
   by_cases q92:(d.ai.getD d.p 0).toNat=92
   . have hp:da d.ai d.p=i7 d.ai (d.p+1):=by unfold da;rw[if_pos q92]
     have ee:=Pl hkb on1.c0;rw[on1.ai,on1.p] at ee;rw[if_pos q92,hp];by_cases e0:(i7 d.ai (d.p+1)).2.2≠0
     . have hc:=ee.2 e0;rw[if_pos e0,sC (by omega) (by rw[hc];exact e0)];exact⟨fun k=>absurd k e0,fun _=>⟨hc,rfl⟩⟩
     . rw[if_neg e0];obtain⟨k,r1,r2,r3⟩:=ee.1 (by omega);rw[r2,r3,Int.toNat_natCast];have:=step _ (1+k) (i7 d.ai (d.p+1)).1 (on1.trans r1) (by omega) (rE hkb);rw[<-Nat.add_assoc] at this;exact this
   . have ee:=Xo hk h0 a';rw[if_neg q92];by_cases e0:(bW d.ai d.p).2=0
     . have hp:da d.ai d.p=([],0,5):=by unfold da;rw[if_neg q92,if_neg q32,if_pos e0]
       have hc:=ee.1 e0;rw[hp,if_pos (by decide),sC (by omega) (by omega)];exact⟨fun k=>absurd k (by decide),fun _=>⟨hc,rfl⟩⟩
     . have hp:da d.ai d.p=((d.ai.take (d.p+(bW d.ai d.p).2)).drop d.p,((d.p+(bW d.ai d.p).2:Nat):Int),0):=by unfold da;rw[if_neg q92,if_neg q32,if_neg e0]
       obtain⟨r1,r2⟩:=ee.2 e0;rw[hp,if_neg (fun k=>k rfl),r2];exact step _ _ _ r1 (by omega) (sy hkb _)
theorem Xt{c:Cu} (hk:c.ok):c.read.2=c.jB.2/\c.read.1.c=c.jB.1.c/\(c.jB.1.c=0->c.read.1=c.jB.1):=by
 have h1:=hk.1;have hl:=ja hk;unfold Cu.read Cu.jB;by_cases a:c.c≠0
 . have hs:c.start=c:=by unfold Cu.start;rw[if_neg (by omega)]
   obtain⟨b1,_⟩:=tk a;rw[hs,b1,sC (by omega) a,if_pos a];exact⟨rfl,rfl,fun k=>absurd k a⟩
 have h0:c.c=0:=by omega
 rw[if_neg a];by_cases b:c.p=c.e
 . have hs:c.start=c:=by unfold Cu.start;rw[if_neg (by omega)]
   obtain⟨b1,_⟩:=ru h0 b;have hc:c.byte.c=1:=by rw[b1]
   rw[hs,sC (by omega) (by omega),if_pos b,jJ _ h0];exact⟨rfl,hc,fun k=>absurd k (by show(1:Int)≠0;decide)⟩
 have b':c.p<c.e:=by omega
 obtain⟨d1,d2⟩:=jf h0 b';have hg:c.get=c.ai.getD c.p 0:=by unfold Cu.ai;rw[getD_take b'];rfl
 rw[if_neg b];by_cases e:c.get.toNat≠34
 . have hs:c.start=c.fail 3:=by unfold Cu.start;rw[if_pos ⟨⟨h0,b'⟩,by rw[d2,<-hg];exact e⟩]
   have hf:(c.fail 3).c=3:=by rw[jJ _ h0]
   obtain⟨b1,_⟩:=tk (c:=c.fail 3) (by omega);rw[hs,b1,sC (by omega) (by omega),if_pos e];exact⟨rfl,rfl,fun k=>absurd (hf.symm.trans k) (by decide)⟩
 rw[if_neg e];have hs:c.start=c:=by unfold Cu.start;rw[if_neg (by rw[d2,<-hg];exact fun k=>k.2 (by omega))]
 have on1:=On.byte h0 b';rw[hs];have ge:=go_eq (c.byte.mu+1) (c.e-c.p) c.byte [] (gY hk) on1.c0 (by omega) (by rw[on1.ai,on1.p];omega);rw[on1.ai,on1.p] at ge;have ge:yb c.byte (jC (c.byte.mu+1) c.byte []) (dI (c.s.take c.e) (c.e-c.p) (c.p+1) []):=ge;by_cases r:(dI (c.s.take c.e) (c.e-c.p) (c.p+1) []).1=0
 . rw[if_pos r];obtain⟨g1,g2,g3,g4,g5⟩:=ge.1 r;refine⟨g3,g1.trans h0.symm,fun _=>?_⟩;generalize (jC (c.byte.mu+1) c.byte []).1=f at*;obtain⟨fs,fp,fe,fc⟩:=f;simp only at g1 g2 g4 g5;rw[g1,g2,g4,g5,on1.s,on1.e];obtain⟨cs,cp,ce,cc⟩:=c;simp only at h0;rw[h0]
 . rw[if_neg r,jJ _ h0];obtain⟨g1,g2⟩:=ge.2 r;exact⟨g2,g1,fun k=>absurd k r⟩
end Go.Proofs.YtchllohbglebiaaGreatDoor
