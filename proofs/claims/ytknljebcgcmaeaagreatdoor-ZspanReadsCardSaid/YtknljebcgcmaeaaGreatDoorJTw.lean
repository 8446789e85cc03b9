/-
  A part of the proof.
-/
import Derived.Test.YtknljebcgcmaeaaGreatDoorZSs
set_option linter.unusedSimpArgs false
set_option linter.unusedVariables false
set_option maxHeartbeats 4000000
set_option maxRecDepth 100000
namespace Go.Proofs.YtknljebcgcmaeaaGreatDoor
open Go Go.VG
def Cu.ar(c:Cu):g8:=c.s.take c.e
theorem iQ{c:Cu} (h0:c.c=0) (h:c.p<c.e):c.byte={c with p:=c.p+1}/\c.ay=c.ar.getD c.p 0:=by
 refine⟨?_,?_⟩
 . unfold Cu.byte Cu.pass;rw[if_neg (by omega),if_neg (by omega),if_neg (by omega)];rfl
 . unfold Cu.ay Cu.ar;rw[if_pos ⟨h0,h⟩,getD_take h];rfl
theorem qp{c:Cu} (h0:c.c=0) (h:c.p=c.e):c.byte={c with c:=1}/\c.ay=0:=by
 refine⟨?_,?_⟩
 . unfold Cu.byte Cu.pass;rw[if_neg (by omega),if_neg (by omega),if_pos (by omega)]
 . unfold Cu.ay;rw[if_neg (by omega)]
theorem sr{c:Cu} (h0:c.c≠0):c.byte=c/\c.ay=0:=by
 refine⟨?_,?_⟩
 . unfold Cu.byte Cu.pass;rw[if_pos h0]
 . unfold Cu.ay;rw[if_neg (by omega)]
theorem jn{c:Cu} (k:Int) (h:c.c=0):c.fail k={c with c:=k}:=by unfold Cu.fail;rw[if_pos h]
theorem ou{c:Cu} (k:Int) (h:c.c≠0):c.fail k=c:=by unfold Cu.fail;rw[if_neg h]
theorem i7{c:Cu} (h:c.ok):c.ar.length=c.e:=by have:=h.2;unfold Cu.ar;rw[eo];omega
theorem Sg{c:Cu} (h0:c.c=0) (h:c.p=c.e):c.iH.c=1:=by
 obtain⟨b1,b2⟩:=qp h0 h;unfold Cu.iH;rw[b2,if_neg (by decide),b1,ou _ (by show(1:Int)≠0;decide)]
structure On(c d:Cu) (n:Nat):Prop where
 s:d.s=c.s
 e:d.e=c.e
 c0:d.c=0
 p:d.p=c.p+n
theorem On.trans{c d f:Cu} {n m:Nat} (h:On c d n) (k:On d f m):On c f (n+m):=⟨k.s.trans h.s,k.e.trans h.e,k.c0,by rw[k.p,h.p];omega⟩
theorem On.ar{c d:Cu} {n:Nat} (h:On c d n):d.ar=c.ar:=by unfold Cu.ar;rw[h.s,h.e]
theorem On.byte{c:Cu} (h0:c.c=0) (h:c.p<c.e):On c c.byte 1:=by rw[(iQ h0 h).1];exact⟨rfl,rfl,h0,rfl⟩
theorem C5:∀(k:Nat) (c:Cu) (u:Int),c.ok->c.c=0->
   ((ct c.ar k c.p u).2=0->On c (fS k c u).1 k/\(fS k c u).2=(ct c.ar k c.p u).1)/\
   ((ct c.ar k c.p u).2≠0->(fS k c u).1.c=(ct c.ar k c.p u).2/\(fS k c u).2=0)
 |0,c,u,h,h0=>by
   rw[ct,fS];exact⟨fun _=>⟨⟨rfl,rfl,h0,rfl⟩,rfl⟩,fun k=>absurd rfl k⟩
 |k+1,c,u,h,h0=>by
   have hl:=i7 h;rw[ct,fS];by_cases hp:c.p=c.e
   . have he:=Sg h0 hp;rw[if_pos (by omega),if_pos (by omega)];exact⟨fun k=>absurd k (by simp),fun _=>⟨he,rfl⟩⟩
   . have hlt:c.p<c.e:=by have:=h.1;omega
     obtain⟨b1,b2⟩:=iQ h0 hlt;rw[if_neg (by omega)];by_cases hn:ec (ff (c.ar.getD c.p 0)) =true
     . have hx:c.iH=c.byte:=by unfold Cu.iH;rw[b2,if_pos hn]
       have hv:c.nu=dv (ff (c.ar.getD c.p 0)):=by unfold Cu.nu;rw[b2]
       have hon:=On.byte h0 hlt;rw[if_pos hn,hx,if_neg (by rw[hon.c0];simp),hv];have ih:=C5 k c.byte (16*u+dv (ff (c.ar.getD c.p 0))) (gR h) hon.c0;rw[hon.ar,hon.p] at ih;refine⟨fun q=>?_,ih.2⟩;obtain⟨i1,i2⟩:=ih.1 q;have:=hon.trans i1;rw[Nat.add_comm 1 k] at this;exact⟨this,i2⟩
     . have hx:c.iH.c=6:=by
         unfold Cu.iH;rw[b2,if_neg hn,jn _ (On.byte h0 hlt).c0]
       rw[if_neg hn,if_pos (by omega)];exact⟨fun k=>absurd k (by simp),fun _=>⟨hx,rfl⟩⟩
theorem L9{c:Cu} (b:UInt8) (h:c.c≠0):c.dI b=c:=by
 obtain⟨b1,b2⟩:=sr h;unfold Cu.dI;rw[b1];split
 . rfl
 . exact ou _ h
theorem Sh{c:Cu} (h:c.c≠0):c.iH=c:=by
 obtain⟨b1,b2⟩:=sr h;unfold Cu.iH;rw[b1,ou _ h];split<;>rfl
theorem RX{c:Cu} (h:c.c≠0):c.four=(c,0):=by
 unfold Cu.four;rw[fS,Sh h,if_pos h]
theorem L8{c:Cu} (b:UInt8) (h0:c.c=0) (h:c.p=c.e) (hb:b.toNat≠0):(c.dI b).c=1:=by
 obtain⟨b1,b2⟩:=qp h0 h;unfold Cu.dI;rw[b2,if_neg (by show¬0=b.toNat;omega),b1,ou _ (by show(1:Int)≠0;decide)]
theorem La{c:Cu} (b:UInt8) (h0:c.c=0) (h:c.p<c.e) (hb:(c.ar.getD c.p 0).toNat≠b.toNat):(c.dI b).c=6:=by
 obtain⟨b1,b2⟩:=iQ h0 h;unfold Cu.dI;rw[b2,if_neg hb,jn _ (On.byte h0 h).c0]
theorem Lc{c:Cu} (b:UInt8) (h0:c.c=0) (h:c.p<c.e) (hb:(c.ar.getD c.p 0).toNat=b.toNat):On c (c.dI b) 1:=by
 obtain⟨b1,b2⟩:=iQ h0 h;unfold Cu.dI;rw[b2,if_pos hb];exact On.byte h0 h
def Cu.two(c:Cu):Cu:=(c.dI 92).dI 117
theorem YG{c:Cu} (hk:c.ok) (h0:c.c=0) (n:Int) (hn:55296<=n/\n<=56319):
   ((fg c.ar c.p n).2.2=0->On c c.two.four.1 6/\56320<=c.two.four.2/\c.two.four.2<=57343/\fg c.ar c.p n=(bT (65536+1024*(n-55296)+c.two.four.2-56320),(c.p:Int)+6,0))/\
   ((fg c.ar c.p n).2.2≠0->(c.two.four.2<56320\/57344<=c.two.four.2)/\(c.two.four.1.fail 6).c=(fg c.ar c.p n).2.2):=by
 have hl:=i7 hk;have h1:=hk.1;have bad:∀x:Int,x≠0->c.two.c=x->(c.two.four.2<56320\/57344<=c.two.four.2)/\(c.two.four.1.fail 6).c=x:=fun x hx hc=>by
  have hne:c.two.c≠0:=by rw[hc];exact hx
  rw[RX hne];exact⟨.inl (by show(0:Int)<56320;decide),by show(c.two.fail 6).c=x;rw[ou _ hne,hc]⟩
 unfold fg;by_cases a:c.p=c.e
 . rw[if_pos (by omega)];refine⟨fun k=>absurd k (by simp),fun _=>bad 1 (by decide) ?_⟩;have:=L8 92 h0 a (by decide);unfold Cu.two;rw[L9 _ (by omega)];exact this
 have a':c.p<c.e:=by omega
 rw[if_neg (by omega)];by_cases b:(c.ar.getD c.p 0).toNat≠92
 . rw[if_pos b];refine⟨fun k=>absurd k (by simp),fun _=>bad 6 (by decide) ?_⟩;have:=La 92 h0 a' b;unfold Cu.two;rw[L9 _ (by omega)];exact this
 have on1:=Lc 92 h0 a' (by show _=92;omega);rw[if_neg b];have hk1:=tM hk 92;by_cases d:c.ar.length<=c.p+1
 . rw[if_pos d];refine⟨fun k=>absurd k (by simp),fun _=>bad 1 (by decide) ?_⟩;exact L8 117 on1.c0 (by rw[on1.p,on1.e];omega) (by decide)
 rw[if_neg d];have a2:(c.dI 92).p<(c.dI 92).e:=by rw[on1.p,on1.e];omega
 by_cases f:(c.ar.getD (c.p+1) 0).toNat≠117
 . rw[if_pos f];refine⟨fun k=>absurd k (by simp),fun _=>bad 6 (by decide) ?_⟩;exact La 117 on1.c0 a2 (by rw[on1.ar,on1.p];exact f)
 rw[if_neg f];have on2:On c c.two 2:=on1.trans (Lc 117 on1.c0 a2 (by rw[on1.ar,on1.p];show _=117;omega));have hk2:=tM hk1 117;have fe:=C5 4 c.two 0 hk2 on2.c0;rw[on2.ar,on2.p] at fe;have fe:((ct c.ar 4 (c.p+2) 0).2=0->On c.two c.two.four.1 4/\c.two.four.2=(ct c.ar 4 (c.p+2) 0).1)/\((ct c.ar 4 (c.p+2) 0).2≠0->c.two.four.1.c=(ct c.ar 4 (c.p+2) 0).2/\c.two.four.2=0):=fe;by_cases g:(ct c.ar 4 (c.p+2) 0).2≠0
 . rw[if_pos g];obtain⟨q1,q2⟩:=fe.2 g;exact⟨fun k=>absurd k g,fun _=>⟨.inl (by rw[q2];decide),by rw[ou _ (by rw[q1];exact g),q1]⟩⟩
 rw[if_neg g];obtain⟨q1,q2⟩:=fe.1 (by omega);rw[<-q2];by_cases m:c.two.four.2<56320\/57343<c.two.four.2
 . rw[if_pos m];exact⟨fun k=>absurd k (by simp),fun _=>⟨by omega,by rw[jn _ q1.c0]⟩⟩
 . rw[if_neg m];exact⟨fun _=>⟨on2.trans q1,by omega,by omega,rfl⟩,fun k=>absurd rfl k⟩
theorem VJ(c:Cu):c.number=if c.four.2<55296\/57344<=c.four.2 then c.four
 else if 56320<=c.four.2 then(c.four.1.fail 6,0)
 else if c.four.1.two.four.2<56320\/57344<=c.four.1.two.four.2 then(c.four.1.two.four.1.fail 6,0)
 else(c.four.1.two.four.1,65536+(c.four.2-55296)*1024+(c.four.1.two.four.2-56320)):=rfl
theorem P4{c:Cu} (hk:c.ok) (h0:c.c=0):
   ((eR c.ar c.p).2.2=0->∃n,On c c.fR n/\(eR c.ar c.p).2.1=((c.p+n:Nat):Int)/\c.jH=(eR c.ar c.p).1)/\
   ((eR c.ar c.p).2.2≠0->c.fR.c=(eR c.ar c.p).2.2):=by
 have hl:=i7 hk;have h1:=hk.1;unfold eR;by_cases a:c.p=c.e
 . obtain⟨b1,b2⟩:=qp h0 a;rw[if_pos (by omega)];refine⟨fun k=>absurd k (by simp),fun _=>?_⟩;unfold Cu.fR;rw[b2,if_neg (by decide),if_neg (by decide),b1,ou _ (by show(1:Int)≠0;decide)]
 have a':c.p<c.e:=by omega
 obtain⟨b1,b2⟩:=iQ h0 a';have on1:=On.byte h0 a';rw[if_neg (by omega)];by_cases b:(c.ar.getD c.p 0).toNat≠117
 . rw[if_pos b];by_cases p:iq (c.ar.getD c.p 0) =true
   . rw[if_pos p];refine⟨fun _=>⟨1,?_,rfl,?_⟩,fun k=>absurd rfl k⟩
     . unfold Cu.fR;rw[b2,if_neg b,if_pos p];exact on1
     . unfold Cu.jH jP;rw[b2,if_neg b,if_pos p]
   . rw[if_neg p];refine⟨fun k=>absurd k (by simp),fun _=>?_⟩;unfold Cu.fR;rw[b2,if_neg b,if_neg p,jn _ on1.c0]
 rw[if_neg b];have hb:(c.ar.getD c.p 0).toNat=117:=by omega
 have hk1:=gR hk;have hC:c.fR=c.byte.number.1:=by unfold Cu.fR;rw[b2,if_pos hb]
 have hO:c.jH=if c.byte.number.1.c=0 then bT c.byte.number.2 else[]:=by unfold Cu.jH;rw[b2,if_pos hb]
 have fe:((ct c.byte.ar 4 c.byte.p 0).2=0->On c.byte c.byte.four.1 4/\c.byte.four.2=(ct c.byte.ar 4 c.byte.p 0).1)/\((ct c.byte.ar 4 c.byte.p 0).2≠0->c.byte.four.1.c=(ct c.byte.ar 4 c.byte.p 0).2/\c.byte.four.2=0):=C5 4 c.byte 0 hk1 on1.c0;rw[on1.ar,on1.p] at fe;rw[hC,hO,VJ];by_cases g:(ct c.ar 4 (c.p+1) 0).2≠0
 . rw[if_pos g];obtain⟨q1,q2⟩:=fe.2 g;refine⟨fun k=>absurd k g,fun _=>?_⟩;rw[if_pos (.inl (by rw[q2];decide)),q1]
 rw[if_neg g];obtain⟨q1,q2⟩:=fe.1 (by omega);have on5:=on1.trans q1;rw[<-q2];by_cases m1:55296<=c.byte.four.2/\c.byte.four.2<=56319
 . rw[if_pos m1,if_neg (by omega),if_neg (by omega)];have te:=YG (y0 hk1) q1.c0 c.byte.four.2 m1;rw[on5.ar,on5.p] at te;have te:((fg c.ar (c.p+5) c.byte.four.2).2.2=0->On c.byte.four.1 c.byte.four.1.two.four.1 6/\56320<=c.byte.four.1.two.four.2/\c.byte.four.1.two.four.2<=57343/\fg c.ar (c.p+5) c.byte.four.2=(bT (65536+1024*(c.byte.four.2-55296)+c.byte.four.1.two.four.2-56320),((c.p+5:Nat):Int)+6,0))/\
    ((fg c.ar (c.p+5) c.byte.four.2).2.2≠0->(c.byte.four.1.two.four.2<56320\/57344<=c.byte.four.1.two.four.2)/\(c.byte.four.1.two.four.1.fail 6).c=(fg c.ar (c.p+5) c.byte.four.2).2.2):=te
   refine⟨fun k=>?_,fun k=>?_⟩
   . obtain⟨t1,t2,t3,t4⟩:=te.1 k;rw[if_neg (by omega)];refine⟨11,on5.trans t1,?_,?_⟩
     . rw[t4];show((c.p+5:Nat):Int)+6=_;omega
     . rw[t4,if_pos t1.c0];show bT _=bT _
       congr 1;omega
   . obtain⟨t1,t2⟩:=te.2 k;rw[if_pos t1];exact t2
 . rw[if_neg m1];by_cases m2:56320<=c.byte.four.2/\c.byte.four.2<=57343
   . rw[if_pos m2,if_neg (by omega),if_pos m2.1];refine⟨fun k=>absurd k (by simp),fun _=>?_⟩;show(c.byte.four.1.fail 6).c=6;rw[jn _ q1.c0]
   . rw[if_neg m2,if_pos (by omega)];exact⟨fun _=>⟨5,on5,by show(c.p:Int)+5=_;omega,by rw[if_pos q1.c0]⟩,fun k=>absurd rfl k⟩
theorem M3:∀(k:Nat) (c:Cu) (s:g8),c.ok->c.c=0->∃j,j<=k/\On c (ez k c s).1 j/\(ez k c s).2=s++(c.ar.drop c.p).take j/\(∀i,i<j->cont (c.ar.getD (c.p+i) 0) =true)/\
   c.p+j<=c.e/\(j=k\/c.p+j=c.e\/cont (c.ar.getD (c.p+j) 0) =false)
 |0,c,s,h,h0=>by
   rw[ez];exact⟨0,co _,⟨rfl,rfl,h0,rfl⟩,by simp,by omega,by have:=h.1;omega,.inl rfl⟩
 |k+1,c,s,h,h0=>by
   rw[ez];by_cases hp:c.p<c.e
   . obtain⟨b1,b2⟩:=iQ h0 hp;have hl:=i7 h;by_cases hc:cont (c.ar.getD c.p 0) =true
     . rw[if_pos ⟨h0,hp,by rw[b2];exact hc⟩];have on1:=On.byte h0 hp;obtain⟨j,q1,q2,q3,q4,q5,q6⟩:=M3 k c.byte (s++[c.ay]) (gR h) on1.c0;rw[on1.ar,on1.p] at q3 q4 q6;rw[on1.p,on1.e] at q5;rw[on1.e] at q6;refine⟨j+1,by omega,?_,?_,fun i hi=>?_,by omega,?_⟩
       . have:=on1.trans q2;rw[Nat.add_comm 1 j] at this;exact this
       . rw[q3,b2,gc]
         congr 1
         rw[List.drop_eq_getElem_cons (show c.p<c.ar.length by omega),List.take_succ_cons,ac,am (show c.p<c.ar.length by omega)];rfl
       . cases i with
         |zero=>exact hc
         |succ i=>rw[show c.p+(i+1) =c.p+1+i by omega];exact q4 i (by omega)
       . rw[show c.p+(j+1) =c.p+1+j by omega];rcases q6 with q6|q6|q6
         . exact .inl (by omega)
         . exact .inr (.inl q6)
         . exact .inr (.inr q6)
     . rw[if_neg (by rw[b2];exact fun h=>hc h.2.2)];refine⟨0,by omega,⟨rfl,rfl,h0,rfl⟩,by simp,by omega,by omega,.inr (.inr ?_)⟩;cases hq:cont (c.ar.getD (c.p+0) 0) with
       |false=>rfl
       |true=>exact absurd hq hc
   . rw[if_neg (by omega)];have:=h.1;exact⟨0,by omega,⟨rfl,rfl,h0,rfl⟩,by simp,by omega,by omega,.inr (.inl (by omega))⟩
theorem J9(x:g8) (m:Nat):∀r i a,i+r<=m->m<=x.length->iv (x.take m) r i a=iv x r i a
 |0,_,_,_,_=>rfl
 |r+1,i,a,h,hm=>by
   simp only[iv];rw[getD_take (by omega),J9 x m r (i+1) _ (by omega) hm]
theorem J6(x:g8):∀r i a,iv x r i a≠none->∀j,i<=j->j<i+r->cont (x.getD j 0) =true
 |0,_,_,_,_,_,_=>by omega
 |r+1,i,a,h,j,h1,h2=>by
   simp only[iv] at h;by_cases hc:cont (x.getD i 0) =true
   . rw[if_pos hc] at h;by_cases e:j=i
     . subst e;exact hc
     . exact J6 x r (i+1) _ h j (by omega) (by omega)
   . rw[if_neg hc] at h;exact absurd rfl h
theorem YL(n:Nat) (o:Option Nat):(oR n o).2=0\/((oR n o).2=n/\o≠none):=by
 cases o with
 |none=>exact .inl rfl
 |some r=>
   rw[AF];repeat' split
   . exact .inl rfl
   . exact .inr ⟨rfl,by simp⟩
   . exact .inl rfl
theorem DA(x:g8) (hx:0<x.length):(er x 0).2=0\/((er x 0).2=bD (x.getD 0 0).toNat/\1<=bD (x.getD 0 0).toNat/\bD (x.getD 0 0).toNat<=x.length/\∀j,1<=j->j<bD (x.getD 0 0).toNat->cont (x.getD j 0) =true):=by
 unfold er;rw[if_neg (by omega)];split
 . exact .inl rfl
 split
 . exact .inl rfl
 split
 . rename_i h1 h2 h3;exact .inr ⟨h3.symm,by omega,by omega,by omega⟩
 . rename_i h1 h2 h3;rcases YL (bD (x.getD 0 0).toNat) (iv x (bD (x.getD 0 0).toNat-1) (0+1) ((x.getD 0 0).toNat%2^(7-bD (x.getD 0 0).toNat))) with h|⟨h,k⟩
   . exact .inl h
   . exact .inr ⟨h,by omega,by omega,fun j a b=>J6 x _ _ _ k j a (by omega)⟩
theorem DC(x:g8) (m:Nat) (hm:bD (x.getD 0 0).toNat<=m) (h1:1<=m) (hx:m<=x.length):er (x.take m) 0=er x 0:=by
 have e:(x.take m).getD 0 0=x.getD 0 0:=getD_take (by omega);have l:(x.take m).length=m:=by rw[eo];omega
 unfold er;rw[e,l,if_neg (show¬m<=0 by omega),if_neg (show¬x.length<=0 by omega)];by_cases a:bD (x.getD 0 0).toNat=0
 . rw[if_pos a,if_pos a]
 . rw[if_neg a,if_neg a,if_neg (show¬m<0+bD (x.getD 0 0).toNat by omega),if_neg (show¬x.length<0+bD (x.getD 0 0).toNat by omega),J9 x m _ _ _ (by omega) hx]
theorem OA{s:g8} (hs:0<s.length) (h:(bU s 0).2=0):oQ s=0:=by
 have hw:lL s 0 0=(0,0):=by rw[lL,if_neg (by omega),dif_pos h]
 unfold oQ;rw[hw,if_neg (show¬0=s.length by omega)];rfl
theorem check_1{s:g8} (hs:0<s.length) (h:(bU s 0).2=s.length):oQ s=-1:=by
 have hw:lL s 0 0=(0+(bU s 0).2,0+1):=by
  rw[lL,if_neg (by omega),dif_neg (by omega),lL,if_pos (by omega)]
 unfold oQ;rw[hw,if_pos (show 0+(bU s 0).2=s.length by omega)]
theorem Yq{b:UInt8}:bD b.toNat=0\/dO b+1=bD b.toNat:=by
 unfold bD dO;repeat' split
 all_goals omega
theorem WV{d:Cu} (hk:d.ok) (h0:d.c=0) (hp:d.p<d.e):
   ((bU d.ar d.p).2=0->(d.byte.ir (d.ar.getD d.p 0)).c=5)/\
   ((bU d.ar d.p).2≠0->On d (d.byte.ir (d.ar.getD d.p 0)) (bU d.ar d.p).2/\d.byte.kq (d.ar.getD d.p 0) =(d.ar.take (d.p+(bU d.ar d.p).2)).drop d.p):=by
 have hl:=i7 hk;have on1:=On.byte h0 hp;have hxl:(d.ar.drop d.p).length=d.e-d.p:=by rw[fo,hl]
 have hx0:(d.ar.drop d.p).getD 0 0=d.ar.getD d.p 0:=by simp[ac,List.getElem?_drop]
 have hxc:d.ar.drop d.p=d.ar.getD d.p 0::d.ar.drop (d.p+1):=by
  rw[List.drop_eq_getElem_cons (show d.p<d.ar.length by omega),ac,am (show d.p<d.ar.length by omega)];rfl
 have hu:bU d.ar d.p=er (d.ar.drop d.p) 0:=by rw[DD,if_neg (by omega),rD]
 obtain⟨j,q1,q2,q3,q4,q5,q6⟩:=M3 (dO (d.ar.getD d.p 0)) d.byte [d.ar.getD d.p 0] (gR hk) on1.c0;rw[on1.ar,on1.p] at q3 q4 q6;rw[on1.p,on1.e] at q5;rw[on1.e] at q6;have hS:(ez (dO (d.ar.getD d.p 0)) d.byte [d.ar.getD d.p 0]).2=(d.ar.drop d.p).take (j+1):=by
  rw[q3,hxc,List.take_succ_cons];rfl
 have hSl:((d.ar.drop d.p).take (j+1)).length=j+1:=by rw[eo,hxl];omega
 have hS0:((d.ar.drop d.p).take (j+1)).getD 0 0=d.ar.getD d.p 0:=by rw[getD_take (by omega),hx0]
 rw[hu];unfold Cu.ir Cu.kq;rw[hS];refine⟨fun hn=>?_,fun hn=>?_⟩
 . have hz:(bU ((d.ar.drop d.p).take (j+1)) 0).2=0:=by
     rw[<-rD];rcases DA ((d.ar.drop d.p).take (j+1)) (by omega) with h|⟨h1,h2,h3,h4⟩
     . exact h
     . rw[hS0] at h1 h2 h3;rw[DC _ (j+1) (by rw[hx0];omega) (by omega) (by omega)];exact hn
   rw[OA (by omega) hz,if_pos (by decide),jn _ q2.c0]
 . rcases DA (d.ar.drop d.p) (by omega) with h|⟨h1,h2,h3,h4⟩
   . exact absurd h hn
   . rw[hx0] at h1 h2 h3 h4;have ht:=Yq (b:=d.ar.getD d.p 0);have hj:j+1=bD (d.ar.getD d.p 0).toNat:=by
      rcases q6 with q6|q6|q6
      . omega
      . omega
      . by_cases e:j+1=bD (d.ar.getD d.p 0).toNat
        . exact e
        . exfalso;have:=h4 (j+1) (by omega) (by omega);rw[show(d.ar.drop d.p).getD (j+1) 0=d.ar.getD (d.p+1+j) 0 by
           rw[ac,ac,List.getElem?_drop,show d.p+(j+1) =d.p+1+j by omega],q6] at this
          cases this
     have hz:(bU ((d.ar.drop d.p).take (j+1)) 0).2=((d.ar.drop d.p).take (j+1)).length:=by
      rw[<-rD,DC _ (j+1) (by rw[hx0];omega) (by omega) (by omega),h1,hSl,hj]
     rw[check_1 (by omega) hz,if_neg (by decide),if_neg (by decide),h1,<-hj];refine⟨?_,?_⟩
     . have:=on1.trans q2;rw[Nat.add_comm 1 j] at this;exact this
     . rw[List.drop_take,show d.p+(j+1)-d.p=j+1 by omega]
theorem rC{n:Nat} {c:Cu} {o:g8} (hn:0<n) (h:c.c≠0):jf n c o=(c,[]):=by
 cases n with
 |zero=>omega
 |succ n=>rw[jf,if_pos h]
def xt(d:Cu) (P:Cu×g8) (R:Int×Nat×g8):Prop:=
 (R.1=0->P.1.c=0/\P.1.p=R.2.1/\P.2=R.2.2/\P.1.s=d.s/\P.1.e=d.e)/\(R.1≠0->P.1.c=R.1/\P.2=[])
theorem go_eq:∀(n m:Nat) (d:Cu) (o:g8),d.ok->d.c=0->d.mu<n->d.ar.length-d.p+1<=m->xt d (jf n d o) (dw d.ar m d.p o)
 |0,_,_,_,_,_,h,_=>by omega
 |n+1,0,_,_,_,_,_,h=>by omega
 |n+1,m+1,d,o,hk,h0,hn,hm=>by
   have hl:=i7 hk;have h1:=hk.1;have hmu:d.mu=d.e-d.p+1:=by unfold Cu.mu;rw[if_neg (by omega)]
   rw[jf,dw,if_neg (by omega)];by_cases a:d.p=d.e
   . obtain⟨b1,b2⟩:=qp h0 a;have hc:d.byte.c=1:=by rw[b1]
     rw[if_pos (by omega),if_pos (by omega),rC (by omega) (by omega)];exact⟨fun k=>absurd k (by decide),fun _=>⟨hc,rfl⟩⟩
   have a':d.p<d.e:=by omega
   obtain⟨b1,b2⟩:=iQ h0 a';have on1:=On.byte h0 a';have hkb:=gR hk;rw[if_neg (show¬d.byte.c≠0 by rw[on1.c0];decide),if_neg (show¬d.ar.length<=d.p by omega),b2];by_cases q34:(d.ar.getD d.p 0).toNat=34
   . rw[if_pos q34,if_pos q34];exact⟨fun _=>⟨on1.c0,on1.p,rfl,on1.s,on1.e⟩,fun k=>absurd rfl k⟩
   rw[if_neg q34,if_neg q34];by_cases q32:(d.ar.getD d.p 0).toNat<32
   . have hp:cA d.ar d.p=([],0,3):=by unfold cA;rw[if_neg (by omega),if_pos q32]
     have hc:(d.byte.fail 3).c=3:=by rw[jn _ on1.c0]
     rw[if_pos q32,hp,if_pos (by decide),rC (by omega) (by omega)];exact⟨fun k=>absurd k (by decide),fun _=>⟨hc,rfl⟩⟩
   rw[if_neg q32];have step:∀(f:Cu) (k:Nat) (w:g8),On d f k->0<k->f.ok->xt d (jf n f (o++w)) (dw d.ar m (d.p+k) (o++w)):=fun f k w hf hk0 hfk=>by
    have hfm:f.mu=f.e-f.p+1:=by unfold Cu.mu;rw[if_neg (by have:=hf.c0;omega)]
    have ih:=go_eq n m f (o++w) hfk hf.c0 (by rw[hfm,hf.e,hf.p];omega) (by rw[hf.ar,hf.p];omega);rw[hf.ar,hf.p] at ih;exact⟨fun q=>by obtain⟨i1,i2,i3,i4,i5⟩:=ih.1 q;exact⟨i1,i2,i3,i4.trans hf.s,i5.trans hf.e⟩,ih.2⟩
   by_cases q92:(d.ar.getD d.p 0).toNat=92
   . have hp:cA d.ar d.p=eR d.ar (d.p+1):=by unfold cA;rw[if_pos q92]
     have ee:=P4 hkb on1.c0;rw[on1.ar,on1.p] at ee;rw[if_pos q92,hp];by_cases e0:(eR d.ar (d.p+1)).2.2≠0
     . have hc:=ee.2 e0;rw[if_pos e0,rC (by omega) (by rw[hc];exact e0)];exact⟨fun k=>absurd k e0,fun _=>⟨hc,rfl⟩⟩
     . rw[if_neg e0];obtain⟨k,r1,r2,r3⟩:=ee.1 (by omega);rw[r2,r3,Int.toNat_natCast];have:=step _ (1+k) (eR d.ar (d.p+1)).1 (on1.trans r1) (by omega) (qC hkb);rw[<-Nat.add_assoc] at this;exact this
   . have ee:=WV hk h0 a';rw[if_neg q92];by_cases e0:(bU d.ar d.p).2=0
     . have hp:cA d.ar d.p=([],0,5):=by unfold cA;rw[if_neg q92,if_neg q32,if_pos e0]
       have hc:=ee.1 e0;rw[hp,if_pos (by decide),rC (by omega) (by omega)];exact⟨fun k=>absurd k (by decide),fun _=>⟨hc,rfl⟩⟩
     . have hp:cA d.ar d.p=((d.ar.take (d.p+(bU d.ar d.p).2)).drop d.p,((d.p+(bU d.ar d.p).2:Nat):Int),0):=by unfold cA;rw[if_neg q92,if_neg q32,if_neg e0]
       obtain⟨r1,r2⟩:=ee.2 e0;rw[hp,if_neg (fun k=>k rfl),r2];exact step _ _ _ r1 (by omega) (rB hkb _)
theorem X1{c:Cu} (hk:c.ok):c.read.2=c.gJ.2/\c.read.1.c=c.gJ.1.c/\(c.gJ.1.c=0->c.read.1=c.gJ.1):=by
 have h1:=hk.1;have hl:=i7 hk;unfold Cu.read Cu.gJ;by_cases a:c.c≠0
 . have hs:c.start=c:=by unfold Cu.start;rw[if_neg (by omega)]
   obtain⟨b1,_⟩:=sr a;rw[hs,b1,rC (by omega) a,if_pos a];exact⟨rfl,rfl,fun k=>absurd k a⟩
 have h0:c.c=0:=by omega
 rw[if_neg a];by_cases b:c.p=c.e
 . have hs:c.start=c:=by unfold Cu.start;rw[if_neg (by omega)]
   obtain⟨b1,_⟩:=qp h0 b;have hc:c.byte.c=1:=by rw[b1]
   rw[hs,rC (by omega) (by omega),if_pos b,jn _ h0];exact⟨rfl,hc,fun k=>absurd k (by show(1:Int)≠0;decide)⟩
 have b':c.p<c.e:=by omega
 obtain⟨d1,d2⟩:=iQ h0 b';have hg:c.get=c.ar.getD c.p 0:=by unfold Cu.ar;rw[getD_take b'];rfl
 rw[if_neg b];by_cases e:c.get.toNat≠34
 . have hs:c.start=c.fail 3:=by unfold Cu.start;rw[if_pos ⟨⟨h0,b'⟩,by rw[d2,<-hg];exact e⟩]
   have hf:(c.fail 3).c=3:=by rw[jn _ h0]
   obtain⟨b1,_⟩:=sr (c:=c.fail 3) (by omega);rw[hs,b1,rC (by omega) (by omega),if_pos e];exact⟨rfl,rfl,fun k=>absurd (hf.symm.trans k) (by decide)⟩
 rw[if_neg e];have hs:c.start=c:=by unfold Cu.start;rw[if_neg (by rw[d2,<-hg];exact fun k=>k.2 (by omega))]
 have on1:=On.byte h0 b';rw[hs];have ge:=go_eq (c.byte.mu+1) (c.e-c.p) c.byte [] (gR hk) on1.c0 (by omega) (by rw[on1.ar,on1.p];omega);rw[on1.ar,on1.p] at ge;have ge:xt c.byte (jf (c.byte.mu+1) c.byte []) (dw (c.s.take c.e) (c.e-c.p) (c.p+1) []):=ge;by_cases r:(dw (c.s.take c.e) (c.e-c.p) (c.p+1) []).1=0
 . rw[if_pos r];obtain⟨g1,g2,g3,g4,g5⟩:=ge.1 r;refine⟨g3,g1.trans h0.symm,fun _=>?_⟩;generalize (jf (c.byte.mu+1) c.byte []).1=f at*;obtain⟨fs,fp,fe,fc⟩:=f;simp only at g1 g2 g4 g5;rw[g1,g2,g4,g5,on1.s,on1.e];obtain⟨cs,cp,ce,cc⟩:=c;simp only at h0;rw[h0]
 . rw[if_neg r,jn _ h0];obtain⟨g1,g2⟩:=ge.2 r;exact⟨g2,g1,fun k=>absurd k r⟩
def ba(b:UInt8):Bool:=decide (48<=b.toNat/\b.toNat<=57)
def dy(q:UInt8->Bool) (t:g8) (i:Nat):Nat:=i+((t.drop i).takeWhile q).length
theorem Dw{q:UInt8->Bool} {t:g8} {i:Nat} (hi:i<t.length) (h:q (t.getD i 0) =true):dy q t i=dy q t (i+1):=by
 unfold dy;have e:t.drop i=t.getD i 0::t.drop (i+1):=by
  rw[List.drop_eq_getElem_cons hi,ac,am hi];rfl
 rw[e,List.takeWhile_cons,if_pos h,List.length_cons];omega
theorem zn{q:UInt8->Bool} {t:g8} {i:Nat} (h:t.length<=i\/q (t.getD i 0) =false):dy q t i=i:=by
 unfold dy;rcases eg i t.length with hi|hi
 . have e:t.drop i=t.getD i 0::t.drop (i+1):=by
     rw[List.drop_eq_getElem_cons hi,ac,am hi];rfl
   have h:q (t.getD i 0) =false:=by rcases h with h|h;omega;exact h
   rw[e,List.takeWhile_cons,if_neg (by rw[h];decide)];rfl
 . rw[List.drop_eq_nil_of_le hi];rfl
theorem wF(q:UInt8->Bool) (t:g8) (i:Nat):i<=dy q t i/\(dy q t i<=t.length\/dy q t i=i):=by
 unfold dy;have h:=(List.takeWhile_sublist (p:=q) (l:=t.drop i)).length_le;rw[fo] at h;omega
abbrev fL(t:g8) (i:Nat):Nat:=dy ba t i
theorem ua{t:g8} {i:Nat} (hi:i<t.length) (h:ba (t.getD i 0) =true):fL t i=fL t (i+1):=Dw hi h
theorem pX{t:g8} {i:Nat} (h:t.length<=i\/ba (t.getD i 0) =false):fL t i=i:=zn h
theorem nL(t:g8) (i:Nat):i<=fL t i/\(fL t i<=t.length\/fL t i=i):=wF _ t i
def cC(t:g8) (i:Nat) (a b:Nat):Bool:=decide (i<t.length)&&decide ((t.getD i 0).toNat=a\/(t.getD i 0).toNat=b)
theorem il{t:g8} {i a b:Nat}:cC t i a b=true↔i<t.length/\((t.getD i 0).toNat=a\/(t.getD i 0).toNat=b):=by simp[cC]
theorem tR{t:g8} {i a b:Nat}:cC t i a b=false↔¬(i<t.length/\((t.getD i 0).toNat=a\/(t.getD i 0).toNat=b)):=by
 rw[<-il,Bool.not_eq_true]
def cS(t:g8) (i:Nat):Nat×Int:=if fL t i>i then(fL t i,0) else if i=t.length then(i,1) else(i,3)
def c5(t:g8) (i a b:Nat):Nat:=if cC t i a b=true then i+1 else i
def aZ(t:g8) (i:Nat):Nat×Int:=if cC t (c5 t i 45 45) 48 48=true then(c5 t i 45 45+1,0) else cS t (c5 t i 45 45)
def cf(t:g8) (x:Nat×Int):Nat×Int:=if x.2=0/\cC t x.1 46 46=true then cS t (x.1+1) else x
def jM(t:g8) (x:Nat×Int):Nat×Int:=if x.2=0/\cC t x.1 101 69=true then cS t (c5 t (x.1+1) 43 45) else x
def sub(t:g8) (i j:Nat):g8:=(t.take j).drop i
def cM(t:g8) (i:Nat):Nat×Int:=jM t (cf t (aZ t i))
def Cu.has(c:Cu):Prop:=c.c=0/\c.p<c.e
instance (c:Cu):Decidable c.has:=by unfold Cu.has;infer_instance
def Cu.iC(c:Cu) (s:g8):Bool:=decide (c.has/\c.ay∈s)
def Cu.lT(c:Cu) (s:g8):Cu:=if c.iC s=true then c.byte else c
def Cu.nf(c:Cu) (s:g8):g8:=if c.iC s=true then[c.ay] else[]
def fO:Nat->Cu->g8->Cu×g8
 |0,c,o=>(c.byte,o++[c.ay])
 |n+1,c,o=>if ba c.byte.ay=true then fO n c.byte (o++[c.ay]) else(c.byte,o++[c.ay])
termination_by n => n
def Cu.bf(c:Cu):Cu×g8:=if ba c.ay=true then fO (c.e-c.p) c [] else((if c.left>0 then c.fail 3 else c).byte,[])
abbrev CO:=Cu×g8
def CO.fB(x:CO) (s:g8):CO:=(x.1.lT s,x.2++x.1.nf s)
def CO.bf(x:CO):CO:=(x.1.bf.1,x.2++x.1.bf.2)
def CO.whole(x:CO):CO:=if(x.fB [45]).1.iC [48]=true then(x.fB [45]).fB [48] else((x.fB [45]).fB [48]).bf
def CO.behind(x:CO):CO:=if x.1.iC [46]=true then(x.fB [46]).bf else x.fB [46]
def CO.pT(x:CO):CO:=if x.1.iC [101,69]=true then((x.fB [101,69]).fB [43,45]).bf else x.fB [101,69]
def Cu.iY(c:Cu):CO:=CO.pT (CO.behind (CO.whole (c,[])))
structure Nx(c:Cu) (x:CO) (r:Nat×Int):Prop where
 ok:r.2=0->x.1.s=c.s/\x.1.e=c.e/\x.1.c=0/\x.1.p=r.1/\c.p<=r.1/\r.1<=c.e/\x.2=sub c.ar c.p r.1
 bad:r.2≠0->x.1.c=r.2
theorem sub_self(t:g8) (i:Nat):sub t i i=[]:=by unfold sub;rw[List.drop_eq_nil_iff,eo];omega
theorem MS{t:g8} {i j:Nat} (h:i<=j) (hj:j<t.length):sub t i (j+1) =sub t i j++[t.getD j 0]:=by
 unfold sub;rw[oO hj,List.drop_append_of_le_length (by rw[eo];omega)]
theorem xf{c d:Cu} (h1:d.s=c.s) (h2:d.e=c.e):d.ar=c.ar:=by unfold Cu.ar;rw[h1,h2]
theorem sq{d:Cu} (h:¬d.has):d.ay=0:=by unfold Cu.ay;rw[if_neg (show¬(d.c=0/\d.p<d.e) from h)]
theorem mG{d:Cu} {s:g8}:d.iC s=true↔d.has/\d.ay∈s:=by unfold Cu.iC;rw[decide_eq_true_eq]
theorem qz{x:CO} {s:g8} (h:x.1.iC s=false):x.fB s=x:=by
 unfold CO.fB Cu.lT Cu.nf;rw[h];simp
theorem BF{x:CO} {s:g8} (h:x.1.c≠0):x.1.iC s=false:=by
 cases e:x.1.iC s with
 |false=>rfl
 |true=>exact absurd (mG.1 e).1.1 h
theorem I4{c:Cu} (hk:c.ok) {x:CO} {i:Nat} {s:g8} (h:Nx c x (i,0)) (he:x.1.iC s=true):i<c.ar.length/\c.ar.getD i 0∈s/\Nx c (x.fB s) (i+1,0):=by
 obtain⟨h1,h2,h3,h4,h5,h6,h7⟩:=h.ok rfl;simp only at h4 h5 h6 h7;obtain⟨k1,k2⟩:=mG.1 he;have hp:x.1.p<x.1.e:=k1.2;have hl:=i7 hk;obtain⟨b1,b2⟩:=iQ h3 hp;rw[xf h1 h2,h4] at b2;refine⟨by omega,by rw[<-b2];exact k2,⟨fun _=>?_,fun k=>absurd rfl k⟩⟩;unfold CO.fB Cu.lT Cu.nf;rw[if_pos he,if_pos he,b1];refine⟨h1,h2,h3,by show x.1.p+1=i+1;omega,by show c.p<=i+1;omega,by show i+1<=c.e;omega,?_⟩;show x.2++[x.1.ay]=sub c.ar c.p (i+1);rw[MS h5 (by omega),h7,b2]
theorem xR{c:Cu} (hk:c.ok) {x:CO} {i:Nat} {a b:UInt8} {s:g8} (hs:∀y,y∈s↔y=a\/y=b) (h:Nx c x (i,0)):x.1.iC s=cC c.ar i a.toNat b.toNat:=by
 obtain⟨h1,h2,h3,h4,h5,h6,h7⟩:=h.ok rfl;simp only at h4 h5 h6;have hl:=i7 hk;cases e:x.1.iC s with
 |true=>
   obtain⟨q1,q2,_⟩:=I4 hk h e;exact(il.2 ⟨q1,((hs _).1 q2).imp (fun e=>by rw[e]) (fun e=>by rw[e])⟩).symm
 |false=>
   refine(tR.2 fun⟨q1,q2⟩=>?_).symm;have hp:x.1.p<x.1.e:=by omega
   obtain⟨_,b2⟩:=iQ h3 hp;rw[xf h1 h2,h4] at b2;have:x.1.iC s=true:=mG.2 ⟨⟨h3,hp⟩,(hs _).2 (by rw[b2];exact q2.imp (fun e=>UInt8.toNat_inj.1 e) (fun e=>UInt8.toNat_inj.1 e))⟩;rw[this] at e;cases e
theorem Bt{c:Cu} (hk:c.ok):∀(n:Nat) (x:CO) (i:Nat),Nx c x (i,0)->i<c.e->ba (c.ar.getD i 0) =true->c.e-i<=n+1->Nx c (fO n x.1 x.2) (fL c.ar i,0)
 |n,x,i,h,hi,hd,hn=>by
   obtain⟨h1,h2,h3,h4,h5,h6,h7⟩:=h.ok rfl;simp only at h4 h5 h6 h7;have hl:=i7 hk;obtain⟨b1,b2⟩:=iQ h3 (by omega);rw[xf h1 h2,h4] at b2;have hx:Nx c (x.1.byte,x.2++[x.1.ay]) (i+1,0):=⟨fun _=>by
    rw[b1];refine⟨h1,h2,h3,by show x.1.p+1=i+1;omega,by show c.p<=i+1;omega,by show i+1<=c.e;omega,?_⟩;show x.2++[x.1.ay]=sub c.ar c.p (i+1);rw[MS h5 (by omega),h7,b2],fun k=>absurd rfl k⟩
   rw[ua (by omega) hd];have hb:x.1.byte.ay=if i+1<c.e then c.ar.getD (i+1) 0 else 0:=by
    rw[b1];split
    . rename_i q;have:=(iQ (c:={x.1 with p:=x.1.p+1}) h3 (by show x.1.p+1<x.1.e;omega)).2;rw[this];show(Cu.ar {x.1 with p:=x.1.p+1}).getD (x.1.p+1) 0=_;rw[h4];exact congrArg (fun l:g8=>l.getD (i+1) 0) (xf (d:={x.1 with p:=i+1}) h1 h2)
    . exact sq fun q=>by have:x.1.p+1<x.1.e:=q.2;omega
   have stop:(c.e<=i+1\/ba (c.ar.getD (i+1) 0) =false)->Nx c (x.1.byte,x.2++[x.1.ay]) (fL c.ar (i+1),0):=fun q=>by
    rw[pX (by rcases q with q|q;exact .inl (by omega);exact .inr q)];exact hx
   match n with
   |0=>rw[fO];exact stop (.inl (by omega))
   |n+1=>
     rw[fO];by_cases q:i+1<c.e
     . rw[if_pos q] at hb;rw[hb];by_cases r:ba (c.ar.getD (i+1) 0) =true
       . rw[if_pos r];exact Bt hk n _ (i+1) hx q r (by omega)
       . rw[if_neg r];exact stop (.inr (by simpa using r))
     . rw[if_neg q] at hb;rw[hb,if_neg (by decide)];exact stop (.inl (by omega))
theorem Bu{c:Cu} (hk:c.ok) {x:CO} {i:Nat} (h:Nx c x (i,0)):Nx c x.bf (cS c.ar i):=by
 obtain⟨h1,h2,h3,h4,h5,h6,h7⟩:=h.ok rfl;simp only at h4 h5 h6 h7;have hl:=i7 hk;have hp:=nL c.ar i;unfold CO.bf Cu.bf cS;by_cases q:i<c.e
 . obtain⟨b1,b2⟩:=iQ h3 (by omega);rw[xf h1 h2,h4] at b2;rw[b2];by_cases r:ba (c.ar.getD i 0) =true
   . have e:=ua (by omega) r;have:=(nL c.ar (i+1)).1;rw[if_pos r,if_pos (by omega)];have g:=Bt hk (x.1.e-x.1.p) (x.1,[]) i;have g2:=Bt hk (x.1.e-x.1.p) x i h q r (by omega);have ap:∀(n:Nat) (d:Cu) (o o':g8),(fO n d (o++o')).1=(fO n d o').1/\(fO n d (o++o')).2=o++(fO n d o').2:=by
      intro n
      induction n with
      |zero=>intro d o o';rw[fO,fO];simp
      |succ n ih=>
        intro d o o';rw[fO,fO];split
        . rw[gc];exact ih _ _ _
        . simp
     obtain⟨a1,a2⟩:=ap (x.1.e-x.1.p) x.1 x.2 [];rw[List.append_nil] at a1 a2;have e3:(fO (x.1.e-x.1.p) x.1 x.2) =((fO (x.1.e-x.1.p) x.1 []).1,x.2++(fO (x.1.e-x.1.p) x.1 []).2):=Prod.ext a1 a2;rw[e3] at g2;exact g2
   . have e:=pX (t:=c.ar) (i:=i) (.inr (by simpa using r));have hleft:x.1.left>0:=by show(x.1.e:Int)-x.1.p>0;omega
     rw[if_neg r,if_pos hleft,if_neg (show¬fL c.ar i>i by omega),if_neg (show¬i=c.ar.length by omega)];refine⟨fun k=>absurd (show(3:Int) =0 from k) (by decide),fun _=>?_⟩;have hf:(x.1.fail 3).c=3:=by rw[jn _ h3]
     show(x.1.fail 3).byte.c=3;rw[(sr (by omega)).1];exact hf
 . have e:=pX (t:=c.ar) (i:=i) (.inl (by omega));have hb:x.1.ay=0:=sq fun k=>by have:=k.2;omega
   have hleft:¬x.1.left>0:=by show¬(x.1.e:Int)-x.1.p>0;omega
   rw[hb,if_neg (show¬ba 0=true by decide),if_neg hleft,if_neg (show¬fL c.ar i>i by omega),if_pos (show i=c.ar.length by omega)];refine⟨fun k=>absurd (show(1:Int) =0 from k) (by decide),fun _=>?_⟩;show x.1.byte.c=1;rw[(qp h3 (by omega)).1]
theorem Hj{c:Cu} {x:CO} {r:Nat×Int} (h:Nx c x r) (k:r.2≠0):x.1.c≠0:=by rw[h.bad k];exact k
theorem vg{c:Cu} (hk:c.ok) {x:CO} {i:Nat} {a b:UInt8} {s:g8} (hs:∀y,y∈s↔y=a\/y=b) (h:Nx c x (i,0)):Nx c (x.fB s) (c5 c.ar i a.toNat b.toNat,0):=by
 have e:=xR hk hs h;unfold c5;rw[<-e];split
 . rename_i q;exact(I4 hk h q).2.2
 . rename_i q;rw[qz (by simpa using q)];exact h
theorem we(a y:UInt8):y∈[a]↔y=a\/y=a:=by simp
theorem CT(a b y:UInt8):y∈[a,b]↔y=a\/y=b:=by simp
theorem LI{c:Cu} (hk:c.ok) (h0:c.c=0):Nx c c.iY (cM c.ar c.p):=by
 have hl:=i7 hk;have s0:Nx c (c,[]) (c.p,0):=⟨fun _=>⟨rfl,rfl,h0,rfl,co _,hk.1,(sub_self _ _).symm⟩,fun k=>absurd rfl k⟩
 have s1:=vg hk (we 45) s0;have w:Nx c (CO.whole (c,[])) (aZ c.ar c.p):=by
  unfold CO.whole aZ;have e:=xR hk (we 48) s1;have s2:=vg hk (we 48) s1;unfold c5 at s2;rw[e];by_cases q:cC c.ar (c5 c.ar c.p 45 45) 48 48=true
  . rw[if_pos (by exact q),if_pos q];rw[if_pos (by exact q)] at s2;exact s2
  . rw[if_neg (by exact q),if_neg q];rw[if_neg (by exact q)] at s2;exact Bu hk s2
 have b:Nx c (CO.behind (CO.whole (c,[]))) (cf c.ar (aZ c.ar c.p)):=by
  generalize CO.whole (c,[]) =x at*;generalize aZ c.ar c.p=r at*;obtain⟨i,k⟩:=r;unfold CO.behind cf;by_cases z:k=0
  . subst z;have e:=xR hk (we 46) w;have s2:=vg hk (we 46) w;unfold c5 at s2;rw[e];by_cases q:cC c.ar i 46 46=true
    . rw[if_pos (by exact q),if_pos ⟨rfl,q⟩];rw[if_pos (by exact q)] at s2;exact Bu hk s2
    . rw[if_neg (by exact q),if_neg (fun t=>q t.2)];rw[if_neg (by exact q)] at s2;exact s2
  . have e:=BF (s:=[46]) (Hj w z);rw[e,if_neg (by decide),if_neg (fun t=>z t.1),qz e];exact w
 unfold Cu.iY cM;generalize CO.behind (CO.whole (c,[])) =x at*;generalize cf c.ar (aZ c.ar c.p) =r at*;obtain⟨i,k⟩:=r;unfold CO.pT jM;by_cases z:k=0
 . subst z;have e:=xR hk (CT 101 69) b;have s2:=vg hk (CT 101 69) b;rw[e];by_cases q:cC c.ar i 101 69=true
   . rw[if_pos (by exact q),if_pos ⟨rfl,q⟩];unfold c5 at s2;rw[if_pos (by exact q)] at s2;exact Bu hk (vg hk (CT 43 45) s2)
   . rw[if_neg (by exact q),if_neg (fun t=>q t.2)];unfold c5 at s2;rw[if_neg (by exact q)] at s2;exact s2
 . have e:=BF (s:=[101,69]) (Hj b z);rw[e,if_neg (by decide),if_neg (fun t=>z t.1),qz e];exact b
def dn(b:UInt8):Bool:=decide (b.toNat=32\/b.toNat=9\/b.toNat=10\/b.toNat=13)
def dj(b:UInt8):Bool:=decide (b.toNat=123\/b.toNat=125\/b.toNat=91\/b.toNat=93\/b.toNat=58\/b.toNat=44)
structure Tk where
 k:UInt8
 t:g8
instance:Inhabited Tk:=⟨⟨0,[]⟩⟩
abbrev Tk.no:Tk:=⟨0,[]⟩
def spell(k:UInt8):g8:=if k.toNat=116 then[116,114,117,101] else if k.toNat=102 then[102,97,108,115,101] else if k.toNat=122 then[110,117,108,108] else[]
def Cu.dC(c:Cu):Cu:=if c.c=0 then{c with p:=dy dn c.ar c.p} else c
def Cu.word:g8->Cu->Cu×Bool
 |[],c=>(c,true)
 |b::s,c=>if c.ay≠b then(c.byte.fail 3,false) else Cu.word s c.byte
def Cu.num(c:Cu):CO:=(c.iY.1,if c.iY.1.c=0 then c.iY.2 else[])
def held(x:CO) (k:UInt8):Cu×Tk:=(x.1,if x.1.c=0 then⟨k,x.2⟩ else .no)
def Cu.uF(c:Cu) (k:UInt8):Cu×Tk:=((c.word (spell k)).1,if(c.word (spell k)).2=true then⟨k,[]⟩ else .no)
def Cu.xd(d:Cu):Cu×Tk:=
 if¬d.has then(d,.no)
 else if dj d.ay=true then(d.byte,⟨d.ay,[]⟩)
 else if d.ay.toNat=34 then held d.read 115
 else if d.ay.toNat=45\/ba d.ay=true then held d.num 110
 else if d.ay.toNat=116 then d.uF 116
 else if d.ay.toNat=102 then d.uF 102
 else if d.ay.toNat=110 then d.uF 122
 else(d.fail 3,.no)
def Cu.next(c:Cu):Cu×Tk:=c.dC.xd
def Cu.jq(c:Cu):CO:=
 if c.c≠0 then(c,[]) else if(cM c.ar c.p).2≠0 then(c.fail (cM c.ar c.p).2,[]) else({c with p:=(cM c.ar c.p).1},sub c.s c.p (cM c.ar c.p).1)
def fk(c:Cu):g8->Nat->Int
 |[],_=>0
 |b::s,i=>if c.p+i>=c.e then 1 else if c.s.getD (c.p+i) 0≠b then 3 else fk c s (i+1)
def Cu.dQ(c:Cu) (k:UInt8):Cu×Tk:=if fk c (spell k) 0≠0 then(c.fail (fk c (spell k) 0),.no) else({c with p:=c.p+(spell k).length},⟨k,[]⟩)
def Cu.jh(d:Cu):Cu×Tk:=
 if d.p=d.e then(d,.no)
 else if dj d.get=true then({d with p:=d.p+1},⟨d.get,[]⟩)
 else if d.get.toNat=34 then held d.gJ 115
 else if d.get.toNat=45\/ba d.get=true then held d.jq 110
 else if d.get.toNat=116\/d.get.toNat=102 then d.dQ d.get
 else if d.get.toNat=110 then d.dQ 122
 else(d.fail 3,.no)
def Cu.bB(c:Cu):Cu×Tk:=if c.c≠0 then(c,.no) else({c with p:=dy dn c.ar c.p}:Cu).jh
def p5(x y:Cu×Tk):Prop:=x.2=y.2/\x.1.c=y.1.c/\(y.1.c=0->x.1=y.1)
theorem p5.refl(x:Cu×Tk):p5 x x:=⟨rfl,rfl,fun _=>rfl⟩
theorem MT{c:Cu} {i j:Nat} (h:j<=c.e):sub c.ar i j=sub c.s i j:=by unfold sub Cu.ar;rw[List.take_take,Nat.min_eq_left h]
theorem oE(t:g8) (i:Nat) (h:i<=t.length):i<=(cS t i).1/\(cS t i).1<=t.length:=by
 have:=nL t i;unfold cS;repeat' split
 all_goals (constructor<;>(try dsimp only)<;>omega)
theorem rE(t:g8) (i a b:Nat) (h:i<=t.length):i<=c5 t i a b/\c5 t i a b<=t.length:=by
 unfold c5;split
 . rename_i q;have:=(il.1 q).1;omega
 . omega
theorem wj(t:g8) (i:Nat) (h:i<=t.length):i<=(cM t i).1/\(cM t i).1<=t.length:=by
 have h1:=rE t i 45 45 h;have w:i<=(aZ t i).1/\(aZ t i).1<=t.length:=by
  unfold aZ;split
  . rename_i q;have:=(il.1 q).1;dsimp only;omega
  . have:=oE t _ h1.2;omega
 have b:i<=(cf t (aZ t i)).1/\(cf t (aZ t i)).1<=t.length:=by
  generalize aZ t i=x at*;unfold cf;split
  . rename_i q;have:=(il.1 q.2).1;have:=oE t (x.1+1) (by omega);omega
  . exact w
 unfold cM;generalize cf t (aZ t i) =x at*;unfold jM;split
 . rename_i q;have:=(il.1 q.2).1;have:=rE t (x.1+1) 43 45 (by omega);have:=oE t _ this.2;omega
 . exact b
theorem VH{c:Cu} (hk:c.ok):p5 (held c.num 110) (held c.jq 110):=by
 unfold Cu.jq;by_cases h0:c.c=0
 . have h:=LI hk h0;rw[if_neg (by omega)];by_cases z:(cM c.ar c.p).2=0
   . obtain⟨h1,h2,h3,h4,h5,h6,h7⟩:=h.ok z;rw[if_neg (by omega)];have e1:c.iY.1={c with p:=(cM c.ar c.p).1}:=by
      generalize c.iY.1=d at*;obtain⟨ds,dp,de,dc⟩:=d;simp only at h1 h2 h3 h4;rw[h1,h2,h3,h4,<-h0]
     have e2:c.num=({c with p:=(cM c.ar c.p).1},sub c.s c.p (cM c.ar c.p).1):=by
      unfold Cu.num;rw[if_pos h3,h7,MT h6,e1]
     rw[e2];exact .refl _
   . have hb:=h.bad z;rw[if_pos z,jn _ h0];unfold held Cu.num;rw[hb];simp only;rw[if_neg z,if_neg z];exact⟨rfl,hb,fun k=>absurd k z⟩
 . rw[if_pos h0];have hp:c.iY=(c,[]):=by
    have e:∀s,(c,([]:g8)).1.iC s=false:=fun s=>BF h0;unfold Cu.iY;have w:CO.whole (c,[]) =(c,[]):=by
     unfold CO.whole;rw[qz (e _),e,if_neg (by decide),qz (e _)];unfold CO.bf Cu.bf;have hb:c.ay=0:=sq fun k=>h0 k.1;have hf:(if c.left>0 then c.fail 3 else c) =c:=by split;exact ou 3 h0;rfl
     show((if ba c.ay=true then _ else _:CO).1,[]++(if ba c.ay=true then _ else _:CO).2) =_;rw[hb,if_neg (by decide),hf,(sr h0).1];rfl
    have b:CO.behind (c,[]) =(c,[]):=by
     unfold CO.behind;rw[e,if_neg (by decide),qz (e _)]
    have p:CO.pT (c,[]) =(c,[]):=by
     unfold CO.pT;rw[e,if_neg (by decide),qz (e _)]
    rw[w,b,p]
   unfold held Cu.num;rw[hp];simp only;rw[if_neg h0,if_neg h0];exact⟨rfl,rfl,fun _=>rfl⟩
theorem Nz{c:Cu}:∀(s:g8) (i:Nat) (d:Cu),(∀x∈s,x≠0)->On c d i->d.p<=d.e->
   (fk c s i=0->(d.word s).2=true/\On c (d.word s).1 (i+s.length))/\(fk c s i≠0->(d.word s).2=false/\(d.word s).1.c=fk c s i)
 |[],i,d,_,h,_=>by
   unfold fk Cu.word;exact⟨fun _=>⟨rfl,h⟩,fun k=>absurd rfl k⟩
 |b::s,i,d,hz,h,hd=>by
   unfold fk Cu.word;have hp:=h.p;have he:=h.e;by_cases q:c.p+i>=c.e
   . obtain⟨b1,b2⟩:=qp h.c0 (by omega);rw[if_pos q];refine⟨fun k=>absurd k (by decide),fun _=>?_⟩;by_cases hb:d.ay≠b
     . rw[if_pos hb,b1];refine⟨rfl,?_⟩;rw[ou _ (by show(1:Int)≠0;decide)]
     . rw[if_neg hb];have bb:b=0:=by rw[b2] at hb;exact(Decidable.not_not.1 hb).symm
       exact absurd bb (hz b (by simp))
   . obtain⟨b1,b2⟩:=iQ h.c0 (by omega);rw[h.ar,hp] at b2;have hg:c.ar.getD (c.p+i) 0=c.s.getD (c.p+i) 0:=by unfold Cu.ar;exact getD_take (by omega)
     rw[if_neg q,b2,hg];by_cases hb:c.s.getD (c.p+i) 0≠b
     . rw[if_pos hb,if_pos hb];refine⟨fun k=>absurd k (by decide),fun _=>⟨rfl,?_⟩⟩;rw[b1];show(Cu.fail {d with p:=d.p+1} 3).c=3;rw[jn 3 (show({d with p:=d.p+1}:Cu).c=0 from h.c0)]
     . rw[if_neg hb,if_neg hb];have:=Nz s (i+1) d.byte (fun x hx=>hz x (d8 _ hx)) (by have:=h.trans (On.byte h.c0 (by omega));exact this) (by rw[b1];show d.p+1<=d.e;omega);rw[show i+(b::s).length=i+1+s.length by simp;omega];exact this
theorem Yg(k:UInt8):∀x∈spell k,x≠0:=by
 unfold spell;repeat' split
 all_goals decide
theorem Gk{c:Cu} (hk:c.ok) (h0:c.c=0) (k:UInt8):p5 (c.uF k) (c.dQ k):=by
 have h:=Nz (spell k) 0 c (Yg k) ⟨rfl,rfl,h0,rfl⟩ hk.1;unfold Cu.uF Cu.dQ;by_cases z:fk c (spell k) 0=0
 . obtain⟨h1,h2⟩:=h.1 z;rw[if_pos h1,if_neg (by omega)];have e:(c.word (spell k)).1={c with p:=c.p+(spell k).length}:=by
    generalize (c.word (spell k)).1=d at*;obtain⟨ds,dp,de,dc⟩:=d;obtain⟨a1,a2,a3,a4⟩:=h2;simp only[Nat.zero_add] at a1 a2 a3 a4;rw[a1,a2,a3,a4,<-h0]
   rw[e];exact .refl _
 . obtain⟨h1,h2⟩:=h.2 z;rw[if_neg (by rw[h1];decide),if_pos z,jn _ h0];exact⟨rfl,h2,fun q=>absurd q z⟩
theorem Sf{x y:CO} {k:UInt8} (h1:x.2=y.2) (h2:x.1.c=y.1.c) (h3:y.1.c=0->x.1=y.1):p5 (held x k) (held y k):=by
 refine⟨?_,h2,h3⟩;show(if x.1.c=0 then _ else _) =if y.1.c=0 then _ else _
 rw[h1,h2]
theorem X2{c:Cu} (hk:c.ok):p5 (held c.read 115) (held c.gJ 115):=by
 obtain⟨h1,h2,h3⟩:=X1 hk;exact Sf h1 h2 h3
theorem Yx{d:Cu} (hk:d.ok) (h0:d.c=0):p5 d.xd d.jh:=by
 unfold Cu.xd Cu.jh;by_cases q:d.p=d.e
 . rw[if_pos (fun h=>by have:=h.2;omega),if_pos q];exact .refl _
 . have hp:d.p<d.e:=by have:=hk.1;omega
   have hh:d.has:=⟨h0,hp⟩
   have hv:d.ay=d.get:=by unfold Cu.ay;rw[if_pos (show d.c=0/\d.p<d.e from hh)]
   rw[if_neg (fun h=>h hh),if_neg q,hv,(iQ h0 hp).1];by_cases a:dj d.get=true
   . rw[if_pos a,if_pos a];exact .refl _
   rw[if_neg a,if_neg a];by_cases b:d.get.toNat=34
   . rw[if_pos b,if_pos b];exact X2 hk
   rw[if_neg b,if_neg b];by_cases e:d.get.toNat=45\/ba d.get=true
   . rw[if_pos e,if_pos e];exact VH hk
   rw[if_neg e,if_neg e];by_cases f:d.get.toNat=116
   . rw[if_pos f,if_pos (.inl f),show d.get=116 from UInt8.toNat_inj.1 f];exact Gk hk h0 116
   rw[if_neg f];by_cases g:d.get.toNat=102
   . rw[if_pos g,if_pos (.inr g),show d.get=102 from UInt8.toNat_inj.1 g];exact Gk hk h0 102
   rw[if_neg g,if_neg (show¬(d.get.toNat=116\/d.get.toNat=102) by omega)];by_cases i:d.get.toNat=110
   . rw[if_pos i,if_pos i];exact Gk hk h0 122
   rw[if_neg i,if_neg i];exact .refl _
theorem Hl{c:Cu} (hk:c.ok):c.dC.ok:=by
 unfold Cu.dC;split
 . have:=wF dn c.ar c.p;have:=i7 hk;have:=hk.1;exact⟨by show dy dn c.ar c.p<=c.e;omega,hk.2⟩
 . exact hk
theorem yX{c:Cu} (hk:c.ok):p5 c.next c.bB:=by
 unfold Cu.next Cu.bB;have hb:=Hl hk;by_cases h0:c.c=0
 . rw[if_neg (by omega)];have e:c.dC={c with p:=dy dn c.ar c.p}:=by unfold Cu.dC;rw[if_pos h0]
   rw[e] at hb⊢;exact Yx hb h0
 . rw[if_pos h0];have e:c.dC=c:=by unfold Cu.dC;rw[if_neg h0]
   rw[e];unfold Cu.xd;rw[if_pos (fun h=>h0 h.1)];exact .refl _
theorem qx{b:UInt8}:ba b=true↔48<=b.toNat/\b.toNat<=57:=by simp[ba]
theorem sG{b:UInt8}:ba b=false↔¬(48<=b.toNat/\b.toNat<=57):=by rw[<-qx,Bool.not_eq_true]
theorem I3{c:Cu} (h:c.ok) (s:g8):(c.lT s).ok/\(c.lT s).s=c.s/\(c.lT s).e=c.e:=by
 unfold Cu.lT;split
 . exact nJ h 1
 . exact⟨h,rfl,rfl⟩
theorem OW(c:Cu) (s:g8):(c.nf s).length<=1:=by unfold Cu.nf;split<;>simp
theorem HP:∀(n:Nat) (c:Cu) (o:g8),c.ok->(fO n c o).1.ok/\(fO n c o).1.s=c.s/\(fO n c o).1.e=c.e/\(fO n c o).2.length<=o.length+n+1
 |0,c,o,h=>by
   have hb:=nJ h 1;rw[fO];exact⟨hb.1,hb.2.1,hb.2.2,by simp⟩
 |n+1,c,o,h=>by
   have hb:=nJ h 1;rw[fO];split
   . have:=HP n c.byte (o++[c.ay]) hb.1;refine⟨this.1,this.2.1.trans hb.2.1,this.2.2.1.trans hb.2.2,?_⟩;have:=this.2.2.2;simp at this;omega
   . exact⟨hb.1,hb.2.1,hb.2.2,by simp⟩
theorem Bv{c:Cu} (h:c.ok):c.bf.1.ok/\c.bf.1.s=c.s/\c.bf.1.e=c.e/\c.bf.2.length<=c.e+1:=by
 unfold Cu.bf;split
 . have:=HP (c.e-c.p) c [] h;refine⟨this.1,this.2.1,this.2.2.1,?_⟩;have:=this.2.2.2;simp at this;omega
 . refine⟨?_,?_,?_,by simp⟩;all_goals
    dsimp only;split
    . have hf:=iE h 3;have hb:=nJ hf.1 1;first|exact hb.1|exact hb.2.1.trans hf.2.1|exact hb.2.2.trans hf.2.2.1
    . have hb:=nJ h 1;first|exact hb.1|exact hb.2.1|exact hb.2.2
theorem PR(c:Cu) (o:List V) (hp:c.ok/\o.length<=2000000000):OK 249 ([.ptr 0 0]) ([.cells [.ptr 1 0,.buf 2],.cells (eC c),.buf 1 0 o]) (.tuple []) (some [.cells [.ptr 1 0,.buf 2],.cells (eC c.byte),.buf 1 0 (o++bl [c.ay])]):=by
 refine ai (C:=cx [(133,mh)]) (ak ⟨ny,trivial⟩) (fn:=Tryz.f249) fun hw hs=>?_;obtain⟨hp,ho⟩:=hp;repeat'((conv=>whnf);apply af)
 all_goals try conv=>whnf
 all_goals try(refine ae.mk ?_;try dsimp only)
 all_goals (try simp only[aT] at*)
 all_goals first|refine stay ?_|trivial|(simp only[du];omega)|skip
 all_goals
  refine ab.mk [] ?_<;>(repeat' first|trivial)
def zT:Sm:=fun args σ=>match args,σ with
 |[.ptr 0 0],[.cells [.ptr 1 0,.buf 2],.cells ([.str s_c,.int .i64 (.ofNat a_c),.int .i64 (.ofNat e_c),.int .i64 c_c]),.buf 1 0 o]=>some (True/\((Cu.mk s_c a_c e_c c_c).ok/\o.length<=2000000000),.tuple [],some [.cells [.ptr 1 0,.buf 2],.cells (eC (Cu.mk s_c a_c e_c c_c).byte),.buf 1 0 (o++bl [(Cu.mk s_c a_c e_c c_c).ay])])
 |_,_=>none
theorem JX:aq 249 zT:=by
 intro args sg pre x r he hp;unfold zT at he;split at he<;>cases he
 . rw[cX (hp).1];exact PR (hp:=hp.2) ..
theorem PL(c:Cu) (o:List V) (hp:c.ok):OK 250 ([.ptr 0 0]) ([.cells [.ptr 1 0,.buf 2],.cells (eC c),.buf 1 0 o]) (.bool (ba c.ay)) (none):=by
 refine ai (C:=cx [(131,q9)]) (ak ⟨tC,trivial⟩) (fn:=Tryz.f250) fun hw hs=>?_;have hb:c.ay.toNat<256:=c.ay.toNat_lt;have hn:¬(c.c=0/\c.p<c.e)->ba c.ay=false:=fun h=>by rw[sq h];decide
 repeat'((conv=>whnf);first|apply af|(apply aj<;>intro h))
 all_goals try conv=>whnf
 all_goals try(refine ae.mk ?_;try dsimp only)
 all_goals (try simp only[aT] at*)
 all_goals first|refine stay ?_|trivial|skip
 all_goals
  refine ab.mk [] ?_<;>(repeat' first|trivial|apply ah|apply jG)
  first
  |exact(hn (by assumption)).symm
  |(cases h:ba c.ay with
     |true=>have:=qx.1 h;first|rfl|(simp;omega)
     |false=>have:=sG.1 h;first|rfl|(simp;omega))
def En:Sm:=fun args σ=>match args,σ with
 |[.ptr 0 0],[.cells [.ptr 1 0,.buf 2],.cells ([.str s_c,.int .i64 (.ofNat a_c),.int .i64 (.ofNat e_c),.int .i64 c_c]),.buf 1 0 o]=>some (True/\((Cu.mk s_c a_c e_c c_c).ok),.bool (ba (Cu.mk s_c a_c e_c c_c).ay),none)
 |_,_=>none
theorem SZ:aq 250 En:=by
 intro args sg pre x r he hp;unfold En at he;split at he<;>cases he
 . rw[cX (hp).1];exact PL (hp:=hp.2) ..
theorem PN(c:Cu) (o:List V) (s:g8) (hp:c.ok/\o.length<=2000000000/\s.length<=100):OK 220 ([.ptr 0 0,.str s]) ([.cells [.ptr 1 0,.buf 2],.cells (eC c),.buf 1 0 o]) (.bool (c.iC s)) (some [.cells [.ptr 1 0,.buf 2],.cells (eC (c.lT s)),.buf 1 0 (o++bl (c.nf s))]):=by
 refine ai (C:=cx [(131,q9),(249,zT)]) (ak ⟨tC,JX,trivial⟩) (fn:=Tryz.f220) fun hw hs=>?_;obtain⟨hp,ho,hs⟩:=hp;have hb:c.ay.toNat<256:=c.ay.toNat_lt;have hbb:byte c.ay.toNat=c.ay:=dd _;repeat'((conv=>whnf);apply af)
 all_goals try conv=>whnf
 all_goals try(refine ae.mk ?_;try dsimp only)
 all_goals (try simp only[aT] at*)
 all_goals first|refine stay ?_|trivial|skip
 refine aM.mk Nat (fun i=>i<=s.length/\∀j,j<i->¬(c.has/\s.getD j 0=c.ay)) (fun i=>⟨32,[(0,.ptr 0 0),(1,.str s),(5,bv c.ay),(6,.bool (decide (c.c=0/\c.p<c.e))),(17,.int .i64 s.length),(18,.int .i64 i)],[.cells [.ptr 1 0,.buf 2],.cells (eC c),.buf 1 0 o],[]⟩) (fun i=>s.length-i) [] 0 ⟨by omega,fun j hj=>absurd hj (by omega)⟩ ?_ (fun i ⟨hi,hj⟩ _ _=>?_)
 . apply ao<;>(repeat' first|trivial)
 have hx:(s.getD i 0).toNat<256:=UInt8.toNat_lt _;have yes:c.has->c.ay=s.getD i 0->i<s.length->c.iC s=true:=fun h e hl=>mG.2 ⟨h,by rw[e,ac,am hl];exact List.getElem_mem hl⟩;have no:i=s.length->c.iC s=false:=fun e=>by
  cases q:c.iC s with
  |false=>rfl
  |true=>
    obtain⟨q1,q2⟩:=mG.1 q;obtain⟨j,hjl,hje⟩:=List.getElem_of_mem q2;exact absurd ⟨q1,by rw[ac,am hjl];exact hje⟩ (hj j (by omega))
 have next:¬(c.has/\s.getD i 0=c.ay)->∀j,j<i+1->¬(c.has/\s.getD j 0=c.ay):=fun h j hjj=>by
  by_cases e:j=i
  . subst e;exact h
  . exact hj j (by omega)
 repeat'((conv=>whnf);first|apply af|(apply aj<;>intro h)|with_reducible refine cg ?_ fun hc=>?_)
 all_goals try conv=>whnf
 all_goals try(refine ae.mk ?_;try dsimp only)
 all_goals (try simp only[aT] at*)
 all_goals first|refine stay ?_|trivial|omega|skip
 all_goals (try simp only[hbb] at*)
 all_goals first
  | (refine ⟨[],i + 1,⟨by omega,next fun h=>?_⟩,?_,by omega⟩
     . first
       |exact absurd h.1 (by assumption)
       |(have:=congrArg UInt8.toNat h.2;omega)
     . apply ao<;>(repeat' first|trivial|apply ah|apply aC)
       all_goals (simp(discharger:=omega) only[wR];omega))
  |skip
 . have e:=yes (by assumption) (UInt8.toNat_inj.1 (by omega)) (by omega);unfold Cu.lT Cu.nf;rw[if_pos e,if_pos e,e];refine ab.mk [] ?_<;>(repeat' first|trivial)
 . have e:=no (by omega);unfold Cu.lT Cu.nf;rw[e];refine ab.mk [] ?_<;>(repeat' first|trivial|apply ah|apply bg)
   simp[bl]
def Ep:Sm:=fun args σ=>match args,σ with
 |[.ptr 0 0,.str s],[.cells [.ptr 1 0,.buf 2],.cells ([.str s_c,.int .i64 (.ofNat a_c),.int .i64 (.ofNat e_c),.int .i64 c_c]),.buf 1 0 o]=>some (True/\((Cu.mk s_c a_c e_c c_c).ok/\o.length<=2000000000/\s.length<=100),.bool ((Cu.mk s_c a_c e_c c_c).iC s),some [.cells [.ptr 1 0,.buf 2],.cells (eC ((Cu.mk s_c a_c e_c c_c).lT s)),.buf 1 0 (o++bl ((Cu.mk s_c a_c e_c c_c).nf s))])
 |_,_=>none
theorem T1:aq 220 Ep:=by
 intro args sg pre x r he hp;unfold Ep at he;split at he<;>cases he
 . rw[cX (hp).1];exact PN (hp:=hp.2) ..
theorem PM(c:Cu) (o:List V) (hp:c.ok/\o.length<=1500000000/\c.s.length<=100000000):OK 221 ([.ptr 0 0]) ([.cells [.ptr 1 0,.buf 2],.cells (eC c),.buf 1 0 o]) (.tuple []) (some [.cells [.ptr 1 0,.buf 2],.cells (eC c.bf.1),.buf 1 0 (o++bl c.bf.2)]):=by
 refine ai (C:=cx [(250,En),(232,zF),(139,mY),(133,mh),(249,zT)]) (ak ⟨SZ,JJ,oy,ny,JX,trivial⟩) (fn:=Tryz.f221) fun hw hs=>?_;obtain⟨hp,ho,hl⟩:=hp;have h1:=hp.1;have h2:=hp.2;have hf:=iE hp 3;repeat'((conv=>whnf);first|apply af|apply aI|(apply aj<;>intro h))
 all_goals try conv=>whnf
 all_goals try(refine ae.mk ?_;try dsimp only)
 all_goals (try simp only[aT] at*)
 all_goals first|refine stay ?_|trivial|skip
 . have hd:ba c.ay=true:=qx.2 (by assumption);have hh:c.has:=by
    rcases Decidable.em c.has with q|q
    . exact q
    . rw[sq q] at hd;exact absurd hd (by decide)
   refine qk.mk (Nat×Cu×g8) (fun|(n,d,s) =>d.ok/\d.s=c.s/\d.has/\ba d.ay=true/\d.e-d.p<=n/\s.length<=d.p/\fO n d s=c.bf)
    (fun|(n,d,s) =>⟨25,[(0,.ptr 0 0)],[.cells [.ptr 1 0,.buf 2],.cells (eC d),.buf 1 0 (o++bl s)],[2]⟩) (fun x=>x.1) [] (c.e-c.p,c,[]) ⟨hp,rfl,hh,hd,co _,by simp,by unfold Cu.bf;rw[if_pos hd]⟩ ?_ (fun⟨n,d,s⟩ ⟨hd1,hd2,hd3,hd4,hd5,hd6,hd7⟩ _ _=>?_)
   . apply ao<;>(repeat' first|trivial|apply ah|apply bg)
     simp[bl]
   have hsl:d.s.length<=100000000:=by rw[hd2];exact hl
   have e1:=hd1.1;have e2:=hd1.2;have e3:d.c=0:=hd3.1;have e4:d.p<d.e:=hd3.2;have hb1:=nJ hd1 1;have hb:d.byte.ok:=hb1.1;obtain⟨b1,_⟩:=iQ e3 e4;have hbp:d.byte.p=d.p+1:=by rw[b1]
   have hbe:d.byte.e=d.e:=by rw[b1]
   have hbl:=iA s;obtain⟨n,rfl⟩:∃m,n=m+1:=⟨n-1,by omega⟩
   rw[fO] at hd7;repeat'((conv=>whnf);first|apply af|(apply aj<;>intro h))
   all_goals try conv=>whnf
   all_goals try(refine ae.mk ?_;try dsimp only)
   all_goals (try simp only[aT] at*)
   all_goals first|refine stay ?_|trivial|skip
   . exact⟨trivial,hd1,by rw[an];omega⟩
   . have q:=qx.2 (by assumption);rw[if_pos q] at hd7;have q2:d.byte.has:=by
      rcases Decidable.em d.byte.has with r|r
      . exact r
      . rw[sq r] at q;exact absurd q (by decide)
     refine⟨[],(n,d.byte,s++[d.ay]),⟨hb,hb1.2.1.trans hd2,q2,q,by rw[hbe,hbp];omega,by rw[an,gt,hbp];omega,hd7⟩,?_,by show n<n+1;omega⟩;apply ao<;>(repeat' first|trivial|apply ah|apply bg)
     rw[dZ,gc]
   . have q:=sG.2 (by assumption);rw[if_neg (by rw[q];decide)] at hd7;rw[<-hd7];refine ab.mk [] ?_<;>(repeat' first|trivial|apply ah|apply bg)
     rw[dZ,gc]
 . exact⟨trivial,hf.1⟩
 . have q1:=sG.2 (by assumption);unfold Cu.bf;rw[if_neg (by rw[q1];decide),if_pos (by assumption)];refine ab.mk [] ?_<;>(repeat' first|trivial|apply ah|apply bg)
   simp[bl]
 . have q1:=sG.2 (by assumption);unfold Cu.bf;rw[if_neg (by rw[q1];decide),if_neg (by assumption)];refine ab.mk [] ?_<;>(repeat' first|trivial|apply ah|apply bg)
   simp[bl]
def Eo:Sm:=fun args σ=>match args,σ with
 |[.ptr 0 0],[.cells [.ptr 1 0,.buf 2],.cells ([.str s_c,.int .i64 (.ofNat a_c),.int .i64 (.ofNat e_c),.int .i64 c_c]),.buf 1 0 o]=>some (True/\((Cu.mk s_c a_c e_c c_c).ok/\o.length<=1500000000/\(Cu.mk s_c a_c e_c c_c).s.length<=100000000),.tuple [],some [.cells [.ptr 1 0,.buf 2],.cells (eC (Cu.mk s_c a_c e_c c_c).bf.1),.buf 1 0 (o++bl (Cu.mk s_c a_c e_c c_c).bf.2)])
 |_,_=>none
theorem T0:aq 221 Eo:=by
 intro args sg pre x r he hp;unfold Eo at he;split at he<;>cases he
 . rw[cX (hp).1];exact PM (hp:=hp.2) ..
def Gd(c d:Cu):Prop:=d.ok/\d.s=c.s
theorem Gd.self{c:Cu} (h:c.ok):Gd c c:=⟨h,rfl⟩
theorem Gd.fB{c d:Cu} {s:g8} (h:Gd c d):Gd c (d.lT s):=⟨(I3 h.1 s).1,(I3 h.1 s).2.1.trans h.2⟩
theorem Gd.bf{c d:Cu} (h:Gd c d):Gd c d.bf.1:=⟨(Bv h.1).1,(Bv h.1).2.1.trans h.2⟩
def Lb(c:Cu) (o:List V) (n:Nat) (l:List V):Prop:=l.length<=o.length+n*100000001
theorem Lb.base{c:Cu} {o:List V} {n:Nat}:Lb c o n o:=by unfold Lb;omega
theorem Lb.fB{c d:Cu} {o l:List V} {n:Nat} {s:g8} (h:Lb c o n l):Lb c o (n+1) (l++bl (d.nf s)):=by
 have:=OW d s;unfold Lb at h⊢;rw[an,iA];omega
theorem Lb.bf{c d:Cu} {o l:List V} {n:Nat} (hl:c.s.length<=100000000) (hd:Gd c d) (h:Lb c o n l):Lb c o (n+1) (l++bl d.bf.2):=by
 have h1:=(Bv hd.1).2.2.2;have h2:=hd.1.2;rw[hd.2] at h2;unfold Lb at h⊢;rw[an,iA];omega
theorem Lb.fin{c:Cu} {o l:List V} (h:Lb c o 9 l) (ho:o.length<=500000000):l.length<=1500000000:=by unfold Lb at h;omega
theorem KF{n:Nat} (h:n<=1500000000):n<=2000000000:=by omega
theorem Gd.ak{c d:Cu} (h:Gd c d):d.ok:=h.1
theorem PO(c:Cu) (o:List V) (hp:c.ok/\o.length<=500000000/\c.s.length<=100000000):OK 178 ([.ptr 0 0]) ([.cells [.ptr 1 0,.buf 2],.cells (eC c),.buf 1 0 o]) (.tuple []) (some [.cells [.ptr 1 0,.buf 2],.cells (eC c.iY.1),.buf 1 0 (o++bl c.iY.2)]):=by
 refine ai (C:=cx [(220,Ep),(221,Eo)]) (ak ⟨T1,T0,trivial⟩) (fn:=Tryz.f178) fun hw hs=>?_;obtain⟨hp,ho,hl⟩:=hp;have gs:∀{d:Cu},Gd c d->d.s.length<=100000000:=fun h=>by rw[h.2];exact hl
 repeat'((conv=>whnf);first|apply af|apply aI|(apply aj<;>intro h))
 all_goals try conv=>whnf
 all_goals try(refine ae.mk ?_;try dsimp only)
 all_goals (try simp only[aT] at*)
 all_goals try refine stay ?_
 all_goals first
  |(refine(show True/\_/\_/\_ from⟨trivial,?_,?_,?_⟩)<;>first
   |decide
   | (refine Gd.ak (c:=c) ?_
      repeat'(first|exact Gd.self hp|refine Gd.fB ?_|refine Gd.bf ?_)
      done)
   | (refine gs ?_
      repeat'(first|exact Gd.self hp|refine Gd.fB ?_|refine Gd.bf ?_)
      done)
   | (first | refine KF (Lb.fin (c:=c) (o:=o) ?_ ho) | refine Lb.fin (c:=c) (o:=o) ?_ ho
      repeat'(first|exact Lb.base|refine Lb.fB ?_|refine Lb.bf hl ?_ ?_|exact Gd.self hp|refine Gd.fB ?_|refine Gd.bf ?_|decide)
      done))
  |(refine(show True/\_/\_ from⟨trivial,?_,?_⟩)<;>first
   | (refine Gd.ak (c:=c) ?_
      repeat'(first|exact Gd.self hp|refine Gd.fB ?_|refine Gd.bf ?_)
      done)
   | (first | refine KF (Lb.fin (c:=c) (o:=o) ?_ ho) | refine Lb.fin (c:=c) (o:=o) ?_ ho
      repeat'(first|exact Lb.base|refine Lb.fB ?_|refine Lb.bf hl ?_ ?_|exact Gd.self hp|refine Gd.fB ?_|refine Gd.bf ?_|decide)
      done))
  |skip
 all_goals
  unfold Cu.iY CO.whole;first|rw[if_pos (mG.2 (by assumption))]|rw[if_neg (fun h=>absurd (mG.1 h) (by assumption))]
  unfold CO.behind;first|rw[if_pos (mG.2 (by assumption))]|rw[if_neg (fun h=>absurd (mG.1 h) (by assumption))]
  unfold CO.pT;first|rw[if_pos (mG.2 (by assumption))]|rw[if_neg (fun h=>absurd (mG.1 h) (by assumption))]
  refine ab.mk [] ?_<;>(repeat' first|trivial|apply ah|apply bg)
  all_goals (simp only[CO.fB,CO.bf,dZ,gc,List.nil_append];done)
def zS:Sm:=fun args σ=>match args,σ with
 |[.ptr 0 0],[.cells [.ptr 1 0,.buf 2],.cells ([.str s_c,.int .i64 (.ofNat a_c),.int .i64 (.ofNat e_c),.int .i64 c_c]),.buf 1 0 o]=>some (True/\((Cu.mk s_c a_c e_c c_c).ok/\o.length<=500000000/\(Cu.mk s_c a_c e_c c_c).s.length<=100000000),.tuple [],some [.cells [.ptr 1 0,.buf 2],.cells (eC (Cu.mk s_c a_c e_c c_c).iY.1),.buf 1 0 (o++bl (Cu.mk s_c a_c e_c c_c).iY.2)])
 |_,_=>none
theorem JW:aq 178 zS:=by
 intro args sg pre x r he hp;unfold zS at he;split at he<;>cases he
 . rw[cX (hp).1];exact PO (hp:=hp.2) ..
theorem PQ(c:Cu) (hp:c.ok/\c.s.length<=100000000):OK 136 ([.ptr 0 0]) ([.cells (eC c)]) (.str c.num.2) (some [.cells (eC c.num.1)]):=by
 refine ai (C:=qu [(178,zS),(86,mi)] [(2,[.cell 1 1 1])]) (ak ⟨JW,nz,trivial⟩) (fn:=Tryz.f136) fun hw hs=>?_;obtain⟨hp,hl⟩:=hp;repeat'((conv=>whnf);first|apply af|apply aI|(apply aj<;>intro h)|apply mJ)
 all_goals try conv=>whnf
 all_goals try(refine ae.mk ?_;try dsimp only)
 all_goals (try simp only[aT] at*)
 all_goals first|refine stay ?_|trivial|skip
 . unfold Cu.num;rw[if_pos (by assumption)];refine ab.mk [] ?_<;>(repeat' first|trivial)
 . unfold Cu.num;rw[if_neg (by assumption)];refine ab.mk [] ?_<;>(repeat' first|trivial)
def Et:Sm:=fun args σ=>match args,σ with
 |[.ptr 0 0],[.cells ([.str s_c,.int .i64 (.ofNat a_c),.int .i64 (.ofNat e_c),.int .i64 c_c])]=>some (True/\((Cu.mk s_c a_c e_c c_c).ok/\(Cu.mk s_c a_c e_c c_c).s.length<=100000000),.str (Cu.mk s_c a_c e_c c_c).num.2,some [.cells (eC (Cu.mk s_c a_c e_c c_c).num.1)])
 |_,_=>none
theorem T3:aq 136 Et:=by
 intro args sg pre x r he hp;unfold Et at he;split at he<;>cases he
 . rw[cX (hp).1];exact PQ (hp:=hp.2) ..
theorem Oc{c:Cu} (hk:c.ok) (h:c.has) (hb:dn c.ay=true):c.byte.dC=c.dC:=by
 obtain⟨b1,b2⟩:=iQ h.1 h.2;have hl:=i7 hk;have hp:c.p<c.ar.length:=by have:=h.2;omega
 rw[b2] at hb;unfold Cu.dC;rw[b1,if_pos (show({c with p:=c.p+1}:Cu).c=0 from h.1),if_pos h.1];have e:Cu.ar {c with p:=c.p+1}=c.ar:=rfl;rw[e,Dw hp hb]
theorem Hm{c:Cu} (hk:c.ok) (h:¬c.has\/dn c.ay=false):c.dC=c:=by
 have hl:=i7 hk;unfold Cu.dC;by_cases h0:c.c=0
 . rw[if_pos h0];have:dy dn c.ar c.p=c.p:=by
    by_cases hp:c.p<c.e
    . obtain⟨_,b2⟩:=iQ h0 hp;rcases h with h|h
      . exact absurd ⟨h0,hp⟩ h
      . rw[b2] at h;exact zn (.inr h)
    . exact zn (.inl (by have:=hk.1;omega))
   rw[this]
 . rw[if_neg h0]
theorem Be{b:UInt8}:dn b=true↔b.toNat=32\/b.toNat=9\/b.toNat=10\/b.toNat=13:=by simp[dn]
theorem Hn{b:UInt8}:dn b=false↔¬(b.toNat=32\/b.toNat=9\/b.toNat=10\/b.toNat=13):=by rw[<-Be,Bool.not_eq_true]
theorem Q2(c:Cu) (hp:c.ok):OK 130 ([.ptr 0 0]) ([.cells (eC c)]) (.tuple []) (some [.cells (eC c.dC)]):=by
 refine ai (C:=cx [(131,q9),(133,mh)]) (ak ⟨tC,ny,trivial⟩) (fn:=Tryz.f130) fun hw hs=>?_;refine aM.mk Cu (fun d=>d.ok/\d.dC=c.dC) (fun d=>⟨29,[(0,.ptr 0 0)],[.cells (eC d)],[]⟩) (fun d=>d.e-d.p) [] c ⟨hp,rfl⟩ ?_ (fun d ⟨hd,he⟩ _ _=>?_)
 . apply ao<;>(repeat' first|trivial)
 have hb:d.ay.toNat<256:=d.ay.toNat_lt;have hbo:=nJ hd 1;have hbk:d.byte.ok:=hbo.1;repeat'((conv=>whnf);first|apply af|apply aI|(apply aj<;>intro h))
 all_goals try conv=>whnf
 all_goals try(refine ae.mk ?_;try dsimp only)
 all_goals (try simp only[aT] at*)
 all_goals first|refine stay ?_|trivial|skip
 all_goals first
  | (have hh:d.has:=by assumption
     have hx:=Oc hd hh (Be.2 (by omega));have hy:=(iQ hh.1 hh.2).1;refine⟨[],d.byte,⟨hbk,hx.trans he⟩,?_,by have:=hh.2;rw[hy];show d.e-(d.p+1)<d.e-d.p;omega⟩;apply ao<;>(repeat' first|trivial)
     )
  | (have hx:=Hm hd (.inl (by assumption))
     rw[<-he,hx];refine ab.mk [] ?_<;>(repeat' first|trivial)
     )
  | (have hx:=Hm hd (.inr (Hn.2 (by omega)))
     rw[<-he,hx];refine ab.mk [] ?_<;>(repeat' first|trivial)
     )
  |skip
def EI:Sm:=fun args σ=>match args,σ with
 |[.ptr 0 0],[.cells ([.str s_c,.int .i64 (.ofNat a_c),.int .i64 (.ofNat e_c),.int .i64 c_c])]=>some (True/\((Cu.mk s_c a_c e_c c_c).ok),.tuple [],some [.cells (eC (Cu.mk s_c a_c e_c c_c).dC)])
 |_,_=>none
theorem Tg:aq 130 EI:=by
 intro args sg pre x r he hp;unfold EI at he;split at he<;>cases he
 . rw[cX (hp).1];exact Q2 (hp:=hp.2) ..
theorem Q5(b:UInt8) (hp:True):OK 132 ([bv b,.list true 1 [.int .u8 123,.int .u8 125,.int .u8 91,.int .u8 93,.int .u8 58,.int .u8 44]]) ([]) (.bool (dj b)) (none):=by
 refine ai (C:=cx []) (ak trivial) (fn:=Tryz.f132) fun hw hs=>?_;have hb:b.toNat<256:=b.toNat_lt;have hl:([123,125,91,93,58,44]:g8).length=6:=rfl;refine aM.mk Nat (fun i=>i<=6/\∀j,j<i->([123,125,91,93,58,44]:g8).getD j 0≠b) (fun i=>⟨17,[(0,bv b),(7,.list true 1 (bl [123,125,91,93,58,44])),(8,.int .i64 6),(9,.int .i64 i)],[],[]⟩) (fun i=>6-i) [] 0 ⟨by omega,fun j hj=>absurd hj (by omega)⟩ ?_ (fun i ⟨hi,hj⟩ _ _=>?_)
 . apply ao<;>(repeat' first|trivial)
 have hx:(([123,125,91,93,58,44]:g8).getD i 0).toNat<256:=UInt8.toNat_lt _;have hin:∀j,j<6->dj (([123,125,91,93,58,44]:g8).getD j 0) =true:=by decide
 have hno:i=6->dj b=false:=fun e=>by
  cases q:dj b with
  |false=>rfl
  |true=>
    have h:∀n:Nat,n<256->dj (.ofNat n) =true->∃j,j<6/\([123,125,91,93,58,44]:g8).getD j 0=.ofNat n:=by decide+kernel
    obtain⟨j,h1,h2⟩:=h b.toNat hb (by rw[UInt8.ofNat_toNat];exact q);rw[UInt8.ofNat_toNat] at h2;exact absurd h2 (hj j (by omega))
 repeat'((conv=>whnf);first|apply af|(apply aj<;>intro h)|with_reducible refine goB ?_ fun hc=>?_)
 all_goals try conv=>whnf
 all_goals try(refine ae.mk ?_;try dsimp only)
 all_goals (try simp only[aT] at*)
 all_goals first|refine stay ?_|omega|skip
 . have e:([123,125,91,93,58,44]:g8).getD i 0=b:=UInt8.toNat_inj.1 (by omega);have:=hin i (by omega);rw[e] at this;rw[this];refine ab.mk [] ?_<;>(repeat' first|trivial)
 . refine⟨[],i+1,⟨by omega,fun j hjj=>?_⟩,?_,by omega⟩
   . by_cases e:j=i
     . subst e;intro e;have:=congrArg UInt8.toNat e;omega
     . exact hj j (by omega)
   . apply ao<;>(repeat' first|trivial|apply ah|apply aC)
     all_goals (simp(discharger:=omega) only[wR];omega)
 . rw[hno (by omega)];refine ab.mk [] ?_<;>(repeat' first|trivial)
def EK:Sm:=fun args σ=>match args,σ with
 |[.int .u8 n_b,.list true 1 [.int .u8 123,.int .u8 125,.int .u8 91,.int .u8 93,.int .u8 58,.int .u8 44]],[]=>some ((0<=n_b/\n_b<=255)/\(True),.bool (dj (byte n_b)),none)
 |_,_=>none
theorem Ti:aq 132 EK:=by
 intro args sg pre x r he hp;unfold EK at he;split at he<;>cases he
 . rw[gd (hp).1];exact Q5 (hp:=hp.2) ..
theorem Q6(k:UInt8) (hp:True):OK 138 ([bv k]) ([]) (.str (spell k)) (none):=by
 refine ai (C:=cx []) (ak trivial) (fn:=Tryz.f138) fun hw hs=>?_;have hb:k.toNat<256:=k.toNat_lt;repeat'((conv=>whnf);(apply aj<;>intro h))
 all_goals try conv=>whnf
 all_goals try(refine ae.mk ?_;try dsimp only)
 all_goals (try simp only[aT] at*)
 all_goals try refine stay ?_
 all_goals
  unfold spell
  repeat (first|rw[if_pos (by omega)]|rw[if_neg (by omega)])
  refine ab.mk [] ?_<;>(repeat' first|trivial)
def EL:Sm:=fun args σ=>match args,σ with
 |[.int .u8 n_k],[]=>some ((0<=n_k/\n_k<=255)/\(True),.str (spell (byte n_k)),none)
 |_,_=>none
theorem Tj:aq 138 EL:=by
 intro args sg pre x r he hp;unfold EL at he;split at he<;>cases he
 . rw[gd (hp).1];exact Q6 (hp:=hp.2) ..
abbrev eT(t:Tk):List V:=[.int .u8 t.k.toNat,.str t.t]
theorem Q3(c:Cu) (k:UInt8) (t:g8) (hp:True):OK 135 ([.ptr 0 0,.agg [bv k,.str t]]) ([.cells (eC c)]) (.agg (eT (if c.c=0 then⟨k,t⟩ else .no))) (none):=by
 refine ai (C:=cx [(86,mi)]) (ak ⟨nz,trivial⟩) (fn:=Tryz.f135) fun hw hs=>?_;have hb:k.toNat<256:=k.toNat_lt;have hbb:byte k.toNat=k:=dd _;repeat'((conv=>whnf);first|apply af|apply aI|(apply aj<;>intro h))
 all_goals try conv=>whnf
 all_goals try(refine ae.mk ?_;try dsimp only)
 all_goals (try simp only[aT] at*)
 all_goals first|refine stay ?_|trivial|skip
 all_goals
  first|rw[if_pos (by assumption)]|rw[if_neg (by assumption)]
  refine ab.mk [] ?_<;>(repeat' first|trivial)
def EJ:Sm:=fun args σ=>match args,σ with
 |[.ptr 0 0,.agg [.int .u8 n_k,.str t]],[.cells ([.str s_c,.int .i64 (.ofNat a_c),.int .i64 (.ofNat e_c),.int .i64 c_c])]=>some ((0<=n_k/\n_k<=255)/\(True/\(True)),.agg (eT (if(Cu.mk s_c a_c e_c c_c).c=0 then⟨(byte n_k),t⟩ else .no)),none)
 |_,_=>none
theorem Th:aq 135 EJ:=by
 intro args sg pre x r he hp;unfold EJ at he;split at he<;>cases he
 . rw[gd (hp).1];rw[cX (hp.2).1];exact Q3 (hp:=hp.2.2) ..
theorem Ny(b:UInt8) (s:g8) (c:Cu):c.word (b::s) =if c.ay≠b then(c.byte.fail 3,false) else c.byte.word s:=rfl
theorem Z1(c:Cu):c.word []=(c,true):=rfl
theorem Q7(c:Cu) (k:UInt8) (t:g8) (hp:c.ok/\t.length<=100):OK 137 ([.ptr 0 0,bv k,.str t]) ([.cells (eC c)]) (.agg (eT (if(c.word t).2=true then⟨k,[]⟩ else .no))) (some [.cells (eC (c.word t).1)]):=by
 refine ai (C:=cx [(133,mh),(139,mY)]) (ak ⟨ny,oy,trivial⟩) (fn:=Tryz.f137) fun hw hs=>?_;obtain⟨hp,hl⟩:=hp;have hk:k.toNat<256:=k.toNat_lt;have hkk:byte k.toNat=k:=dd _;all_goals try conv=>whnf
 all_goals try(refine ae.mk ?_;try dsimp only)
 all_goals try refine stay ?_
 refine aM.mk (Nat×Cu) (fun|(i,d) =>i<=t.length/\d.ok/\d.word (t.drop i) =c.word t) (fun|(i,d) =>⟨25,[(0,.ptr 0 0),(1,bv k),(2,.str t),(6,.ptr 1 0),(9,.int .i64 t.length),(10,.int .i64 i)],[.cells (eC d),.cells [.int .u8 0,.str []]],[]⟩) (fun x=>t.length-x.1) [] (0,c) ⟨by omega,hp,rfl⟩ ?_ (fun⟨i,d⟩ ⟨hi,hd,he⟩ _ _=>?_)
 . apply ao<;>(repeat' first|trivial)
 have hb:d.ay.toNat<256:=d.ay.toNat_lt;have hx:(t.getD i 0).toNat<256:=UInt8.toNat_lt _;have hbo:=(nJ hd 1).1;have hdr:i<t.length->t.drop i=t.getD i 0::t.drop (i+1):=fun h=>by
  rw[List.drop_eq_getElem_cons h,ac,am h];rfl
 repeat'((conv=>whnf);first|apply af|apply aI|(apply aj<;>intro h)|with_reducible refine cg ?_ fun hc=>?_)
 all_goals try conv=>whnf
 all_goals try(refine ae.mk ?_;try dsimp only)
 all_goals (try simp only[aT] at*)
 all_goals first|refine stay ?_|trivial|omega|skip
 . rw[hdr (by omega),Ny,if_neg (fun e=>e (UInt8.toNat_inj.1 (by omega)))] at he;refine⟨[],(i+1,d.byte),⟨by omega,hbo,he⟩,?_,by show t.length-(i+1)<t.length-i;omega⟩;apply ao<;>(repeat' first|trivial|apply ah|apply aC)
   all_goals (simp(discharger:=omega) only[wR];omega)
 . rw[hdr (by omega),Ny,if_pos (fun e=>by have:=congrArg UInt8.toNat e;omega)] at he;rw[<-he];refine ab.mk [] ?_<;>(repeat' first|trivial)
 . rw[List.drop_eq_nil_of_le (by omega),Z1] at he;rw[<-he];refine ab.mk [] ?_<;>(repeat' first|trivial)
def EM:Sm:=fun args σ=>match args,σ with
 |[.ptr 0 0,.int .u8 n_k,.str t],[.cells ([.str s_c,.int .i64 (.ofNat a_c),.int .i64 (.ofNat e_c),.int .i64 c_c])]=>some ((0<=n_k/\n_k<=255)/\(True/\((Cu.mk s_c a_c e_c c_c).ok/\t.length<=100)),.agg (eT (if((Cu.mk s_c a_c e_c c_c).word t).2=true then⟨(byte n_k),[]⟩ else .no)),some [.cells (eC ((Cu.mk s_c a_c e_c c_c).word t).1)])
 |_,_=>none
theorem Tl:aq 137 EM:=by
 intro args sg pre x r he hp;unfold EM at he;split at he<;>cases he
 . rw[gd (hp).1];rw[cX (hp.2).1];exact Q7 (hp:=hp.2.2) ..
theorem Q4(c:Cu) (hp:c.ok/\c.s.length<=10000000):OK 85 ([.ptr 0 0]) ([.cells (eC c)]) (.agg (eT c.next.2)) (some [.cells (eC c.next.1)]):=by
 refine ai (C:=cx [(130,EI),(131,q9),(132,EK),(133,mh),(134,EG),(135,EJ),(136,Et),(138,EL),(137,EM),(139,mY)]) (ak ⟨Tg,tC,Ti,ny,Te,Th,T3,Tj,Tl,oy,trivial⟩) (fn:=Tryz.f85) fun hw hs=>?_;obtain⟨hp,hl⟩:=hp;have hbk:=Hl hp;have hbs:c.dC.s=c.s:=by unfold Cu.dC;split<;>rfl
 have hb:c.dC.ay.toNat<256:=c.dC.ay.toNat_lt;have hbb:byte c.dC.ay.toNat=c.dC.ay:=dd _;repeat'((conv=>whnf);first|apply af|apply aI|(apply aj<;>intro h))
 all_goals try conv=>whnf
 all_goals try(refine ae.mk ?_;try dsimp only)
 all_goals (try simp only[aT] at*)
 all_goals first|refine stay ?_|trivial|(simp(discharger:=omega) [-List.getD_eq_getElem?_getD,wR]<;>omega)|skip
 all_goals (try simp only[hbb] at*)
 all_goals first
  |exact⟨trivial,hbk⟩
  |exact⟨trivial,hbk,by rw[hbs];omega⟩
  |exact⟨by omega,trivial⟩
  |(exfalso;omega)
  |skip
 all_goals
  have hh:c.dC.has\/¬c.dC.has:=Decidable.em _;have sT:dj c.dC.ay=true↔(c.dC.ay.toNat=123\/c.dC.ay.toNat=125\/c.dC.ay.toNat=91\/c.dC.ay.toNat=93\/c.dC.ay.toNat=58\/c.dC.ay.toNat=44):=decide_eq_true_iff;have dT:=qx (b:=c.dC.ay);unfold Cu.next Cu.xd;first
  |rw[if_pos (show¬c.dC.has by assumption)]
  |rw[if_neg (fun q=>q (show c.dC.has by assumption))]
  repeat (first|rw[if_pos (by rw[sT];omega)]|rw[if_neg (by rw[sT];omega)]|rw[if_pos (by rw[dT];omega)]|rw[if_neg (by rw[dT];omega)]|rw[if_pos (by omega)]|rw[if_neg (by omega)])
  try unfold held Cu.uF
  try rw[show(byte 116).toNat=116 from rfl]
  refine ab.mk [] ?_<;>(repeat' first|trivial)
def uk:Sm:=fun args σ=>match args,σ with
 |[.ptr 0 0],[.cells ([.str s_c,.int .i64 (.ofNat a_c),.int .i64 (.ofNat e_c),.int .i64 c_c])]=>some (True/\((Cu.mk s_c a_c e_c c_c).ok/\(Cu.mk s_c a_c e_c c_c).s.length<=10000000),.agg (eT (Cu.mk s_c a_c e_c c_c).next.2),some [.cells (eC (Cu.mk s_c a_c e_c c_c).next.1)])
 |_,_=>none
theorem yo:aq 85 uk:=by
 intro args sg pre x r he hp;unfold uk at he;split at he<;>cases he
 . rw[cX (hp).1];exact Q4 (hp:=hp.2) ..
end Go.Proofs.YtknljebcgcmaeaaGreatDoor
