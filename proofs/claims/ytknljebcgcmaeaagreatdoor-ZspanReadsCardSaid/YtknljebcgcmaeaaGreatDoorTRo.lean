/-
  A part of the proof.
-/
import Derived.Test.YtknljebcgcmaeaaGreatDoorKD
import Derived.Test.YtknljebcgcmaeaaGreatDoorKA
import Derived.Test.YtknljebcgcmaeaaGreatDoorJSm
set_option linter.unusedSimpArgs false
set_option linter.unusedVariables false
set_option maxHeartbeats 4000000
set_option maxRecDepth 100000
namespace Go.Proofs.YtknljebcgcmaeaaGreatDoor
open Go Go.VG
abbrev mK(ks:List g8):List (V×Int):=ks.map fun k=>(V.str k,1)
theorem yP:∀{ks:List g8} {x:g8},x∈ks->∃j,bN (mK ks) (.str x) =some (j,1)
 |[],_,h=>by simp at h
 |k::ks,x,h=>by
   show∃j,bN ((V.str k,1)::mK ks) (.str x) =some (j,1);unfold bN;show∃j,cond (k==x) _ _=some (j,1);by_cases e:k=x
   . rw[e,beq_self_eq_true];exact⟨0,rfl⟩
   . rw[beq_eq_false_iff_ne.2 e];obtain⟨j,hj⟩:=yP (ks:=ks) (x:=x) ((List.mem_cons.1 h).resolve_left (Ne.symm e));rw[hj];exact⟨j+1,rfl⟩
theorem wc:∀{ks:List g8} {x:g8},x∉ks->bN (mK ks) (.str x) =none
 |[],_,_=>rfl
 |k::ks,x,h=>by
   show bN ((V.str k,1)::mK ks) (.str x) =none;unfold bN;show cond (k==x) _ _=none;rw[beq_eq_false_iff_ne.2 (fun e=>h (by rw[e];simp)),wc (ks:=ks) (fun q=>h (d8 _ q))];rfl
theorem CR{ks:List g8} {x:g8} (h:bN (mK ks) (.str x) =none):x∉ks:=fun q=>by
 obtain⟨j,hj⟩:=yP q;rw[hj] at h;cases h
theorem L6{ks:List g8} {x:g8} {j:Nat} {q:Int} (h:bN (mK ks) (.str x) =some (j,q)):x∈ks/\q=1:=by
 by_cases e:x∈ks
 . obtain⟨j',hj⟩:=yP e;rw[hj] at h;cases h;exact⟨e,rfl⟩
 . rw[wc e] at h;cases h
theorem L4{ks:List g8} {x:g8} (h:x∈ks):getM (mK ks) (.str x) =1:=by
 obtain⟨j,hj⟩:=yP h;unfold getM;rw[hj]
theorem wb{ks:List g8} {x:g8} (h:x∉ks):getM (mK ks) (.str x) =0:=by
 unfold getM;rw[wc h]
theorem L3(ks:List g8) (x:g8):mK ks++[(V.str x,1)]=mK (ks++[x]):=by
 show _=(ks++[x]).map _;rw[gq];rfl
theorem L5(ks:List g8) (x:g8):0<=getM (mK ks) (.str x)/\getM (mK ks) (.str x)<=1:=by
 by_cases h:x∈ks
 . rw[L4 h];decide
 . rw[wb h];decide
theorem IX{es:List (V×Int)} {x:g8} {q:Int} (h:bN es (.str x) =none):getM (es++[(.str x,q)]) (.str x) =q:=by
 unfold getM;rw[IG h];show(match cond (x==x) (some (es.length,q)) none with|some (_,q) =>q|none=>0) =q;rw[beq_self_eq_true];rfl
theorem IY:∀{es:List (V×Int)} {x:g8} {j:Nat} {q q':Int},bN es (.str x) =some (j,q)->getM (iZ es j q') (.str x) =q'
 |[],_,_,_,_,h=>by cases h
 |(y,p)::es,x,j,q,q',h=>by
   unfold bN at h;cases hb:kZ y (.str x) with
   |true=>
     rw[hb] at h;cases h;unfold iZ getM bN;rw[hb];rfl
   |false=>
     rw[hb] at h;cases hf:bN es (.str x) with
     |none=>rw[hf] at h;cases h
     |some r=>
       obtain⟨j',q1⟩:=r;rw[hf] at h;cases h;have:=IY (q':=q') hf;unfold iZ getM bN;rw[hb];unfold getM at this;cases hg:bN (iZ es j' q') (.str x) with
       |none=>rw[hg] at this;simpa using this
       |some r=>obtain⟨a,b⟩:=r;rw[hg] at this;simpa using this
abbrev OS:Type:=Nat×Tk×Cu×List g8×List Nd×List Nat×Nat
structure OInv(k:Nat) (c:Cu) (x:OS):Prop where
 live:x.2.2.1.live
 s:x.2.2.1.s=c.s
 e:x.2.2.1.e=c.e
 acc:x.2.2.2.2.1.length+1+c.p<=x.2.2.1.p
 n:x.2.2.1.e-x.2.2.1.p+1<=x.1
 r:bS (gv k) c=iG (gv k) x.1 x.2.1 x.2.2.1 x.2.2.2.1 x.2.2.2.2.1
theorem R8(k:Nat) (hv:dR 38 (l7 k)) (c:Cu) (l:List V) (d:Int) (hp:c.live/\d+k=32/\(∃L:List Nd,l=L.map aN)/\l.length+(c.e-c.p)<=100000000) (hc:¬((bS (gv k) c).1≠0)):OK 83 ([.ptr 0 0,.int .i64 d]) ([.cells [.ptr 1 0,.buf 2],.cells (eC c),.buf 4 0 l]) (.tuple []) (some [.cells [.ptr 1 0,.buf 2],.cells (eC (bS (gv k) c).2.2),.buf 4 0 (l++(bS (gv k) c).2.1.map aN)]):=by
 refine ai (C:=cxq [] [(39,oG),(129,zf),(38,l7 k)] [9]) (Je trivial ⟨rh,Kx,hv,trivial⟩) (fn:=Tryz.f83) fun hw hs=>?_;have hn:=fun h=>bQ hp.1 h;repeat'((conv=>whnf);first|with_reducible refine cK ?_ (fun h=>?_) fun h=>?_|(apply aj<;>intro h))
 all_goals try conv=>whnf
 all_goals try(refine ae.mk ?_;try dsimp only)
 . exact⟨trivial,hp.1.1,hp.1.2.2⟩
 . exfalso;unfold bS at hc;rw[if_pos (by assumption)] at hc;exact hc (by assumption)
 . simp only[aT] at*;have hr:bS (gv k) c=(0,[],c.next.1):=by unfold bS;rw[if_neg (by assumption),if_pos (by omega)]
   rw[hr];refine ab.mk [] ?_<;>(repeat' first|trivial|apply ah|apply bg)
   simp
 simp only[aT] at*;have hn:=hn (by omega);refine aM.mk OS (OInv k c) (fun x=>⟨47,[(0,.ptr 0 0),(1,.int .i64 d),(4,.map 3),(5,.ptr 4 0)],[.cells [.ptr 1 0,.buf 2],.cells (eC x.2.2.1),.buf 4 0 (l++x.2.2.2.2.1.map aN),.map false [.kS] (mK x.2.2.2.1) x.2.2.2.2.2.1 x.2.2.2.2.2.2,.cells (eT x.2.1)],[2]⟩) (fun x=>x.1) [] (c.next.1.e-c.next.1.p+1,c.next.2,c.next.1,[],[],[],0) ⟨hn.1,hn.2.1,hn.2.2.1,by show 0+1+c.p<=c.next.1.p;omega,co _,by unfold bS;rw[if_neg (by assumption),if_neg (by omega)]⟩ ?_ (fun⟨n,t,c',ks,acc,bs,ck⟩ hI _ _=>?_)
 . apply ao<;>(repeat' first|trivial|apply ah|apply bg)
   all_goals simp
 obtain⟨i1,i2,i3,i4,i5,i6⟩:=hI;dsimp only at i1 i2 i3 i4 i5 i6;obtain⟨n,rfl⟩:∃m,n=m+1:=⟨n-1,by omega⟩
 rw[iG] at i6;obtain⟨L,hL⟩:=hp.2.2.1;have hma:(acc.map aN).length=acc.length:=aB ..;have hpe:=i1.1.1;have hkr:=L5 ks t.t;have hm:fJ t c' ks=0:=Decidable.byContradiction fun q=>by
  rw[if_pos q] at i6;rw[i6] at hc;exact hc q
 obtain⟨m1,m2,m3,m4,m5⟩:=yR i1 hm;rw[if_neg (by omega)] at i6;repeat'((conv=>whnf);first|with_reducible (first|refine go1 (fun j q h=>?_) fun h=>?_|refine cK ?_ (fun h=>?_) fun h=>?_)|apply fD|apply aI|(apply aj<;>intro h))
 all_goals try conv=>whnf
 all_goals try(refine ae.mk ?_;try dsimp only)
 all_goals (try simp only[aT,p6,jt] at*)
 all_goals (try (exfalso; have hx:bN (mK ks) (V.str t.t)=some (j,q):=by assumption
                 rw[wc m2] at hx;cases hx;done))
 . rw[m1];rfl
 . have hx:=‹getM (mK ks++_) _>1›
   rw[IX (wc m2),wb m2] at hx;exact absurd hx (by decide)
 . exact⟨by decide,trivial,i1.1,i1.2.2⟩
 . rcases ‹c'.aK≠0\/c'.next.2.k≠byte 58› with q|q
   . exact q m3
   . exact q (UInt8.toNat_inj.1 (by rw[m4];rfl))
 obtain⟨o1,o2,o3,o4,_⟩:=bQ i1 m3;obtain⟨u1,u2,u3,u4,_⟩:=bQ o1 m5;have u5:=u1.1.1;have fit:=iU k c'.next.1.next.2 t.t c'.next.1.next.1 u1;have hkk:mK ks++[(V.str t.t,IntKind.i64.wrap (getM (mK ks) (V.str t.t)+1))]=mK (ks++[t.t]):=by rw[wb m2];exact L3 ks t.t
 refine uL.last [_,_,_,_,_,_] _ _ rfl rfl rfl rfl rfl ?_;repeat'((conv=>whnf);first|with_reducible refine cK ?_ (fun h=>?_) fun h=>?_|apply af|apply fD|(apply aj<;>intro h))
 all_goals try conv=>whnf
 all_goals try(refine ae.mk ?_;try dsimp only)
 all_goals (try simp only[aT,p6,jt] at*)
 all_goals unfold c7 at i6
 all_goals generalize gv k c'.next.1.next.2 t.t c'.next.1.next.1=r at*
 . exact⟨⟨trivial,o1.1,o1.2.2⟩,fun q=>q m5⟩
 . exact⟨⟨by omega,by have:=c'.next.1.next.2.k.toNat_lt;omega⟩,u1,hp.2.1,tN hL,by have:=hp.2.2.2;rw[an,hma];rw[u3,o3,i3] at u5⊢;omega⟩
 . rw[if_pos (by assumption)] at i6;rw[i6] at hc;exact hc (by assumption)
 . have f:=fit (by omega);exact⟨trivial,f.live.1,f.live.2.2⟩
 . rw[if_neg (by assumption),if_pos (by assumption)] at i6;rw[i6] at hc;exact hc (by assumption)
 . rw[if_neg (by assumption),if_neg (by assumption),if_pos (by omega)] at i6;rw[i6];refine ab.mk [] ?_<;>(repeat' first|trivial|apply ah|apply bg)
   rw[gq,gc]
 all_goals
  have h44:r.2.2.next.2.k.toNat=44:=by
   refine Decidable.byContradiction fun q=>hc ?_;rw[if_neg (by assumption),if_neg (by assumption),if_neg (by omega),if_pos q] at i6;rw[i6];exact(by decide:(3:Int)≠0)
 . rw[h44];rfl
 all_goals
  have f:=fit (by omega);obtain⟨a1,a2,a3,a4,_⟩:=bQ f.live (by omega);have f2:=f.p;have f3:=f.e;have f4:=f.len;have f5:=f.s
 . exact⟨trivial,a1.1,a1.2.2⟩
 . rw[if_neg (by assumption),if_neg (by assumption),if_neg (by omega),if_neg (fun q=>q h44),if_pos (by assumption)] at i6;rw[i6] at hc;exact hc (by assumption)
 . rw[if_neg (by assumption),if_neg (by assumption),if_neg (by omega),if_neg (fun q=>q h44),if_neg (by assumption)] at i6;obtain⟨b1,b2,b3,b4,_⟩:=bQ a1 (by omega);have b5:=b1.1.1;refine⟨[],(n,r.2.2.next.1.next.2,r.2.2.next.1.next.1,ks++[t.t],acc++r.2.1,bs++[ck],ck+1),⟨b1,by show _=c.s;rw[b2,a2,f5,u2,o2,i2],by show _=c.e;rw[b3,a3,f3,u3,o3,i3],by show(acc++r.2.1).length+1+c.p<=r.2.2.next.1.next.1.p;rw[an];omega,by show r.2.2.next.1.next.1.e-r.2.2.next.1.next.1.p+1<=n;rw[b3,a3,f3,u3,o3,i3] at b5⊢;rw[i3] at i5;omega,i6⟩,?_,Nat.lt_succ_self n⟩;apply ao<;>(repeat' first|trivial|apply ah|apply bg)
   all_goals first
    |(rw[hkk];done)
    |(rw[gq,gc];done)
theorem W7(k:Nat) (hv:dR 38 (l7 k)) (c:Cu) (l:List V) (d:Int) (hp:c.live/\d+k=32/\(∃L:List Nd,l=L.map aN)/\l.length+(c.e-c.p)<=100000000) (hc:(bS (gv k) c).1≠0):j6 83 ([.ptr 0 0,.int .i64 d]) ([.cells [.ptr 1 0,.buf 2],.cells (eC c),.buf 4 0 l]) (.iface 99 (.int .i64 (bS (gv k) c).1)) (some [.dead,.dead,.dead,.buf 1 0 []]):=by
 refine je (C:=cxq [] [(39,oG),(129,zf),(38,l7 k)] [9]) (Je trivial ⟨rh,Kx,hv,trivial⟩) (fn:=Tryz.f83) rfl rfl rfl rfl fun hw hs=>?_;have hn:=fun h=>bQ hp.1 h;repeat'((conv=>whnf);first|with_reducible refine cK ?_ (fun h=>?_) fun h=>?_|apply af|(apply aj<;>intro h))
 all_goals try conv=>whnf
 all_goals try(refine ae.mk ?_;try dsimp only)
 . exact⟨trivial,hp.1.1,hp.1.2.2⟩
 . simp only[aT] at*;have hr:bS (gv k) c=(c.aK,[],c):=by unfold bS;rw[if_pos (by assumption)]
   rw[hr]
 . (refine bI.mk [.nw,.swap 3 4] ?_<;>(repeat' first|trivial|rfl|apply ah);done)
 . exfalso;simp only[aT] at*;have hr:bS (gv k) c=(0,[],c.next.1):=by unfold bS;rw[if_neg (by assumption),if_pos (by omega)]
   rw[hr] at hc;exact hc rfl
 simp only[aT] at*;have hn:=hn (by omega);refine aM.mk OS (OInv k c) (fun x=>⟨47,[(0,.ptr 0 0),(1,.int .i64 d),(4,.map 3),(5,.ptr 4 0)],[.cells [.ptr 1 0,.buf 2],.cells (eC x.2.2.1),.buf 4 0 (l++x.2.2.2.2.1.map aN),.map false [.kS] (mK x.2.2.2.1) x.2.2.2.2.2.1 x.2.2.2.2.2.2,.cells (eT x.2.1)],[2]⟩) (fun x=>x.1) [] (c.next.1.e-c.next.1.p+1,c.next.2,c.next.1,[],[],[],0) ⟨hn.1,hn.2.1,hn.2.2.1,by show 0+1+c.p<=c.next.1.p;omega,co _,by unfold bS;rw[if_neg (by assumption),if_neg (by omega)]⟩ ?_ (fun⟨n,t,c',ks,acc,bs,ck⟩ hI _ _=>?_)
 . apply ao<;>(repeat' first|trivial|apply ah|apply bg)
   all_goals simp
 obtain⟨i1,i2,i3,i4,i5,i6⟩:=hI;dsimp only at i1 i2 i3 i4 i5 i6;obtain⟨n,rfl⟩:∃m,n=m+1:=⟨n-1,by omega⟩
 rw[iG] at i6;obtain⟨L,hL⟩:=hp.2.2.1;have hma:(acc.map aN).length=acc.length:=aB ..;have hpe:=i1.1.1;have hkr:=L5 ks t.t;have hme:fJ t c' ks≠0->bS (gv k) c=(fJ t c' ks,[],c'):=fun q=>by rw[if_pos q] at i6;exact i6
 have h8:∀{j q},bN (mK ks) (V.str t.t) =some (j,q)->t.k.toNat=115->fJ t c' ks=8:=fun hf hk=>by unfold fJ;rw[if_neg (by omega),if_pos (L6 hf).1]
 have h2:∀{j q},bN (mK ks) (V.str t.t) =some (j,q)->getM (iZ (mK ks) j (IntKind.i64.wrap (getM (mK ks) (V.str t.t)+1))) (V.str t.t)>1:=fun hf=>by rw[IY hf,L4 (L6 hf).1];decide
 have h1:bN (mK ks) (V.str t.t) =none->¬getM (mK ks++[(V.str t.t,IntKind.i64.wrap (getM (mK ks) (V.str t.t)+1))]) (V.str t.t)>1:=fun hf=>by rw[IX hf,wb (CR hf)];decide
 repeat'((conv=>whnf);first|with_reducible (first|refine go1 (fun j q h=>?_) fun h=>?_|refine cK ?_ (fun h=>?_) fun h=>?_)|apply af|apply aI|(apply aj<;>intro h))
 all_goals try conv=>whnf
 all_goals try(refine ae.mk ?_;try dsimp only)
 all_goals (try simp only[aT,p6,jt] at*)
 . have e:=h8 (by assumption) (by omega);rw[hme (by rw[e];decide)];show _=Value.iface _ (Value.int _ (fJ t c' ks));rw[e]
 . (refine bI.mk [.nw,.swap 3 5] ?_<;>(repeat' first|trivial|rfl|apply ah);done)
 . exact⟨by decide,trivial,i1.1,i1.2.2⟩
 . exact absurd (h2 (by assumption)) (by assumption)
 . (refine bI.mk [.nw,.swap 3 5] ?_<;>(repeat' first|trivial|rfl|apply ah);done)
 . exact absurd (h2 (by assumption)) (by assumption)
 . exact absurd (by assumption) (h1 (by assumption))
 . (refine bI.mk [.nw,.swap 3 5] ?_<;>(repeat' first|trivial|rfl|apply ah);done)
 . exact⟨by decide,trivial,i1.1,i1.2.2⟩
 . have hq:=‹c'.aK≠0\/c'.next.2.k≠byte 58›
   have e:fJ t c' ks=if c'.aK≠0 then c'.aK else 3:=by
    unfold fJ;rw[if_neg (by omega),if_neg (CR (by assumption))];by_cases q:c'.aK≠0
    . rw[if_pos q,if_pos q]
    . rw[if_neg q,if_neg q,if_pos (fun e=>(hq.resolve_left q) (UInt8.toNat_inj.1 (by rw[e];rfl)))]
   rw[hme (by rw[e];split<;>first|assumption|decide)];show _=Value.iface _ (Value.int _ (fJ t c' ks));rw[e]
 . (refine bI.mk [.nw,.swap 3 5] ?_<;>(repeat' first|trivial|rfl|apply ah);done)
 . have hq:=‹¬(c'.aK≠0\/c'.next.2.k≠byte 58)›
   have m2:=CR (ks:=ks) (x:=t.t) (by assumption);have m3:c'.aK=0:=Decidable.byContradiction fun q=>hq (.inl q);have m4:c'.next.2.k.toNat=58:=Decidable.byContradiction fun q=>hq (.inr fun e=>q (by rw[e];rfl));have e:fJ t c' ks=c'.next.1.aK:=by unfold fJ;rw[if_neg (by omega),if_neg m2,if_neg (by omega),if_neg (by omega)]
   obtain⟨o1,o2,o3,o4,_⟩:=bQ i1 m3;by_cases m5:c'.next.1.aK=0
   . rw[if_neg (by omega)] at i6;obtain⟨u1,u2,u3,u4,_⟩:=bQ o1 m5;have u5:=u1.1.1;have fit:=iU k c'.next.1.next.2 t.t c'.next.1.next.1 u1;have hkk:mK ks++[(V.str t.t,IntKind.i64.wrap (getM (mK ks) (V.str t.t)+1))]=mK (ks++[t.t]):=by rw[wb m2];exact L3 ks t.t
     refine uL.last [_,_,_,_,_,_] _ _ rfl rfl rfl rfl rfl ?_;repeat'((conv=>whnf);first|with_reducible refine cK ?_ (fun h=>?_) fun h=>?_|apply af|(apply aj<;>intro h))
     all_goals try conv=>whnf
     all_goals try(refine ae.mk ?_;try dsimp only)
     all_goals (try simp only[aT,p6,jt] at*)
     all_goals unfold c7 at i6
     all_goals generalize gv k c'.next.1.next.2 t.t c'.next.1.next.1=r at*
     . exact⟨⟨trivial,o1.1,o1.2.2⟩,fun q=>q m5⟩
     . exact⟨⟨by omega,by have:=c'.next.1.next.2.k.toNat_lt;omega⟩,u1,hp.2.1,tN hL,by have:=hp.2.2.2;rw[an,hma];rw[u3,o3,i3] at u5⊢;omega⟩
     . rw[if_pos (by assumption)] at i6;rw[i6]
     . (refine bI.mk [.nw,.swap 3 5] ?_<;>(repeat' first|trivial|rfl|apply ah);done)
     . have f:=fit (by omega);exact⟨trivial,f.live.1,f.live.2.2⟩
     . rw[if_neg (by assumption),if_pos (by assumption)] at i6;rw[i6]
     . (refine bI.mk [.nw,.swap 3 5] ?_<;>(repeat' first|trivial|rfl|apply ah);done)
     . rw[if_neg (by assumption),if_neg (by assumption),if_pos (by omega)] at i6;rw[i6] at hc;exact hc rfl
     . have f:=fit (by omega);obtain⟨a1,a2,a3,a4,_⟩:=bQ f.live (by omega);exact⟨trivial,a1.1,a1.2.2⟩
     . rw[if_neg (by assumption),if_neg (by assumption),if_neg (by omega),if_neg (by omega),if_pos (by assumption)] at i6;rw[i6]
     . (refine bI.mk [.nw,.swap 3 5] ?_<;>(repeat' first|trivial|rfl|apply ah);done)
     . rw[if_neg (by assumption),if_neg (by assumption),if_neg (by omega),if_neg (by omega),if_neg (by assumption)] at i6;have f:=fit (by omega);obtain⟨a1,a2,a3,a4,_⟩:=bQ f.live (by omega);have f2:=f.p;have f3:=f.e;have f4:=f.len;have f5:=f.s;obtain⟨b1,b2,b3,b4,_⟩:=bQ a1 (by omega);have b5:=b1.1.1;refine⟨[],(n,r.2.2.next.1.next.2,r.2.2.next.1.next.1,ks++[t.t],acc++r.2.1,bs++[ck],ck+1),⟨b1,by show _=c.s;rw[b2,a2,f5,u2,o2,i2],by show _=c.e;rw[b3,a3,f3,u3,o3,i3],by show(acc++r.2.1).length+1+c.p<=r.2.2.next.1.next.1.p;rw[an];omega,by show r.2.2.next.1.next.1.e-r.2.2.next.1.next.1.p+1<=n;rw[b3,a3,f3,u3,o3,i3] at b5⊢;rw[i3] at i5;omega,i6⟩,?_,Nat.lt_succ_self n⟩;apply ao<;>(repeat' first|trivial|apply ah|apply bg)
       all_goals first
        |(rw[hkk];done)
        |(rw[gq,gc];done)
     . rw[if_neg (by assumption),if_neg (by assumption),if_neg (by omega),if_pos (by omega)] at i6;rw[i6]
     . (refine bI.mk [.nw,.swap 3 5] ?_<;>(repeat' first|trivial|rfl|apply ah);done)
   . rw[if_pos (by omega)] at i6;refine uL.pan [_,_,_,_,_,_] [_] 2 _ _ _ _ _ rfl rfl rfl rfl rfl rfl rfl rfl rfl rfl ?_;repeat'((conv=>whnf);apply af)
     all_goals try conv=>whnf
     all_goals try(refine ae.mk ?_;try dsimp only)
     all_goals (try simp only[aT,p6,jt] at*)
     . exact⟨⟨trivial,o1.1,o1.2.2⟩,m5⟩
     . rw[i6];show _=Value.iface _ (Value.int _ (fJ t c' ks));rw[e]
     . (refine bI.mk [.nw,.swap 3 5] ?_<;>(repeat' first|trivial|rfl|apply ah);done)
 . have e:fJ t c' ks=3:=by unfold fJ;rw[if_pos (by omega)]
   rw[hme (by rw[e];decide)];show _=Value.iface _ (Value.int _ (fJ t c' ks));rw[e]
 . (refine bI.mk [.nw,.swap 3 5] ?_<;>(repeat' first|trivial|rfl|apply ah);done)
def rA(k:Nat):dL:=fun args σ=>match args,σ with
 |[.ptr 0 0,.int .i64 d],[.cells [.ptr 1 0,.buf 2],.cells ([.str s_c,.int .i64 (.ofNat a_c),.int .i64 (.ofNat e_c),.int .i64 c_c]),.buf 4 0 l]=>some (True/\((Cu.mk s_c a_c e_c c_c).live/\d+k=32/\(∃L:List Nd,l=L.map aN)/\l.length+((Cu.mk s_c a_c e_c c_c).e-(Cu.mk s_c a_c e_c c_c).p)<=100000000),(bS (gv k) (Cu.mk s_c a_c e_c c_c)).1≠0,.iface 99 (.int .i64 (bS (gv k) (Cu.mk s_c a_c e_c c_c)).1),some [.dead,.dead,.dead,.buf 1 0 []],.tuple [],some [.cells [.ptr 1 0,.buf 2],.cells (eC (bS (gv k) (Cu.mk s_c a_c e_c c_c)).2.2),.buf 4 0 (l++(bS (gv k) (Cu.mk s_c a_c e_c c_c)).2.1.map aN)])
 |_,_=>none
theorem UL(k:Nat) (hv:dR 38 (l7 k)):dR 83 (rA k):=by
 intro args sg pre c u r x r2 he hp;unfold rA at he;split at he<;>cases he
 . rw[cX (hp).1];exact⟨fun hc=>⟨_,rfl,W7 (hv:=hv) (hp:=hp.2) (hc:=hc) ..⟩,fun hc=>R8 (hv:=hv) (hp:=hp.2) (hc:=hc) ..⟩
theorem rl{k:UInt8}:gZ k=true↔(k.toNat=115\/k.toNat=110\/k.toNat=116\/k.toNat=102\/k.toNat=122):=by unfold gZ;exact decide_eq_true_iff
theorem Bb{l m:List V} {x b:V} (h:(l++x::m)[((l.length:Nat):Int).toNat]?=some b):b=x:=by
 rw[Int.toNat_natCast,d7 (co _),Nat.sub_self] at h;simpa using h.symm
theorem Hf{l m:List V} {x b:V} (h:(l++[x]++m)[((l.length:Nat):Int).toNat]?=some b):b=x:=by
 rw[gc] at h;exact Bb h
theorem Y1{l m:List V} {x y:V}:(l++x::m).set (((l.length:Nat):Int).toNat) y=l++y::m:=by
 rw[Int.toNat_natCast,List.set_append_right _ _ (co _),Nat.sub_self];rfl
theorem Yp(l:List V) (n:Nat) (h:n<=100000001):IntKind.i64.wrap (((l.length+n:Nat):Int)-(l.length:Int)) =(n:Int):=by rw[bz];omega
theorem Gg{l m:List V} {a:Int} {key tt:g8} (h:m.length<=100000000):(l++[V.agg [.int .u8 a,.str key,.str tt,.int .i64 0]]++m).set ((l.length:Nat):Int).toNat
   (.agg [.int .u8 a,.str key,.str tt,.int .i64 (IntKind.i64.wrap (((l++[V.agg [.int .u8 a,.str key,.str tt,.int .i64 0]]++m).length:Int)-(l.length:Int)))]) =
   l++V.agg [.int .u8 a,.str key,.str tt,.int .i64 ((m.length:Int)+1)]::m:=by
 rw[gc];show(l++_::m).set _ (.agg [.int .u8 a,.str key,.str tt,.int .i64 (IntKind.i64.wrap (((l++_::m).length:Int)-_))]) =_;rw[Y1,an,List.length_cons,Yp _ _ (show m.length+1<=_ by omega)];rfl
theorem Nj{l:List V} {a:Int} {key tt:g8}:(l++[V.agg [.int .u8 a,.str key,.str tt,.int .i64 0]]).set ((l.length:Nat):Int).toNat
   (.agg [.int .u8 a,.str key,.str tt,.int .i64 (IntKind.i64.wrap (((l++[V.agg [.int .u8 a,.str key,.str tt,.int .i64 0]]).length:Int)-(l.length:Int)))]) =
   l++[V.agg [.int .u8 a,.str key,.str tt,.int .i64 1]]:=by
 have:=Gg (l:=l) (m:=[]) (a:=a) (key:=key) (tt:=tt) (ci _);rw[List.append_nil] at this;exact this
theorem Rf(k0:UInt8) (tt key:g8) (c:Cu) (l:List V) (d:Int) (hp:c.live/\d=32/\(∃L:List Nd,l=L.map aN)/\l.length+(c.e-c.p)+1<=100000000) (hc:¬((gv 0 ⟨k0,tt⟩ key c).1≠0)):OK 38 ([.ptr 0 0,.agg [bv k0,.str tt],.str key,.int .i64 d]) ([.cells [.ptr 1 0,.buf 2],.cells (eC c),.buf 4 0 l]) (.tuple []) (some [.cells [.ptr 1 0,.buf 2],.cells (eC (gv 0 ⟨k0,tt⟩ key c).2.2),.buf 4 0 (l++(gv 0 ⟨k0,tt⟩ key c).2.1.map aN)]):=by
 refine ai (C:=cx []) (ak trivial) (fn:=Tryz.f38) fun hw hs=>?_;obtain⟨hp1,rfl,⟨L,hL⟩,hp4⟩:=hp;have hcc:¬(k0.toNat=123\/k0.toNat=91):=fun q=>hc (by rw[gv,if_pos q];exact(by decide:(33:Int)≠0));have hl:gZ k0=true:=Decidable.byContradiction fun q=>hc (by rw[gv,if_neg hcc,if_neg q];exact(by decide:(3:Int)≠0));have hg:gv 0 ⟨k0,tt⟩ key c=(0,[⟨k0,key,tt,1⟩],c):=by rw[gv,if_neg hcc,if_pos hl]
 have hk:=rl.1 hl;repeat'((conv=>whnf);first|apply af|apply fD|(apply aj<;>intro h)|with_reducible refine pG ?_ fun b hb=>?_)
 all_goals try conv=>whnf
 all_goals try(refine ae.mk ?_;try dsimp only)
 all_goals first
  |(exfalso;omega)
  |(exact⟨by omega,by rw[an];show _<((l.length+1:Nat):Int);omega⟩)
  |(show l.length+1<=_;omega)
  |(rw[an];show _<l.length+1;omega)
  |(exact beq_iff_eq.2 (by omega))
  |skip
 all_goals
  obtain rfl:=Bb hb;repeat'((conv=>whnf);apply af)
  all_goals try conv=>whnf
  all_goals try(refine ae.mk ?_;try dsimp only)
  all_goals first
   |exact ci _
   |skip
  rw[hg];refine ab.mk [] ?_<;>(repeat' first|trivial|apply ah|apply bg)
  exact Nj
theorem W9(k0:UInt8) (tt key:g8) (c:Cu) (l:List V) (d:Int) (hp:c.live/\d=32/\(∃L:List Nd,l=L.map aN)/\l.length+(c.e-c.p)+1<=100000000) (hc:(gv 0 ⟨k0,tt⟩ key c).1≠0):j6 38 ([.ptr 0 0,.agg [bv k0,.str tt],.str key,.int .i64 d]) ([.cells [.ptr 1 0,.buf 2],.cells (eC c),.buf 4 0 l]) (.iface 99 (.int .i64 (gv 0 ⟨k0,tt⟩ key c).1)) (some [.dead,.dead,.dead,.buf 1 0 []]):=by
 refine je (C:=cx []) (ak trivial) (fn:=Tryz.f38) rfl rfl rfl rfl fun hw hs=>?_;obtain⟨hp1,rfl,⟨L,hL⟩,hp4⟩:=hp;have hnl:¬(k0.toNat=115\/k0.toNat=110\/k0.toNat=116\/k0.toNat=102\/k0.toNat=122):=fun q=>hc (by rw[gv,if_neg (show¬(k0.toNat=123\/k0.toNat=91) by omega),if_pos (rl.2 q)]);have q33:k0.toNat=123\/k0.toNat=91->gv 0 ⟨k0,tt⟩ key c=(33,[],c):=fun q=>by rw[gv,if_pos q]
 have q3:¬(k0.toNat=123\/k0.toNat=91)->gv 0 ⟨k0,tt⟩ key c=(3,[],c):=fun q=>by rw[gv,if_neg q,if_neg (fun r=>hnl (rl.1 r))]
 repeat'((conv=>whnf);first|apply af|(apply aj<;>intro h)|with_reducible refine pG ?_ fun b hb=>?_)
 all_goals try conv=>whnf
 all_goals try(refine ae.mk ?_;try dsimp only)
 all_goals first
  |(exfalso;omega)
  |(exact⟨by omega,by rw[an];show _<((l.length+1:Nat):Int);omega⟩)
  |(show l.length+1<=_;omega)
  |(rw[an];show _<l.length+1;omega)
  |(exact beq_iff_eq.2 (by omega))
  |skip
 all_goals first
  |(rw[q33 (by omega)];done)
  |(rw[q3 (by omega)];done)
  | (show bI _ _ _
     (refine bI.mk [.nw,.swap 3 4] ?_<;>(repeat' first|trivial|rfl|apply ah);done)
     done)
  |skip
def LN:dL:=fun args σ=>match args,σ with
 |[.ptr 0 0,.agg [.int .u8 n_k0,.str tt],.str key,.int .i64 d],[.cells [.ptr 1 0,.buf 2],.cells ([.str s_c,.int .i64 (.ofNat a_c),.int .i64 (.ofNat e_c),.int .i64 c_c]),.buf 4 0 l]=>some ((0<=n_k0/\n_k0<=255)/\(True/\((Cu.mk s_c a_c e_c c_c).live/\d=32/\(∃L:List Nd,l=L.map aN)/\l.length+((Cu.mk s_c a_c e_c c_c).e-(Cu.mk s_c a_c e_c c_c).p)+1<=100000000)),(gv 0 ⟨(byte n_k0),tt⟩ key (Cu.mk s_c a_c e_c c_c)).1≠0,.iface 99 (.int .i64 (gv 0 ⟨(byte n_k0),tt⟩ key (Cu.mk s_c a_c e_c c_c)).1),some [.dead,.dead,.dead,.buf 1 0 []],.tuple [],some [.cells [.ptr 1 0,.buf 2],.cells (eC (gv 0 ⟨(byte n_k0),tt⟩ key (Cu.mk s_c a_c e_c c_c)).2.2),.buf 4 0 (l++(gv 0 ⟨(byte n_k0),tt⟩ key (Cu.mk s_c a_c e_c c_c)).2.1.map aN)])
 |_,_=>none
theorem UN:dR 38 (LN):=by
 intro args sg pre c u r x r2 he hp;unfold LN at he;split at he<;>cases he
 . rw[gd (hp).1];rw[cX (hp.2).1];exact⟨fun hc=>⟨_,rfl,W9 (hp:=hp.2.2) (hc:=hc) ..⟩,fun hc=>Rf (hp:=hp.2.2) (hc:=hc) ..⟩
theorem Rg(k:Nat) (ho:dR 83 (rA k)) (hl:dR 84 (rz k)) (k0:UInt8) (tt key:g8) (c:Cu) (l:List V) (d:Int) (hp:c.live/\d+k+1=32/\(∃L:List Nd,l=L.map aN)/\l.length+(c.e-c.p)+1<=100000000) (hc:¬((gv (k+1) ⟨k0,tt⟩ key c).1≠0)):OK 38 ([.ptr 0 0,.agg [bv k0,.str tt],.str key,.int .i64 d]) ([.cells [.ptr 1 0,.buf 2],.cells (eC c),.buf 4 0 l]) (.tuple []) (some [.cells [.ptr 1 0,.buf 2],.cells (eC (gv (k+1) ⟨k0,tt⟩ key c).2.2),.buf 4 0 (l++(gv (k+1) ⟨k0,tt⟩ key c).2.1.map aN)]):=by
 refine ai (C:=gy [] [(83,rA k),(84,rz k)]) (gW trivial ⟨ho,hl,trivial⟩) (fn:=Tryz.f38) fun hw hs=>?_;obtain⟨hp1,hp2,⟨L,hL⟩,hp4⟩:=hp;have hdl:-9223372036854775808<=d:=hw.2.2.2.1.1;have hdw:IntKind.i64.wrap (d+1) =d+1:=by rw[bz];omega
 have g1:k0.toNat=123->gv (k+1) ⟨k0,tt⟩ key c=((bS (gv k) c).1,⟨k0,key,tt,(bS (gv k) c).2.1.length+1⟩::(bS (gv k) c).2.1,(bS (gv k) c).2.2):=fun q=>by rw[gv,if_pos q]
 have g2:k0.toNat=91->gv (k+1) ⟨k0,tt⟩ key c=((bW (gv k) c).1,⟨k0,key,tt,(bW (gv k) c).2.1.length+1⟩::(bW (gv k) c).2.1,(bW (gv k) c).2.2):=fun q=>by rw[gv,if_neg (show¬k0.toNat=123 by omega),if_pos q]
 have g3:gZ k0=true->gv (k+1) ⟨k0,tt⟩ key c=(0,[⟨k0,key,tt,1⟩],c):=fun q=>by
  have:=rl.1 q;rw[gv,if_neg (show¬k0.toNat=123 by omega),if_neg (show¬k0.toNat=91 by omega),if_pos q]
 have g4:¬k0.toNat=123->¬k0.toNat=91->¬gZ k0=true->gv (k+1) ⟨k0,tt⟩ key c=(3,[],c):=fun q q2 q3=>by rw[gv,if_neg q,if_neg q2,if_neg q3]
 have l1:(bS (gv k) c).1=0->(bS (gv k) c).2.1.length<=100000000:=fun q=>by
  obtain⟨f,h⟩:=Ca (iU k) hp1 q;have h2:=f.live.1.1;rw[f.e] at h2;omega
 have l2:(bW (gv k) c).1=0->(bW (gv k) c).2.1.length<=100000000:=fun q=>by
  obtain⟨f,h⟩:=C9 (iU k) hp1 q;have h2:=f.live.1.1;rw[f.e] at h2;omega
 have hl:¬k0.toNat=123->¬k0.toNat=91->gZ k0=true:=fun q q2=>Decidable.byContradiction fun q3=>hc (by rw[g4 q q2 q3];exact(by decide:(3:Int)≠0));have hk:¬k0.toNat=123->¬k0.toNat=91->_:=fun q q2=>rl.1 (hl q q2);repeat'((conv=>whnf);first|with_reducible refine cK ?_ (fun h=>?_) fun h=>?_|apply af|apply fD|(apply aj<;>intro h)|with_reducible refine pG ?_ fun b hb=>?_)
 all_goals try conv=>whnf
 all_goals try(refine ae.mk ?_;try dsimp only)
 all_goals (try simp only[aT] at*)
 all_goals first
  |(exfalso;omega)
  |(exact⟨by omega,by rw[an];show _<((l.length+1:Nat):Int);omega⟩)
  |(show l.length+1<=_;omega)
  |(rw[an];show _<l.length+1;omega)
  |(exact beq_iff_eq.2 (by omega))
  |skip
 all_goals first
  |(exact⟨trivial,hp1,by rw[hdw];omega,tN (a:=[⟨k0,key,tt,0⟩]) hL,by rw[an];show l.length+1+_<=_;omega⟩)
  |(exact⟨by omega,by rw[an,an];show _<((l.length+1+_:Nat):Int);omega⟩)
  |(rw[an,an];show _<l.length+1+_;omega)
  |skip
 . exact hc (by rw[g1 (by omega)];exact ‹(bS (gv k) c).1≠0›)
 . obtain rfl:=Hf hb;repeat'((conv=>whnf);apply af)
   all_goals try conv=>whnf
   all_goals try(refine ae.mk ?_;try dsimp only)
   . exact ci _
   have h0:(bS (gv k) c).1=0:=Decidable.not_not.1 (by assumption);rw[g1 (by omega)];refine ab.mk [] ?_<;>(repeat' first|trivial|apply ah|apply bg)
   rw[Gg (by rw[aB];exact l1 h0),aB];rfl
 . exact hc (by rw[g2 (by omega)];exact ‹(bW (gv k) c).1≠0›)
 . obtain rfl:=Hf hb;repeat'((conv=>whnf);apply af)
   all_goals try conv=>whnf
   all_goals try(refine ae.mk ?_;try dsimp only)
   . exact ci _
   have h0:(bW (gv k) c).1=0:=Decidable.not_not.1 (by assumption);rw[g2 (by omega)];refine ab.mk [] ?_<;>(repeat' first|trivial|apply ah|apply bg)
   rw[Gg (by rw[aB];exact l2 h0),aB];rfl
 all_goals
  obtain rfl:=Bb hb;repeat'((conv=>whnf);apply af)
  all_goals try conv=>whnf
  all_goals try(refine ae.mk ?_;try dsimp only)
  all_goals first
   |exact ci _
   |skip
  rw[g3 (hl (by omega) (by omega))];refine ab.mk [] ?_<;>(repeat' first|trivial|apply ah|apply bg)
  exact Nj
theorem Wa(k:Nat) (ho:dR 83 (rA k)) (hl:dR 84 (rz k)) (k0:UInt8) (tt key:g8) (c:Cu) (l:List V) (d:Int) (hp:c.live/\d+k+1=32/\(∃L:List Nd,l=L.map aN)/\l.length+(c.e-c.p)+1<=100000000) (hc:(gv (k+1) ⟨k0,tt⟩ key c).1≠0):j6 38 ([.ptr 0 0,.agg [bv k0,.str tt],.str key,.int .i64 d]) ([.cells [.ptr 1 0,.buf 2],.cells (eC c),.buf 4 0 l]) (.iface 99 (.int .i64 (gv (k+1) ⟨k0,tt⟩ key c).1)) (some [.dead,.dead,.dead,.buf 1 0 []]):=by
 refine je (C:=gy [] [(83,rA k),(84,rz k)]) (gW trivial ⟨ho,hl,trivial⟩) (fn:=Tryz.f38) rfl rfl rfl rfl fun hw hs=>?_;obtain⟨hp1,hp2,⟨L,hL⟩,hp4⟩:=hp;have hdl:-9223372036854775808<=d:=hw.2.2.2.1.1;have hdw:IntKind.i64.wrap (d+1)=d+1:=by rw[bz];omega
 have g1:k0.toNat=123->gv (k+1) ⟨k0,tt⟩ key c=((bS (gv k) c).1,⟨k0,key,tt,(bS (gv k) c).2.1.length+1⟩::(bS (gv k) c).2.1,(bS (gv k) c).2.2):=fun q=>by rw[gv,if_pos q]
 have g2:k0.toNat=91->gv (k+1) ⟨k0,tt⟩ key c=((bW (gv k) c).1,⟨k0,key,tt,(bW (gv k) c).2.1.length+1⟩::(bW (gv k) c).2.1,(bW (gv k) c).2.2):=fun q=>by rw[gv,if_neg (show¬k0.toNat=123 by omega),if_pos q]
 have g3:gZ k0=true->gv (k+1) ⟨k0,tt⟩ key c=(0,[⟨k0,key,tt,1⟩],c):=fun q=>by
  have:=rl.1 q;rw[gv,if_neg (show¬k0.toNat=123 by omega),if_neg (show¬k0.toNat=91 by omega),if_pos q]
 have g4:¬k0.toNat=123->¬k0.toNat=91->¬gZ k0=true->gv (k+1) ⟨k0,tt⟩ key c=(3,[],c):=fun q q2 q3=>by rw[gv,if_neg q,if_neg q2,if_neg q3]
 have l1:(bS (gv k) c).1=0->(bS (gv k) c).2.1.length<=100000000:=fun q=>by
  obtain⟨f,h⟩:=Ca (iU k) hp1 q;have h2:=f.live.1.1;rw[f.e] at h2;omega
 have l2:(bW (gv k) c).1=0->(bW (gv k) c).2.1.length<=100000000:=fun q=>by
  obtain⟨f,h⟩:=C9 (iU k) hp1 q;have h2:=f.live.1.1;rw[f.e] at h2;omega
 have hnl:¬k0.toNat=123->¬k0.toNat=91->¬gZ k0=true:=fun q q2 q3=>hc (by rw[g3 q3]);have hk:¬k0.toNat=123->¬k0.toNat=91->¬_:=fun q q2 r=>hnl q q2 (rl.2 r);repeat'((conv=>whnf);first|with_reducible refine cK ?_ (fun h=>?_) fun h=>?_|apply af|(apply aj<;>intro h)|with_reducible refine pG ?_ fun b hb=>?_)
 all_goals try conv=>whnf
 all_goals try(refine ae.mk ?_;try dsimp only)
 all_goals (try simp only[aT] at*)
 all_goals first
  |(exfalso;omega)
  |(exact⟨by omega,by rw[an];show _<((l.length+1:Nat):Int);omega⟩)
  |(show l.length+1<=_;omega)
  |(rw[an];show _<l.length+1;omega)
  |(exact beq_iff_eq.2 (by omega))
  |skip
 all_goals first
  |(exact⟨trivial,hp1,by rw[hdw];omega,tN (a:=[⟨k0,key,tt,0⟩]) hL,by rw[an];show l.length+1+_<=_;omega⟩)
  |(exact⟨by omega,by rw[an,an];show _<((l.length+1+_:Nat):Int);omega⟩)
  |(rw[an,an];show _<l.length+1+_;omega)
  |skip
 all_goals first
  |(rw[g1 (by omega)];done)
  |(rw[g2 (by omega)];done)
  |(rw[g4 (by omega) (by omega) (hnl (by omega) (by omega))];done)
  | (show bI _ _ _
     (refine bI.mk [.nw,.swap 3 4] ?_<;>(repeat' first|trivial|rfl|apply ah);done)
     done)
  |(exfalso;exact hc (by rw[g1 (by omega)];exact Decidable.not_not.1 ‹¬(bS (gv k) c).1≠0›))
  |(exfalso;exact hc (by rw[g2 (by omega)];exact Decidable.not_not.1 ‹¬(bW (gv k) c).1≠0›))
def LO(k:Nat):dL:=fun args σ=>match args,σ with
 |[.ptr 0 0,.agg [.int .u8 n_k0,.str tt],.str key,.int .i64 d],[.cells [.ptr 1 0,.buf 2],.cells ([.str s_c,.int .i64 (.ofNat a_c),.int .i64 (.ofNat e_c),.int .i64 c_c]),.buf 4 0 l]=>some ((0<=n_k0/\n_k0<=255)/\(True/\((Cu.mk s_c a_c e_c c_c).live/\d+k+1=32/\(∃L:List Nd,l=L.map aN)/\l.length+((Cu.mk s_c a_c e_c c_c).e-(Cu.mk s_c a_c e_c c_c).p)+1<=100000000)),(gv (k+1) ⟨(byte n_k0),tt⟩ key (Cu.mk s_c a_c e_c c_c)).1≠0,.iface 99 (.int .i64 (gv (k+1) ⟨(byte n_k0),tt⟩ key (Cu.mk s_c a_c e_c c_c)).1),some [.dead,.dead,.dead,.buf 1 0 []],.tuple [],some [.cells [.ptr 1 0,.buf 2],.cells (eC (gv (k+1) ⟨(byte n_k0),tt⟩ key (Cu.mk s_c a_c e_c c_c)).2.2),.buf 4 0 (l++(gv (k+1) ⟨(byte n_k0),tt⟩ key (Cu.mk s_c a_c e_c c_c)).2.1.map aN)])
 |_,_=>none
theorem UO(k:Nat) (ho:dR 83 (rA k)) (hl:dR 84 (rz k)):dR 38 (LO k):=by
 intro args sg pre c u r x r2 he hp;unfold LO at he;split at he<;>cases he
 . rw[gd (hp).1];rw[cX (hp.2).1];exact⟨fun hc=>⟨_,rfl,Wa (ho:=ho) (hl:=hl) (hp:=hp.2.2) (hc:=hc) ..⟩,fun hc=>Rg (ho:=ho) (hl:=hl) (hp:=hp.2.2) (hc:=hc) ..⟩
theorem Kz:∀k,dR 38 (l7 k)
 |0=>by
   intro args sg pre c u r x r2 he hp;unfold l7 at he;split at he<;>cases he;exact UN _ _ _ _ _ _ _ _ rfl ⟨hp.1,trivial,hp.2.1,by have:=hp.2.2.1;omega,hp.2.2.2⟩
 |k+1=>by
   have hv:=Kz k;intro args sg pre c u r x r2 he hp;unfold l7 at he;split at he<;>cases he;exact UO k (UL k hv) (UK k hv) _ _ _ _ _ _ _ _ rfl ⟨hp.1,trivial,hp.2.1,by have:=hp.2.2.1;omega,hp.2.2.2⟩
structure DO(k:Nat) (s0:Sx) (i m:Nat) (s:Sx) (ks:List g8) (acc:List Nd):Prop where
 j:i+m=s0.1.length+1
 n:s.1.length+1<=m
 a:acc.length+s.1.length<=s0.1.length
 b:ks.length<=i
 r:bK (aF k) 125 s0=fG (aF k) m s ks acc
theorem QN(k:Nat) (hv:aq 14 (nN k)) (s:Sx) (d:Int) (hp:d+k=32/\s.1.length<=10000000):OK 49 [jZ s,.int .u8 125,.int .i64 d] [] (.tuple [.buf 0,jZ (bK (aF k) 125 s).2.2,.int .i64 (bK (aF k) 125 s).1]) (some [iB (bK (aF k) 125 s).2.1]):=by
 refine ai (C:=cx [(48,uq),(14,nN k),(107,Ad)]) (ak ⟨yu,hv,Kf,trivial⟩) (fn:=Tryz.f49) fun hw hs=>?_;have hml:(s.1.map vT).length=s.1.length:=aB _;have hst:¬(aL s=0/\(ax s).k.toNat=125)->bK (aF k) 125 s=fG (aF k) (s.1.length+1) s [] []:=fun h=>by unfold bK;rw[if_neg h,if_pos rfl]
 repeat'((conv=>whnf);first|apply af|(apply aj<;>intro h))
 all_goals try conv=>whnf
 all_goals try(refine ae.mk ?_;try dsimp only)
 all_goals (try simp only[lM,bX,nS,jt] at*)
 all_goals first|refine stay ?_|(exact⟨km,trivial⟩)|skip
 . have h0:=‹aL s=0›
   have hr:bK (aF k) 125 s=(0,[],au s):=by
    unfold bK;rw[if_pos ⟨h0,by have h:=‹_=(125:Int)›;rw[if_pos h0] at h;omega⟩]
   rw[hr]
   (refine ab.mk [.tm 6 4,.swap 0 4] ?_<;>(repeat' first|trivial|rfl|refine And.intro ?_ ?_))
 . have h0:=‹aL s=0›
   have hst:=hst fun q=>by have h:=‹¬_=(125:Int)›;rw[if_pos h0] at h;have:=q.2;omega
   refine aM.mk (Nat×Nat×Sx×List g8×List Nd×Tk×Sx) (fun x=>DO k s x.1 x.2.1 x.2.2.1 x.2.2.2.1 x.2.2.2.2.1) (fun x=>⟨129,[(1,.int .u8 125),(2,.int .i64 d),(3,.ptr 0 0),(6,.list true 0 []),(7,.ptr 1 0),(9,.buf 4),(10,.buf 5),(11,.ptr 2 0),(12,.ptr 3 0),(14,.int .i64 s.1.length),(15,.int .i64 x.1)],[.cells (qc x.2.2.1),.cells [.list true 0 [],.int .i64 0],.cells (eT x.2.2.2.2.2.1),.cells (qc x.2.2.2.2.2.2),iB x.2.2.2.2.1,qy x.2.2.2.1],[4,5]⟩) (fun x=>x.2.1) [.tm 9 4,.tm 10 1] (0,s.1.length+1,s,[],[],(if aL s=0 then ax s else default),au s) ⟨by show 0+(s.1.length+1) =_;omega,co _,by show 0+s.1.length<=_;omega,co _,hst⟩ ?_ (fun⟨i,n,s',ks,acc,tk,rs⟩ hI _ _=>?_)
   . apply ao<;>(repeat' first|trivial|apply ah|apply aC)
     all_goals (simp only[lM,hml];done)
   obtain⟨i1,i2,i3,i5,i4⟩:=hI;dsimp only at i1 i2 i3 i4 i5;obtain⟨n,rfl⟩:∃m,n=m+1:=⟨n-1,by omega⟩
   rw[fG] at i4;have nd:=sM k (ax s').t (au (au s'));have hml':(s'.1.map vT).length=s'.1.length:=aB _;have hml2:((au (au s')).1.map vT).length=(au (au s')).1.length:=aB _;have hma:(acc.map aN).length=acc.length:=aB _;have hmk:(ks.map V.str).length=ks.length:=aB _;have hmv:((aF k (ax s').t (au (au s'))).2.1.map aN).length=(aF k (ax s').t (au (au s'))).2.1.length:=aB _;have hs1:=fh s';have hs2:=fh (au s');have hA0:aL s'≠0->bK (aF k) 125 s=(aL s',[],s'):=fun h=>by
    rw[i4,show gH s' ks=aL s' by unfold gH;rw[if_pos h],if_pos h]
   have hA1:aL s'=0->(ax s').k.toNat≠115->bK (aF k) 125 s=(3,[],s'):=fun h h2=>by
    rw[i4,show gH s' ks=3 by unfold gH;rw[if_neg (by omega),if_pos h2],if_pos (by decide)]
   have hA2:aL s'=0->(ax s').k.toNat=115->(ax s').t∈ks->bK (aF k) 125 s=(8,[],s'):=fun h h2 h3=>by
    rw[i4,show gH s' ks=8 by unfold gH;rw[if_neg (by omega),if_neg (by omega),if_pos h3],if_pos (by decide)]
   have hK:aL s'=0->(ax s').k.toNat=115->¬(ax s').t∈ks->gH s' ks=0:=fun h h2 h3=>by unfold gH;rw[if_neg (by omega),if_neg (by omega),if_neg h3]
   have hB0:aL s'=0->(ax s').k.toNat=115->¬(ax s').t∈ks->aL (au s')≠0->bK (aF k) 125 s=(aL (au s'),[],au (au s')):=fun h h2 h3 h4=>by
    rw[i4,hK h h2 h3,if_neg (by decide),show jm (au s') =aL (au s') by unfold jm;rw[if_pos h4],if_pos h4]
   have hB1:aL s'=0->(ax s').k.toNat=115->¬(ax s').t∈ks->aL (au s') =0->(ax (au s')).k.toNat≠58->bK (aF k) 125 s=(3,[],au (au s')):=fun h h2 h3 h4 h5=>by
    rw[i4,hK h h2 h3,if_neg (by decide),show jm (au s') =3 by unfold jm;rw[if_neg (by omega),if_pos h5],if_pos (by decide)]
   have hCD:aL (au s') =0->(ax (au s')).k.toNat=58->jm (au s') =0:=fun h4 h5=>by unfold jm;rw[if_neg (by omega),if_neg (by omega)]
   have hC:aL s'=0->(ax s').k.toNat=115->¬(ax s').t∈ks->aL (au s') =0->(ax (au s')).k.toNat=58->bK (aF k) 125 s=
      if(aF k (ax s').t (au (au s'))).1≠0 then((aF k (ax s').t (au (au s'))).1,[],au (au s'))
      else if cw 125 (aF k (ax s').t (au (au s')))≠0 then(cw 125 (aF k (ax s').t (au (au s'))),[],au (aF k (ax s').t (au (au s'))).2.2)
      else if(ax (aF k (ax s').t (au (au s'))).2.2).k.toNat=125 then(0,acc++(aF k (ax s').t (au (au s'))).2.1,au (aF k (ax s').t (au (au s'))).2.2)
      else fG (aF k) n (au (aF k (ax s').t (au (au s'))).2.2) (ks++[(ax s').t]) (acc++(aF k (ax s').t (au (au s'))).2.1):=fun h h2 h3 h4 h5=>by
    rw[i4,hK h h2 h3,if_neg (by decide),hCD h4 h5,if_neg (by decide)]
   clear i4 hCD hK;repeat'((conv=>whnf);first|apply af|apply aI|(apply aj<;>intro h))
   all_goals try conv=>whnf
   all_goals try(refine ae.mk ?_;try dsimp only)
   all_goals (try simp only[lM,bX,nS,jt] at*)
   all_goals (try(exfalso;omega))
   all_goals (try rw[if_pos (show aL s'=0 by assumption)] at*)
   all_goals (try rw[if_pos (show aL (au s') =0 by assumption)] at*)
   all_goals generalize hR:aF k (ax s').t (au (au s')) =R at*
   all_goals (try rw[if_pos (show aL R.2.2=0 by assumption)] at*)
   all_goals first|refine stay ?_|(exact⟨km,trivial⟩)|omega|(simp only[du];omega)|skip
   all_goals (try(exfalso;omega))
   . exact⟨Lx,by omega⟩
   . rw[hA2 (by assumption) (by omega) (by assumption)]
     (refine ab.mk [.tm 6 4,.swap 0 6] ?_<;>(repeat' first|trivial|rfl|refine And.intro ?_ ?_))
   . exact⟨km,hp.1,by rw[hml2];omega⟩
   all_goals (try have hC:=hC (by assumption) (by omega) (by assumption) (by assumption) (by omega))
   . have b1:aL R.2.2=0:=by assumption
     have b3:(ax R.2.2).k.toNat=125:=by omega
     have hb:cw 125 R=0:=by unfold cw;rw[if_neg (by omega),if_pos b3]
     rw[hC,if_neg (by omega),if_neg (by omega),if_pos b3];refine ab.mk [.swap 0 4] ?_<;>(repeat' first|trivial|apply ah|apply bg)
     exact(gq ..).symm
   . have b1:aL R.2.2=0:=by assumption
     have b3:¬(ax R.2.2).k.toNat=125:=by omega
     have b4:¬(ax R.2.2).k.toNat≠44:=by omega
     have hb:cw 125 R=0:=by unfold cw;rw[if_neg (by omega),if_neg b3,if_neg b4]
     rw[if_neg (by omega),if_neg (by omega),if_neg b3] at hC;have hp0:=nQ b1;have hr:=fh R.2.2;have nd:=nd (by assumption);refine⟨[],(i+1,n,au R.2.2,ks++[(ax s').t],acc++R.2.1,ax R.2.2,au s'),⟨by show i+1+n=_;omega,by show(au R.2.2).1.length+1<=n;omega,by show(acc++R.2.1).length+(au R.2.2).1.length<=_;rw[an];omega,by show(ks++[_]).length<=i+1;rw[an,gt];omega,hC⟩,?_,Nat.lt_succ_self n⟩;apply ao<;>(repeat' first|trivial|apply ah|apply aC|apply bg)
     all_goals first
      |(first|(simp(discharger:=omega) only[wR];omega)|(simp(discharger:=omega) [-List.getD_eq_getElem?_getD,wR]<;>omega))
      |exact(gq ..).symm
   . have hb:cw 125 R=3:=by unfold cw;rw[if_neg (by omega),if_neg (by omega),if_pos (by omega)]
     rw[hC,if_neg (by omega),hb,if_pos (by decide)]
     (refine ab.mk [.tm 6 4,.swap 0 8] ?_<;>(repeat' first|trivial|rfl|refine And.intro ?_ ?_))
   . have b1:aL R.2.2≠0:=by assumption
     have hb:cw 125 R=aL R.2.2:=by unfold cw;rw[if_pos b1]
     rw[hC,if_neg (by omega),hb,if_pos b1]
     (refine ab.mk [.tm 6 4,.swap 0 8] ?_<;>(repeat' first|trivial|rfl|refine And.intro ?_ ?_))
   . rw[hC,if_pos (by assumption)]
     (refine ab.mk [.tm 6 4,.swap 0 8] ?_<;>(repeat' first|trivial|rfl|refine And.intro ?_ ?_))
   . rw[hB1 (by assumption) (by omega) (by assumption) (by assumption) (by omega)]
     (refine ab.mk [.tm 6 4,.swap 0 6] ?_<;>(repeat' first|trivial|rfl|refine And.intro ?_ ?_))
   . rw[hB0 (by assumption) (by omega) (by assumption) (by assumption)]
     (refine ab.mk [.tm 6 4,.swap 0 6] ?_<;>(repeat' first|trivial|rfl|refine And.intro ?_ ?_))
   . rw[hA1 (by assumption) (by omega)]
     (refine ab.mk [.tm 6 4,.swap 0 6] ?_<;>(repeat' first|trivial|rfl|refine And.intro ?_ ?_))
   . rw[hA0 (by assumption)]
     (refine ab.mk [.tm 6 4,.swap 0 6] ?_<;>(repeat' first|trivial|rfl|refine And.intro ?_ ?_))
 . have hst:=hst fun q=>‹¬aL s=0› q.1;refine aM.mk (Nat×Nat×Sx×List g8×List Nd×Tk×Sx) (fun x=>DO k s x.1 x.2.1 x.2.2.1 x.2.2.2.1 x.2.2.2.2.1) (fun x=>⟨129,[(1,.int .u8 125),(2,.int .i64 d),(3,.ptr 0 0),(6,.list true 0 []),(7,.ptr 1 0),(9,.buf 4),(10,.buf 5),(11,.ptr 2 0),(12,.ptr 3 0),(14,.int .i64 s.1.length),(15,.int .i64 x.1)],[.cells (qc x.2.2.1),.cells [.list true 0 [],.int .i64 0],.cells (eT x.2.2.2.2.2.1),.cells (qc x.2.2.2.2.2.2),iB x.2.2.2.2.1,qy x.2.2.2.1],[4,5]⟩) (fun x=>x.2.1) [.tm 9 4,.tm 10 1] (0,s.1.length+1,s,[],[],(if aL s=0 then ax s else default),au s) ⟨by show 0+(s.1.length+1) =_;omega,co _,by show 0+s.1.length<=_;omega,co _,hst⟩ ?_ (fun⟨i,n,s',ks,acc,tk,rs⟩ hI _ _=>?_)
   . apply ao<;>(repeat' first|trivial|apply ah|apply aC)
     all_goals (simp only[lM,hml];done)
   obtain⟨i1,i2,i3,i5,i4⟩:=hI;dsimp only at i1 i2 i3 i4 i5;obtain⟨n,rfl⟩:∃m,n=m+1:=⟨n-1,by omega⟩
   rw[fG] at i4;have nd:=sM k (ax s').t (au (au s'));have hml':(s'.1.map vT).length=s'.1.length:=aB _;have hml2:((au (au s')).1.map vT).length=(au (au s')).1.length:=aB _;have hma:(acc.map aN).length=acc.length:=aB _;have hmk:(ks.map V.str).length=ks.length:=aB _;have hmv:((aF k (ax s').t (au (au s'))).2.1.map aN).length=(aF k (ax s').t (au (au s'))).2.1.length:=aB _;have hs1:=fh s';have hs2:=fh (au s');have hA0:aL s'≠0->bK (aF k) 125 s=(aL s',[],s'):=fun h=>by
    rw[i4,show gH s' ks=aL s' by unfold gH;rw[if_pos h],if_pos h]
   have hA1:aL s'=0->(ax s').k.toNat≠115->bK (aF k) 125 s=(3,[],s'):=fun h h2=>by
    rw[i4,show gH s' ks=3 by unfold gH;rw[if_neg (by omega),if_pos h2],if_pos (by decide)]
   have hA2:aL s'=0->(ax s').k.toNat=115->(ax s').t∈ks->bK (aF k) 125 s=(8,[],s'):=fun h h2 h3=>by
    rw[i4,show gH s' ks=8 by unfold gH;rw[if_neg (by omega),if_neg (by omega),if_pos h3],if_pos (by decide)]
   have hK:aL s'=0->(ax s').k.toNat=115->¬(ax s').t∈ks->gH s' ks=0:=fun h h2 h3=>by unfold gH;rw[if_neg (by omega),if_neg (by omega),if_neg h3]
   have hB0:aL s'=0->(ax s').k.toNat=115->¬(ax s').t∈ks->aL (au s')≠0->bK (aF k) 125 s=(aL (au s'),[],au (au s')):=fun h h2 h3 h4=>by
    rw[i4,hK h h2 h3,if_neg (by decide),show jm (au s') =aL (au s') by unfold jm;rw[if_pos h4],if_pos h4]
   have hB1:aL s'=0->(ax s').k.toNat=115->¬(ax s').t∈ks->aL (au s') =0->(ax (au s')).k.toNat≠58->bK (aF k) 125 s=(3,[],au (au s')):=fun h h2 h3 h4 h5=>by
    rw[i4,hK h h2 h3,if_neg (by decide),show jm (au s') =3 by unfold jm;rw[if_neg (by omega),if_pos h5],if_pos (by decide)]
   have hCD:aL (au s') =0->(ax (au s')).k.toNat=58->jm (au s') =0:=fun h4 h5=>by unfold jm;rw[if_neg (by omega),if_neg (by omega)]
   have hC:aL s'=0->(ax s').k.toNat=115->¬(ax s').t∈ks->aL (au s') =0->(ax (au s')).k.toNat=58->bK (aF k) 125 s=
      if(aF k (ax s').t (au (au s'))).1≠0 then((aF k (ax s').t (au (au s'))).1,[],au (au s'))
      else if cw 125 (aF k (ax s').t (au (au s')))≠0 then(cw 125 (aF k (ax s').t (au (au s'))),[],au (aF k (ax s').t (au (au s'))).2.2)
      else if(ax (aF k (ax s').t (au (au s'))).2.2).k.toNat=125 then(0,acc++(aF k (ax s').t (au (au s'))).2.1,au (aF k (ax s').t (au (au s'))).2.2)
      else fG (aF k) n (au (aF k (ax s').t (au (au s'))).2.2) (ks++[(ax s').t]) (acc++(aF k (ax s').t (au (au s'))).2.1):=fun h h2 h3 h4 h5=>by
    rw[i4,hK h h2 h3,if_neg (by decide),hCD h4 h5,if_neg (by decide)]
   clear i4 hCD hK;repeat'((conv=>whnf);first|apply af|apply aI|(apply aj<;>intro h))
   all_goals try conv=>whnf
   all_goals try(refine ae.mk ?_;try dsimp only)
   all_goals (try simp only[lM,bX,nS,jt] at*)
   all_goals (try(exfalso;omega))
   all_goals (try rw[if_pos (show aL s'=0 by assumption)] at*)
   all_goals (try rw[if_pos (show aL (au s') =0 by assumption)] at*)
   all_goals generalize hR:aF k (ax s').t (au (au s')) =R at*
   all_goals (try rw[if_pos (show aL R.2.2=0 by assumption)] at*)
   all_goals first|refine stay ?_|(exact⟨km,trivial⟩)|omega|(simp only[du];omega)|skip
   all_goals (try(exfalso;omega))
   . exact⟨Lx,by omega⟩
   . rw[hA2 (by assumption) (by omega) (by assumption)]
     (refine ab.mk [.tm 6 4,.swap 0 6] ?_<;>(repeat' first|trivial|rfl|refine And.intro ?_ ?_))
   . exact⟨km,hp.1,by rw[hml2];omega⟩
   all_goals (try have hC:=hC (by assumption) (by omega) (by assumption) (by assumption) (by omega))
   . have b1:aL R.2.2=0:=by assumption
     have b3:(ax R.2.2).k.toNat=125:=by omega
     have hb:cw 125 R=0:=by unfold cw;rw[if_neg (by omega),if_pos b3]
     rw[hC,if_neg (by omega),if_neg (by omega),if_pos b3];refine ab.mk [.swap 0 4] ?_<;>(repeat' first|trivial|apply ah|apply bg)
     exact(gq ..).symm
   . have b1:aL R.2.2=0:=by assumption
     have b3:¬(ax R.2.2).k.toNat=125:=by omega
     have b4:¬(ax R.2.2).k.toNat≠44:=by omega
     have hb:cw 125 R=0:=by unfold cw;rw[if_neg (by omega),if_neg b3,if_neg b4]
     rw[if_neg (by omega),if_neg (by omega),if_neg b3] at hC;have hp0:=nQ b1;have hr:=fh R.2.2;have nd:=nd (by assumption);refine⟨[],(i+1,n,au R.2.2,ks++[(ax s').t],acc++R.2.1,ax R.2.2,au s'),⟨by show i+1+n=_;omega,by show(au R.2.2).1.length+1<=n;omega,by show(acc++R.2.1).length+(au R.2.2).1.length<=_;rw[an];omega,by show(ks++[_]).length<=i+1;rw[an,gt];omega,hC⟩,?_,Nat.lt_succ_self n⟩;apply ao<;>(repeat' first|trivial|apply ah|apply aC|apply bg)
     all_goals first
      |(first|(simp(discharger:=omega) only[wR];omega)|(simp(discharger:=omega) [-List.getD_eq_getElem?_getD,wR]<;>omega))
      |exact(gq ..).symm
   . have hb:cw 125 R=3:=by unfold cw;rw[if_neg (by omega),if_neg (by omega),if_pos (by omega)]
     rw[hC,if_neg (by omega),hb,if_pos (by decide)]
     (refine ab.mk [.tm 6 4,.swap 0 8] ?_<;>(repeat' first|trivial|rfl|refine And.intro ?_ ?_))
   . have b1:aL R.2.2≠0:=by assumption
     have hb:cw 125 R=aL R.2.2:=by unfold cw;rw[if_pos b1]
     rw[hC,if_neg (by omega),hb,if_pos b1]
     (refine ab.mk [.tm 6 4,.swap 0 8] ?_<;>(repeat' first|trivial|rfl|refine And.intro ?_ ?_))
   . rw[hC,if_pos (by assumption)]
     (refine ab.mk [.tm 6 4,.swap 0 8] ?_<;>(repeat' first|trivial|rfl|refine And.intro ?_ ?_))
   . rw[hB1 (by assumption) (by omega) (by assumption) (by assumption) (by omega)]
     (refine ab.mk [.tm 6 4,.swap 0 6] ?_<;>(repeat' first|trivial|rfl|refine And.intro ?_ ?_))
   . rw[hB0 (by assumption) (by omega) (by assumption) (by assumption)]
     (refine ab.mk [.tm 6 4,.swap 0 6] ?_<;>(repeat' first|trivial|rfl|refine And.intro ?_ ?_))
   . rw[hA1 (by assumption) (by omega)]
     (refine ab.mk [.tm 6 4,.swap 0 6] ?_<;>(repeat' first|trivial|rfl|refine And.intro ?_ ?_))
   . rw[hA0 (by assumption)]
     (refine ab.mk [.tm 6 4,.swap 0 6] ?_<;>(repeat' first|trivial|rfl|refine And.intro ?_ ?_))
def Ae(k:Nat):Sm:=fun args σ=>match args,σ with
 |[.agg [.list false 2 l,.int .i64 e],.int .u8 a,.int .i64 d],[]=>some (tP l/\(a=93\/a=125)/\d+k=32/\l.length<=10000000,.tuple [.buf 0,jZ (bK (aF k) a.toNat (eD l,e)).2.2,.int .i64 (bK (aF k) a.toNat (eD l,e)).1],some [iB (bK (aF k) a.toNat (eD l,e)).2.1])
 |_,_=>none
-- #name r13inner truchmanref13.inner
theorem U0(k:Nat) (hv:aq 14 (nN k)):aq 49 (Ae k):=by
 intro args sg pre x r he hp;unfold Ae at he;split at he<;>cases he;rename_i l e a d;obtain⟨h1,h2,h3,h4⟩:=hp;have el:(eD l).length=l.length:=by have h:=congrArg List.length h1;rw[aB] at h;exact h.symm
 rw[AH h1];rcases h2 with rfl|rfl
 . exact QM k hv (eD l,e) d ⟨h3,by show(eD l).length<=_;omega⟩
 . exact QN k hv (eD l,e) d ⟨h3,by show(eD l).length<=_;omega⟩
theorem zy(k:UInt8):dj k=true↔(k.toNat=123\/k.toNat=125\/k.toNat=91\/k.toNat=93\/k.toNat=58\/k.toNat=44):=decide_eq_true_iff
theorem QQ(s:Sx) (key:g8) (d:Int) (hp:d=32/\s.1.length<=10000000):OK 14 [jZ s,.str key,.int .i64 d] [] (.tuple [.buf 0,jZ (aF 0 key s).2.2,.int .i64 (aF 0 key s).1]) (some [iB (aF 0 key s).2.1]):=by
 refine ai (C:=cxl [(48,uq),(51,wV)] [64]) (Cb ⟨yu,Cw,trivial⟩) (fn:=Tryz.f14) fun hw hs=>?_;have hml:(s.1.map vT).length=s.1.length:=aB _;have g0:aL s≠0->aF 0 key s=(aL s,[],s):=fun h=>by rw[aF,if_pos h]
 have g1:aL s=0->(ax s).k.toNat=123\/(ax s).k.toNat=91->aF 0 key s=(33,[],s):=fun h h2=>by rw[aF,if_neg (by omega),if_pos h2]
 have g2:aL s=0->¬((ax s).k.toNat=123\/(ax s).k.toNat=91)->dj (ax s).k=true->aF 0 key s=(3,[],s):=fun h h2 h3=>by rw[aF,if_neg (by omega),if_neg h2,if_pos h3]
 have g3:aL s=0->¬((ax s).k.toNat=123\/(ax s).k.toNat=91)->¬dj (ax s).k=true->aF 0 key s=(0,[⟨(ax s).k,key,(ax s).t,1⟩],au s):=fun h h2 h3=>by rw[aF,if_neg (by omega),if_neg h2,if_neg h3]
 have hk:=(ax s).k.toNat_lt;repeat'((conv=>whnf);first|apply af|apply aI|(apply aj<;>intro h))
 all_goals try conv=>whnf
 all_goals try(refine ae.mk ?_;try dsimp only)
 all_goals (try simp only[lM,bX,nS,jt,dd] at*)
 all_goals (try(exfalso;omega))
 all_goals (try rw[if_pos (show aL s=0 by assumption)] at*)
 all_goals first|refine stay ?_|(exact⟨km,trivial⟩)|(simp(discharger:=omega) [-List.getD_eq_getElem?_getD,wR]<;>omega)|skip
 . rw[g1 (by assumption) (by omega)]
   (refine ab.mk [.tm 6 4,.swap 0 4] ?_<;>(repeat' first|trivial|rfl|refine And.intro ?_ ?_))
 . rw[g1 (by assumption) (by omega)]
   (refine ab.mk [.tm 6 4,.swap 0 4] ?_<;>(repeat' first|trivial|rfl|refine And.intro ?_ ?_))
 . rw[g2 (by assumption) (by omega) ((zy _).2 (by assumption))]
   (refine ab.mk [.tm 6 4,.swap 0 4] ?_<;>(repeat' first|trivial|rfl|refine And.intro ?_ ?_))
 . rw[g3 (by assumption) (by omega) (fun q=>absurd ((zy _).1 q) (by assumption))];refine ab.mk [.swap 0 4] ?_<;>(repeat' first|trivial)
 . rw[g0 (by assumption)]
   (refine ab.mk [.tm 6 4,.swap 0 4] ?_<;>(repeat' first|trivial|rfl|refine And.intro ?_ ?_))
theorem QR(k:Nat) (hv:aq 49 (Ae k)) (s:Sx) (key:g8) (d:Int) (hp:d+k+1=32/\s.1.length<=10000000):OK 14 [jZ s,.str key,.int .i64 d] [] (.tuple [.buf 0,jZ (aF (k+1) key s).2.2,.int .i64 (aF (k+1) key s).1]) (some [iB (aF (k+1) key s).2.1]):=by
 refine ai (C:=cxl [(48,uq),(51,wV),(49,Ae k),(50,Fq)] [64]) (Cb ⟨yu,Cw,hv,U2,trivial⟩) (fn:=Tryz.f14) fun hw hs=>?_;have hml:(s.1.map vT).length=s.1.length:=aB _;have hd0:-9223372036854775808<=d:=hw.2.2.1.1;have hdw:IntKind.i64.wrap (d+1) =d+1:=by rw[bz];omega
 have g0:aL s≠0->aF (k+1) key s=(aL s,[],s):=fun h=>by rw[aF,if_pos h]
 have g1:aL s=0->(ax s).k.toNat=123\/(ax s).k.toNat=91->aF (k+1) key s=((bK (aF k) ((ax s).k.toNat+2) (au s)).1,⟨(ax s).k,key,[],(bK (aF k) ((ax s).k.toNat+2) (au s)).2.1.length+1⟩::(bK (aF k) ((ax s).k.toNat+2) (au s)).2.1,(bK (aF k) ((ax s).k.toNat+2) (au s)).2.2):=fun h h2=>by rw[aF,if_neg (by omega),if_pos h2]
 have g2:aL s=0->¬((ax s).k.toNat=123\/(ax s).k.toNat=91)->dj (ax s).k=true->aF (k+1) key s=(3,[],s):=fun h h2 h3=>by rw[aF,if_neg (by omega),if_neg h2,if_pos h3]
 have g3:aL s=0->¬((ax s).k.toNat=123\/(ax s).k.toNat=91)->¬dj (ax s).k=true->aF (k+1) key s=(0,[⟨(ax s).k,key,(ax s).t,1⟩],au s):=fun h h2 h3=>by rw[aF,if_neg (by omega),if_neg h2,if_neg h3]
 have hk:=(ax s).k.toNat_lt;have hr:=fh s;have hw2:(ax s).k.toNat=123\/(ax s).k.toNat=91->(IntKind.u8.wrap (((ax s).k.toNat:Int)+2)).toNat=(ax s).k.toNat+2:=fun h=>by rw[n6];omega
 have hw3:(ax s).k.toNat=123\/(ax s).k.toNat=91->IntKind.u8.wrap (((ax s).k.toNat:Int)+2) =93\/IntKind.u8.wrap (((ax s).k.toNat:Int)+2) =125:=fun h=>by rw[n6];omega
 have hm2:∀L:List Nd,(L.map aN).length=L.length:=fun L=>aB _;have hm3:((au s).1.map vT).length=(au s).1.length:=aB _;have hln:(bK (aF k) ((ax s).k.toNat+2) (au s)).2.1.length<=10000000:=by
  by_cases h:(bK (aF k) ((ax s).k.toNat+2) (au s)).1=0
  . have:=HQ (sM k) h;omega
  . rw[OP h];exact ci _
 repeat'((conv=>whnf);first|apply af|apply aI|(apply aj<;>intro h))
 all_goals try conv=>whnf
 all_goals try(refine ae.mk ?_;try dsimp only)
 all_goals (try simp only[lM,bX,nS,jt,dd] at*)
 all_goals (try(exfalso;omega))
 all_goals (try rw[if_pos (show aL s=0 by assumption)] at*)
 all_goals first|refine stay ?_|(exact⟨km,trivial⟩)|(simp(discharger:=omega) [-List.getD_eq_getElem?_getD,wR]<;>omega)|skip
 all_goals (try rw[hw2 (by omega)] at*)
 all_goals (try rw[hdw] at*)
 all_goals (try rw[hm3] at*)
 all_goals (try simp only[hm2] at*)
 . exact⟨km,hw3 (by omega),by omega,by omega⟩
 . exact⟨mc,by omega,by omega⟩
 . rw[g1 (by assumption) (by omega)];refine ab.mk [.swap 0 6] ?_<;>(repeat' first|trivial)
 . exact⟨km,hw3 (by omega),by omega,by omega⟩
 . exact⟨mc,by omega,by omega⟩
 . rw[g1 (by assumption) (by omega)];refine ab.mk [.swap 0 6] ?_<;>(repeat' first|trivial)
 . rw[g2 (by assumption) (by omega) ((zy _).2 (by assumption))]
   (refine ab.mk [.tm 6 4,.swap 0 4] ?_<;>(repeat' first|trivial|rfl|refine And.intro ?_ ?_))
 . rw[g3 (by assumption) (by omega) (fun q=>absurd ((zy _).1 q) (by assumption))];refine ab.mk [.swap 0 4] ?_<;>(repeat' first|trivial)
 . rw[g0 (by assumption)]
   (refine ab.mk [.tm 6 4,.swap 0 4] ?_<;>(repeat' first|trivial|rfl|refine And.intro ?_ ?_))
theorem Kw:∀k,aq 14 (nN k)
 |0=>by
   intro args sg pre x r he hp;unfold nN at he;split at he<;>cases he;rename_i l e key d;obtain⟨h1,h2,h3⟩:=hp;have el:(eD l).length=l.length:=by have h:=congrArg List.length h1;rw[aB] at h;exact h.symm
   rw[AH h1];exact QQ (eD l,e) key d ⟨by omega,by show(eD l).length<=_;omega⟩
 |k+1=>by
   have hv:=U0 k (Kw k);intro args sg pre x r he hp;unfold nN at he;split at he<;>cases he;rename_i l e key d;obtain⟨h1,h2,h3⟩:=hp;have el:(eD l).length=l.length:=by have h:=congrArg List.length h1;rw[aB] at h;exact h.symm
   rw[AH h1];exact QR k hv (eD l,e) key d ⟨by omega,by show(eD l).length<=_;omega⟩
theorem UJ:aq 14 (nN 32):=Kw 32
def Cd(n:Int):Prop:=0<=n/\n<=100
theorem bG{n:Int} (h:decide (0<=n/\n<=100) =true):Cd n:=by unfold Cd;exact of_decide_eq_true h
theorem Bs(t:g8):∀(n i:Nat) (a:Int),Cd (ct t n i a).2
 |0,_,_=>by rw[ct];exact bG rfl
 |n+1,i,a=>by
   rw[ct];repeat' split
   all_goals first
    |exact bG rfl
    |exact Bs t n _ _
theorem Wo(t:g8) (i:Nat) (n:Int):Cd (fg t i n).2.2:=by
 unfold fg;repeat' split
 all_goals first
  |exact bG rfl
  |exact Bs _ _ _ _
theorem P3(t:g8) (i:Nat):Cd (eR t i).2.2:=by
 unfold eR;repeat' split
 all_goals first
  |exact bG rfl
  |exact Bs _ _ _ _
  |exact Wo _ _ _
theorem Wr(t:g8) (i:Nat):Cd (cA t i).2.2:=by
 unfold cA;repeat' split
 all_goals first
  |exact bG rfl
  |exact P3 _ _
theorem M6(t:g8):∀(n i:Nat) (o:g8),Cd (dw t n i o).1
 |0,_,_=>by rw[dw];exact bG rfl
 |n+1,i,o=>by
   rw[dw];repeat' split
   all_goals first
    |exact bG rfl
    |exact Wr _ _
    |exact M6 t n _ _
theorem td{c:Cu} {k:Int} (h0:c.c=0) (h:Cd k):Cd (c.fail k).c:=by
 unfold Cu.fail;rw[if_pos h0];exact h
theorem WW{c:Cu} (h0:c.c=0):Cd c.gJ.1.c:=by
 unfold Cu.gJ;repeat' split
 . exact absurd h0 (by assumption)
 . exact td h0 (bG rfl)
 . exact td h0 (bG rfl)
 . show Cd c.c;rw[h0];exact bG rfl
 . exact td h0 (M6 _ _ _ _)
theorem CY(t:g8) (i:Nat):Cd (cS t i).2:=by
 unfold cS;repeat' split
 all_goals exact bG rfl
theorem VE(t:g8) (i:Nat):Cd (cM t i).2:=by
 have hw:Cd (aZ t i).2:=by
  unfold aZ;split
  . exact bG rfl
  . exact CY _ _
 have hb:∀x,Cd x.2->Cd (cf t x).2:=fun x hx=>by
  unfold cf;split
  . exact CY _ _
  . exact hx
 have hp:∀x,Cd x.2->Cd (jM t x).2:=fun x hx=>by
  unfold jM;split
  . exact CY _ _
  . exact hx
 exact hp _ (hb _ hw)
theorem VC{c:Cu} (h0:c.c=0):Cd c.jq.1.c:=by
 unfold Cu.jq;repeat' split
 . exact absurd h0 (by assumption)
 . exact td h0 (VE _ _)
 . show Cd c.c;rw[h0];exact bG rfl
theorem Nw(c:Cu):∀(s:g8) (i:Nat),Cd (fk c s i)
 |[],_=>bG rfl
 |b::s,i=>by
   unfold fk;repeat' split
   all_goals first
    |exact bG rfl
    |exact Nw c s _
theorem Nu{c:Cu} (h0:c.c=0) (k:UInt8):Cd (c.dQ k).1.c:=by
 unfold Cu.dQ;split
 . exact td h0 (Nw _ _ _)
 . show Cd c.c;rw[h0];exact bG rfl
theorem Yu{d:Cu} (h0:d.c=0):Cd d.jh.1.c:=by
 have z:Cd d.c:=by rw[h0];exact bG rfl
 unfold Cu.jh;repeat' split
 . exact z
 . exact z
 . exact WW h0
 . exact VC h0
 . exact Nu h0 _
 . exact Nu h0 _
 . exact td h0 (bG rfl)
theorem Vq{c:Cu} (h0:c.c=0):Cd c.bB.1.c:=by
 unfold Cu.bB;rw[if_neg (by omega)];exact Yu (d:={c with p:=dy dn c.ar c.p}) h0
theorem oP{c:Cu} (h:c.live):Cd c.aK:=by
 have hs:=yX h.1;unfold Cu.aK;repeat' split
 . rw[hs.2.1];exact Vq h.2.1
 . exact bG rfl
 . exact bG rfl
def CdV(v:VF):Prop:=∀t key c,c.live->Cd (v t key c).1
theorem J3{v:VF} (hf:ll v) (hv:CdV v):∀(n:Nat) (t:Tk) (c:Cu) (acc:List Nd),c.live->Cd (iF v n t c acc).1
 |0,_,_,_,_=>by rw[iF];exact bG rfl
 |n+1,t,c,acc,hc=>by
   rw[iF];by_cases h1:(v t [] c).1≠0
   . rw[if_pos h1];exact hv _ _ _ hc
   rw[if_neg h1];have f1:=hf t [] c hc (by omega);by_cases h2:(v t [] c).2.2.aK≠0
   . rw[if_pos h2];exact oP f1.live
   rw[if_neg h2];obtain⟨l1,_⟩:=bQ f1.live (by omega);by_cases h3:(v t [] c).2.2.next.2.k.toNat=93
   . rw[if_pos h3];exact bG rfl
   rw[if_neg h3];by_cases h4:(v t [] c).2.2.next.2.k.toNat≠44
   . rw[if_pos h4];exact bG rfl
   rw[if_neg h4];by_cases h5:(v t [] c).2.2.next.1.aK≠0
   . rw[if_pos h5];exact oP l1
   rw[if_neg h5];obtain⟨m1,_⟩:=bQ l1 (by omega);exact J3 hf hv n _ _ _ m1
theorem Sb{v:VF} (hf:ll v) (hv:CdV v) {c:Cu} (hc:c.live):Cd (bW v c).1:=by
 unfold bW;by_cases h1:c.aK≠0
 . rw[if_pos h1];exact oP hc
 rw[if_neg h1];obtain⟨l1,_⟩:=bQ hc (by omega);split
 . exact bG rfl
 . exact J3 hf hv _ _ _ _ l1
theorem Jb{v:VF} (hf:ll v) (hv:CdV v):∀(n:Nat) (t:Tk) (c:Cu) (ks:List g8) (acc:List Nd),c.live->Cd (iG v n t c ks acc).1
 |0,_,_,_,_,_=>by rw[iG];exact bG rfl
 |n+1,t,c,ks,acc,hc=>by
   rw[iG];by_cases h0:fJ t c ks≠0
   . rw[if_pos h0];show Cd (fJ t c ks);unfold fJ;repeat' split
     all_goals first
      |exact bG rfl
      |exact oP hc
      |exact oP (bQ hc (by omega)).1
   rw[if_neg h0];obtain⟨_,_,q1,_,q2⟩:=yR (t:=t) (ks:=ks) hc (by omega);obtain⟨a1,_⟩:=bQ hc q1;obtain⟨b1,_⟩:=bQ a1 q2;by_cases h1:(c7 v t c).1≠0
   . rw[if_pos h1];exact hv _ _ _ b1
   rw[if_neg h1];have f1:Fit c.next.1.next.1 (c7 v t c):=hf _ _ _ b1 (show(c7 v t c).1=0 by omega);by_cases h2:(c7 v t c).2.2.aK≠0
   . rw[if_pos h2];exact oP f1.live
   rw[if_neg h2];obtain⟨l1,_⟩:=bQ f1.live (by omega);by_cases h3:(c7 v t c).2.2.next.2.k.toNat=125
   . rw[if_pos h3];exact bG rfl
   rw[if_neg h3];by_cases h4:(c7 v t c).2.2.next.2.k.toNat≠44
   . rw[if_pos h4];exact bG rfl
   rw[if_neg h4];by_cases h5:(c7 v t c).2.2.next.1.aK≠0
   . rw[if_pos h5];exact oP l1
   rw[if_neg h5];obtain⟨m1,_⟩:=bQ l1 (by omega);exact Jb hf hv n _ _ _ _ m1
theorem Sd{v:VF} (hf:ll v) (hv:CdV v) {c:Cu} (hc:c.live):Cd (bS v c).1:=by
 unfold bS;by_cases h1:c.aK≠0
 . rw[if_pos h1];exact oP hc
 rw[if_neg h1];obtain⟨l1,_⟩:=bQ hc (by omega);split
 . exact bG rfl
 . exact Jb hf hv _ _ _ _ _ l1
theorem Ce:∀k,CdV (gv k)
 |0=>fun t key c hc=>by
   rw[gv];repeat' split
   all_goals exact bG rfl
 |k+1=>fun t key c hc=>by
   rw[gv];repeat' split
   . exact Sd (iU k) (Ce k) hc
   . exact Sb (iU k) (Ce k) hc
   all_goals exact bG rfl
noncomputable def cxr(l:List (Nat×Sm)) (p:List (Nat×dL)) (h:List (Nat×List gu)):Ctx:=⟨Tryz.prog,tt,gE,fun f=>oA l f,fun _ _ _=>False,fun r=>rn h r,fun _=>false,fun _ _ _ _=>none,fun f=>tH p f,fun _=>false,fun _=>none⟩
theorem yb{l:List (Nat×Sm)} {p:List (Nat×dL)} {hs:List (Nat×List gu)} (h:p0 l) (hp:OKp p):cn (cxr l p hs) where
 ti:=rP
 mt:=fun _ _ _ h=>h.elim
 hm:=tK
 gam:=fun f args sg pre x r h' hp=>rp h args sg pre x r h' hp
 del:=fun f args sg pre c u r x r2 h' hq=>yO hp args sg pre c u r x r2 h' hq
theorem R9(s:g8) (hp:s.length<=10000000):OK 10 [.str s] [] (.tuple [.buf 0,.int .i64 (eO s)]) (some [.buf 4 0 ((fi s).map aN)]):=by
 refine S0 (C:=cxr [(36,zG)] [(39,oG),(38,l7 32),(40,Dh)] [(3,[.cell 3 1 4])]) (yb ⟨JK,trivial⟩ ⟨rh,Kz 32,UM,trivial⟩) (gf:=37) (fn:=Tryz.f10) rfl rfl rfl rfl rfl rfl rfl rfl rfl rfl fun hw hs=>?_;have hc:(Cu.new s).live:=⟨⟨ci _,co _⟩,rfl,hp⟩
 have hn:=fun h=>bQ hc h;have hrg:∀{n:Int},Cd n->-9223372036854775808<=n/\n<=9223372036854775807:=fun h=>⟨by have:=h.1;omega,by have:=h.2;omega⟩
 have hnil:∀{n:Int},eO s=n->n≠0->fi s=[]:=fun h h0=>by unfold fi;rw[if_neg (by rw[h];exact h0)]
 repeat'((conv=>whnf);first|with_reducible refine cK ?_ (fun h=>?_) fun h=>?_|apply af)
 all_goals try conv=>whnf
 all_goals try(refine ae.mk ?_;try dsimp only)
 all_goals (try simp only[aT,p6] at*)
 . rfl
 . exact⟨trivial,hc.1,hc.2.2⟩
 . have e:eO s=(Cu.new s).aK:=by unfold eO;rw[if_pos (by assumption)]
   rw[hnil e (by assumption),e];refine ia.mk _ (Bn _ (hrg (oP hc))) rfl ?_;refine ab.mk [.cell 0 0 4,.swap 0 6] ?_<;>(repeat' first|trivial)
 all_goals
  have h0:¬(Cu.new s).aK≠0:=by assumption
  obtain⟨l1,l2,l3,l4,_⟩:=hn (by omega);have hkk:=(Cu.new s).next.2.k.toNat_lt;have le:=l1.1;have he:(Cu.new s).e=s.length:=rfl;have fit:=iU 32 (Cu.new s).next.2 [] (Cu.new s).next.1 l1
 . exact⟨by omega,l1,by decide,⟨[],rfl⟩,by show 0+_+1<=_;omega⟩
 . have e:eO s=(gv 32 (Cu.new s).next.2 [] (Cu.new s).next.1).1:=by unfold eO;rw[if_neg h0,if_pos (by assumption)]
   rw[hnil e (by assumption),e];refine ia.mk _ (Bn _ (hrg (Ce 32 _ _ _ l1))) rfl ?_;refine ab.mk [.cell 0 0 4,.swap 0 6] ?_<;>(repeat' first|trivial)
 all_goals
  have h1:¬(gv 32 (Cu.new s).next.2 [] (Cu.new s).next.1).1≠0:=by assumption
  have f:=fit (by omega)
 . exact⟨trivial,f.live.1,f.live.2.2⟩
 . have e:eO s=2:=by unfold eO;rw[if_neg h0,if_neg h1,if_pos (by assumption)]
   rw[hnil e (by decide),e];refine ia.mk _ (Bn 2 (by decide)) rfl ?_;refine ab.mk [.cell 0 0 4,.swap 0 6] ?_<;>(repeat' first|trivial)
 . have e:eO s=0:=by unfold eO;rw[if_neg h0,if_neg h1,if_neg (by assumption)]
   have el:fi s=(gv 32 (Cu.new s).next.2 [] (Cu.new s).next.1).2.1:=by unfold fi;rw[if_pos e]
   rw[el,e];refine ia.mk _ (OD _ ?_) rfl ?_
   . (repeat' first|trivial|rfl|refine And.intro ?_ ?_)
   refine ab.mk [.swap 0 4] ?_<;>(repeat' first|trivial)
theorem QP(s:g8) (hp:s.length<=10000000):OK 5 ([.str s]) ([]) (.tuple [.buf 0,.int .i64 (jY s)]) (some [iB (ly s)]):=by
 refine ai (C:=cx [(13,Fp),(14,(nN 32))]) (ak ⟨U1,(UJ),trivial⟩) (fn:=Tryz.f5) fun hw hs=>?_;have hml:((bM (.new s)).1.map vT).length=(bM (.new s)).1.length:=aB _;have htl:(bM (.new s)).1.length<=s.length:=by
  have:=N1 (s.length+1) (.new s) (Lj s);exact this
 repeat'((conv=>whnf);first|apply af|apply aI|(apply aj<;>intro h))
 all_goals try conv=>whnf
 all_goals try(refine ae.mk ?_;try dsimp only)
 all_goals (try simp only[lM,bX,nS,jt,dd] at*)
 all_goals (try(exfalso;omega))
 all_goals first|refine stay ?_|trivial|skip
 all_goals (try have hmm:((aF 32 [] (bM (.new s))).2.2.1.map vT).length=(aF 32 [] (bM (.new s))).2.2.1.length:=aB _)
 . exact⟨km,rfl,by omega⟩
 . have e:jY s=2:=by unfold jY;rw[if_neg (by omega),if_pos (.inl (by omega))]
   have el:ly s=[]:=by unfold ly;rw[if_neg (by rw[e];decide)]
   rw[e,el];refine ab.mk [.tm 2 4,.swap 0 3] ?_<;>(repeat' first|trivial)
 . have e:jY s=0:=by unfold jY;rw[if_neg (by omega),if_neg (by omega)]
   have el:ly s=(aF 32 [] (bM (.new s))).2.1:=by unfold ly;rw[if_pos e]
   rw[e,el];refine ab.mk [.swap 0 1] ?_<;>(repeat' first|trivial)
 . have e:jY s=2:=by unfold jY;rw[if_neg (by omega),if_pos (.inr (by assumption))]
   have el:ly s=[]:=by unfold ly;rw[if_neg (by rw[e];decide)]
   rw[e,el];refine ab.mk [.tm 2 4,.swap 0 3] ?_<;>(repeat' first|trivial)
 . have e:jY s=(aF 32 [] (bM (.new s))).1:=by unfold jY;rw[if_pos (by assumption)]
   have el:ly s=[]:=by unfold ly;rw[if_neg (by rw[e];assumption)]
   rw[e,el];refine ab.mk [.tm 2 4,.swap 0 3] ?_<;>(repeat' first|trivial)
def FJ(R:g8->Int×List Nd):Sm:=fun args σ=>match args,σ with
 |[.str s],[]=>some (s.length<=10000000,.tuple [.buf 0,.int .i64 (R s).1],some [iB (R s).2])
 |_,_=>none
theorem Uo{R:g8->Int×List Nd} (hR:∀s,R s=(eO s,fi s)):aq 10 (FJ R):=by
 intro args sg pre x r he hp;unfold FJ at he;split at he<;>cases he;rw[hR];exact R9 _ hp
def Ac(R:g8->Int×List Nd):Sm:=fun args σ=>match args,σ with
 |[.str s],[]=>some (s.length<=10000000,.tuple [.buf 0,.int .i64 (R s).1],some [iB (R s).2])
 |_,_=>none
theorem Ke{R:g8->Int×List Nd} (hR:∀s,R s=(eO s,fi s)):aq 5 (Ac R):=by
 intro args sg pre x r he hp;unfold Ac at he;split at he<;>cases he;rw[hR];have h:=QP _ hp;rw[(uA hp).1,(uA hp).2] at h;exact h
theorem Se(d:Nat) {c:Cu} (hc:c.live) (t:Tk) (key:g8) (h:(gv d t key c).1=0):(gv d t key c).2.1.length<=c.s.length+1:=by
 have f:=iU d t key c hc h;have h1:=f.len;obtain⟨h3,h4⟩:=f.live.1;rw[f.e] at h3 h4;rw[f.s] at h4;omega
theorem Yz{s:g8} (h:s.length<=10000000):(fi s).length<=s.length+1:=by
 unfold fi;split
 . rename_i h0;have hc:(Cu.new s).live:=⟨⟨ci _,co _⟩,rfl,h⟩
   unfold eO at h0;by_cases h1:(Cu.new s).aK≠0
   . rw[if_pos h1] at h0;exact absurd h0 h1
   rw[if_neg h1] at h0;obtain⟨l1,l2,_⟩:=bQ hc (by omega);by_cases h2:(gv 32 (Cu.new s).next.2 [] (Cu.new s).next.1).1≠0
   . rw[if_pos h2] at h0;exact absurd h0 h2
   have:=Se 32 l1 (Cu.new s).next.2 [] (by omega);rw[l2] at this;exact this
 . exact ci _
end Go.Proofs.YtknljebcgcmaeaaGreatDoor
