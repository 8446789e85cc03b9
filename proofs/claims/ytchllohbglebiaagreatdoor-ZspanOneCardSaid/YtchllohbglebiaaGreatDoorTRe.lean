/-
  A part of the proof.
-/
import Derived.Test.YtchllohbglebiaaGreatDoorTRc
set_option linter.unusedSimpArgs false
set_option linter.unusedVariables false
set_option maxHeartbeats 4000000
set_option maxRecDepth 100000
namespace Go.Proofs.YtchllohbglebiaaGreatDoor
open Go Go.VG
theorem pP(t:Tk):(⟨byte (t.k.toNat:Int),t.t⟩:Tk) =t:=by
 have h:byte (t.k.toNat:Int) =t.k:=UInt8.toNat_inj.1 (by have:=eO (n:=t.k.toNat) ⟨by omega,by have:=t.k.toNat_lt;omega⟩;omega);rw[h]
theorem qY:({data:=#[]}:ByteArray).data.toList=[]:=rfl
theorem uw{l:List V} {L a:List Nd} (h:l=L.map aW):∃M:List Nd,l++a.map aW=M.map aW:=⟨L++a,by rw[h,fo]⟩
structure LInv(k:Nat) (c:Cu) (x:Nat×Tk×Cu×List Nd):Prop where
 live:x.2.2.1.live
 s:x.2.2.1.s=c.s
 e:x.2.2.1.e=c.e
 acc:x.2.2.2.length+1+c.p<=x.2.2.1.p
 n:x.2.2.1.e-x.2.2.1.p+1<=x.1
 r:bH (gv k) c=ic (gv k) x.1 x.2.1 x.2.2.1 x.2.2.2
-- #name trValue (*jtree.reader).value
def lM(k:Nat):dL:=fun args σ=>match args,σ with
 |[.ptr 0 0,.agg [.int .u8 a,.str tt],.str key,.int .i64 d],[.cells [.ptr 1 0,.buf 2],.cells [.str s,.int .i64 (.ofNat p),.int .i64 (.ofNat e),.int .i64 cc],.buf 4 0 l]=>
   some ((0<=a/\a<=255)/\(⟨s,p,e,cc⟩:Cu).live/\d+k=32/\(∃L:List Nd,l=L.map aW)/\l.length+(e-p)+1<=100000000,
    (gv k ⟨byte a,tt⟩ key ⟨s,p,e,cc⟩).1≠0,.iface 52 (.int .i64 (gv k ⟨byte a,tt⟩ key ⟨s,p,e,cc⟩).1),some [.dead,.dead,.dead,.buf 1 0 []],
    .tuple [],some [.cells [.ptr 1 0,.buf 2],.cells (eC (gv k ⟨byte a,tt⟩ key ⟨s,p,e,cc⟩).2.2),.buf 4 0 (l++(gv k ⟨byte a,tt⟩ key ⟨s,p,e,cc⟩).2.1.map aW)])
 |_,_=>none
theorem RU(k:Nat) (hv:dX 13 (lM k)) (c:Cu) (l:List V) (d:Int) (hp:c.live/\d+k=32/\(∃L:List Nd,l=L.map aW)/\l.length+(c.e-c.p)<=100000000) (hc:¬((bH (gv k) c).1≠0)):OK 39 ([.ptr 0 0,.int .i64 d]) ([.cells [.ptr 1 0,.buf 2],.cells (eC c),.buf 4 0 l]) (.tuple []) (some [.cells [.ptr 1 0,.buf 2],.cells (eC (bH (gv k) c).2.2),.buf 4 0 (l++(bH (gv k) c).2.1.map aW)]):=by
 refine aq (C:=gE [] [(14,po),(13,lM k)]) (ig trivial ⟨sd,hv,trivial⟩) (fn:=Tryz.f39) fun hw hs=>?_;have hn:=fun h=>bD hp.1 h;repeat'((conv=>whnf);first|with_reducible refine cM ?_ (fun h=>?_) fun h=>?_|(apply av<;>intro h))
 all_goals try conv=>whnf
 all_goals try(refine ae.mk ?_;try dsimp only)
 . exact⟨trivial,hp.1.1,hp.1.2.2⟩
 . exfalso;unfold bH at hc;rw[if_pos (by assumption)] at hc;exact hc (by assumption)
 . simp only[aV] at*;have hr:bH (gv k) c=(0,[],c.next.1):=by unfold bH;rw[if_neg (by assumption),if_pos (by omega)]
   rw[hr];refine ab.mk [] ?_<;>(repeat' first|trivial|apply ah|apply bc)
   simp
 simp only[aV] at*;have hn:=hn (by omega);refine aZ.mk (Nat×Tk×Cu×List Nd) (LInv k c) (fun x=>⟨25,[(0,.ptr 0 0),(1,.int .i64 d),(4,.ptr 3 0)],[.cells [.ptr 1 0,.buf 2],.cells (eC x.2.2.1),.buf 4 0 (l++x.2.2.2.map aW),.cells (eT x.2.1)],[2]⟩) (fun x=>x.1) [] (c.next.1.e-c.next.1.p+1,c.next.2,c.next.1,[]) ⟨hn.1,hn.2.1,hn.2.2.1,by show 0+1+c.p<=c.next.1.p;omega,cb _,by unfold bH;rw[if_neg (by assumption),if_neg (by omega)]⟩ ?_ (fun⟨n,t,c',acc⟩ hI _ _=>?_)
 . apply ay<;>(repeat' first|trivial|apply ah|apply bc)
   simp
 obtain⟨i1,i2,i3,i4,i5,i6⟩:=hI;dsimp only at i1 i2 i3 i4 i5 i6;obtain⟨n,rfl⟩:∃m,n=m+1:=⟨n-1,by omega⟩
 rw[ic] at i6;have fit:=j0 k t [] c' i1;obtain⟨L,hL⟩:=hp.2.2.1;have hma:(acc.map aW).length=acc.length:=aA ..;have hpe:=i1.1.1;repeat'((conv=>whnf);first|with_reducible refine cM ?_ (fun h=>?_) fun h=>?_|apply fE|(apply av<;>intro h))
 all_goals try conv=>whnf
 all_goals try(refine ae.mk ?_;try dsimp only)
 all_goals (try simp only[aV,pP,qY] at*)
 all_goals generalize gv k t [] c'=r at*
 all_goals skip
 . exact⟨⟨by omega,by have:=t.k.toNat_lt;omega⟩,i1,hp.2.1,uw hL,by have:=hp.2.2.2;rw[an,hma,i3];omega⟩
 . rw[if_pos (by assumption)] at i6;rw[i6] at hc;exact hc (by assumption)
 . have f:=fit (by omega);exact⟨trivial,f.live.1,f.live.2.2⟩
 . rw[if_neg (by assumption),if_pos (by assumption)] at i6;rw[i6] at hc;exact hc (by assumption)
 . rw[if_neg (by assumption),if_neg (by assumption),if_pos (by omega)] at i6;rw[i6];refine ab.mk [] ?_<;>(repeat' first|trivial|apply ah|apply bc)
   rw[fo,eg]
 all_goals
  have h44:r.2.2.next.2.k.toNat=44:=by
   refine Decidable.byContradiction fun q=>hc ?_;rw[if_neg (by assumption),if_neg (by assumption),if_neg (by omega),if_pos q] at i6;rw[i6];exact(by decide:(3:Int)≠0)
 . rw[h44];rfl
 all_goals
  have f:=fit (by omega);obtain⟨o1,o2,o3,o4,_⟩:=bD f.live (by omega);have f2:=f.p;have f3:=f.e;have f4:=f.len;have f5:=f.s
 . exact⟨trivial,o1.1,o1.2.2⟩
 . rw[if_neg (by assumption),if_neg (by assumption),if_neg (by omega),if_neg (fun q=>q h44),if_pos (by assumption)] at i6;rw[i6] at hc;exact hc (by assumption)
 . rw[if_neg (by assumption),if_neg (by assumption),if_neg (by omega),if_neg (fun q=>q h44),if_neg (by assumption)] at i6;obtain⟨u1,u2,u3,u4,_⟩:=bD o1 (by omega);have u5:=u1.1.1;refine⟨[],(n,r.2.2.next.1.next.2,r.2.2.next.1.next.1,acc++r.2.1),⟨u1,by show _=c.s;rw[u2,o2,f5,i2],by show _=c.e;rw[u3,o3,f3,i3],by show(acc++r.2.1).length+1+c.p<=r.2.2.next.1.next.1.p;rw[an];omega,by show r.2.2.next.1.next.1.e-r.2.2.next.1.next.1.p+1<=n;rw[u3,o3,f3] at u5⊢;omega,i6⟩,?_,Nat.lt_succ_self n⟩;apply ay<;>(repeat' first|trivial|apply ah|apply bc)
   rw[fo,eg]
theorem Wu(k:Nat) (hv:dX 13 (lM k)) (c:Cu) (l:List V) (d:Int) (hp:c.live/\d+k=32/\(∃L:List Nd,l=L.map aW)/\l.length+(c.e-c.p)<=100000000) (hc:(bH (gv k) c).1≠0):jq 39 ([.ptr 0 0,.int .i64 d]) ([.cells [.ptr 1 0,.buf 2],.cells (eC c),.buf 4 0 l]) (.iface 52 (.int .i64 (bH (gv k) c).1)) (some [.dead,.dead,.dead,.buf 1 0 []]):=by
 refine jA (C:=gE [] [(14,po),(13,lM k)]) (ig trivial ⟨sd,hv,trivial⟩) (fn:=Tryz.f39) rfl rfl rfl rfl fun hw hs=>?_;have hn:=fun h=>bD hp.1 h;repeat'((conv=>whnf);first|with_reducible refine cM ?_ (fun h=>?_) fun h=>?_|apply af|(apply av<;>intro h))
 all_goals try conv=>whnf
 all_goals try(refine ae.mk ?_;try dsimp only)
 . exact⟨trivial,hp.1.1,hp.1.2.2⟩
 . simp only[aV] at*;have hr:bH (gv k) c=(c.aE,[],c):=by unfold bH;rw[if_pos (by assumption)]
   rw[hr]
 . (refine bC.mk [] ?_<;>(repeat' first|trivial|rfl|apply ah);done)
 . exfalso;simp only[aV] at*;have hr:bH (gv k) c=(0,[],c.next.1):=by unfold bH;rw[if_neg (by assumption),if_pos (by omega)]
   rw[hr] at hc;exact hc rfl
 simp only[aV] at*;have hn:=hn (by omega);refine aZ.mk (Nat×Tk×Cu×List Nd) (LInv k c) (fun x=>⟨25,[(0,.ptr 0 0),(1,.int .i64 d),(4,.ptr 3 0)],[.cells [.ptr 1 0,.buf 2],.cells (eC x.2.2.1),.buf 4 0 (l++x.2.2.2.map aW),.cells (eT x.2.1)],[2]⟩) (fun x=>x.1) [] (c.next.1.e-c.next.1.p+1,c.next.2,c.next.1,[]) ⟨hn.1,hn.2.1,hn.2.2.1,by show 0+1+c.p<=c.next.1.p;omega,cb _,by unfold bH;rw[if_neg (by assumption),if_neg (by omega)]⟩ ?_ (fun⟨n,t,c',acc⟩ hI _ _=>?_)
 . apply ay<;>(repeat' first|trivial|apply ah|apply bc)
   simp
 obtain⟨i1,i2,i3,i4,i5,i6⟩:=hI;dsimp only at i1 i2 i3 i4 i5 i6;obtain⟨n,rfl⟩:∃m,n=m+1:=⟨n-1,by omega⟩
 rw[ic] at i6;have fit:=j0 k t [] c' i1;obtain⟨L,hL⟩:=hp.2.2.1;have hma:(acc.map aW).length=acc.length:=aA ..;have hpe:=i1.1.1;repeat'((conv=>whnf);first|with_reducible refine cM ?_ (fun h=>?_) fun h=>?_|apply af|(apply av<;>intro h))
 all_goals try conv=>whnf
 all_goals try(refine ae.mk ?_;try dsimp only)
 all_goals (try simp only[aV,pP,qY] at*)
 all_goals generalize gv k t [] c'=r at*
 all_goals skip
 . exact⟨⟨by omega,by have:=t.k.toNat_lt;omega⟩,i1,hp.2.1,uw hL,by have:=hp.2.2.2;rw[an,hma,i3];omega⟩
 . rw[if_pos (by assumption)] at i6;rw[i6]
 . (refine bC.mk [.nw,.swap 3 4] ?_<;>(repeat' first|trivial|rfl|apply ah);done)
 . have f:=fit (by omega);exact⟨trivial,f.live.1,f.live.2.2⟩
 . rw[if_neg (by assumption),if_pos (by assumption)] at i6;rw[i6]
 . (refine bC.mk [.nw,.swap 3 4] ?_<;>(repeat' first|trivial|rfl|apply ah);done)
 . rw[if_neg (by assumption),if_neg (by assumption),if_pos (by omega)] at i6;rw[i6] at hc;exact hc rfl
 . have f:=fit (by omega);obtain⟨o1,o2,o3,o4,_⟩:=bD f.live (by omega);exact⟨trivial,o1.1,o1.2.2⟩
 . rw[if_neg (by assumption),if_neg (by assumption),if_neg (by omega),if_neg (by omega),if_pos (by assumption)] at i6;rw[i6]
 . (refine bC.mk [.nw,.swap 3 4] ?_<;>(repeat' first|trivial|rfl|apply ah);done)
 . rw[if_neg (by assumption),if_neg (by assumption),if_neg (by omega),if_neg (by omega),if_neg (by assumption)] at i6;have f:=fit (by omega);obtain⟨o1,o2,o3,o4,_⟩:=bD f.live (by omega);have f2:=f.p;have f3:=f.e;have f4:=f.len;have f5:=f.s;obtain⟨u1,u2,u3,u4,_⟩:=bD o1 (by omega);have u5:=u1.1.1;refine⟨[],(n,r.2.2.next.1.next.2,r.2.2.next.1.next.1,acc++r.2.1),⟨u1,by show _=c.s;rw[u2,o2,f5,i2],by show _=c.e;rw[u3,o3,f3,i3],by show(acc++r.2.1).length+1+c.p<=r.2.2.next.1.next.1.p;rw[an];omega,by show r.2.2.next.1.next.1.e-r.2.2.next.1.next.1.p+1<=n;rw[u3,o3,f3] at u5⊢;omega,i6⟩,?_,Nat.lt_succ_self n⟩;apply ay<;>(repeat' first|trivial|apply ah|apply bc)
   rw[fo,eg]
 . rw[if_neg (by assumption),if_neg (by assumption),if_neg (by omega),if_pos (by omega)] at i6;rw[i6]
 . (refine bC.mk [.nw,.swap 3 4] ?_<;>(repeat' first|trivial|rfl|apply ah);done)
def sw(k:Nat):dL:=fun args σ=>match args,σ with
 |[.ptr 0 0,.int .i64 d],[.cells [.ptr 1 0,.buf 2],.cells ([.str s_c,.int .i64 (.ofNat a_c),.int .i64 (.ofNat e_c),.int .i64 c_c]),.buf 4 0 l]=>some (True/\((Cu.mk s_c a_c e_c c_c).live/\d+k=32/\(∃L:List Nd,l=L.map aW)/\l.length+((Cu.mk s_c a_c e_c c_c).e-(Cu.mk s_c a_c e_c c_c).p)<=100000000),(bH (gv k) (Cu.mk s_c a_c e_c c_c)).1≠0,.iface 52 (.int .i64 (bH (gv k) (Cu.mk s_c a_c e_c c_c)).1),some [.dead,.dead,.dead,.buf 1 0 []],.tuple [],some [.cells [.ptr 1 0,.buf 2],.cells (eC (bH (gv k) (Cu.mk s_c a_c e_c c_c)).2.2),.buf 4 0 (l++(bH (gv k) (Cu.mk s_c a_c e_c c_c)).2.1.map aW)])
 |_,_=>none
theorem UZ(k:Nat) (hv:dX 13 (lM k)):dX 39 (sw k):=by
 intro args sg pre c u r x r2 he hp;unfold sw at he;split at he<;>cases he
 . rw[dJ (hp).1];exact⟨fun hc=>⟨_,rfl,Wu (hv:=hv) (hp:=hp.2) (hc:=hc) ..⟩,fun hc=>RU (hv:=hv) (hp:=hp.2) (hc:=hc) ..⟩
abbrev mK(ks:List gA):List (V×Int):=ks.map fun k=>(V.str k,1)
theorem zM:∀{ks:List gA} {x:gA},x∈ks->∃j,bF (mK ks) (.str x) =some (j,1)
 |[],_,h=>by simp at h
 |k::ks,x,h=>by
   show∃j,bF ((V.str k,1)::mK ks) (.str x) =some (j,1);unfold bF;show∃j,cond (k==x) _ _=some (j,1);by_cases e:k=x
   . rw[e,beq_self_eq_true];exact⟨0,rfl⟩
   . rw[beq_eq_false_iff_ne.2 e];obtain⟨j,hj⟩:=zM (ks:=ks) (x:=x) ((List.mem_cons.1 h).resolve_left (Ne.symm e));rw[hj];exact⟨j+1,rfl⟩
theorem xh:∀{ks:List gA} {x:gA},x∉ks->bF (mK ks) (.str x) =none
 |[],_,_=>rfl
 |k::ks,x,h=>by
   show bF ((V.str k,1)::mK ks) (.str x) =none;unfold bF;show cond (k==x) _ _=none;rw[beq_eq_false_iff_ne.2 (fun e=>h (by rw[e];simp)),xh (ks:=ks) (fun q=>h (d5 _ q))];rfl
theorem Dw{ks:List gA} {x:gA} (h:bF (mK ks) (.str x) =none):x∉ks:=fun q=>by
 obtain⟨j,hj⟩:=zM q;rw[hj] at h;cases h
theorem L6{ks:List gA} {x:gA} {j:Nat} {q:Int} (h:bF (mK ks) (.str x) =some (j,q)):x∈ks/\q=1:=by
 by_cases e:x∈ks
 . obtain⟨j',hj⟩:=zM e;rw[hj] at h;cases h;exact⟨e,rfl⟩
 . rw[xh e] at h;cases h
theorem L4{ks:List gA} {x:gA} (h:x∈ks):getM (mK ks) (.str x) =1:=by
 obtain⟨j,hj⟩:=zM h;unfold getM;rw[hj]
theorem xg{ks:List gA} {x:gA} (h:x∉ks):getM (mK ks) (.str x) =0:=by
 unfold getM;rw[xh h]
theorem L3(ks:List gA) (x:gA):mK ks++[(V.str x,1)]=mK (ks++[x]):=by
 show _=(ks++[x]).map _;rw[fo];rfl
theorem L5(ks:List gA) (x:gA):0<=getM (mK ks) (.str x)/\getM (mK ks) (.str x)<=1:=by
 by_cases h:x∈ks
 . rw[L4 h];decide
 . rw[xg h];decide
theorem IX{es:List (V×Int)} {x:gA} {q:Int} (h:bF es (.str x) =none):getM (es++[(.str x,q)]) (.str x) =q:=by
 unfold getM;rw[IG h];show(match cond (x==x) (some (es.length,q)) none with|some (_,q) =>q|none=>0) =q;rw[beq_self_eq_true];rfl
theorem IY:∀{es:List (V×Int)} {x:gA} {j:Nat} {q q':Int},bF es (.str x) =some (j,q)->getM (jk es j q') (.str x) =q'
 |[],_,_,_,_,h=>by cases h
 |(y,p)::es,x,j,q,q',h=>by
   unfold bF at h;cases hb:lI y (.str x) with
   |true=>
     rw[hb] at h;cases h;unfold jk getM bF;rw[hb];rfl
   |false=>
     rw[hb] at h;cases hf:bF es (.str x) with
     |none=>rw[hf] at h;cases h
     |some r=>
       obtain⟨j',q1⟩:=r;rw[hf] at h;cases h;have:=IY (q':=q') hf;unfold jk getM bF;rw[hb];unfold getM at this;cases hg:bF (jk es j' q') (.str x) with
       |none=>rw[hg] at this;simpa using this
       |some r=>obtain⟨a,b⟩:=r;rw[hg] at this;simpa using this
abbrev OS:Type:=Nat×Tk×Cu×List gA×List Nd×List Nat×Nat
structure OInv(k:Nat) (c:Cu) (x:OS):Prop where
 live:x.2.2.1.live
 s:x.2.2.1.s=c.s
 e:x.2.2.1.e=c.e
 acc:x.2.2.2.2.1.length+1+c.p<=x.2.2.1.p
 n:x.2.2.1.e-x.2.2.1.p+1<=x.1
 r:bG (gv k) c=ie (gv k) x.1 x.2.1 x.2.2.1 x.2.2.2.1 x.2.2.2.2.1
theorem RY(k:Nat) (hv:dX 13 (lM k)) (c:Cu) (l:List V) (d:Int) (hp:c.live/\d+k=32/\(∃L:List Nd,l=L.map aW)/\l.length+(c.e-c.p)<=100000000) (hc:¬((bG (gv k) c).1≠0)):OK 38 ([.ptr 0 0,.int .i64 d]) ([.cells [.ptr 1 0,.buf 2],.cells (eC c),.buf 4 0 l]) (.tuple []) (some [.cells [.ptr 1 0,.buf 2],.cells (eC (bG (gv k) c).2.2),.buf 4 0 (l++(bG (gv k) c).2.1.map aW)]):=by
 refine aq (C:=cxq [] [(14,po),(81,Ac),(13,lM k)] [9]) (Jd trivial ⟨sd,Ks,hv,trivial⟩) (fn:=Tryz.f38) fun hw hs=>?_;have hn:=fun h=>bD hp.1 h;repeat'((conv=>whnf);first|with_reducible refine cM ?_ (fun h=>?_) fun h=>?_|(apply av<;>intro h))
 all_goals try conv=>whnf
 all_goals try(refine ae.mk ?_;try dsimp only)
 . exact⟨trivial,hp.1.1,hp.1.2.2⟩
 . exfalso;unfold bG at hc;rw[if_pos (by assumption)] at hc;exact hc (by assumption)
 . simp only[aV] at*;have hr:bG (gv k) c=(0,[],c.next.1):=by unfold bG;rw[if_neg (by assumption),if_pos (by omega)]
   rw[hr];refine ab.mk [] ?_<;>(repeat' first|trivial|apply ah|apply bc)
   simp
 simp only[aV] at*;have hn:=hn (by omega);refine aZ.mk OS (OInv k c) (fun x=>⟨47,[(0,.ptr 0 0),(1,.int .i64 d),(4,.map 3),(5,.ptr 4 0)],[.cells [.ptr 1 0,.buf 2],.cells (eC x.2.2.1),.buf 4 0 (l++x.2.2.2.2.1.map aW),.map false [.kS] (mK x.2.2.2.1) x.2.2.2.2.2.1 x.2.2.2.2.2.2,.cells (eT x.2.1)],[2]⟩) (fun x=>x.1) [] (c.next.1.e-c.next.1.p+1,c.next.2,c.next.1,[],[],[],0) ⟨hn.1,hn.2.1,hn.2.2.1,by show 0+1+c.p<=c.next.1.p;omega,cb _,by unfold bG;rw[if_neg (by assumption),if_neg (by omega)]⟩ ?_ (fun⟨n,t,c',ks,acc,bs,ck⟩ hI _ _=>?_)
 . apply ay<;>(repeat' first|trivial|apply ah|apply bc)
   all_goals simp
 obtain⟨i1,i2,i3,i4,i5,i6⟩:=hI;dsimp only at i1 i2 i3 i4 i5 i6;obtain⟨n,rfl⟩:∃m,n=m+1:=⟨n-1,by omega⟩
 rw[ie] at i6;obtain⟨L,hL⟩:=hp.2.2.1;have hma:(acc.map aW).length=acc.length:=aA ..;have hpe:=i1.1.1;have hkr:=L5 ks t.t;have hm:fk t c' ks=0:=Decidable.byContradiction fun q=>by
  rw[if_pos q] at i6;rw[i6] at hc;exact hc q
 obtain⟨m1,m2,m3,m4,m5⟩:=zO i1 hm;rw[if_neg (by omega)] at i6;repeat'((conv=>whnf);first|with_reducible (first|refine go1 (fun j q h=>?_) fun h=>?_|refine cM ?_ (fun h=>?_) fun h=>?_)|apply fE|apply aK|(apply av<;>intro h))
 all_goals try conv=>whnf
 all_goals try(refine ae.mk ?_;try dsimp only)
 all_goals (try simp only[aV,pP,qY] at*)
 all_goals (try (exfalso; have hx:bF (mK ks) (V.str t.t)=some (j,q):=by assumption
                 rw[xh m2] at hx;cases hx;done))
 . rw[m1];rfl
 . have hx:=‹getM (mK ks++_) _>1›
   rw[IX (xh m2),xg m2] at hx;exact absurd hx (by decide)
 . exact⟨by decide,trivial,i1.1,i1.2.2⟩
 . rcases ‹c'.aE≠0\/c'.next.2.k≠byte 58› with q|q
   . exact q m3
   . exact q (UInt8.toNat_inj.1 (by rw[m4];rfl))
 obtain⟨o1,o2,o3,o4,_⟩:=bD i1 m3;obtain⟨u1,u2,u3,u4,_⟩:=bD o1 m5;have u5:=u1.1.1;have fit:=j0 k c'.next.1.next.2 t.t c'.next.1.next.1 u1;have hkk:mK ks++[(V.str t.t,IntKind.i64.wrap (getM (mK ks) (V.str t.t)+1))]=mK (ks++[t.t]):=by rw[xg m2];exact L3 ks t.t
 refine vz.last [_,_,_,_,_,_] _ _ rfl rfl rfl rfl rfl ?_;repeat'((conv=>whnf);first|with_reducible refine cM ?_ (fun h=>?_) fun h=>?_|apply af|apply fE|(apply av<;>intro h))
 all_goals try conv=>whnf
 all_goals try(refine ae.mk ?_;try dsimp only)
 all_goals (try simp only[aV,pP,qY] at*)
 all_goals unfold bK at i6
 all_goals generalize gv k c'.next.1.next.2 t.t c'.next.1.next.1=r at*
 . exact⟨⟨trivial,o1.1,o1.2.2⟩,fun q=>q m5⟩
 . exact⟨⟨by omega,by have:=c'.next.1.next.2.k.toNat_lt;omega⟩,u1,hp.2.1,uw hL,by have:=hp.2.2.2;rw[an,hma];rw[u3,o3,i3] at u5⊢;omega⟩
 . rw[if_pos (by assumption)] at i6;rw[i6] at hc;exact hc (by assumption)
 . have f:=fit (by omega);exact⟨trivial,f.live.1,f.live.2.2⟩
 . rw[if_neg (by assumption),if_pos (by assumption)] at i6;rw[i6] at hc;exact hc (by assumption)
 . rw[if_neg (by assumption),if_neg (by assumption),if_pos (by omega)] at i6;rw[i6];refine ab.mk [] ?_<;>(repeat' first|trivial|apply ah|apply bc)
   rw[fo,eg]
 all_goals
  have h44:r.2.2.next.2.k.toNat=44:=by
   refine Decidable.byContradiction fun q=>hc ?_;rw[if_neg (by assumption),if_neg (by assumption),if_neg (by omega),if_pos q] at i6;rw[i6];exact(by decide:(3:Int)≠0)
 . rw[h44];rfl
 all_goals
  have f:=fit (by omega);obtain⟨a1,a2,a3,a4,_⟩:=bD f.live (by omega);have f2:=f.p;have f3:=f.e;have f4:=f.len;have f5:=f.s
 . exact⟨trivial,a1.1,a1.2.2⟩
 . rw[if_neg (by assumption),if_neg (by assumption),if_neg (by omega),if_neg (fun q=>q h44),if_pos (by assumption)] at i6;rw[i6] at hc;exact hc (by assumption)
 . rw[if_neg (by assumption),if_neg (by assumption),if_neg (by omega),if_neg (fun q=>q h44),if_neg (by assumption)] at i6;obtain⟨b1,b2,b3,b4,_⟩:=bD a1 (by omega);have b5:=b1.1.1;refine⟨[],(n,r.2.2.next.1.next.2,r.2.2.next.1.next.1,ks++[t.t],acc++r.2.1,bs++[ck],ck+1),⟨b1,by show _=c.s;rw[b2,a2,f5,u2,o2,i2],by show _=c.e;rw[b3,a3,f3,u3,o3,i3],by show(acc++r.2.1).length+1+c.p<=r.2.2.next.1.next.1.p;rw[an];omega,by show r.2.2.next.1.next.1.e-r.2.2.next.1.next.1.p+1<=n;rw[b3,a3,f3,u3,o3,i3] at b5⊢;rw[i3] at i5;omega,i6⟩,?_,Nat.lt_succ_self n⟩;apply ay<;>(repeat' first|trivial|apply ah|apply bc)
   all_goals first
    |(rw[hkk];done)
    |(rw[fo,eg];done)
theorem Wx(k:Nat) (hv:dX 13 (lM k)) (c:Cu) (l:List V) (d:Int) (hp:c.live/\d+k=32/\(∃L:List Nd,l=L.map aW)/\l.length+(c.e-c.p)<=100000000) (hc:(bG (gv k) c).1≠0):jq 38 ([.ptr 0 0,.int .i64 d]) ([.cells [.ptr 1 0,.buf 2],.cells (eC c),.buf 4 0 l]) (.iface 52 (.int .i64 (bG (gv k) c).1)) (some [.dead,.dead,.dead,.buf 1 0 []]):=by
 refine jA (C:=cxq [] [(14,po),(81,Ac),(13,lM k)] [9]) (Jd trivial ⟨sd,Ks,hv,trivial⟩) (fn:=Tryz.f38) rfl rfl rfl rfl fun hw hs=>?_;have hn:=fun h=>bD hp.1 h;repeat'((conv=>whnf);first|with_reducible refine cM ?_ (fun h=>?_) fun h=>?_|apply af|(apply av<;>intro h))
 all_goals try conv=>whnf
 all_goals try(refine ae.mk ?_;try dsimp only)
 . exact⟨trivial,hp.1.1,hp.1.2.2⟩
 . simp only[aV] at*;have hr:bG (gv k) c=(c.aE,[],c):=by unfold bG;rw[if_pos (by assumption)]
   rw[hr]
 . (refine bC.mk [.nw,.swap 3 4] ?_<;>(repeat' first|trivial|rfl|apply ah);done)
 . exfalso;simp only[aV] at*;have hr:bG (gv k) c=(0,[],c.next.1):=by unfold bG;rw[if_neg (by assumption),if_pos (by omega)]
   rw[hr] at hc;exact hc rfl
 simp only[aV] at*;have hn:=hn (by omega);refine aZ.mk OS (OInv k c) (fun x=>⟨47,[(0,.ptr 0 0),(1,.int .i64 d),(4,.map 3),(5,.ptr 4 0)],[.cells [.ptr 1 0,.buf 2],.cells (eC x.2.2.1),.buf 4 0 (l++x.2.2.2.2.1.map aW),.map false [.kS] (mK x.2.2.2.1) x.2.2.2.2.2.1 x.2.2.2.2.2.2,.cells (eT x.2.1)],[2]⟩) (fun x=>x.1) [] (c.next.1.e-c.next.1.p+1,c.next.2,c.next.1,[],[],[],0) ⟨hn.1,hn.2.1,hn.2.2.1,by show 0+1+c.p<=c.next.1.p;omega,cb _,by unfold bG;rw[if_neg (by assumption),if_neg (by omega)]⟩ ?_ (fun⟨n,t,c',ks,acc,bs,ck⟩ hI _ _=>?_)
 . apply ay<;>(repeat' first|trivial|apply ah|apply bc)
   all_goals simp
 obtain⟨i1,i2,i3,i4,i5,i6⟩:=hI;dsimp only at i1 i2 i3 i4 i5 i6;obtain⟨n,rfl⟩:∃m,n=m+1:=⟨n-1,by omega⟩
 rw[ie] at i6;obtain⟨L,hL⟩:=hp.2.2.1;have hma:(acc.map aW).length=acc.length:=aA ..;have hpe:=i1.1.1;have hkr:=L5 ks t.t;have hme:fk t c' ks≠0->bG (gv k) c=(fk t c' ks,[],c'):=fun q=>by rw[if_pos q] at i6;exact i6
 have h8:∀{j q},bF (mK ks) (V.str t.t) =some (j,q)->t.k.toNat=115->fk t c' ks=8:=fun hf hk=>by unfold fk;rw[if_neg (by omega),if_pos (L6 hf).1]
 have h2:∀{j q},bF (mK ks) (V.str t.t) =some (j,q)->getM (jk (mK ks) j (IntKind.i64.wrap (getM (mK ks) (V.str t.t)+1))) (V.str t.t)>1:=fun hf=>by rw[IY hf,L4 (L6 hf).1];decide
 have h1:bF (mK ks) (V.str t.t) =none->¬getM (mK ks++[(V.str t.t,IntKind.i64.wrap (getM (mK ks) (V.str t.t)+1))]) (V.str t.t)>1:=fun hf=>by rw[IX hf,xg (Dw hf)];decide
 repeat'((conv=>whnf);first|with_reducible (first|refine go1 (fun j q h=>?_) fun h=>?_|refine cM ?_ (fun h=>?_) fun h=>?_)|apply af|apply aK|(apply av<;>intro h))
 all_goals try conv=>whnf
 all_goals try(refine ae.mk ?_;try dsimp only)
 all_goals (try simp only[aV,pP,qY] at*)
 . have e:=h8 (by assumption) (by omega);rw[hme (by rw[e];decide)];show _=Value.iface _ (Value.int _ (fk t c' ks));rw[e]
 . (refine bC.mk [.nw,.swap 3 5] ?_<;>(repeat' first|trivial|rfl|apply ah);done)
 . exact⟨by decide,trivial,i1.1,i1.2.2⟩
 . exact absurd (h2 (by assumption)) (by assumption)
 . (refine bC.mk [.nw,.swap 3 5] ?_<;>(repeat' first|trivial|rfl|apply ah);done)
 . exact absurd (h2 (by assumption)) (by assumption)
 . exact absurd (by assumption) (h1 (by assumption))
 . (refine bC.mk [.nw,.swap 3 5] ?_<;>(repeat' first|trivial|rfl|apply ah);done)
 . exact⟨by decide,trivial,i1.1,i1.2.2⟩
 . have hq:=‹c'.aE≠0\/c'.next.2.k≠byte 58›
   have e:fk t c' ks=if c'.aE≠0 then c'.aE else 3:=by
    unfold fk;rw[if_neg (by omega),if_neg (Dw (by assumption))];by_cases q:c'.aE≠0
    . rw[if_pos q,if_pos q]
    . rw[if_neg q,if_neg q,if_pos (fun e=>(hq.resolve_left q) (UInt8.toNat_inj.1 (by rw[e];rfl)))]
   rw[hme (by rw[e];split<;>first|assumption|decide)];show _=Value.iface _ (Value.int _ (fk t c' ks));rw[e]
 . (refine bC.mk [.nw,.swap 3 5] ?_<;>(repeat' first|trivial|rfl|apply ah);done)
 . have hq:=‹¬(c'.aE≠0\/c'.next.2.k≠byte 58)›
   have m2:=Dw (ks:=ks) (x:=t.t) (by assumption);have m3:c'.aE=0:=Decidable.byContradiction fun q=>hq (.inl q);have m4:c'.next.2.k.toNat=58:=Decidable.byContradiction fun q=>hq (.inr fun e=>q (by rw[e];rfl));have e:fk t c' ks=c'.next.1.aE:=by unfold fk;rw[if_neg (by omega),if_neg m2,if_neg (by omega),if_neg (by omega)]
   obtain⟨o1,o2,o3,o4,_⟩:=bD i1 m3;by_cases m5:c'.next.1.aE=0
   . rw[if_neg (by omega)] at i6;obtain⟨u1,u2,u3,u4,_⟩:=bD o1 m5;have u5:=u1.1.1;have fit:=j0 k c'.next.1.next.2 t.t c'.next.1.next.1 u1;have hkk:mK ks++[(V.str t.t,IntKind.i64.wrap (getM (mK ks) (V.str t.t)+1))]=mK (ks++[t.t]):=by rw[xg m2];exact L3 ks t.t
     refine vz.last [_,_,_,_,_,_] _ _ rfl rfl rfl rfl rfl ?_;repeat'((conv=>whnf);first|with_reducible refine cM ?_ (fun h=>?_) fun h=>?_|apply af|(apply av<;>intro h))
     all_goals try conv=>whnf
     all_goals try(refine ae.mk ?_;try dsimp only)
     all_goals (try simp only[aV,pP,qY] at*)
     all_goals unfold bK at i6
     all_goals generalize gv k c'.next.1.next.2 t.t c'.next.1.next.1=r at*
     . exact⟨⟨trivial,o1.1,o1.2.2⟩,fun q=>q m5⟩
     . exact⟨⟨by omega,by have:=c'.next.1.next.2.k.toNat_lt;omega⟩,u1,hp.2.1,uw hL,by have:=hp.2.2.2;rw[an,hma];rw[u3,o3,i3] at u5⊢;omega⟩
     . rw[if_pos (by assumption)] at i6;rw[i6]
     . (refine bC.mk [.nw,.swap 3 5] ?_<;>(repeat' first|trivial|rfl|apply ah);done)
     . have f:=fit (by omega);exact⟨trivial,f.live.1,f.live.2.2⟩
     . rw[if_neg (by assumption),if_pos (by assumption)] at i6;rw[i6]
     . (refine bC.mk [.nw,.swap 3 5] ?_<;>(repeat' first|trivial|rfl|apply ah);done)
     . rw[if_neg (by assumption),if_neg (by assumption),if_pos (by omega)] at i6;rw[i6] at hc;exact hc rfl
     . have f:=fit (by omega);obtain⟨a1,a2,a3,a4,_⟩:=bD f.live (by omega);exact⟨trivial,a1.1,a1.2.2⟩
     . rw[if_neg (by assumption),if_neg (by assumption),if_neg (by omega),if_neg (by omega),if_pos (by assumption)] at i6;rw[i6]
     . (refine bC.mk [.nw,.swap 3 5] ?_<;>(repeat' first|trivial|rfl|apply ah);done)
     . rw[if_neg (by assumption),if_neg (by assumption),if_neg (by omega),if_neg (by omega),if_neg (by assumption)] at i6;have f:=fit (by omega);obtain⟨a1,a2,a3,a4,_⟩:=bD f.live (by omega);have f2:=f.p;have f3:=f.e;have f4:=f.len;have f5:=f.s;obtain⟨b1,b2,b3,b4,_⟩:=bD a1 (by omega);have b5:=b1.1.1;refine⟨[],(n,r.2.2.next.1.next.2,r.2.2.next.1.next.1,ks++[t.t],acc++r.2.1,bs++[ck],ck+1),⟨b1,by show _=c.s;rw[b2,a2,f5,u2,o2,i2],by show _=c.e;rw[b3,a3,f3,u3,o3,i3],by show(acc++r.2.1).length+1+c.p<=r.2.2.next.1.next.1.p;rw[an];omega,by show r.2.2.next.1.next.1.e-r.2.2.next.1.next.1.p+1<=n;rw[b3,a3,f3,u3,o3,i3] at b5⊢;rw[i3] at i5;omega,i6⟩,?_,Nat.lt_succ_self n⟩;apply ay<;>(repeat' first|trivial|apply ah|apply bc)
       all_goals first
        |(rw[hkk];done)
        |(rw[fo,eg];done)
     . rw[if_neg (by assumption),if_neg (by assumption),if_neg (by omega),if_pos (by omega)] at i6;rw[i6]
     . (refine bC.mk [.nw,.swap 3 5] ?_<;>(repeat' first|trivial|rfl|apply ah);done)
   . rw[if_pos (by omega)] at i6;refine vz.pan [_,_,_,_,_,_] [_] 2 _ _ _ _ _ rfl rfl rfl rfl rfl rfl rfl rfl rfl rfl ?_;repeat'((conv=>whnf);apply af)
     all_goals try conv=>whnf
     all_goals try(refine ae.mk ?_;try dsimp only)
     all_goals (try simp only[aV,pP,qY] at*)
     . exact⟨⟨trivial,o1.1,o1.2.2⟩,m5⟩
     . rw[i6];show _=Value.iface _ (Value.int _ (fk t c' ks));rw[e]
     . (refine bC.mk [.nw,.swap 3 5] ?_<;>(repeat' first|trivial|rfl|apply ah);done)
 . have e:fk t c' ks=3:=by unfold fk;rw[if_pos (by omega)]
   rw[hme (by rw[e];decide)];show _=Value.iface _ (Value.int _ (fk t c' ks));rw[e]
 . (refine bC.mk [.nw,.swap 3 5] ?_<;>(repeat' first|trivial|rfl|apply ah);done)
def sx(k:Nat):dL:=fun args σ=>match args,σ with
 |[.ptr 0 0,.int .i64 d],[.cells [.ptr 1 0,.buf 2],.cells ([.str s_c,.int .i64 (.ofNat a_c),.int .i64 (.ofNat e_c),.int .i64 c_c]),.buf 4 0 l]=>some (True/\((Cu.mk s_c a_c e_c c_c).live/\d+k=32/\(∃L:List Nd,l=L.map aW)/\l.length+((Cu.mk s_c a_c e_c c_c).e-(Cu.mk s_c a_c e_c c_c).p)<=100000000),(bG (gv k) (Cu.mk s_c a_c e_c c_c)).1≠0,.iface 52 (.int .i64 (bG (gv k) (Cu.mk s_c a_c e_c c_c)).1),some [.dead,.dead,.dead,.buf 1 0 []],.tuple [],some [.cells [.ptr 1 0,.buf 2],.cells (eC (bG (gv k) (Cu.mk s_c a_c e_c c_c)).2.2),.buf 4 0 (l++(bG (gv k) (Cu.mk s_c a_c e_c c_c)).2.1.map aW)])
 |_,_=>none
theorem V0(k:Nat) (hv:dX 13 (lM k)):dX 38 (sx k):=by
 intro args sg pre c u r x r2 he hp;unfold sx at he;split at he<;>cases he
 . rw[dJ (hp).1];exact⟨fun hc=>⟨_,rfl,Wx (hv:=hv) (hp:=hp.2) (hc:=hc) ..⟩,fun hc=>RY (hv:=hv) (hp:=hp.2) (hc:=hc) ..⟩
end Go.Proofs.YtchllohbglebiaaGreatDoor
