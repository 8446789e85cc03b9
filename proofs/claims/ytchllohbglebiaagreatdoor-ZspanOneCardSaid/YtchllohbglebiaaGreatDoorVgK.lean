/-
  A part of the proof.
-/
import Derived.Test.YtchllohbglebiaaGreatDoorVgH
import Derived.Laws.Tables
set_option linter.unusedSimpArgs false
set_option linter.unusedVariables false
namespace Go.VG
open Go

def bR(w:World) (b:Nat) (o:Obj):World:={w with heap:=w.heap.setIfInBounds b o}
theorem lN{w:World} {b:Nat} {o o':Obj} (h:w.heap[b]?=some o):(bR w b o').heap[b]?=some o':=by
 have:=ng h;simp[bR,this]
theorem Xc{w:World} {b b':Nat} {o:Obj} (h:b'≠b):(bR w b o).heap[b']?=w.heap[b']?:=by
 simp[bR,Ne.symm h]
theorem Xe{w:World} {b:Nat} {o:Obj}:(bR w b o).heap.size=w.heap.size:=by simp[bR]
theorem Xd{w:World} {b:Nat} {o o':Obj}:bR (bR w b o) b o'=bR w b o':=by
 simp[bR]
theorem Xb{w:World} {b:Nat} {o:Obj} (h:w.heap[b]?=some o):bR w b o=w:=by
 have hlt:=ng h;simp only[bR];have:w.heap.setIfInBounds b o=w.heap:=by
  apply Array.ext
  . simp
  . intro i h1 h2;rw[Array.getElem?_eq_getElem hlt] at h;by_cases e:b=i
    . subst e;simpa using(Option.some.inj h).symm
    . rw[Array.getElem_setIfInBounds_ne _ e]
 rw[this]

theorem Yt{w:World} {b off:Nat} {c:Array Value} {el:TypeId} {fr:Nat×Nat} (h:w.heap[b]?=some (.cells c el fr)) (v:Value):
   w.setCell ⟨b,off,none⟩ v=bR w b (.cells (c.setIfInBounds off v) el fr):=by
 have hlt:=ng h;simp only[World.setCell,bR]
 congr 1
 apply Array.ext
 . simp
 . intro i h1 h2;by_cases e:b=i
   . subst e;rw[Array.getElem?_eq_getElem hlt] at h;simp[Array.getElem_modify,Option.some.inj h]
   . rw[Array.getElem_setIfInBounds_ne _ e,Array.getElem_modify,if_neg e]

theorem LI{c:List Value} {o:Nat} {v:Value} {vs:List Value} (h:o<c.length):over (c.set o v) (o+1) vs=over c o (v::vs):=by
 unfold over;have h1:(c.set o v).take (o+1) =c.take o++[v]:=by
  rw[List.take_succ_eq_append_getElem (by simpa using h)];rw[List.take_set_of_le (cb _)];simp
 have h2:(c.set o v).drop (o+1+vs.length) =c.drop (o+(v::vs).length):=by
  rw[List.drop_set_of_lt (by omega)]
  congr 1;simp;omega
 rw[h1,h2];simp

theorem uC{α:Type} {xs ys:List α} {o:Nat} (h:ys=[]\/o+ys.length<=xs.length) (k:Nat):(over xs o ys)[k]?=if o<=k/\k<o+ys.length then ys[k-o]? else xs[k]?:=by
 unfold over;rcases h with rfl|h
 . rw[if_neg (by simp only[List.length_nil];omega)];simp
 have h1:(xs.take o).length=o:=by simp;omega
 rcases d7 k o with hk|hk
 . rw[if_neg (by omega),eg,dl (by omega),List.getElem?_take,if_pos hk]
 . rcases d7 k (o+ys.length) with hk2|hk2
   . rw[if_pos ⟨hk,hk2⟩,eg,dt (by omega),dl (by omega),h1]
   . rw[if_neg (by omega),dt (by simp;omega),List.getElem?_drop]
     congr 1
     simp only[an,h1];omega
theorem Ws{α:Type} {xs ys:List α} {o:Nat} {v:α} (h:v∈over xs o ys):v∈xs\/v∈ys:=by
 unfold over at h;rcases List.mem_append.1 h with h|h
 . rcases List.mem_append.1 h with h|h
   . exact .inl (List.mem_of_mem_take h)
   . exact .inr h
 . exact .inl (List.mem_of_mem_drop h)

theorem uJ{P:Program} {b o:Nat} {el:TypeId} {fr:Nat×Nat}:∀(vs:List Value) (i:Nat) (c:Array Value) (w:World),w.heap[b]?=some (.cells c el fr)->qg c fr->(vs=[]\/o+i+vs.length<=c.size)->
   (∀v∈vs,v.oneCell'=true)->(storeCells ⟨b,o,none⟩ vs i).run P w=.ok () (bR w b (.cells (over c.toList (o+i) vs).toArray el fr))
 |[],i,c,w,h,_,_,_=>by
   have:over c.toList (o+i) []=c.toList:=by simp[over]
   rw[this,Array.toArray_toList,Xb h];rfl
 |v::vs,i,c,w,h,hf,hl,h1=>by
   have hl':o+i+(vs.length+1)<=c.size:=by
    rcases hl with hl|hl
    . cases hl
    . simpa using hl
   have hst:(store ((⟨b,o,none⟩:Addr).add i) v).run P w=.ok () (bR w b (.cells (c.setIfInBounds (o+i) v) el fr)):=by
    rw[Addr.add_lit,run_store P w _ v _ (h1 v (by simp)),gZ h];have hlt:o+i<c.size:=by omega
    rw[Array.getElem?_eq_getElem hlt];simp only;rw[IS h hf hlt,Yt h];simp
   have h':(bR w b (.cells (c.setIfInBounds (o+i) v) el fr)).heap[b]?=some (.cells (c.setIfInBounds (o+i) v) el fr):=lN h;have ih:=uJ (P:=P) (o:=o) vs (i+1) (c.setIfInBounds (o+i) v) (bR w b (.cells (c.setIfInBounds (o+i) v) el fr)) h' ⟨hf.1,fun k hk=>hf.2 k (by simpa using hk)⟩ (.inr (by simp;omega)) (fun u hu=>h1 u (by simp[hu]));unfold storeCells;rw[Sem.run_bind,hst];simp only[Result.andThen];rw[ih,Xd]
   congr 2
   rw[Array.toList_setIfInBounds,<-Nat.add_assoc,LI (by simp;omega)]

theorem dg.bR{E:Env} {st:St} {w:World} {b:Nat} {o:Obj} (hG:E.G b) (B:Nat->Prop) (hB:∀b',B b'↔b'=b)
   (hold:∀k v,st b k=some v->(bR w b o).cell? ⟨b,k,none⟩=some v):dg E st st w (bR w b o) B where
 os:=rfl
 tape:=rfl
 output:=rfl
 size:=by rw[Xe];exact cb _
 aO:=fun b' _ hn=>Xc (fun e=>hn ((hB b').2 e))
 own:=fun b' h=>by rw[(hB b').1 h];exact hG
 mono:=fun _ _ _ h=>h
 newst:=fun _ _ _ h=>.inl h
 oldst:=fun b' k v h hv=>by rw[(hB b').1 h] at hv⊢;exact hold k v hv

section
variable {C:Ctx} {E:Env} {st:St} {g:au} {s:AS} {a:Act} {w:World} {o:Oper} {e:Ef}

theorem uA{xs:List V} {n:Nat} {vs:List Value} (h:aC st g xs n vs) (ho:eG xs=true):∀v∈vs,v.oneCell'=true:=by
 induction xs generalizing vs with
 |nil=>simp only[aC] at h;subst h;simp
 |cons x xs ih=>
   simp only[aC] at h;obtain⟨u,us,rfl,h1,h2⟩:=h;simp only[eG,zza] at ho;intro v hv;cases hv with
   |head=>exact A5 h1 ho.1
   |tail _ hv=>exact ih h2 ho.2 v hv

theorem LV{xs:List V} {n n':Nat} {vs:List Value} (h:aC st g xs n vs) (hp:V.gd xs=true):aC st g xs n' vs:=
 la (fun _ _ _ h=>h) (fun i hi _=>by rw[xw hp i] at hi;cases hi) h
theorem Xa{x:V} (hp:x.pure=true):V.gd x.cells=true:=by
 cases x<;>simp only[V.pure] at hp<;>first
  |exact hp
  |(simp[V.cells,V.gd,V.pure,hp];done)
  |(simp only[V.cells,V.gd,V.pure,hp,Bool.and_true];exact hp)
  |simp_all[V.cells,V.gd,V.pure]

theorem Yi{t:TypeId} {x y:Operand} (R:Rel E st g s a w) (hg:aL C.gl st) (G:Good C) (ho:o.op=.store t x y):cw C E st g s a w o (rR C s t x y):=by
 unfold rR;simp only[nq];split
 . exact aa.fail
 rename_i hk;have hk:(C.ti t).k≠.other:=fun h=>hk h;have hx:=aR (C:=C) R hg x;have hy:=aR (C:=C) R hg y;rw[force_eq];refine aa.when fun hw=>?_;simp only[zza,Bool.not_eq_true'] at hw;obtain⟨⟨hsz,hu⟩,h1⟩:=hw;have hsz:=aB hsz;have hc:=kp hy hu;have hsz':(a.eval y).cells.size=(C.ti t).size:=by rw[<-hsz,eN hc];simp
 have hone:=uA hc h1;have hrun:∀b off,a.eval x=.pointer (some ⟨b,off,none⟩)->∀c el fr,w.heap[b]?=some (.cells c el fr)->qg c fr->((a.eval y).cells.toList=[]\/off+(a.eval y).cells.toList.length<=c.size)->
    (execOp a.eval o).run C.P w=.ok .skip (bR w b (.cells (over c.toList off (a.eval y).cells.toList).toArray el fr)):=fun b off hb c el fr hbl hf hlen=>by
  have:=uJ (P:=C.P) (b:=b) (o:=off) (a.eval y).cells.toList 0 c w hbl hf (by simpa using hlen) hone;rw[Nat.add_zero] at this;simp[execOp,ho,Instr.storeAt,hb,Instr.sureAddr,storeVar,hsz',gj w (G.ti t) hk,this]
 generalize (a.eval y).cells.toList=ys at hc hone hrun;split
 . rename_i i off he;rw[he] at hx;simp only[VR] at hx;obtain⟨hi,b,hb,hx⟩:=hx;split
   . rename_i cs hs;obtain⟨hs1,_⟩:=eY hs (by simp);obtain⟨b',c,el,fr,k1,k2,k3,k4,k5,k6⟩:=yx R.wr hs1;rw[hb] at k1;cases k1;refine aa.opt fun cs' hcs'=>aa.ret ?_;obtain⟨r1,r2⟩:=uL hcs';subst r1;have hcl:=eN k4;have hyl:=eN hc;have hlen:ys=[]\/off+ys.length<=c.size:=by
      rcases r2 with r2|r2
      . left;apply co;rw[<-hyl,r2];rfl
      . right;rw[<-hyl];simp only[Array.length_toList] at hcl;omega
     refine az.j9 R hi undef _ (g i) (.inr ⟨hrun b off hx c el fr k3 k5 hlen,rfl⟩)
      (dg.bR k2 _ (fun b'=>by rw[hb];simp[eq_comm]) (fun k v hv=>by rw[k6 k] at hv;cases hv)) (.inl rfl) (fun b hb=>.inl hb) ?_ (by simp[VR])
     have hug:∀j,aX g i (g i) j=g j:=fun j=>by by_cases e:j=i<;>simp[aX,e]
     refine⟨b,_,el,fr,hb,k2,lN k3,?_,?_,k6⟩
     . exact la (fun _ _ _ h=>h) (fun j _ hj=>⟨hj,hug j⟩) (yi k4 hc)
     . refine⟨k5.1,fun k hk=>?_⟩;refine k5.2 k ?_;have:=mc (xs:=c.toList) (by simpa using hlen);simp only[List.size_toArray,this,Array.length_toList] at hk;exact hk
   . exact aa.fail
 . rename_i i idx off he;rw[he] at hx;simp only[VR] at hx;obtain⟨hi,b,hb,hx⟩:=hx;split
   . rename_i sz pre l hs;obtain⟨hs1,_⟩:=eY hs (by simp);obtain⟨q1,q2,q3,q4,q5,q6,q7⟩:=R.wr.ob i _ hs1;refine aa.opt fun z hz=>?_;split
     . rename_i cs hzz;refine aa.when fun hp=>aa.opt fun cs' hcs'=>aa.aI fun hpre=>aa.ret ?_;obtain⟨r1,r2⟩:=uL hcs';subst r1;rcases q7 with ⟨_,q7⟩|⟨b',c,el,fr,k1,k2,k3,k4,k5,k6,k7,k8⟩
       . rw[hb] at q7;cases q7
       rw[hb] at k1;cases k1;obtain⟨u,u1,u2,u3,u4⟩:=gV.1 k6 idx _ hz;simp only[VR] at u1;obtain⟨us,rfl,u1⟩:=u1;simp only[Value.cells] at u2 u3 u4;have hidx:idx<l.length:=by
        rcases d7 idx l.length with h'|h'
        . exact h'
        . simp[ci h'] at hz
       have hyl:=eN hc;have hul:=eN u1;have hin:(idx+1)*sz<=c.size:=by
        rw[k5];exact gg _ (by omega)
       rw[Nat.add_mul,Nat.one_mul] at hin;have hlen2:ys=[]\/off+ys.length<=us.toList.length:=by
        rcases r2 with r2|r2
        . left;apply co;rw[<-hyl,r2];rfl
        . right;omega
       have hul2:us.toList.length=sz:=by simpa using u2
       have hlen:ys=[]\/(idx*sz+off)+ys.length<=c.size:=by
        rcases hlen2 with h|h
        . exact .inl h
        . right;omega
       have hlen':ys=[]\/idx*sz+off+ys.length<=c.toList.length:=by simpa using hlen
       have hcell:=uC (xs:=c.toList) (ys:=ys) (o:=idx*sz+off) hlen';have hcell2:=uC (xs:=us.toList) (ys:=ys) (o:=off) hlen2;have hug:∀j,aX g i (g i) j=g j:=fun j=>by by_cases e:j=i<;>simp[aX,e]
       have hugf:aX g i (g i)=g:=funext hug;have hoff:ys.length=0\/off+ys.length<=sz:=by
        rcases hlen2 with h|h
        . left;rw[h];rfl
        . right;omega
       rw[q2] at hx;refine az.j9 R hi undef _ (g i) (.inr ⟨hrun b _ hx c el fr k4 k7 hlen,rfl⟩)
        (dg.bR k3 _ (fun b'=>by rw[hb];simp[eq_comm]) (fun k v hv=>?_)) (.inl rfl) (fun b hb=>.inl hb) ?_ (by simp[VR])
       . have h9:=k8 k v hv;have h10:=R.wr.stw _ _ _ hv;rw[gZ k4] at h10;rw[gZ (lN k4),List.getElem?_toArray,hcell,if_neg,<-h10]
         . simp
         . have:pre*sz<=idx*sz:=gg _ hpre;omega
       . rw[hugf];refine⟨q1,q2,by simpa using q3,by simpa using q4,by simpa using q5,by simpa using q6,.inr ⟨b,_,el,fr,hb,k2,k3,lN k4,?_,?_,?_,k8⟩⟩
         . simp only[List.size_toArray,mc hlen',Array.length_toList];exact k5
         . rw[gV];intro j z' hz';rw[List.getElem?_set] at hz';by_cases e:idx=j
           . subst e;rw[if_pos rfl,if_pos hidx] at hz';cases hz';refine⟨.agg (over us.toList off ys).toArray,?_,?_,?_,fun k hk=>?_⟩
             . simp only[VR];exact⟨_,rfl,yi u1 (LV hc (Xa hp))⟩
             . simp only[Value.cells,List.size_toArray,mc hlen2];exact hul2
             . intro v hv;simp only[Value.cells] at hv;rcases Ws hv with h|h
               . exact u3 v h
               . exact hone v h
             . simp only[Value.cells];rw[List.getElem?_toArray,List.getElem?_toArray,Nat.zero_add,hcell,hcell2];have h5:=u4 k hk;rw[Nat.zero_add] at h5;by_cases hin2:off<=k/\k<off+ys.length
               . rw[if_pos hin2,if_pos (by omega)]
                 congr 1;omega
               . rw[if_neg hin2,if_neg (by omega)];simpa using h5
           . rw[if_neg e] at hz';obtain⟨v1,v2,v3,v4,v5⟩:=gV.1 k6 j z' hz';refine⟨v1,v2,v3,v4,fun k hk=>?_⟩;rw[<-v5 k hk,List.getElem?_toArray,hcell,if_neg]
             . simp
             . rcases d7 j idx with h|h
               . have:(j+1)*sz<=idx*sz:=gg _ h;rw[Nat.add_mul,Nat.one_mul] at this;omega
               . have:(idx+1)*sz<=j*sz:=gg _ (by omega);rw[Nat.add_mul,Nat.one_mul] at this;omega
         . refine⟨k7.1,fun k hk=>?_⟩;refine k7.2 k ?_;simp only[List.size_toArray,mc (xs:=c.toList) hlen',Array.length_toList] at hk;exact hk
     . exact aa.fail
   . exact aa.fail
 . exact aa.fail
end
end Go.VG
namespace Go.VG
open Go

theorem CN(off:Nat):∀(vs:List Value) (k:Nat) (c:Array Value),(vs=[]\/off+k+vs.length<=c.size)->
   (vs.zipIdx k).foldl (fun cs (p:Value×Nat) =>cs.setIfInBounds (off+p.2) p.1) c=(over c.toList (off+k) vs).toArray
 |[],k,c,_=>by simp[over]
 |v::vs,k,c,h=>by
   have h':off+k+(vs.length+1)<=c.size:=by
    rcases h with h|h
    . cases h
    . simpa using h
   rw[List.zipIdx_cons,List.foldl_cons,CN off vs (k+1) _ (.inr (by simp;omega))];rw[Array.toList_setIfInBounds,<-Nat.add_assoc,LI (by simp;omega)]

theorem Ae{x:V} (h:x.pure=true):x.eZ=false:=by cases x<;>first|rfl|(simp[V.pure] at h)

section
variable {C:Ctx} {E:Env} {st:St} {g:au} {s:AS} {a:Act} {w:World} {o:Oper} {e:Ef}

theorem CF{placeV:Nat->Option (Nat×Nat)} {place:Nat->Option (Nat×Nat)} (hp:∀i x,placeV i=some x->place i=some x) (R:Rel E st g s a w) (hg:aL C.gl st):
   ∀(parts:List (Nat×Operand)) (zs:List V) (z:Array Value) (cs:List V),aC st g zs s.sg.length z.toList->tW placeV (jY C s parts) zs=some cs->
    ∃cells,Instr.fill place z (parts.map fun(i,x) =>(i,a.eval x)) =some cells/\aC st g cs s.sg.length cells.toList
 |[],zs,z,cs,hz,h=>by
   simp only[jY,tW,Option.some.injEq] at h;subst h;exact⟨z,rfl,hz⟩
 |(i,x)::r,zs,z,cs,hz,h=>by
   simp only[jY,tW] at h;cases hpl:placeV i with
   |none=>rw[hpl] at h;cases h
   |some q=>
     obtain⟨off,size⟩:=q;rw[hpl] at h;simp only at h;cases hb:(Nat.beq (s.ev C x).cells.length size&&Nat.blt 0 size) with
     |false=>rw[hb] at h;cases h
     |true=>
       cases hu:(s.ev C x).eZ with
       |true=>rw[hb,hu] at h;cases h
       |false=>
         rw[hb,hu] at h;simp only at h;cases hs:jM zs off (s.ev C x).cells with
         |none=>rw[hs] at h;cases h
         |some zs'=>
           rw[hs] at h;simp only at h;obtain⟨r1,r2⟩:=uL hs;subst r1;have hv:=kp (aR (C:=C) R hg x) hu;have hl:=eN hv;have hzl:=eN hz;simp only[zza] at hb;obtain⟨hb,hb0⟩:=hb;have hb:=aB hb;have hb0:=d6 hb0;have hin:(a.eval x).cells.toList=[]\/off+(a.eval x).cells.toList.length<=z.toList.length:=by
            rcases r2 with r2|r2
            . left;apply co;rw[<-hl,r2];rfl
            . right;omega
           have h2:=yi (o:=off) hz hv;obtain⟨cells,k1,k2⟩:=CF hp R hg r _ (over z.toList off (a.eval x).cells.toList).toArray cs (by simpa using h2) h;refine⟨cells,?_,k2⟩;rw[List.map_cons];unfold Instr.fill;rw[hp i _ hpl];simp only;have hsz:(a.eval x).cells.size=size:=by rw[<-hb,hl];simp
           by_cases h0:(a.eval x).cells.toList=[]
           . rw[h0] at hl;simp at hl;rw[hl] at hb;simp at hb;omega
           . have hin':off+(a.eval x).cells.size<=z.size:=by
               rcases hin with h|h
               . exact absurd h h0
               . simpa using h
             rw[if_neg (by simp[hsz];omega)];have:=CN off (a.eval x).cells.toList 0 z (.inr (by simpa using hin'));rw[Nat.add_zero] at this;rw[<-k1]
             congr 1
             rw[<-this];rw[<-Array.foldl_toList,Array.toList_zipIdx]

theorem LQ{P:Program}:∀{fs:List Field} {places:List (Nat×Nat)},fs.mapM (fun f=>(P.info? f.type).map fun i=>(f.offset,i.size)) =some places->
   ∀{i:Nat} {f:Field},fs[i]?=some f->∃info,P.info? f.type=some info/\places[i]?=some (f.offset,info.size)
 |[],places,h,i,f,hf=>by simp at hf
 |f0::fs,places,h,i,f,hf=>by
   simp only[List.mapM_cons,Option.bind_eq_bind,Option.pure_def] at h;cases hi:P.info? f0.type with
   |none=>simp[hi] at h
   |some info=>
     cases hr:fs.mapM (fun f=>(P.info? f.type).map fun i=>(f.offset,i.size)) with
     |none=>simp[hi,hr] at h
     |some rest=>
       simp[hi,hr] at h;subst h;cases i with
       |zero=>simp at hf;subst hf;exact⟨info,hi,rfl⟩
       |succ i=>simpa using LQ hr (by simpa using hf)

theorem XN{t:TypeId} {parts:Array (Nat×Operand)} (R:Rel E st g s a w) (hg:aL C.gl st) (G:Good C) (ho:o.op=.build t parts):cw C E st g s a w o (tN C s t parts):=by
 unfold tN;have hparts:(parts.map fun(i,x) =>(i,a.eval x)).toList=parts.toList.map fun(i,x) =>(i,a.eval x):=by simp
 split
 . rename_i fs hk;obtain⟨h3,⟨info,h4,h5,_,z,h6,h7⟩,_⟩:=(G.ti t).of (by rw[hk];simp);rw[hk] at h3;obtain⟨fields,h3,h8,h9⟩:=h3;obtain⟨places,h9⟩:=Option.isSome_iff_exists.1 h9;refine aa.when fun hu=>aa.opt fun cs hcs=>aa.ret ?_;obtain⟨cells,k1,k2⟩:=CF (place:=fun i=>places.toArray[i]?) (fun i x hx=>by
    unfold placeOf at hx;split at hx
    . rename_i off ft hf;split at hx
      . cases hx
      . rename_i hk2;cases hx;obtain⟨f,f1,f2,f3⟩:=CE h8 hf;obtain⟨info',f4,f5⟩:=LQ h9 (i:=i) (by simpa using f1);have f6:=Ce (G.ti ft) (fun h=>hk2 h);simp only at f2 f3;rw[f3] at f4;simp only[Program.cellsOf,f4,Option.map_some,Option.getD_some] at f6;simp[f5,f2,f6]
    . cases hx) R hg parts.toList _ z.cells cs (kp (h7 st g _) (by simpa using hu)) hcs
   refine az.pure R (.agg cells) w ?_ (aQ.refl w) (by simp only[VR];exact⟨_,rfl,k2⟩);have:C.P.built t (parts.map fun(i,x) =>(i,a.eval x)).toList=some cells:=by
    unfold Program.built;rw[h4,h3,hparts];simp only[h6,h9];exact k1
   simp only[execOp,ho];rw[Sem.run_bind,Go.run_build w t _ cells this];rfl
 . rename_i n e hk;obtain⟨h3,⟨info,h4,h5,_,z,h6,h7⟩,_⟩:=(G.ti t).of (by rw[hk];simp);rw[hk] at h3;split
   . exact aa.fail
   rename_i hk2;obtain⟨_,⟨infoe,e4,e5,_⟩,_⟩:=(G.ti e).of (fun h=>hk2 h);refine aa.when fun hu=>aa.opt fun cs hcs=>aa.ret ?_;obtain⟨cells,k1,k2⟩:=CF (place:=fun i=>some (i*infoe.size,infoe.size)) (fun i x hx=>by rw[e5];exact hx) R hg parts.toList _ z.cells cs (kp (h7 st g _) (by simpa using hu)) hcs;refine az.pure R (.agg cells) w ?_ (aQ.refl w) (by simp only[VR];exact⟨_,rfl,k2⟩);have:C.P.built t (parts.map fun(i,x) =>(i,a.eval x)).toList=some cells:=by
    unfold Program.built;rw[h4,h3,hparts];simp only[h6,e4];exact k1
   simp only[execOp,ho];rw[Sem.run_bind,Go.run_build w t _ cells this];rfl
 . exact aa.fail

theorem LN:∀(ps:List (Nat×Operand)) (k sz:Nat) (l:List V),uD (jY C s ps) k sz=some l->
   l.length=ps.length/\∀(i:Nat) (p:Nat×Operand),ps[i]?=some p->p.1=k+i/\∃x,l[i]?=some x/\x=s.ev C p.2/\x.cells.length=sz/\x.pure=true/\eG x.cells=true
 |[],k,sz,l,h=>by simp[jY,uD] at h;subst h;simp
 |(i0,x)::r,k,sz,l,h=>by
   simp only[jY,uD] at h;cases h1:Nat.beq i0 k with
   |false=>rw[h1] at h;cases h
   |true=>
     cases h2:Nat.beq (s.ev C x).cells.length sz with
     |false=>rw[h1,h2] at h;cases h
     |true=>
       cases h3:((s.ev C x).pure&&eG (s.ev C x).cells) with
       |false=>rw[h1,h2,h3] at h;cases h
       |true=>
         rw[h1,h2,h3] at h;simp only at h;cases h4:uD (jY C s r) (k+1) sz with
         |none=>rw[h4] at h;cases h
         |some l'=>
           rw[h4] at h;cases h;obtain⟨k1,k2⟩:=LN r (k+1) sz l' h4;simp only[zza] at h3;refine⟨by simp[k1],fun i p hp=>?_⟩;cases i with
           |zero=>
             simp at hp;subst hp;exact⟨by rw[aB h1];rfl,_,rfl,rfl,aB h2,h3.1,h3.2⟩
           |succ i=>
             obtain⟨k3,y,k4,k5⟩:=k2 i p (by simpa using hp);exact⟨by rw[k3];omega,y,by simpa using k4,k5⟩

theorem Ix{sz:Nat} (h0:0<sz) (R:Rel E st g s a w) (hg:aL C.gl st):∀(ps:List (Nat×Operand)) (k:Nat) (z:Array Value),
   (∀(i:Nat) (p:Nat×Operand),ps[i]?=some p->p.1=k+i/\(a.eval p.2).cells.size=sz)->(k+ps.length)*sz<=z.size->
   ∃cells,Instr.fill (fun i=>some (i*sz,sz)) z (ps.map fun(i,x) =>(i,a.eval x)) =some cells/\cells.size=z.size/\(∀j,j<k*sz->cells[j]?=z[j]?)/\
    ∀(i:Nat) (p:Nat×Operand),ps[i]?=some p->∀j,j<sz->cells[(k+i)*sz+j]?=(a.eval p.2).cells[j]?
 |[],k,z,_,_=>⟨z,rfl,rfl,fun _ _=>rfl,fun i p hp=>by simp at hp⟩
 |(i0,x)::r,k,z,h,hz=>by
   obtain⟨h1,h2⟩:=h 0 _ rfl;simp only[Nat.add_zero] at h1;subst h1;have hle:(i0+1)*sz<=z.size:=Nat.le_trans (gg _ (by simp)) hz;rw[Nat.add_mul,Nat.one_mul] at hle;have hin:(a.eval x).cells.toList=[]\/i0*sz+(a.eval x).cells.toList.length<=z.toList.length:=.inr (by simpa[h2] using hle);obtain⟨cells,k1,k2,k3,k4⟩:=Ix h0 R hg r (i0+1) (over z.toList (i0*sz) (a.eval x).cells.toList).toArray (fun i p hp=>by
    obtain⟨q1,q2⟩:=h (i+1) p (by simpa using hp);exact⟨by rw[q1];omega,q2⟩) (by
    simp only[List.size_toArray,mc hin,Array.length_toList];simp only[List.length_cons] at hz;rw[show i0+1+r.length=i0+(r.length+1) by omega];exact hz)
   have hget:=uC hin;refine⟨cells,?_,?_,?_,?_⟩
   . rw[List.map_cons];unfold Instr.fill;simp only;rw[if_neg (by simp[h2];omega)];have:=CN (i0*sz) (a.eval x).cells.toList 0 z (.inr (by simpa[h2] using hle));rw[Nat.add_zero] at this;rw[<-k1]
     congr 1
     rw[<-this];rw[<-Array.foldl_toList,Array.toList_zipIdx]
   . rw[k2];simp only[List.size_toArray,mc hin,Array.length_toList]
   . intro j hj;rw[k3 j (by rw[Nat.add_mul];omega),List.getElem?_toArray,hget,if_neg (by omega)];simp
   . intro i p hp j hj;cases i with
     |zero=>
       simp at hp;subst hp;simp only[Nat.add_zero];rw[k3 _ (by rw[Nat.add_mul,Nat.one_mul];omega),List.getElem?_toArray,hget,if_pos (by simp[h2];omega)];simp only[Nat.add_sub_cancel_left];simp
     |succ i=>
       have:=k4 i p (by simpa using hp) j hj;rw[show i0+1+i=i0+(i+1) by omega] at this;exact this

theorem C9{t:TypeId} {len:Nat} {parts:Array (Nat×Operand)} (R:Rel E st g s a w) (hg:aL C.gl st) (G:Good C) (ho:o.op=.buildSlice t len parts):
   aa (fun ef=>∃x e cells,ef=pe x/\C.P.underlying t=some (.slice e)/\(execOp a.eval o).run C.P w=.ok (.value (.slice (some ⟨w.heap.size,0,none⟩) len len)) (w.alloc (.cells cells e))/\
    VR (lg st w.heap.size cells cells.size) g x s.sg.length (.slice (some ⟨w.heap.size,0,none⟩) len len)/\
    ∃l,x=.list true (C.ti e).size l/\l.length=len/\0<(C.ti e).size/\cells.size=len*(C.ti e).size/\len<=maxLen/\cn st g l (C.ti e).size (fun k=>cells[k]?) 0) (lW C s t len parts):=by
 unfold lW;simp only[u6];split
 . rename_i e hk;obtain⟨h3,_⟩:=(G.ti t).of (by rw[hk];simp);rw[hk] at h3;split
   . exact aa.fail
   rename_i hk2;obtain⟨_,⟨infoe,e4,e5,_,z,e6,e7⟩,_⟩:=(G.ti e).of (fun h=>hk2 h);refine aa.when fun hw=>aa.opt fun l hl=>?_;rw[dN];refine aa.ret ?_;simp only[zza] at hw;obtain⟨⟨hw1,hw2⟩,hw3⟩:=hw;have hw1:=aB hw1;have hw2:=d6 hw2;have hw3:=d6 hw3;obtain⟨p1,p2⟩:=LN parts.toList 0 (C.ti e).size l hl;have hcell:∀(i:Nat) (p:Nat×Operand),parts.toList[i]?=some p->p.1=0+i/\(a.eval p.2).cells.size=(C.ti e).size:=fun i p hp=>by
    obtain⟨q1,x,q2,q3,q4,q5,q6⟩:=p2 i p hp;refine⟨q1,?_⟩;have hu:x.eZ=false:=Ae q5;rw[q3] at q4 hu;have:=eN (kp (aR (C:=C) R hg p.2) hu);rw[<-q4,this];simp
   have hn0:∀z0:Array Value,∃z1:Array Value,z1.size=len*(C.ti e).size/\(Array.range (len*(C.ti e).size)).map (fun i=>z0[i%z0.size]!) =z1:=fun z0=>⟨_,by simp,rfl⟩
   have hrun:∃cells:Array Value,(execOp a.eval o).run C.P w=.ok (.value (.slice (some ⟨w.heap.size,0,none⟩) len len)) (w.alloc (.cells cells e))/\cells.size=len*(C.ti e).size/\
      ∀(i:Nat) (p:Nat×Operand),parts.toList[i]?=some p->∀j,j<(C.ti e).size->cells[i*(C.ti e).size+j]?=(a.eval p.2).cells[j]?:=by
    have hfin:∀z0:Array Value,∃cells:Array Value,Instr.fill (fun i=>some (i*(C.ti e).size,(C.ti e).size)) ((Array.range (len*(C.ti e).size)).map (fun i=>z0[i%z0.size]!)) (parts.toList.map fun(i,x) =>(i,a.eval x)) =some cells/\cells.size=len*(C.ti e).size/\
       ∀(i:Nat) (p:Nat×Operand),parts.toList[i]?=some p->∀j,j<(C.ti e).size->cells[i*(C.ti e).size+j]?=(a.eval p.2).cells[j]?:=fun z0=>by
     obtain⟨cells,k1,k2,_,k4⟩:=Ix (by omega) R hg parts.toList 0 ((Array.range (len*(C.ti e).size)).map (fun i=>z0[i%z0.size]!)) hcell (by simp[hw1]);exact⟨cells,k1,by rw[k2];simp,fun i p hp j hj=>by have:=k4 i p hp j hj;rwa [Nat.zero_add] at this⟩
    have hparts:(parts.map fun(i,x) =>(i,a.eval x)).toList=parts.toList.map fun(i,x) =>(i,a.eval x):=by simp
    by_cases h0:len*(C.ti e).size=0
    . obtain⟨cells,k1,k2,k3⟩:=hfin #[];refine⟨cells,?_,k2,k3⟩;simp only[execOp,ho];rw[Sem.run_bind];unfold Instr.buildSlice;simp only[Sem.run_bind,run_underlying h3,Result.andThen,gj w (G.ti e) (fun h=>hk2 h),hparts];rw[if_neg (by omega),if_pos h0];simp only[Sem.run_pure,Sem.run_bind,Result.andThen,k1,newRow,run_newObj_alloc]
    . obtain⟨cells,k1,k2,k3⟩:=hfin z.cells;refine⟨cells,?_,k2,k3⟩;have hzr:(zeroValue e).run C.P w=.ok z w:=by simp[zeroValue,typeInfo,e4,e6]
      simp only[execOp,ho];rw[Sem.run_bind];unfold Instr.buildSlice;simp only[Sem.run_bind,run_underlying h3,Result.andThen,gj w (G.ti e) (fun h=>hk2 h),hparts];rw[if_neg (by omega),if_neg h0];simp only[Sem.run_pure,Sem.run_bind,Result.andThen,hzr,k1,newRow,run_newObj_alloc]
   obtain⟨cells,hrun,hsz,hcells⟩:=hrun;have hll:l.length=len:=by rw[p1,hw1]
   have hmx:len<=maxLen:=by simp only[maxLen];have:len*1<=len*(C.ti e).size:=Nat.mul_le_mul_left _ hw2;omega
   refine⟨_,e,cells,rfl,h3,hrun,?_,l,rfl,hll,hw2,hsz,hmx,?_⟩
   rotate_left
   . rw[gV];intro i x hx;have hi:i<parts.toList.length:=by
      rw[<-p1];rcases d7 i l.length with h'|h'
      . exact h'
      . simp[ci h'] at hx
     obtain⟨q1,x',q2,q3,q4,q5,q6⟩:=p2 i _ (am hi);rw[hx] at q2;cases q2;have hv:=aR (C:=C) R hg (parts.toList[i]).2;rw[<-q3] at hv;have hu:x.eZ=false:=Ae q5;have hvc:=kp hv hu;refine⟨a.eval (parts.toList[i]).2,gC (fun _ _ _ h=>h) (fun j hj _=>by rw[xx q5 j] at hj;cases hj) hv,(hcell i _ (am hi)).2,uA hvc q6,fun j hj=>?_⟩;rw[<-hcells i _ (am hi) j hj,Nat.zero_add]
   simp only[VR,pe];refine⟨_,_,by rw[hll],by omega,by omega,fun _=>hll.symm,.inr ⟨w.heap.size,0,rfl,hw2,?_⟩⟩;rw[gV];intro i x hx;have hi:i<parts.toList.length:=by
    rw[<-p1];rcases d7 i l.length with h'|h'
    . exact h'
    . simp[ci h'] at hx
   obtain⟨q1,x',q2,q3,q4,q5,q6⟩:=p2 i _ (am hi);rw[hx] at q2;cases q2;have hv:=aR (C:=C) R hg (parts.toList[i]).2;rw[<-q3] at hv;have hu:x.eZ=false:=Ae q5;have hvc:=kp hv hu;refine⟨a.eval (parts.toList[i]).2,gC (pR R.wr.mX) (fun j hj _=>by rw[xx q5 j] at hj;cases hj) hv,(hcell i _ (am hi)).2,uA hvc q6,fun j hj=>?_⟩;rw[<-hcells i _ (am hi) j hj];simp only[lg,if_true,Nat.zero_add];rw[if_pos];rw[hsz,hw1];have:(i+1)*(C.ti e).size<=parts.toList.length*(C.ti e).size:=gg _ hi;rw[Nat.add_mul,Nat.one_mul] at this;omega
 . exact aa.fail
theorem XO{t:TypeId} {len:Nat} {parts:Array (Nat×Operand)} (R:Rel E st g s a w) (hg:aL C.gl st) (G:Good C) (ho:o.op=.buildSlice t len parts):cw C E st g s a w o (lW C s t len parts):=fun ef he=>by
 obtain⟨x,e,cells,rfl,h3,hrun,hv,_⟩:=C9 R hg G ho ef he;exact az.val _ _ _ g hrun ⟨pR R.wr.mX,fun _ _ _=>rfl,by rw[jr];exact cb _⟩ (by rw[jr];exact R.wr.C1 cells e (0,0) cells.size) (by rw[jr];exact hv)

end
end Go.VG
namespace Go.VG
open Go

theorem xe:4294967296<=maxLen:=by unfold maxLen;omega
section
variable {C:Ctx} {E:Env} {st:St} {g:au} {s:AS} {a:Act} {w:World} {o:Oper} {e:Ef}

theorem az.DG{sz:Nat} {l:List V} {rd:List Nat} (R:Rel E st g s a w) (w1:World) (hw:aQ w w1) (c:Array Value) (el:TypeId) (cap:Nat) (h0:0<sz) (hl:l.length<=cap) (hm:l.length<=maxLen)
   (hr:(execOp a.eval o).run C.P w=.ok (.value (.slice (some ⟨w1.heap.size,0,none⟩) l.length cap)) (w1.alloc (.cells c el))) (hc:c.size=cap*sz) (hrow:cn st g l sz (fun k=>c[k]?) 0):
   az C E st g s a w o ⟨.buf s.sg.length,[],[],[.buf sz 0 l],rd⟩:=by
 have hW:=R.wr.same hw;refine az.new R _ w1 hw ⟨some w1.heap.size,some ⟨w1.heap.size,0,none⟩,l.length,cap,sz⟩ _ hr (by simp) ?_ ?_
 . refine⟨h0,rfl,by simp,hm,rfl,hl,.inr ⟨w1.heap.size,c,el,(0,0),rfl,rfl,hW.gnew _ hW.size,heap_alloc_new,hc,?_,⟨by simp,by intro o _;simp⟩,fun k v hv=>?_⟩⟩
   . exact lT (fun _ _ _ h=>h) (fun _ _ h=>h) hrow
   . rw[hW.mX k] at hv;cases hv
 . simp only[VR,dU];exact⟨by omega,trivial⟩

theorem Y9{t:TypeId} {x y:Operand} (R:Rel E st g s a w) (hg:aL C.gl st) (G:Good C) (ho:o.op=.makeSlice t x y):cw C E st g s a w o (rN C s t x y):=by
 unfold rN;have hx:=aR (C:=C) R hg x;have hy:=aR (C:=C) R hg y;split
 . rename_i e k n k' m hk he he';rw[he] at hx;rw[he'] at hy;simp only[VR] at hx hy;obtain⟨h3,_⟩:=(G.ti t).of (by rw[hk];simp);rw[hk] at h3;split
   . exact aa.fail
   rename_i hk2;obtain⟨_,⟨infoe,e4,e5,e6,z,e7,e8⟩,_⟩:=(G.ti e).of (fun h=>hk2 h);refine aa.when fun hw=>aa.aI fun h0=>?_;rw[dN,dN,force_eq];refine aa.ret ?_;simp only[zza] at hw;obtain⟨⟨⟨⟨hw1,hw2⟩,hw3⟩,hw4⟩,hw5⟩:=hw;have hw1:=d6 hw1;have hw2:=d6 hw2;have hw5:=aB hw5;have hzc:=kp (e8 st g 0) (Ae hw3);have hzl:z.cells.size=(C.ti e).size:=by rw[<-hw5,eN hzc];simp
   have hbytes:(infoe.bytes:Int)*m<=281474976710656:=by
    have h1:(infoe.bytes:Int)<=4096:=by rw[e6];exact Int.ofNat_le.2 hw1
    have h2:(infoe.bytes:Int)*m<=4096*4294967296:=by
     have h3:(infoe.bytes:Int)*m<=4096*m:=Int.mul_le_mul_of_nonneg_right h1 (by omega);omega
    omega
   have hr:=run_make (P:=C.P) w t e infoe z h3 e4 e7 k k' n m h0.1 h0.2.1 hbytes (by omega);have hln:(List.replicate n.toNat (C.ti e).zero).length=n.toNat:=List.length_replicate;refine az.DG R w (aQ.refl w) (madeCells z.cells (m.toNat*infoe.size)) e m.toNat hw2 (by rw[hln];omega) (by rw[hln];exact Nat.le_trans (by omega) xe) ?_ (by rw[size_madeCells,e5]) ?_
   . simp only[execOp,ho,hx.1,hy.1];rw[Sem.run_bind,hr,hln];rfl
   . rw[gV];intro i z' hz';rw[List.getElem?_replicate] at hz';split at hz'
     . rename_i hi;cases hz';refine⟨z,e8 st g 0,hzl,uA hzc hw4,fun j hj=>?_⟩;simp only[madeCells,Nat.zero_add];have hb:i*(C.ti e).size+j<m.toNat*infoe.size:=by
        rw[e5];have:(i+1)*(C.ti e).size<=m.toNat*(C.ti e).size:=gg _ (by omega);rw[Nat.add_mul,Nat.one_mul] at this;omega
       have hz2:0<z.cells.size:=by rw[hzl];exact hw2
       have hmod:(i*(C.ti e).size+j)%z.cells.size=j:=by
        rw[hzl,Nat.add_comm,Nat.add_mul_mod_self_right,Nat.mod_eq_of_lt hj]
       rw[Array.getElem?_map,Array.getElem?_range,if_pos hb];simp only[Option.map_some,hmod];have hjz:j<z.cells.size:=by rw[hzl];exact hj
       rw[getElem!_pos z.cells j hjz,Array.getElem?_eq_getElem hjz]
     . cases hz'
 . exact aa.fail

theorem s_bs{t:TypeId} {len:Nat} {parts:Array (Nat×Operand)} (R:Rel E st g s a w) (hg:aL C.gl st) (G:Good C) (ho:o.op=.buildSlice t len parts):cw C E st g s a w o (oS C s o.dst t len parts):=by
 have hb:=XO R hg G ho;unfold oS;split
 . rename_i d hd;cases C.lits d with
   |false=>exact hb
   |true=>
     simp only[cond_true];unfold tQ;refine aa.bind (wj _ _ _ _ _) fun e he=>?_;obtain⟨x,el,cells,rfl,h3,hrun,_,l,rfl,hl,h0,hc,hm,hrow⟩:=C9 R hg G ho e (he _ rfl);simp only[pe];rw[dN];refine aa.ret ?_;refine az.DG R w (aQ.refl w) cells el len h0 (by omega) (by omega) ?_ hc hrow;rw[hl];exact hrun
 . exact hb
theorem SV{w:World} {b o:Nat} {c:Array Value} {el:TypeId} {fr:Nat×Nat} (h:w.heap[b]?=some (.cells c el fr)):w.freeze ⟨b,o,none⟩ 1=bR w b (.cells c el (if fr.1==fr.2 then(o,o+1) else(min fr.1 o,max fr.2 (o+1)))):=by
 unfold World.freeze;rw[if_neg (by decide)];unfold bR
 congr 1
 apply Array.ext
 . simp
 . intro k h1 h2;simp only[Array.getElem_modify,Array.getElem_setIfInBounds];have hk:k<w.heap.size:=by simpa using h1
   by_cases e:b=k
   . subst e;rw[if_pos rfl,Array.getElem_setIfInBounds_self];have:w.heap[b]=.cells c el fr:=by
      rw[Array.getElem?_eq_getElem hk] at h;exact Option.some.inj h
     rw[this]
   . rw[if_neg e,Array.getElem_setIfInBounds_ne hk e]
theorem Yc{src dst:TypeId} {x:Operand} (R:Rel E st g s a w) (hg:aL C.gl st) (G:Good C) (ho:o.op=.convert src dst x):cw C E st g s a w o (qd C s src dst (s.ev C x)):=by
 have hb:=XR R hg G ho;have hx:=aR (C:=C) R hg x;unfold qd;split
 . rename_i i he;rw[he] at hb hx;cases hsd:Nat.beq src dst with
   |false=>exact hb
   |true=>
     have hsd:=aB hsd;subst hsd;simp only[cond_true];split
     . rename_i e hk;split
       . rename_i hk2;split
         . rename_i sz pre y l hs1;obtain⟨hs1,_⟩:=eY hs1 (by simp);obtain⟨q1,q2,q3,q4,q5,q6,q7⟩:=R.wr.ob i _ hs1;simp only[VR] at hx;rcases q7 with ⟨q7,_⟩|⟨b,c,el,fr,k1,k2,k3,k4,k5,k6,k7,k8⟩
           . simp at q6;omega
           refine aa.ret ?_;have h5:=((G.ti e).of (by rw[hk2];simp)).1;rw[hk2] at h5;have h3:=((G.ti src).of (by rw[hk];simp)).1;rw[hk] at h3;have hfr:qg c (if fr.1==fr.2 then(c.size,c.size+1) else(min fr.1 c.size,max fr.2 (c.size+1))):=by
            obtain⟨f1,f2⟩:=k7;split
            . exact⟨by simp,fun o ho=>by simp;omega⟩
            . rename_i hne;have hne:fr.1≠fr.2:=by simpa using hne
              refine⟨by simp only;omega,fun o ho=>?_⟩;have hge:c.size<=fr.1:=by
               rcases d7 fr.1 c.size with h'|h'
               . exact absurd ⟨cb _,by omega⟩ (f2 fr.1 h')
               . exact h'
              simp only;omega
           have hsh:w.shape? b=some (el,c.size):=by unfold World.shape?;rw[k4]
           have hv:a.eval x=.slice (some ⟨b,0,none⟩) (g i).len (g i).cap:=by rw[hx.2,k2]
           obtain⟨fr2,hfr2,hcv⟩:∃fr2,qg c fr2/\(convert src src (.slice (some ⟨b,0,none⟩) (g i).len (g i).cap)).run C.P w=.ok (.slice (some ⟨b,0,none⟩) (g i).len (g i).cap) (bR w b (.cells c el fr2)):=by
            refine⟨_,hfr,?_⟩;simp[convert,run_underlying h3,run_underlying h5,markStringish,hsh];simpa using SV (o:=c.size) k4
           refine az.j9 R hx.1 (.slice (some ⟨b,0,none⟩) (g i).len (g i).cap) (bR w b (.cells c el fr2)) (g i) (.inl ?_) (dg.bR k3 _ (fun b'=>by rw[k1];simp[eq_comm]) (fun k v hv=>?_)) (.inl rfl) (fun b hb=>.inl hb) ?_ ?_
           . simp only[execOp,ho,hv];rw[Sem.run_bind,hcv];rfl
           . have h10:=R.wr.stw _ _ _ hv;rw[gZ k4] at h10;rw[gZ (lN k4),<-h10]
           . have hug:∀j,aX g i (g i) j=g j:=fun j=>by by_cases e:j=i<;>simp[aX,e]
             rw[show aX g i (g i) =g from funext hug];exact⟨q1,q2,q3,q4,q5,q6,.inr ⟨b,c,el,fr2,k1,k2,k3,lN k4,k5,k6,hfr2,k8⟩⟩
           . have hug:∀j,aX g i (g i) j=g j:=fun j=>by by_cases e:j=i<;>simp[aX,e]
             rw[show aX g i (g i) =g from funext hug];simp only[VR];exact⟨hx.1,by rw[<-hv];exact hx.2⟩
         . exact aa.fail
       . exact aa.fail
     . exact aa.fail
 . exact hb

theorem vC{l:List V} {sz o:Nat} {look:Nat->Option Value} (h:cn st g l sz look o):∃cs:List Value,cs.length=l.length*sz/\(∀v∈cs,v.oneCell'=true)/\(∀k v,cs[k]?=some v->look (o+k) =some v)/\
   ∀(look':Nat->Option Value) (o':Nat),(∀k v,cs[k]?=some v->look' (o'+k) =some v)->cn st g l sz look' o':=by
 induction l generalizing o with
 |nil=>exact⟨[],by simp,by simp,by simp,fun _ _ _=>by simp[cn]⟩
 |cons x l ih=>
   simp only[cn] at h;obtain⟨⟨u,h1,h2,h3,h4⟩,h5⟩:=h;obtain⟨cs,k1,k2,k3,k4⟩:=ih h5;have hul:u.cells.toList.length=sz:=by simpa using h2
   refine⟨u.cells.toList++cs,by simp only[an,hul,k1,List.length_cons,Nat.add_mul];omega,fun v hv=>?_,fun k v hv=>?_,fun look' o' hl=>?_⟩
   . rcases List.mem_append.1 hv with h|h
     . exact h3 v h
     . exact k2 v h
   . rcases d7 k sz with hk|hk
     . rw[dl (by omega)] at hv;rw[h4 k hk];simpa using hv
     . rw[dt (by omega),hul] at hv;have:=k3 _ v hv;rw[<-this];congr 1;omega
   . simp only[cn];refine⟨⟨u,h1,h2,h3,fun j hj=>?_⟩,k4 look' (o'+sz) fun k v hv=>?_⟩
     . have hj':j<u.cells.toList.length:=by omega
       have:=hl j (u.cells.toList[j]) (by rw[dl hj',am hj']);rw[this];rw[Array.getElem?_eq_getElem (by omega)];simp
     . have:=hl (sz+k) v (by rw[dt (by omega),hul,Nat.add_sub_cancel_left];exact hv);rw[<-this];congr 1;omega

theorem pL.cells{v:Value} {sz:Nat} {l:List V} (h:pL E st g w v sz l) {esz:Nat} (hsz:jN sz esz l=true) (h0:0<esz):
   ∃cs:List Value,cs.length=l.length*esz/\(∀u∈cs,u.oneCell'=true)/\(∀(look:Nat->Option Value) (o:Nat),(∀k u,cs[k]?=some u->look (o+k) =some u)->cn st g l esz look o)/\
    ∀(P:Program) (w':World),w'.heap=w.heap->(Builtin.lenOf v).run P w'=.ok l.length w'/\∀n,n<=l.length->(Builtin.firstCells esz n v).run P w'=.ok (cs.take (n*esz)).toArray w':=by
 obtain⟨hlen,hmax⟩:=h;rcases hlen with ⟨base,cap,rfl,hrow⟩|⟨rfl,p,rfl,rfl⟩
 . rcases hrow with rfl|⟨b,of,rfl,hs0,hrow⟩
   . refine⟨[],by simp,by simp,fun _ _ _=>by simp[cn],fun P w' _=>⟨by simp[Builtin.lenOf],fun n hn=>?_⟩⟩;simp only[List.length_nil] at hn;have hn:n=0:=by omega
     subst hn;cases base<;>simp[Builtin.firstCells,loadCells,loadCellsFrom]
   . rcases sL hsz with rfl|rfl
     . obtain⟨cs,k1,k2,k3,k4⟩:=vC hrow;refine⟨cs,k1,k2,k4,fun P w' hw=>⟨by simp[Builtin.lenOf],fun n hn=>?_⟩⟩;have hle:n*sz<=cs.length:=by rw[k1];exact gg _ hn
       have:=run_firstCells_some (P:=P) w' sz n ⟨b,of,none⟩ l.length cap (cs.take (n*sz)) (by simp;omega) (fun j u hj=>by
        rw[List.getElem?_take] at hj;split at hj
        . have:=k3 j u hj;rw[Addr.add_lit];simp only[World.cell?,hw] at this⊢;exact this
        . cases hj)
       exact this
     . refine⟨[],by simp,by simp,fun _ _ _=>by simp[cn],fun P w' _=>⟨by simp[Builtin.lenOf],fun n hn=>?_⟩⟩;simp only[List.length_nil] at hn;have hn:n=0:=by omega
       subst hn;simp[Builtin.firstCells,loadCells,loadCellsFrom]
 . have hpsz:(⟨p.toArray⟩:ByteArray).size=p.length:=by show p.toArray.size=_;simp
   have hesz:1=esz\/bl p=[]:=sL hsz;have hcs:(bl p).length=p.length:=je p;rcases hesz with rfl|hp
   . refine⟨p.map fun b=>.int .u8 (b.toNat:Int),by simp[hcs],by simp[Value.oneCell'],fun look o hl=>?_,fun P w' _=>⟨by simp[Builtin.lenOf,hpsz,hcs],fun n hn=>?_⟩⟩
     . exact GZ fun j hj=>hl j _ (by simp[hj])
     . simp only[Builtin.firstCells,Sem.run_pure]
       congr 1
       rw[Hb];apply Array.ext';simp[List.map_take]
   . have hp0:p=[]:=co (by rw[<-hcs,hp];rfl);subst hp0;refine⟨[],by simp[bl],by simp,fun _ _ _=>by simp[bl,cn],fun P w' _=>⟨by simp[Builtin.lenOf,bl];rfl,fun n hn=>?_⟩⟩;simp only[bl,List.length_nil] at hn;have hn:n=0:=by omega
     subst hn;simp[Builtin.firstCells]

theorem VP{qG old bytes:Nat} (h:old<qG) (h1:qG<=4294967296) (h2:bytes<=4096):Builtin.nextslicecap qG old*bytes<=281474976710656:=by
 refine growslice_fits h ?_;have:qG*bytes<=4294967296*4096:=Nat.mul_le_mul h1 h2;omega

theorem Eo{P:Program} {w:World} {t t2 ty e:TypeId} {info:TypeInfo} {z:Value} (ht:P.underlying t=some (.slice e)) (hd:∃d,P.underlying t2=some d/\∀k,d≠.int k) (hi:P.info? e=some info) (hz:info.zero=some z)
   {base:Option Addr} {n cap m:Nat} {x:Value} {olds news:List Value} (hl:∀w':World,w'.heap=w.heap->(Builtin.lenOf x).run P w'=.ok m w'/\(Builtin.firstCells info.size m x).run P w'=.ok news.toArray w')
   (hold:∀w':World,w'.heap=w.heap->(Builtin.firstCells info.size n (.slice base n cap)).run P w'=.ok olds.toArray w') (hlim:n+m<=4294967296) (hb:info.bytes<=4096):
   (n+m<=cap->(base=none->(Builtin.append_ #[t,t2] ty #[.slice base n cap,x]).run P w=.ok (.slice base (n+m) cap) w)/\
    ∀ad,base=some ad->(Builtin.append_ #[t,t2] ty #[.slice base n cap,x]).run P w=((storeCells (ad.add (n*info.size)) news).run P w).andThen fun _ w'=>.ok (.slice base (n+m) cap) w')/\
   (cap<n+m->(Builtin.append_ #[t,t2] ty #[.slice base n cap,x]).run P w=.ok (.slice (some ⟨w.heap.size,0,none⟩) (n+m) (grownCap w (n+m) cap e))
    (w.drew.alloc (.cells (olds++news++(Builtin.zeroCells z.cells (grownCap w (n+m) cap e-(n+m))).toList).toArray e))):=by
 obtain⟨d,hd1,hd2⟩:=hd;have h1:=(hl w rfl).1;have h2:=(hl w rfl).2;have h2':=(hl w.drew rfl).2;have h3:=hold w.drew rfl;have ht':=run_underlying ht w;have hd':=run_underlying hd1 w;constructor
 . intro hroom;constructor
   . intro hbase;subst hbase;unfold Builtin.append_;simp only[List.getElem?_toArray,List.getElem?_cons_zero,List.getElem?_cons_succ,Sem.run_bind,Sem.run_pure,ht',hd',Result.andThen_ok,sizeOf,typeInfo,run_program,hi,h1,Bool.false_eq_true,if_false];rw[if_pos hroom];simp only[Bool.not_false,if_true,Sem.run_bind,h2,Result.andThen_ok];rfl
   . intro ad hbase;subst hbase;unfold Builtin.append_;simp only[List.getElem?_toArray,List.getElem?_cons_zero,List.getElem?_cons_succ,Sem.run_bind,Sem.run_pure,ht',hd',Result.andThen_ok,sizeOf,typeInfo,run_program,hi,h1,Bool.false_eq_true,if_false];rw[if_pos hroom];simp only[Bool.not_false,if_true,Sem.run_bind,h2,Result.andThen_ok];rfl
 . intro hgr;have n1:¬(n+m<=cap):=by omega
   have n2:¬(((n+m:Nat):Int)>IntKind.i64.max/\(False\/info.bytes=0)):=by
    rw[IntKind.max_i64];omega
   have n3:¬(Builtin.nextslicecap (n+m) cap*info.bytes>2^48):=by
    have:=VP (bytes:=info.bytes) hgr hlim hb;omega
   unfold Builtin.append_;simp only[List.getElem?_toArray,List.getElem?_cons_zero,List.getElem?_cons_succ,Sem.run_bind,Sem.run_pure,ht',hd',Result.andThen_ok,sizeOf,typeInfo,run_program,hi,h1,Bool.false_eq_true,if_false];rw[if_neg n1];simp only[Sem.run_bind,run_program,hi,Sem.run_pure,Result.andThen_ok];rw[if_neg n2];simp only[Sem.run_bind,run_program,hi,Sem.run_pure,Result.andThen_ok];rw[if_neg n3];have hch:(choose (Question.appendCap (n+m) cap e)).run P w=.ok (grownCap w (n+m) cap e) w.drew:=by
    simp[Question.forced,grownCap]
   simp only[Sem.run_bind,run_program,hi,Sem.run_pure,Result.andThen_ok,hch,run_askRoom,h3,Bool.not_false,if_true,h2',zeroValue,typeInfo,hz,newRow,run_newObj_alloc,World.size_drew]
   congr 3
   apply Array.ext';simp

theorem BX{l r:List V} {sz:Nat} {look:Nat->Option Value} {o:Nat} (h:cn st g l sz look o) (k:cn st g r sz look (o+l.length*sz)):cn st g (l++r) sz look o:=by
 induction l generalizing o with
 |nil=>simpa using k
 |cons x l ih=>
   simp only[cn,List.cons_append] at h⊢;refine⟨h.1,ih h.2 ?_⟩;rw[List.length_cons,Nat.add_mul,Nat.one_mul] at k
   rwa [show o+sz+l.length*sz=o+(l.length*sz+sz) by omega]

theorem VX{t2:TypeId} (G:Good C) (h1:∀k,(C.ti t2).k≠.int k) (h2:(C.ti t2).k≠.other):∃d,C.P.underlying t2=some d/\∀k,d≠.int k:=by
 have h3:=((G.ti t2).of h2).1;cases hk':(C.ti t2).k<;>rw[hk'] at h3<;>simp only[TK.ok] at h3
 case int k=>exact absurd hk' (h1 k)
 case struct fs=>obtain⟨f,h3,_⟩:=h3;exact⟨_,h3,by simp⟩
 case iface=>obtain⟨p,h3⟩:=h3;exact⟨_,h3,by simp⟩
 case func=>obtain⟨p,q,r,h3⟩:=h3;exact⟨_,h3,by simp⟩
 all_goals exact⟨_,h3,by simp⟩

theorem XJ{t t2 e:TypeId} {x y:Operand} {sz:Nat} {ys:List V} {rd:List Nat} {args:Array Operand} (R:Rel E st g s a w) (hg:aL C.gl st) (G:Good C) (hargs:args.toList=[x,y])
   (ho:o.op=.call {callee:=.builtin .append,args:=args,argTypes:=#[t,t2]}) (ht:C.P.underlying t=some (.slice e)) (hd:∃d,C.P.underlying t2=some d/\∀k,d≠.int k)
   (hk2:(C.ti e).k≠.other) (hb:(C.ti e).bytes<=4096) (h0:0<(C.ti e).size) (hy:pL E st g w (a.eval y) sz ys) (hsz:jN sz (C.ti e).size ys=true)
   (hz1:(C.ti e).zero.eZ=false) (hz2:(C.ti e).zero.cells.length=(C.ti e).size):cw C E st g s a w o (qa C s e (s.ev C x) ys rd):=by
 have hx:=aR (C:=C) R hg x;obtain⟨_,⟨info,e4,e5,e6,z,e7,e8⟩,_⟩:=(G.ti e).of hk2;obtain⟨cs,c1,c2,c3,c4⟩:=hy.cells hsz h0;have hargs':args=#[x,y]:=by cases args;simp_all
 subst hargs';have hzl:z.cells.size=(C.ti e).size:=by rw[<-hz2,eN (kp (e8 st g 0) hz1)];simp
 have hex:∀v w',(Builtin.append_ #[t,t2] o.type #[a.eval x,a.eval y]).run C.P w=.ok v w'->(execOp a.eval o).run C.P w=.ok (.value v) w':=fun v w' h=>by
  simp only[execOp,ho,resolve,invoke,builtin];simp[h]
 have hnews:∀w':World,w'.heap=w.heap->(Builtin.lenOf (a.eval y)).run C.P w'=.ok ys.length w'/\(Builtin.firstCells info.size ys.length (a.eval y)).run C.P w'=.ok cs.toArray w':=fun w' hw=>by
  obtain⟨q1,q2⟩:=c4 C.P w' hw;refine⟨q1,?_⟩;have:=q2 ys.length (cb _);rw[e5,this,eo (by omega)]
 unfold qa;split
 . rename_i sz0 l he;rw[he] at hx;simp only[VR] at hx;obtain⟨base,cap,hx,h1,h2,h3,h4⟩:=hx;have hcap:=h3 trivial;refine aa.when fun hsz0=>aa.aI fun hlim=>aa.aI fun hor=>?_;rw[dN,dN];refine aa.ret ?_
   --the cells that are there already
   have hold:∃olds:List Value,olds.length=l.length*(C.ti e).size/\(∀look o,(∀k u,olds[k]?=some u->look (o+k) =some u)->cn st g l (C.ti e).size look o)/\
      ∀w':World,w'.heap=w.heap->(Builtin.firstCells info.size l.length (.slice base l.length cap)).run C.P w'=.ok olds.toArray w':=by
    rcases h4 with rfl|⟨b,of,rfl,h5,h6⟩
    . refine⟨[],by simp,fun _ _ _=>by simp[cn],fun w' _=>?_⟩;cases base<;>simp[Builtin.firstCells,loadCells,loadCellsFrom]
    . rcases sL hsz0 with rfl|rfl
      . obtain⟨olds,k1,k2,k3,k4⟩:=vC h6;refine⟨olds,k1,k4,fun w' hw=>?_⟩;rw[e5];refine run_firstCells_some w' _ l.length _ l.length cap olds k1 (fun j u hj=>?_);rw[Addr.add_lit];have:=R.wr.stw _ _ _ (k3 j u hj);simp only[World.cell?,hw] at this⊢;exact this
      . refine⟨[],by simp,fun _ _ _=>by simp[cn],fun w' _=>?_⟩;simp[Builtin.firstCells,loadCells,loadCellsFrom]
   obtain⟨olds,k1,k2,k3⟩:=hold;obtain⟨hroom,hgrow⟩:=Eo (w:=w) (ty:=o.type) ht hd e4 e7 hnews k3 hlim (by omega);rw[<-hx] at hroom hgrow;by_cases hys:ys=[]
   . --nothing was there and nothing comes
     have hl0:l=[]:=by
      rcases hor with h|h
      . exact h
      . exact absurd hys h
     subst hys;subst hl0;simp only[List.length_nil] at hcap;subst hcap;have hlen0:cs=[]:=co (by simpa using c1);have hr:(Builtin.append_ #[t,t2] o.type #[a.eval x,a.eval y]).run C.P w=.ok (.slice base 0 0) w:=by
      obtain⟨r1,r2⟩:=hroom (by simp);cases base with
      |none=>exact r1 rfl
      |some ad=>
        rw[r2 ad rfl,hlen0];rfl
     refine az.val _ w st (aX g s.sg.length ⟨none,base,0,0,(C.ti e).size⟩) (hex _ _ hr) ⟨fun _ _ _ h=>h,fun i hi _=>cK (Nat.ne_of_lt hi),by rw[pT];simp⟩ ?_ ?_
     . rw[pT];refine R.wr.step (dg.same (aQ.refl w)) (fun i o' hi=>?_) (fun i j b hi hj h1 h2=>?_)
       . rw[an,gc];rcases Nat.lt_trichotomy i s.sg.length with hlt|heq|hgt
         . rw[dl hlt] at hi;rw[cK (Nat.ne_of_lt hlt)];exact(R.wr.ob i o' hi).aO (fun _ _=>rfl) (fun _ _ _ h=>h) (fun _ _ _ _ h=>h) (fun j _ hj=>⟨by omega,cK (Nat.ne_of_lt hj)⟩)
         . subst heq;rw[dt (cb _)] at hi;simp at hi;subst hi;rw[dU];exact⟨h0,rfl,by simp,by simp,rfl,by simp,.inl ⟨rfl,rfl⟩⟩
         . rw[ci (by simp;omega)] at hi;cases hi
       . rw[an,gc] at hi hj;by_cases e1:i=s.sg.length
         . subst e1;rw[dU] at h1;cases h1
         . by_cases e2:j=s.sg.length
           . subst e2;rw[dU] at h2;cases h2
           . rw[cK e1] at h1;rw[cK e2] at h2;exact R.wr.inj i j b (by omega) (by omega) h1 h2
     . rw[pT];simp only[VR,dU];exact⟨by simp,trivial⟩
   . have hpos:0<ys.length:=by cases ys with
       |nil=>exact absurd rfl hys
       |cons _ _=>simp
     have hr:=hgrow (by omega);have hge:=grownCap_ge w (l.length+ys.length) cap e;have hl1:(l++ys).length=l.length+ys.length:=by simp
     refine az.DG R w.drew ⟨rfl,rfl,rfl,rfl⟩ _ e (grownCap w (l.length+ys.length) cap e) h0 (by omega) (by rw[hl1];exact Nat.le_trans hlim xe) (by rw[hl1];exact hex _ _ hr) ?_ ?_
     . simp only[List.size_toArray,an,Array.length_toList,size_zeroCells,hzl,k1,c1,<-Nat.add_mul]
       congr 1;omega
     . refine BX (k2 _ _ fun k u hk=>?_) (c3 _ _ fun k u hk=>?_)
       . have hlt:k<olds.length:=by
           rcases d7 k olds.length with h'|h'
           . exact h'
           . simp[ci h'] at hk
         rw[List.getElem?_toArray,Nat.zero_add,eg,dl hlt];exact hk
       . have hlt:k<cs.length:=by
           rcases d7 k cs.length with h'|h'
           . exact h'
           . simp[ci h'] at hk
         rw[List.getElem?_toArray,Nat.zero_add,<-k1,eg,dt (by omega),Nat.add_sub_cancel_left,dl hlt];exact hk
 . rename_i i he;rw[he] at hx;simp only[VR] at hx;obtain⟨hil,hx⟩:=hx;split
   . rename_i sz0 pre l hs;obtain⟨hs1,_⟩:=eY hs (by simp);obtain⟨q1,q2,q3,q4,q5,q6,q7⟩:=R.wr.ob i _ hs1;refine aa.when fun hsz0=>aa.aI fun hlim=>aa.ret ?_;simp only[zza] at hsz0;have hsz0:=aB hsz0.1;subst hsz0;have hl1:(l++ys).length=l.length+ys.length:=by simp
     --the cells that are there already
     have hold:∃olds:List Value,olds.length=l.length*(C.ti e).size/\(∀look o,(∀k u,olds[k]?=some u->look (o+k) =some u)->cn st g l (C.ti e).size look o)/\
        ∀w':World,w'.heap=w.heap->(Builtin.firstCells info.size l.length (.slice (g i).base l.length (g i).cap)).run C.P w'=.ok olds.toArray w':=by
      rcases q7 with ⟨q7,_⟩|⟨b',c,el,fr,k1,k2,k3,k4,k5,k6,k7,k8⟩
      . have hl0:l=[]:=co (by omega);subst hl0;refine⟨[],by simp,fun _ _ _=>by simp[cn],fun w' _=>?_⟩;cases(g i).base<;>simp[Builtin.firstCells,loadCells,loadCellsFrom]
      . obtain⟨olds,m1,m2,m3,m4⟩:=vC k6;refine⟨olds,m1,m4,fun w' hw=>?_⟩;rw[e5,k2];refine run_firstCells_some w' _ l.length _ l.length (g i).cap olds m1 (fun j u hj=>?_);rw[Addr.add_lit];have:=m3 j u hj;have h9:w'.heap[b']?=some (.cells c el fr):=by rw[hw];exact k4
        rw[gZ h9];exact this
     obtain⟨olds,m1,m2,m3⟩:=hold;obtain⟨hroom,hgrow⟩:=Eo (w:=w) (ty:=o.type) ht hd e4 e7 hnews m3 hlim (by omega);rw[q5] at hx;rw[<-hx] at hroom hgrow;rcases d7 (g i).cap (l.length+ys.length) with hgr|hro
     . --a new block
       have hr:=hgrow hgr;have hge:=grownCap_ge w (l.length+ys.length) (g i).cap e;refine az.j9 R hil _ _ ⟨some w.heap.size,some ⟨w.heap.size,0,none⟩,l.length+ys.length,grownCap w (l.length+ys.length) (g i).cap e,(C.ti e).size⟩ (.inl (hex _ _ hr))
        ⟨rfl,rfl,rfl,by simp,fun b hb _=>qq (w:=w.drew) hb,fun b hb=>(R.wr.cH hil hb).2,fun _ _ _ h=>h,fun _ _ _ h=>.inl h,fun b k v hb hv=>?_⟩
        (.inr (by simp[aH,Nat.beq_refl])) (fun b hb=>.inr (by simpa using hb.symm)) ?_ ?_
       . rw[rv (qq (w:=w.drew) (R.wr.cH hil hb).1)];exact R.wr.stw _ _ _ hv
       . refine⟨q1,rfl,by rw[hl1];omega,by rw[hl1];exact Nat.le_trans hlim xe,by rw[hl1],by rw[hl1];exact hge,.inr ⟨w.heap.size,_,e,(0,0),rfl,rfl,R.wr.gnew _ R.wr.size,heap_alloc_new (w:=w.drew),?_,?_,⟨by simp,by intro o _;simp⟩,fun k v hv=>?_⟩⟩
         . simp only[List.size_toArray,an,Array.length_toList,size_zeroCells,hzl,m1,c1,<-Nat.add_mul]
           congr 1;omega
         . refine lT (st:=st) (g:=g) (fun _ _ _ h=>h) (fun _ _ h=>h) (BX (m2 _ _ fun k u hk=>?_) (c3 _ _ fun k u hk=>?_))
           . have hlt:k<olds.length:=by
               rcases d7 k olds.length with h'|h'
               . exact h'
               . simp[ci h'] at hk
             rw[List.getElem?_toArray,Nat.zero_add,eg,dl hlt];exact hk
           . have hlt:k<cs.length:=by
               rcases d7 k cs.length with h'|h'
               . exact h'
               . simp[ci h'] at hk
             rw[List.getElem?_toArray,Nat.zero_add,<-m1,eg,dt (by omega),Nat.add_sub_cancel_left,dl hlt];exact hk
         . rw[R.wr.mX k] at hv;cases hv
       . simp only[VR,dU];exact⟨hil,trivial⟩
     . obtain⟨r1,r2⟩:=hroom hro;rcases q7 with ⟨q7,q8⟩|⟨b',c,el,fr,k1,k2,k3,k4,k5,k6,k7,k8⟩
       . --nothing is there and nothing comes
         have hl0:l=[]:=co (by omega);have hys:ys=[]:=co (by omega);subst hl0;subst hys;have hcs:cs=[]:=co (by simpa using c1);have hr:(Builtin.append_ #[t,t2] o.type #[a.eval x,a.eval y]).run C.P w=.ok (.slice (g i).base 0 (g i).cap) w:=by
          cases hbs:(g i).base with
          |none=>have:=r1 hbs;rw[hbs] at this;exact this
          |some ad=>
            have:=r2 ad hbs;rw[this,hcs,hbs];rfl
         refine az.j9 R hil _ w {g i with len:=0} (.inl (hex _ _ hr)) ⟨rfl,rfl,rfl,cb _,fun _ _ _=>rfl,fun b hb=>(R.wr.cH hil hb).2,fun _ _ _ h=>h,fun _ _ _ h=>.inl h,fun b o v _ h=>R.wr.stw _ _ _ h⟩
          (.inr (by simp[aH,Nat.beq_refl])) (fun b hb=>.inl hb) ?_ ?_
         . exact⟨q1,q2,by simpa using q3,by simp,by simp,by simp,.inl ⟨q7,q8⟩⟩
         . simp only[VR,dU];exact⟨hil,trivial⟩
       . --cf the room that is there
         have hr:=r2 _ k2;have hin:(l.length+ys.length)*(C.ti e).size<=c.size:=by rw[k5];exact gg _ hro
         rw[Nat.add_mul] at hin;have hlen:cs=[]\/l.length*(C.ti e).size+cs.length<=c.toList.length:=by right;rw[c1];simpa using hin
         have hst:=uJ (P:=C.P) (b:=b') (o:=0+l.length*(C.ti e).size) cs 0 c w k4 k7 (by simpa using hlen) c2;rw[Nat.add_zero,Nat.zero_add] at hst;have had:(⟨b',0,none⟩:Addr).add (l.length*info.size) =⟨b',l.length*(C.ti e).size,none⟩:=by rw[Addr.add_lit,e5,Nat.zero_add]
         rw[had,hst] at hr;have hcell:=uC (xs:=c.toList) (ys:=cs) (o:=l.length*(C.ti e).size) hlen;refine az.j9 R hil _ _ {g i with len:=l.length+ys.length} (.inl (hex _ _ hr)) (dg.bR k3 _ (fun b''=>by rw[k1];simp[eq_comm]) (fun k v hv=>?_))
          (.inr (by simp[aH,Nat.beq_refl])) (fun b hb=>.inl hb) ?_ ?_
         . have h9:=k8 k v hv;have h10:=R.wr.stw _ _ _ hv;rw[gZ k4] at h10;have:pre*(C.ti e).size<=l.length*(C.ti e).size:=gg _ q3;rw[gZ (lN k4),List.getElem?_toArray,hcell,if_neg (by omega),<-h10];simp
         . refine⟨q1,q2,by rw[hl1];omega,by rw[hl1];exact Nat.le_trans hlim xe,by rw[hl1],by rw[hl1];exact hro,.inr ⟨b',_,el,fr,k1,k2,k3,lN k4,?_,?_,?_,k8⟩⟩
           . simp only[List.size_toArray,mc hlen,Array.length_toList];exact k5
           . obtain⟨olds',n1,n2,n3,n4⟩:=vC k6;refine lT (st:=st) (g:=g) (fun _ _ _ h=>h) (fun _ _ h=>h) (BX (n4 _ _ fun k u hk=>?_) (c3 _ _ fun k u hk=>?_))
             . have hlt:k<olds'.length:=by
                 rcases d7 k olds'.length with h'|h'
                 . exact h'
                 . simp[ci h'] at hk
               have:=n3 k u hk;rw[List.getElem?_toArray,hcell,if_neg (by omega)];simpa using this
             . have hlt:k<cs.length:=by
                 rcases d7 k cs.length with h'|h'
                 . exact h'
                 . simp[ci h'] at hk
               rw[List.getElem?_toArray,Nat.zero_add,hcell,if_pos (by omega),Nat.add_sub_cancel_left];exact hk
           . refine⟨k7.1,fun k hk=>?_⟩;refine k7.2 k ?_;simp only[List.size_toArray,mc hlen,Array.length_toList] at hk;exact hk
         . simp only[VR,dU];exact⟨hil,trivial⟩
   . exact aa.fail
 . exact aa.fail
theorem XK{t t2 e:TypeId} {x y:Operand} {sz:Nat} {ys:List V} {rd:List Nat} {args:Array Operand} (R:Rel E st g s a w) (hg:aL C.gl st) (G:Good C) (hargs:args.toList=[x,y])
   (ho:o.op=.call {callee:=.builtin .append,args:=args,argTypes:=#[t,t2]}) (ht:C.P.underlying t=some (.slice e)) (hd:∃d,C.P.underlying t2=some d/\∀k,d≠.int k)
   (hk2:(C.ti e).k≠.other) (hb:(C.ti e).bytes<=4096) (h0:0<(C.ti e).size) (hy:pL E st g w (a.eval y) sz ys) (hsz:jN sz (C.ti e).size ys=true)
   (hz1:(C.ti e).zero.eZ=false) (hz2:(C.ti e).zero.cells.length=(C.ti e).size):cw C E st g s a w o (qb C s e sz (s.ev C x) ys rd):=by
 have hy0:=hy;have hx:=aR (C:=C) R hg x;obtain⟨_,⟨info,e4,e5,e6,z,e7,e8⟩,_⟩:=(G.ti e).of hk2;obtain⟨cs,c1,c2,c3,c4⟩:=hy.cells hsz h0;have hargs':args=#[x,y]:=by cases args;simp_all
 subst hargs';have hzl:z.cells.size=(C.ti e).size:=by rw[<-hz2,eN (kp (e8 st g 0) hz1)];simp
 have hex:∀v w',(Builtin.append_ #[t,t2] o.type #[a.eval x,a.eval y]).run C.P w=.ok v w'->(execOp a.eval o).run C.P w=.ok (.value v) w':=fun v w' h=>by
  simp only[execOp,ho,resolve,invoke,builtin];simp[h]
 have hnews:∀w':World,w'.heap=w.heap->(Builtin.lenOf (a.eval y)).run C.P w'=.ok ys.length w'/\(Builtin.firstCells info.size ys.length (a.eval y)).run C.P w'=.ok cs.toArray w':=fun w' hw=>by
  obtain⟨q1,q2⟩:=c4 C.P w' hw;refine⟨q1,?_⟩;have:=q2 ys.length (cb _);rw[e5,this,eo (by omega)]
 unfold qb;split
 . rename_i sz0 v0 l0 he;rw[he] at hx;have hvr:=hx;simp only[VR] at hx;obtain⟨base,cap,hx,h1,h2,h3,h4⟩:=hx;generalize hl:v0::l0=l at*;have hlim0:l.length=l0.length+1:=by rw[<-hl];rfl
   . refine aa.when fun hsz0=>aa.aI fun hlim=>?_;rw[dN];refine aa.ret ?_;have hold:∃olds:List Value,
        ∀w':World,w'.heap=w.heap->(Builtin.firstCells info.size l.length (.slice base l.length cap)).run C.P w'=.ok olds.toArray w':=by
      rcases h4 with rfl|⟨b,of,rfl,h5,h6⟩
      . refine⟨[],fun w' _=>?_⟩;cases base<;>simp[Builtin.firstCells,loadCells,loadCellsFrom]
      . rcases sL hsz0 with rfl|rfl
        . obtain⟨olds,k1,k2,k3,k4⟩:=vC h6;refine⟨olds,fun w' hw=>?_⟩;rw[e5];refine run_firstCells_some w' _ l.length _ l.length cap olds k1 (fun j u hj=>?_);rw[Addr.add_lit];have:=R.wr.stw _ _ _ (k3 j u hj);simp only[World.cell?,hw] at this⊢;exact this
        . refine⟨[],fun w' _=>?_⟩;simp[Builtin.firstCells,loadCells,loadCellsFrom]
     obtain⟨olds,k3⟩:=hold;obtain⟨hroom,_⟩:=Eo (w:=w) (ty:=o.type) ht hd e4 e7 hnews k3 (by simp only[List.length_nil];omega) (by omega);rw[<-hx] at hroom;have hlen0:cs=[]:=co (by simpa using c1);have hr:(Builtin.append_ #[t,t2] o.type #[a.eval x,a.eval y]).run C.P w=.ok (.slice base l.length cap) w:=by
      obtain⟨r1,r2⟩:=hroom (by simpa using h1);cases base with
      |none=>exact r1 rfl
      |some ad=>
        rw[r2 ad rfl,hlen0];rfl
     have A:kn E st g s.sg.length st (aX g s.sg.length ⟨none,none,0,0,(C.ti e).size⟩) (s.app o.dst ⟨.list true sz0 l,[],[],[.buf (C.ti e).size 0 []],rd⟩).sg.length []:=⟨fun _ _ _ h=>h,fun i hi _=>cK (Nat.ne_of_lt hi),by rw[pT];simp⟩
     refine az.val _ w st (aX g s.sg.length ⟨none,none,0,0,(C.ti e).size⟩) (hex _ _ hr) A ?_ ?_
     . rw[pT];refine R.wr.step (dg.same (aQ.refl w)) (fun i o' hi=>?_) (fun i j b hi hj h1 h2=>?_)
       . rw[an,gc];rcases Nat.lt_trichotomy i s.sg.length with hlt|heq|hgt
         . rw[dl hlt] at hi;rw[cK (Nat.ne_of_lt hlt)];exact(R.wr.ob i o' hi).aO (fun _ _=>rfl) (fun _ _ _ h=>h) (fun _ _ _ _ h=>h) (fun j _ hj=>⟨by omega,cK (Nat.ne_of_lt hj)⟩)
         . subst heq;rw[dt (cb _)] at hi;simp at hi;subst hi;rw[dU];exact⟨h0,rfl,by simp,by simp,rfl,by simp,.inl ⟨rfl,rfl⟩⟩
         . rw[ci (by simp;omega)] at hi;cases hi
       . rw[an,gc] at hi hj;by_cases e1:i=s.sg.length
         . subst e1;rw[dU] at h1;cases h1
         . by_cases e2:j=s.sg.length
           . subst e2;rw[dU] at h2;cases h2
           . rw[cK e1] at h1;rw[cK e2] at h2;exact R.wr.inj i j b (by omega) (by omega) h1 h2
     . have:=vA A hvr;rw[jh,hx] at this;exact this
 . exact XJ R hg G hargs ho ht hd hk2 hb h0 hy0 hsz hz1 hz2
end
end Go.VG
