/-
  A part of the proof.
-/
import Derived.Test.YtchllohbglebiaaGreatDoorVgMA
import Derived.Lib.SlBytesConst
import Derived.RangeFuncSeq
import Derived.RangeFuncLeaves
import Derived.TacticsIn
set_option linter.unusedSimpArgs false
set_option linter.unusedVariables false
namespace Go.VG
open Go

theorem ny{i:Nat}:∀{l:List Nat},aH i l=true↔i∈l
 |[]=>by simp[aH]
 |k::ks=>by
   simp only[aH,Bool.or_eq_true,List.mem_cons,ny (l:=ks)];constructor
   . rintro(h|h)
     . exact .inl (aB h)
     . exact .inr h
   . rintro(h|h)
     . subst h;exact .inl (Nat.beq_refl _)
     . exact .inr h
theorem sl{i:Nat} {l:List Nat}:aH i l=false↔i∉l:=by
 rw[<-ny];cases aH i l<;>simp

theorem rZ{i:Nat}:∀{l:List Nat} {n j:Nat},idxOf i l n=some j->n<=j/\l[j-n]?=some i
 |[],_,_,h=>by simp[idxOf] at h
 |k::ks,n,j,h=>by
   simp only[idxOf] at h;cases hk:Nat.beq k i with
   |true=>
     rw[hk] at h;have:=aB hk;simp only[cond_true,Option.some.injEq] at h;subst h;subst this;simp
   |false=>
     rw[hk] at h;obtain⟨h1,h2⟩:=rZ (l:=ks) (n:=n+1) (j:=j) h;refine⟨by omega,?_⟩;rw[show j-n=(j-(n+1))+1 by omega];simpa using h2
theorem Jr{i:Nat}:∀{l:List Nat} {n:Nat},idxOf i l n=none->i∉l
 |[],_,_=>by simp
 |k::ks,n,h=>by
   simp only[idxOf] at h;cases hk:Nat.beq k i with
   |true=>rw[hk] at h;simp at h
   |false=>
     rw[hk] at h;have h1:=Jr (l:=ks) (n:=n+1) h;simp only[List.mem_cons,not_or];refine⟨fun e=>?_,h1⟩;subst e;rw[show Nat.beq i i=true from Nat.beq_refl i] at hk;cases hk
theorem DJ:∀{l:List Nat},kb l=true->∀{i j x:Nat},l[i]?=some x->l[j]?=some x->i=j
 |[],_,i,_,_,h,_=>by simp at h
 |k::ks,hn,i,j,x,h1,h2=>by
   simp only[kb] at hn;cases hm:aH k ks with
   |true=>rw[hm] at hn;simp at hn
   |false=>
     rw[hm] at hn;have hn:kb ks=true:=hn;have hk:=sl.1 hm;cases i with
     |zero=>cases j with
       |zero=>rfl
       |succ j=>simp at h1 h2;subst h1;exact absurd (List.mem_of_getElem? h2) hk
     |succ i=>cases j with
       |zero=>simp at h1 h2;subst h2;exact absurd (List.mem_of_getElem? h1) hk
       |succ j=>simp at h1 h2;rw[DJ hn h1 h2]
theorem D5{l:List Nat} (hn:kb l=true) {j i:Nat} (h:l[j]?=some i):idxOf i l 0=some j:=by
 cases hi:idxOf i l 0 with
 |none=>exact absurd (List.mem_of_getElem? h) (Jr hi)
 |some k=>
   obtain⟨_,h2⟩:=rZ hi;rw[DJ hn h h2];simp

theorem tf{n k:Nat}:∀{l:List Nat} {j:Nat},j<l.length->dB l n k j=l[j]?
 |[],j,h=>by simp at h
 |i::th,0,_=>by simp[dB]
 |i::th,j+1,h=>by simp only[dB];rw[tf (by simpa using h)];simp
theorem Hc{n k:Nat}:∀{l:List Nat} {j i:Nat},l.length<=j->dB l n k j=some i->i=n+(j-l.length)/\j-l.length<k
 |[],j,i,_,h=>by
   simp only[dB] at h;cases hb:Nat.blt j k with
   |true=>rw[hb] at h;simp only[cond_true,Option.some.injEq] at h;exact⟨by simp[h.symm],by have:=d6 hb;simp only[List.length_nil];omega⟩
   |false=>rw[hb] at h;cases h
 |_::th,0,_,hl,_=>by simp at hl
 |_::th,j+1,i,hl,h=>by
   simp only[dB] at h;have:=Hc (l:=th) (by simpa using hl) h;simpa using this

section
variable {st:St} {g g':au}
mutual
theorem ta{f:Nat->Option Nat}:∀{x:V} {n n':Nat} {v:Value},(∀i j,f i=some j->i<n->j<n'/\g' j=g i)->VR st g x n v->VR st g' (x.bN f) n' v
 |.undef,_,_,_,_,_=>by simp[VR,V.bN]
 |.int ..,_,_,_,_,h|.bool _,_,_,_,_,h|.str _,_,_,_,_,h|.nilptr,_,_,_,_,h|.nilIface,_,_,_,_,h|.nilFunc,_,_,_,_,h|.nilmap,_,_,_,_,h=>by simpa[VR,V.bN] using h
 |.agg cs,n,n',v,hn,h|.tuple cs,n,n',v,hn,h=>by
   simp only[VR,V.bN] at h⊢;obtain⟨vs,rfl,h⟩:=h;exact⟨vs,rfl,rp hn h⟩
 |.list c sz l,n,n',v,hn,h=>gC (x:=.list c sz l) (fun _ _ _ h=>h) (fun i hi=>by simp[V.has] at hi) (by simpa only[V.bN] using h)
 |.box cs off,n,n',v,hn,h=>gC (x:=.box cs off) (fun _ _ _ h=>h) (fun i hi=>by simp[V.has] at hi) (by simpa only[V.bN] using h)
 |.ptr i o,n,n',v,hn,h=>by
   simp only[V.bN];cases hf:f i with
   |none=>simp[VR]
   |some j=>
     simp only[VR] at h⊢;obtain⟨h1,h2⟩:=hn i j hf h.1;exact⟨h1,by rw[h2];exact h.2⟩
 |.bptr i a o,n,n',v,hn,h|.view i a o,n,n',v,hn,h=>by
   simp only[V.bN];cases hf:f i with
   |none=>simp[VR]
   |some j=>
     simp only[VR] at h⊢;obtain⟨h1,h2⟩:=hn i j hf h.1;exact⟨h1,by rw[h2];exact h.2⟩
 |.buf i,n,n',v,hn,h=>by
   simp only[V.bN];cases hf:f i with
   |none=>simp[VR]
   |some j=>
     simp only[VR] at h⊢;obtain⟨h1,h2⟩:=hn i j hf h.1;exact⟨h1,by rw[h2];exact h.2⟩
 |.map i,n,n',v,hn,h=>by
   simp only[V.bN];cases hf:f i with
   |none=>simp[VR]
   |some j=>
     simp only[VR] at h⊢;obtain⟨h1,h2⟩:=hn i j hf h.1;exact⟨h1,by rw[h2];exact h.2⟩
 |.iface t x,n,n',v,hn,h=>by
   simp only[VR,V.bN] at h⊢;obtain⟨u,rfl,h⟩:=h;exact⟨u,rfl,ta hn h⟩
 |.func fn fs cs,n,n',v,hn,h=>by
   simp only[VR,V.bN] at h⊢;obtain⟨a,b,rfl,h1,h2⟩:=h;exact⟨a,b,rfl,rp hn h1,rp hn h2⟩
theorem rp{f:Nat->Option Nat}:∀{x:List V} {n n':Nat} {v:List Value},(∀i j,f i=some j->i<n->j<n'/\g' j=g i)->aC st g x n v->aC st g' (V.kV f x) n' v
 |[],_,_,_,_,h=>by simpa[aC,V.kV] using h
 |c::cs,n,n',v,hn,h=>by
   simp only[aC,V.kV] at h⊢;obtain⟨u,us,rfl,h1,h2⟩:=h;exact⟨u,us,rfl,ta hn h1,rp hn h2⟩
end

mutual
theorem Em{f h:Nat->Option Nat} {th:List Nat} (hf:∀i,i∈th->∃j,f i=some j/\h j=some i):∀{x:V},x.within th=true->(x.bN f).bN h=x
 |.undef,_|.int ..,_|.bool _,_|.str _,_|.nilptr,_|.nilIface,_|.nilFunc,_|.nilmap,_|.list ..,_|.box ..,_=>by simp[V.bN]
 |.ptr i _,hw|.bptr i _ _,hw|.view i _ _,hw|.buf i,hw|.map i,hw=>by
   obtain⟨j,h1,h2⟩:=hf i (ny.1 hw);simp[V.bN,h1,h2]
 |.agg cs,hw|.tuple cs,hw=>by simp[V.bN,xA hf (by simpa[V.within] using hw)]
 |.iface t x,hw=>by simp[V.bN,Em hf (by simpa[V.within] using hw)]
 |.func fn fs cs,hw=>by
   simp only[V.within,zza] at hw;simp[V.bN,xA hf hw.1,xA hf hw.2]
theorem xA{f h:Nat->Option Nat} {th:List Nat} (hf:∀i,i∈th->∃j,f i=some j/\h j=some i):∀{x:List V},V.ra th x=true->V.kV h (V.kV f x) =x
 |[],_=>by simp[V.kV]
 |c::cs,hw=>by
   simp only[V.ra,zza] at hw;simp[V.kV,Em hf hw.1,xA hf hw.2]
end
end

theorem dK.bN{E E':Env} {st:St} {g g':au} {n n':Nat} {w:World} {gi:Gh} {o:O} {f:Nat->Option Nat} (h:dK E st g n w gi o) (hf:∀i j,f i=some j->i<n->j<n'/\g' j=g i)
   (hG:∀b,gi.blk=some b->E'.G b):dK E' st g' n' w gi (o.bN f):=by
 cases o with
 |dead=>intro b hb;exact⟨(h b hb).1,hG b hb⟩
 |cells cs=>
   obtain⟨b,c,el,fr,h1,h2,h3,h4,h5,h6⟩:=h;exact⟨b,c,el,fr,h1,hG b h1,h3,rp hf h4,h5,h6⟩
 |buf sz pre l=>
   obtain⟨h1,h2,h3,h4,h5,h6,h7⟩:=h;refine⟨h1,h2,h3,h4,h5,h6,?_⟩;rcases h7 with h7|⟨b,c,el,fr,k1,k2,k3,k4,k5,k6,k7,k8⟩
   . exact .inl h7
   . exact .inr ⟨b,c,el,fr,k1,k2,hG b k1,k4,k5,lT (fun _ _ _ h=>h) (fun _ _ hk=>hk) k6,k7,k8⟩
 |siter s p=>
   obtain⟨h1,b,h2,h3,h4⟩:=h;exact⟨h1,b,h2,hG b h2,h4⟩
 |map ag sh es bs ck=>
   obtain⟨b,arr,h1,h2,h3,h4⟩:=h;exact⟨b,arr,h1,hG b h1,h3,h4⟩
 |miter m bs ck l x=>
   obtain⟨b,b',seen,h1,h2,h3,h4,h5⟩:=h;exact⟨b,b',seen,h1,hG b h1,h3,ta hf h4,h5⟩

def O.gJ:O->Bool
 |.buf _ _ _=>true
 |_=>false

theorem sj{sg:List O} {f:Nat->Option Nat}:∀{th:List Nat} {j:Nat},(locals sg f th)[j]?=(th[j]?).map fun i=>(aD sg i).bN f
 |[],j=>by simp[locals]
 |i::is,0=>by simp[locals]
 |i::is,j+1=>by simp only[locals,List.getElem?_cons_succ];exact sj
theorem ou{sg:List O} {f:Nat->Option Nat}:∀{th:List Nat},(locals sg f th).length=th.length
 |[]=>rfl
 |i::is=>by simp[locals,ou (th:=is)]
theorem nc{sg:List O}:∀{th:List Nat},kq sg th=true->∀i,i∈th->∃o,sg[i]?=some o/\aD sg i=o/\i<sg.length
 |[],_,i,h=>by simp at h
 |k::ks,ha,i,h=>by
   have hk:aD sg k≠.dead/\kq sg ks=true:=by
    simp only[kq] at ha;split at ha
    . cases ha
    . rename_i hne;exact⟨fun e=>hne e,ha⟩
   rcases List.mem_cons.1 h with rfl|h
   . obtain⟨h1,h2⟩:=eY rfl hk.1;exact⟨_,h1,rfl,h2⟩
   . exact nc hk.2 i h
theorem yq{sg:List O}:∀{th:List Nat} {i:Nat},i∈th->(aD sg i).gJ=true->i∈ll sg th
 |[],_,h,_=>by simp at h
 |k::ks,i,h,hb=>by
   simp only[ll];rcases List.mem_cons.1 h with rfl|h
   . split
     . simp
     . rename_i hn;cases ho:aD sg i<;>rw[ho] at hb<;>simp[O.gJ] at hb;exact absurd ho (hn _ _ _)
   . split
     . exact d5 _ (yq h hb)
     . exact yq h hb
theorem Jz{o:O} {f:Nat->Option Nat}:(o.bN f).gJ=o.gJ:=by cases o<;>rfl

theorem yJ:∀(xs:List O) (n:Nat),fC xs n=xs.drop n
 |xs,0=>by simp[fC]
 |[],n+1=>by simp[fC]
 |x::xs,n+1=>by simp[fC,yJ xs n]
theorem uu(f:Nat->Option Nat):∀xs:List O,lJ f xs=xs.map (O.bN f)
 |[]=>rfl
 |x::xs=>by simp[lJ,uu f xs]

theorem Gg{f:Nat->Option Nat}:∀{th:List Nat} {os sg:List O} {i:Nat},i∉th->(dd sg (mi f th os))[i]?=sg[i]?
 |[],os,sg,i,_=>by simp[mi,dd]
 |_::_,[],sg,i,_=>by simp[mi,dd]
 |k::ks,o::os,sg,i,h=>by
   simp only[List.mem_cons,not_or] at h;simp only[mi,dd];rw[Gg h.2,jD,List.getElem?_set_ne (Ne.symm h.1)]
theorem Nt{f:Nat->Option Nat}:∀{th:List Nat} {os sg:List O} {i j:Nat} {o:O},kb th=true->th[j]?=some i->os[j]?=some o->i<sg.length->(dd sg (mi f th os))[i]?=some (o.bN f)
 |[],_,_,_,_,_,_,h,_,_=>by simp at h
 |_::_,[],_,_,_,_,_,_,h,_=>by simp at h
 |k::ks,p::os,sg,i,j,o,hn,h1,h2,hl=>by
   simp only[kb] at hn;cases hm:aH k ks with
   |true=>rw[hm] at hn;simp at hn
   |false=>
     rw[hm] at hn;have hn:kb ks=true:=hn;have hk:=sl.1 hm;simp only[mi,dd];cases j with
     |zero=>
       simp only[List.getElem?_cons_zero,Option.some.injEq] at h1 h2;subst h1;subst h2;rw[Gg hk,jD,List.getElem?_set_self hl]
     |succ j=>
       simp only[List.getElem?_cons_succ] at h1 h2;exact Nt hn h1 h2 (by rw[jD];simpa using hl)

def eU(P:Program) (gl:Nat->Option (List V)) (f:FuncId) (args:List V) (sg:List O) (x:V) (r:Option (List O)):Prop:=
 n9 P f/\∀(E:Env) (st:St) (g:au) (w:World) (vs:List Value),aF E st g sg w->aL gl st->aC st g args sg.length vs->
  Calls P f vs.toArray w fun e w'=>∃v st' g',e=.returned v/\aF E st' g' (r.getD sg) w'/\VR st' g' x (r.getD sg).length v/\(∀b o v,st b o=some v->st' b o=some v)/\
   sg.length<=(r.getD sg).length/\∀i o,sg[i]?=some o->(r=none\/fg (r.getD []) =true\/o.gJ=false)->g' i=g i

def sX(P:Program) (gl:Nat->Option (List V)) (f:FuncId) (args:List V) (sg:List O) (u:Value) (r:Option (List O)):Prop:=
 n9 P f/\∀(E:Env) (st:St) (g:au) (w:World) (vs:List Value),aF E st g sg w->aL gl st->aC st g args sg.length vs->
  Calls P f vs.toArray w fun e w'=>∃st' g',e=.panicked [{v:=u,recovered:=false}]/\aF E st' g' (r.getD sg) w'/\(∀b o v,st b o=some v->st' b o=some v)/\
   sg.length<=(r.getD sg).length/\∀i o,sg[i]?=some o->(r=none\/fg (r.getD []) =true\/o.gJ=false)->g' i=g i

structure cq(C:Ctx):Prop extends Good C where
 gam:∀f args sg pre x r,C.Γ f args sg=some (pre,x,r)->pre->eU C.P C.gl f args sg x r
 del:∀f args sg pre c u r x r2,C.pn f args sg=some (pre,c,u,r,x,r2)->pre->(c->∃v,mQ u=some v/\sX C.P C.gl f args sg v r)/\(¬c->eU C.P C.gl f args sg x r2)

section
variable {C:Ctx} {E:Env} {st:St} {g:au} {s:AS} {a:Act} {w:World} {o:Oper} {e:Ef}

theorem Am{P:Program} {f:FuncId} (h:n9 P f) (vs:Array Value) (w:World):(callFunc f vs).run P w=.ok (.enter f vs) w:=by
 obtain⟨fn,h1,h2,h3⟩:=h;unfold callFunc;simp only[Sem.run_bind,run_program,Result.andThen_ok,h1,h2,h3,Bool.false_eq_true,if_false,Sem.run_pure]

theorem aF.local(R:aF E st g s.sg w) {th:List Nat} (hn:kb th=true) (ha:kq s.sg th=true):
   aF ⟨fun b=>w.heap.size<=b\/∃i∈th,(g i).blk=some b,w,st,[]⟩ st (fun j=>g (th.getD j 0)) (locals s.sg (fun i=>idxOf i th 0) th) w where
 os:=rfl
 tape:=rfl
 output:=rfl
 size:=cb _
 gnew:=fun b hb=>.inl hb
 sub:=fun _ _ _ h=>h
 stG:=fun _ _ _ h=>.inl h
 stw:=R.stw
 fr:=fun _ _=>rfl
 ob:=fun j o hj=>by
   rw[sj] at hj;cases hi:th[j]? with
   |none=>rw[hi] at hj;cases hj
   |some i=>
     rw[hi] at hj;simp only[Option.map_some,Option.some.injEq] at hj;subst hj;obtain⟨o',h1,h2,h3⟩:=nc ha i (List.mem_of_getElem? hi);rw[h2];have hgj:th.getD j 0=i:=by simp[hi]
     simp only[hgj];refine(R.ob i o' h1).bN (fun k k' hk _=>?_) (fun b hb=>.inr ⟨i,List.mem_of_getElem? hi,hb⟩);obtain⟨_,h4⟩:=rZ hk;simp only[Nat.sub_zero] at h4;refine⟨?_,?_⟩
     . rw[ou];rcases d7 k' th.length with h'|h'
       . exact h'
       . simp[ci h'] at h4
     . simp[h4]
 inj:=fun i j b hi hj h1 h2=>by
  rw[ou] at hi hj;have e1:th[i]?=some th[i]:=am hi;have e2:th[j]?=some th[j]:=am hj;have l1:=(nc ha _ (List.mem_of_getElem? e1)).choose_spec.2.2;have l2:=(nc ha _ (List.mem_of_getElem? e2)).choose_spec.2.2;simp only[ac,e1,e2,Option.getD_some] at h1 h2;have:=R.inj _ _ b l1 l2 h1 h2;exact DJ hn e1 (by rw[e2,this])

theorem aF.join(R:aF E st g s.sg w) {th:List Nat} (hn:kb th=true) (ha:kq s.sg th=true) {st':St} {g1:au} {sg1:List O} {w':World}
   (W:aF ⟨fun b=>w.heap.size<=b\/∃i∈th,(g i).blk=some b,w,st,[]⟩ st' g1 sg1 w') (hm:∀b o v,st b o=some v->st' b o=some v) (hl:th.length<=sg1.length)
   {ks:List Nat} (hk:∀j i o,th[j]?=some i->s.sg[i]?=some o->aH i ks=false->g1 j=g i):
   let g':au:=fun i=>match idxOf i th 0 with
    |some j=>g1 j
    |none=>if i<s.sg.length then g i else g1 (th.length+(i-s.sg.length))
   let bw:=dB th s.sg.length (fC sg1 th.length).length
   let sg':=dd (s.sg.map (O.kill ks)) (mi bw th sg1)++lJ bw (fC sg1 th.length)
   aF E st' g' sg' w'/\kn E st g s.sg.length st' g' sg'.length ks/\∀i j,bw i=some j->i<sg1.length->j<sg'.length/\g' j=g1 i:=by
 intro g' bw sg';have hlt:∀i,i∈th->i<s.sg.length:=fun i hi=>(nc ha i hi).choose_spec.2.2;have hlen:sg'.length=s.sg.length+(sg1.length-th.length):=by
  simp only[sg',an,qE,aA,uu,yJ,d9]
 have hdl:(fC sg1 th.length).length=sg1.length-th.length:=by rw[yJ,d9]
 --which ghost each has
 have g_in:∀j i,th[j]?=some i->g' i=g1 j:=fun j i h=>by
  simp only[g',D5 hn h]
 have g_out:∀i,i∉th->i<s.sg.length->g' i=g i:=fun i h hi=>by
  simp only[g'];cases hx:idxOf i th 0 with
  |none=>simp[hi]
  |some j=>obtain⟨_,h2⟩:=rZ hx;exact absurd (List.mem_of_getElem? h2) h
 have g_new:∀k,g' (s.sg.length+k) =g1 (th.length+k):=fun k=>by
  simp only[g'];cases hx:idxOf (s.sg.length+k) th 0 with
  |none=>
    simp only;rw[if_neg (by omega)]
    congr 1;omega
  |some j=>
    obtain⟨_,h2⟩:=rZ hx;have:=hlt _ (List.mem_of_getElem? h2);omega
 have hbw:∀i j,bw i=some j->i<sg1.length->j<sg'.length/\g' j=g1 i:=fun i j h hi=>by
  rw[hlen];rcases d7 i th.length with h'|h'
  . simp only[bw] at h;rw[tf h'] at h;have:=hlt j (List.mem_of_getElem? h);exact⟨by omega,g_in i j h⟩
  . obtain⟨h1,h2⟩:=Hc h' h;rw[hdl] at h2;subst h1;refine⟨by omega,?_⟩;rw[g_new];congr 1;omega
 have hG:∀b,(w.heap.size<=b\/∃i∈th,(g i).blk=some b)->E.G b:=fun b hb=>by
  rcases hb with hb|⟨i,hi,hb⟩
  . exact R.gnew b (Nat.le_trans R.size hb)
  . exact(R.cH (hlt i hi) hb).2
 --each object is the callee's,or one that it could not see
 have hcase:∀i,i<sg'.length->(∃j,j<sg1.length/\g' i=g1 j/\bw j=some i/\∀o,sg'[i]?=some o->∃o₁,sg1[j]?=some o₁/\o=o₁.bN bw)\/
    (i<s.sg.length/\i∉th/\g' i=g i/\sg'[i]?=(s.sg[i]?).map (O.kill ks)):=fun i hi=>by
  rw[hlen] at hi;rcases d7 i s.sg.length with h'|h'
  . by_cases hm:i∈th
    . obtain⟨j,hj,hji⟩:=List.getElem_of_mem hm;have hj':th[j]?=some i:=by rw[am hj,hji]
      have hj1:j<sg1.length:=by omega
      have hs1:sg1[j]?=some sg1[j]:=am hj1;refine .inl ⟨j,hj1,g_in j i hj',by simp only[bw];rw[tf hj];exact hj',fun o ho=>⟨_,hs1,?_⟩⟩;simp only[sg'] at ho;rw[dl (by simpa[qE] using h'),Nt hn hj' hs1 (by simpa using h')] at ho;exact(Option.some.inj ho).symm
    . refine .inr ⟨h',hm,g_out i hm h',?_⟩;simp only[sg'];rw[dl (by simpa[qE] using h'),Gg hm,List.getElem?_map]
  . obtain⟨k,rfl⟩:∃k,i=s.sg.length+k:=⟨i-s.sg.length,by omega⟩
    refine .inl ⟨th.length+k,by omega,g_new k,?_,fun o ho=>?_⟩
    . simp only[bw];have:∀(l:List Nat) n m k,k<m->dB l n m (l.length+k) =some (n+k):=by
       intro l n m k hk
       induction l with
       |nil=>
         have hb:Nat.blt k m=true:=Nat.ble_eq_true_of_le hk;simp[dB,hb]
       |cons a l ih=>
         rw[show(a::l).length+k=(l.length+k)+1 by simp;omega];simpa[dB] using ih
      exact this _ _ _ _ (by omega)
    . simp only[sg'] at ho;rw[dt (by simp[qE])] at ho;simp only[qE,aA,uu,yJ,List.getElem?_map,List.getElem?_drop] at ho;rw[show s.sg.length+k-s.sg.length=k by omega] at ho;cases hs:sg1[th.length+k]? with
      |none=>rw[hs] at ho;cases ho
      |some o₁=>rw[hs] at ho;exact⟨o₁,rfl,(Option.some.inj ho).symm⟩
 refine⟨⟨W.os.trans R.os,W.tape.trans R.tape,W.output.trans R.output,Nat.le_trans R.size W.size,R.gnew,fun b o v h=>hm _ _ _ (R.sub _ _ _ h),fun b o v h=>?_,W.stw,fun b hb=>?_,fun i o ho=>?_,fun i j b hi hj h1 h2=>?_⟩,⟨hm,fun i hi hmem=>?_,by omega⟩,hbw⟩
 . rcases W.stG b o v h with h1|h1
   . exact R.stG _ _ _ h1
   . exact .inr (hG b h1)
 . rw[W.fr b (fun h=>hb (hG b h))];exact R.fr b hb
 . have hi:i<sg'.length:=by
     rcases d7 i sg'.length with h'|h'
     . exact h'
     . simp[ci h'] at ho
   rcases hcase i hi with ⟨j,hj,hg',hbj,hoj⟩|⟨hil,him,hg',hoi⟩
   . obtain⟨o₁,h1,rfl⟩:=hoj o ho;rw[hg'];exact(W.ob j o₁ h1).bN hbw (fun b hb=>hG b (W.cH hj hb).2)
   . rw[ho] at hoi;cases hs:s.sg[i]? with
     |none=>rw[hs] at hoi;cases hoi
     |some o₀=>
       rw[hs] at hoi;cases hoi;rw[hg'];have h0:=R.ob i o₀ hs;have hnot:∀b,(g i).blk=some b->¬(w.heap.size<=b\/∃i∈th,(g i).blk=some b):=fun b hb hor=>by
        rcases hor with h|⟨k,hk,hkb⟩
        . have:=(h0.cH hb).1;omega
        . exact him (R.inj i k b hil (hlt k hk) hb hkb▸hk)
       refine(h0.kill (ks:=ks)).aO (fun b hb=>W.fr b (hnot b hb)) hm (fun b hb o' v hv=>?_) (fun k hk' hkn=>⟨by omega,?_⟩)
       . rcases W.stG b o' v hv with h1|h1
         . exact h1
         . exact absurd h1 (hnot b hb)
       . obtain⟨hkm,_⟩:=O.qp hk';by_cases hkt:k∈th
         . obtain⟨j,hj,hjk⟩:=List.getElem_of_mem hkt;have hj':th[j]?=some k:=by rw[am hj,hjk]
           rw[g_in j k hj'];obtain⟨ok,hk1,hk2,_⟩:=nc ha k hkt;exact hk j k ok hj' hk1 hkm
         . exact g_out k hkt hkn
 . rcases hcase i hi with ⟨i',hi',gi',bi,_⟩|⟨hil,him,gi',_⟩<;>rcases hcase j hj with ⟨j',hj',gj',bj,_⟩|⟨hjl,hjm,gj',_⟩
   . rw[gi'] at h1;rw[gj'] at h2;have:=W.inj i' j' b hi' hj' h1 h2;subst this;rw[bi] at bj;exact Option.some.inj bj
   . rw[gi'] at h1;rw[gj'] at h2;have hb:=(W.cH hi' h1).2;rcases hb with hb|⟨k,hk1,hk2⟩
     . have:=(R.cH hjl h2).1;omega
     . exact absurd (R.inj j k b hjl (hlt k hk1) h2 hk2▸hk1) hjm
   . rw[gi'] at h1;rw[gj'] at h2;have hb:=(W.cH hj' h2).2;rcases hb with hb|⟨k,hk1,hk2⟩
     . have:=(R.cH hil h1).1;omega
     . exact absurd (R.inj i k b hil (hlt k hk1) h1 hk2▸hk1) him
   . rw[gi'] at h1;rw[gj'] at h2;exact R.inj i j b hil hjl h1 h2
 . by_cases hit:i∈th
   . obtain⟨j,hj,hji⟩:=List.getElem_of_mem hit;have hj':th[j]?=some i:=by rw[am hj,hji]
     rw[g_in j i hj'];obtain⟨oi,hi1,hi2,_⟩:=nc ha i hit;exact hk j i oi hj' hi1 hmem
   . exact g_out i hit hi
end
end Go.VG
namespace Go.VG
open Go

theorem HE{sg:List O} {th0:List Nat}:∀{th:List Nat},ku sg th0 th=true->∀i cs,i∈th->aD sg i=.cells cs->V.ra th0 cs=true
 |[],_,i,_,h,_=>by simp at h
 |k::ks,hc,i,cs,h,hi=>by
   simp only[ku] at hc;rcases List.mem_cons.1 h with rfl|h
   . rw[hi] at hc;simp only[zza] at hc;exact hc.1
   . refine HE (th:=ks) ?_ i cs h hi;split at hc
     . simp only[zza] at hc;exact hc.2
     . simp only[zza] at hc;exact hc.2
     . exact hc
theorem HF{sg:List O} {th0:List Nat}:∀{th:List Nat},ku sg th0 th=true->∀i m bs ck l x,i∈th->aD sg i=.miter m bs ck l x->V.within th0 m=true
 |[],_,i,_,_,_,_,_,h,_=>by simp at h
 |k::ks,hc,i,m,bs,ck,l,x,h,hi=>by
   simp only[ku] at hc;rcases List.mem_cons.1 h with rfl|h
   . rw[hi] at hc;simp only[zza] at hc;exact hc.1
   . refine HF (th:=ks) ?_ i m bs ck l x h hi;split at hc
     . simp only[zza] at hc;exact hc.2
     . simp only[zza] at hc;exact hc.2
     . exact hc

section
variable {C:Ctx} {E:Env} {st:St} {g:au} {s:AS} {a:Act} {w:World} {o:Oper} {e:Ef}

theorem aF.JE(R:aF E st g s.sg w) {th:List Nat} (hn:kb th=true) (ha:kq s.sg th=true) (hc:ku s.sg th th=true) {st':St} {g1:au} {w':World}
   (W:aF ⟨fun b=>w.heap.size<=b\/∃i∈th,(g i).blk=some b,w,st,[]⟩ st' g1 (locals s.sg (fun i=>idxOf i th 0) th) w') (hm:∀b o v,st b o=some v->st' b o=some v)
   (hk:∀j i,th[j]?=some i->g1 j=g i):aF E st' g s.sg w'/\∀i j,dB th 0 0 i=some j->i<th.length->j<s.sg.length/\g j=g1 i:=by
 have hlt:∀i,i∈th->i<s.sg.length:=fun i hi=>(nc ha i hi).choose_spec.2.2;have hbw:∀i j,dB th 0 0 i=some j->i<th.length->j<s.sg.length/\g j=g1 i:=fun i j h hi=>by
  rw[tf hi] at h;exact⟨hlt j (List.mem_of_getElem? h),(hk i j h).symm⟩
 have hG:∀b,(w.heap.size<=b\/∃i∈th,(g i).blk=some b)->E.G b:=fun b hb=>by
  rcases hb with hb|⟨i,hi,hb⟩
  . exact R.gnew b (Nat.le_trans R.size hb)
  . exact(R.cH (hlt i hi) hb).2
 refine⟨⟨W.os.trans R.os,W.tape.trans R.tape,W.output.trans R.output,Nat.le_trans R.size W.size,R.gnew,fun b o v h=>hm _ _ _ (R.sub _ _ _ h),fun b o v h=>?_,W.stw,fun b hb=>?_,fun i o ho=>?_,R.inj⟩,hbw⟩
 . rcases W.stG b o v h with h1|h1
   . exact R.stG _ _ _ h1
   . exact .inr (hG b h1)
 . rw[W.fr b (fun h=>hb (hG b h))];exact R.fr b hb
 . have hil:i<s.sg.length:=by
     rcases d7 i s.sg.length with h'|h'
     . exact h'
     . simp[ci h'] at ho
   by_cases him:i∈th
   . obtain⟨j,hj,hji⟩:=List.getElem_of_mem him;have hj':th[j]?=some i:=by rw[am hj,hji]
     obtain⟨o',h1,h2,_⟩:=nc ha i him;rw[ho] at h1;cases h1;have hl:(locals s.sg (fun i=>idxOf i th 0) th)[j]?=some (o.bN fun i=>idxOf i th 0):=by rw[sj,hj',Option.map_some,h2]
     have h3:=W.ob j _ hl;have h4:=h3.bN (E':=E) (g':=g) (n':=s.sg.length) (f:=dB th 0 0) (fun i j h hi=>hbw i j h (by rwa [ou] at hi))
      (fun b hb=>hG b (W.cH (by rw[ou];exact hj) hb).2)
     have h5:(o.bN fun i=>idxOf i th 0).bN (dB th 0 0) =o:=by
      cases o with
      |cells cs=>
        simp only[O.bN];rw[xA (th:=th) (fun i hi=>?_) (HE hc i cs him h2)];obtain⟨k,hk1,hk2⟩:=List.getElem_of_mem hi;have hk':th[k]?=some i:=by rw[am hk1,hk2]
        exact⟨k,D5 hn hk',by rw[tf hk1];exact hk'⟩
      |miter m bs ck l x=>
        simp only[O.bN];rw[Em (th:=th) (fun i hi=>?_) (HF hc i m bs ck l x him h2)];obtain⟨k,hk1,hk2⟩:=List.getElem_of_mem hi;have hk':th[k]?=some i:=by rw[am hk1,hk2]
        exact⟨k,D5 hn hk',by rw[tf hk1];exact hk'⟩
      |_=>rfl
     rw[h5,hk j i hj'] at h4;exact h4
   . have h0:=R.ob i o ho;have hnot:∀b,(g i).blk=some b->¬(w.heap.size<=b\/∃i∈th,(g i).blk=some b):=fun b hb hor=>by
      rcases hor with h|⟨k,hk,hkb⟩
      . have:=(h0.cH hb).1;omega
      . exact him (R.inj i k b hil (hlt k hk) hb hkb▸hk)
     refine h0.aO (fun b hb=>W.fr b (hnot b hb)) hm (fun b hb o' v hv=>?_) (fun k hk' hkn=>⟨hkn,rfl⟩);rcases W.stG b o' v hv with h1|h1
     . exact h1
     . exact absurd h1 (hnot b hb)

theorem xG{f:FuncId} {args:List V} {vs:List Value} {pre:Prop} (R:Rel E st g s a w) (hg:aL C.gl st) (G:cq C)
   (hex:n9 C.P f->(execOp a.eval o).run C.P w=.ok (.enter f vs.toArray) w) (hv:aC st g args s.sg.length vs) (he:i9 C s.sg f args=some (pre,e)) (hpre:pre):az C E st g s a w o e:=by
 unfold i9 at he;rw[qj,qj] at he;generalize reach s.sg 256 (V.fN args []) (V.fN args []) =th at he;unfold wk at he;simp only[mH,u7] at he;cases hchk:(kb th&&kq s.sg th) with
 |false=>rw[hchk] at he;cases he
 |true=>
   rw[hchk] at he;simp only[cond_true] at he;simp only[zza] at hchk;obtain⟨hn,ha⟩:=hchk;have WL:=R.wr.local hn ha;have hfw:∀i j,idxOf i th 0=some j->i<s.sg.length->j<(locals s.sg (fun i=>idxOf i th 0) th).length/\(fun j=>g (th.getD j 0)) j=g i:=fun i j h _=>by
    obtain⟨_,h4⟩:=rZ h;simp only[Nat.sub_zero] at h4;refine⟨?_,?_⟩
    . rw[ou];rcases d7 j th.length with h'|h'
      . exact h'
      . simp[ci h'] at h4
    . simp[h4]
   have hgd:∀j i,th[j]?=some i->g (th.getD j 0) =g i:=fun j i h=>by simp[h]
   have hv':=rp hfw hv;split at he
   . cases he
   . rename_i pre' x hΓ;cases hcl:ku s.sg th th with
     |false=>rw[hcl] at he;cases he
     |true=>
       rw[hcl] at he;simp only[cond_true,Option.some.injEq,Prod.mk.injEq] at he;obtain⟨rfl,rfl⟩:=he;obtain⟨hc,hf⟩:=G.gam _ _ _ _ _ _ hΓ hpre;intro next Q hnext
       unfold Oper.wp;rw[hex hc];refine Calls.mono (hf _ st _ w vs WL hg hv') ?_;rintro en w' ⟨v,st',g1,rfl,W,hx,hm,_,hk⟩;simp only[Option.getD_none] at W hx;have hk':∀j i,th[j]?=some i->g1 j=g i:=fun j i h=>by
        rw[hk j _ (by rw[sj,h];rfl) (.inl rfl)];exact hgd j i h
       obtain⟨W',hb⟩:=R.wr.JE hn ha hcl W hm hk';refine hnext st' g w' v ⟨hm,fun _ _ _=>rfl,?_⟩ ?_ ?_
       . rw[pU];exact cb _
       . rw[pU];exact W'
       . rw[pU];exact ta (fun i j h hi=>hb i j h (by rwa [ou] at hi)) hx
   . rename_i pre' x sg1 hΓ;simp only[Option.some.injEq,Prod.mk.injEq] at he;obtain⟨rfl,rfl⟩:=he;obtain⟨hc,hf⟩:=G.gam _ _ _ _ _ _ hΓ hpre;intro next Q hnext
     unfold Oper.wp;rw[hex hc];refine Calls.mono (hf _ st _ w vs WL hg hv') ?_;rintro en w' ⟨v,st',g1,rfl,W,hx,hm,hl,hk⟩;simp only[Option.getD_some] at W hx hl;rw[ou] at hl;obtain⟨W',A,hb⟩:=R.wr.join (ks:=cond (fg sg1) [] (ll s.sg th)) hn ha W hm hl (fun j i o h h1 h2=>by
      rw[hk j _ (by rw[sj,h];rfl) (.inr ?_)]
      . exact hgd j i h
      . cases hkm:fg sg1 with
        |true=>exact .inl hkm
        |false=>
          refine .inr ?_;rw[hkm] at h2;rw[Jz];obtain⟨o',h3,h4,_⟩:=nc ha i (List.mem_of_getElem? h);cases hb:(aD s.sg i).gJ with
          |false=>rfl
          |true=>exact absurd (yq (List.mem_of_getElem? h) hb) (sl.1 h2))
     have hsg:∀v:V,(s.app o.dst ⟨v,cond (fg sg1) [] (ll s.sg th),mi (dB th s.sg.length (fC sg1 th.length).length) th sg1,lJ (dB th s.sg.length (fC sg1 th.length).length) (fC sg1 th.length),th⟩).sg=
        dd (s.sg.map (O.kill (cond (fg sg1) [] (ll s.sg th)))) (mi (dB th s.sg.length (fC sg1 th.length).length) th sg1)++lJ (dB th s.sg.length (fC sg1 th.length).length) (fC sg1 th.length):=fun v=>by
      simp only[AS.app,yj,sc]
     rw[<-hsg (x.bN (dB th s.sg.length (fC sg1 th.length).length))] at A W' hb;exact hnext st' _ w' v A W' (ta hb hx)

theorem LK(f:Nat->Option Nat):∀x:V,mQ (x.bN f) =mQ x:=fun x=>by
 cases x with
 |iface t v=>cases v<;>first
   |rfl
   |(simp only[V.bN];split<;>rfl)
 |_=>first
   |rfl
   |(simp only[V.bN];split<;>rfl)
theorem Eu{f:FuncId} {args:List V} {vs:List Value} {pre:Prop} (R:Rel E st g s a w) (hg:aL C.gl st) (G:∀args sg pre x r,C.Γ f args sg=some (pre,x,r)->pre->∃v,mQ x=some v/\sX C.P C.gl f args sg v r)
   (hex:n9 C.P f->(execOp a.eval o).run C.P w=.ok (.enter f vs.toArray) w) (hv:aC st g args s.sg.length vs) (he:i9 C s.sg f args=some (pre,e)) (hpre:pre) {next:Act->World->Prop} {Q:Exit->Act->World->Prop}
   (hQ:∀u st' g' w',mQ e.v=some u->kn E st g s.sg.length st' g' (s.app none e).sg.length e.ks->aF E st' g' (s.app none e).sg w'->Q (.panic [{v:=u,recovered:=false}]) a w'):o.wp C.P a w next Q:=by
 unfold i9 at he;rw[qj,qj] at he;generalize reach s.sg 256 (V.fN args []) (V.fN args []) =th at he;unfold wk at he;simp only[mH,u7] at he;cases hchk:(kb th&&kq s.sg th) with
 |false=>rw[hchk] at he;cases he
 |true=>
   rw[hchk] at he;simp only[cond_true] at he;simp only[zza] at hchk;obtain⟨hn,ha⟩:=hchk;have WL:=R.wr.local hn ha;have hfw:∀i j,idxOf i th 0=some j->i<s.sg.length->j<(locals s.sg (fun i=>idxOf i th 0) th).length/\(fun j=>g (th.getD j 0)) j=g i:=fun i j h _=>by
    obtain⟨_,h4⟩:=rZ h;simp only[Nat.sub_zero] at h4;refine⟨?_,?_⟩
    . rw[ou];rcases d7 j th.length with h'|h'
      . exact h'
      . simp[ci h'] at h4
    . simp[h4]
   have hgd:∀j i,th[j]?=some i->g (th.getD j 0) =g i:=fun j i h=>by simp[h]
   have hv':=rp hfw hv;split at he
   . cases he
   . rename_i pre' x hΓ;cases hcl:ku s.sg th th with
     |false=>rw[hcl] at he;cases he
     |true=>
       rw[hcl] at he;simp only[cond_true,Option.some.injEq,Prod.mk.injEq] at he;obtain⟨rfl,rfl⟩:=he;obtain⟨u,hu,hc,hf⟩:=G _ _ _ _ _ hΓ hpre;unfold Oper.wp;rw[hex hc];refine Calls.mono (hf _ st _ w vs WL hg hv') ?_;rintro en w' ⟨st',g1,rfl,W,hm,_,hk⟩;simp only[Option.getD_none] at W;have hk':∀j i,th[j]?=some i->g1 j=g i:=fun j i h=>by
        rw[hk j _ (by rw[sj,h];rfl) (.inl rfl)];exact hgd j i h
       obtain⟨W',hb⟩:=R.wr.JE hn ha hcl W hm hk';refine hQ u st' g w' (by rw[LK];exact hu) ⟨hm,fun _ _ _=>rfl,?_⟩ ?_
       . rw[pU];exact cb _
       . rw[pU];exact W'
   . rename_i pre' x sg1 hΓ;simp only[Option.some.injEq,Prod.mk.injEq] at he;obtain⟨rfl,rfl⟩:=he;obtain⟨u,hu,hc,hf⟩:=G _ _ _ _ _ hΓ hpre;unfold Oper.wp;rw[hex hc];refine Calls.mono (hf _ st _ w vs WL hg hv') ?_;rintro en w' ⟨st',g1,rfl,W,hm,hl,hk⟩;simp only[Option.getD_some] at W hl;rw[ou] at hl;obtain⟨W',A,hb⟩:=R.wr.join (ks:=cond (fg sg1) [] (ll s.sg th)) hn ha W hm hl (fun j i o h h1 h2=>by
      rw[hk j _ (by rw[sj,h];rfl) (.inr ?_)]
      . exact hgd j i h
      . cases hkm:fg sg1 with
        |true=>exact .inl hkm
        |false=>
          refine .inr ?_;rw[hkm] at h2;rw[Jz];obtain⟨o',h3,h4,_⟩:=nc ha i (List.mem_of_getElem? h);cases hb:(aD s.sg i).gJ with
          |false=>rfl
          |true=>exact absurd (yq (List.mem_of_getElem? h) hb) (sl.1 h2))
     have hsg:∀v:V,(s.app none ⟨v,cond (fg sg1) [] (ll s.sg th),mi (dB th s.sg.length (fC sg1 th.length).length) th sg1,lJ (dB th s.sg.length (fC sg1 th.length).length) (fC sg1 th.length),th⟩).sg=
        dd (s.sg.map (O.kill (cond (fg sg1) [] (ll s.sg th)))) (mi (dB th s.sg.length (fC sg1 th.length).length) th sg1)++lJ (dB th s.sg.length (fC sg1 th.length).length) (fC sg1 th.length):=fun v=>by
      simp only[AS.app,yj,sc]
     rw[<-hsg (x.bN (dB th s.sg.length (fC sg1 th.length).length))] at A W';exact hQ u st' _ w' (by rw[LK];exact hu) A W'

theorem Hn{r:Option (Prop×Ef)} (h:∀pre e,r=some (pre,e)->pre->az C E st g s a w o e):cw C E st g s a w o (lp r):=by
 refine aa.opt fun p hp=>aa.aI fun hpre=>?_;intro e' he';have he':kD p.2 (fun b=>b=e'):=he';rw[lD] at he';subst he';exact h p.1 p.2 hp hpre

theorem Py{c:Call} {x:Operand} {f:FuncId} {first captured:Array Value} (ho:o.op=.call c) (hc:c.callee=.value x) (hx:a.eval x=.func (.func f) first captured) (hk:n9 C.P f):
   (execOp a.eval o).run C.P w=.ok (.enter f (first.toList++c.args.toList.map a.eval++captured.toList).toArray) w:=by
 have e1:(first.toList++c.args.toList.map a.eval++captured.toList).toArray=first++c.args.map a.eval++captured:=by
  apply Array.ext';simp
 rw[e1];simp only[execOp,ho,resolve,hc,hx,Sem.run_bind];show(Sem.run C.P (Deferred.ofValue _ _) w).andThen _=_;simp only[Deferred.ofValue,Sem.run_pure,Result.andThen_ok,invoke,Am hk]

theorem Au{c:Call} {x:Operand} {f:FuncId} {first captured:List V} (R:Rel E st g s a w) (hg:aL C.gl st) (hc:c.callee=.value x) (hx:s.ev C x=.func (.func f) first captured):
   ∃vs:List Value,aC st g (first++s.evs C c.args.toList++captured) s.sg.length vs/\∀o:Oper,o.op=.call c->n9 C.P f->(execOp a.eval o).run C.P w=.ok (.enter f vs.toArray) w:=by
 have h:=aR (C:=C) R hg x;rw[hx] at h;simp only[VR] at h;obtain⟨fa,ca,h1,h2,h3⟩:=h;exact⟨_,tb (tb h2 (tT R hg _)) h3,fun o ho hk=>Py ho hc h1 hk⟩

theorem XQ{c:Call} (R:Rel E st g s a w) (hg:aL C.gl st) (G:cq C) (ho:o.op=.call c):cw C E st g s a w o (rF C s c):=by
 unfold rF;split
 . rename_i b hb;rw[u6];obtain⟨callee,args,ts⟩:=c;simp only at hb;subst hb;exact XP R hg G.toGood ho
 . rename_i x hb;refine aa.opt fun p hp=>Hn fun pre e he hpre=>?_;unfold target at hp;rw[hb] at hp;simp only at hp;split at hp
   . rename_i f first captured hx
     cases hp;obtain⟨vs,h1,h2⟩:=Au (c:=c) R hg hb hx;exact xG R hg G (h2 o ho) h1 he hpre
   . cases hp
 . rename_i r m hb;split
   . rename_i t v hr;refine aa.ex fun f=>aa.aI fun hmt=>Hn fun pre e he hpre=>?_;have h:=aR (C:=C) R hg r;rw[hr] at h;simp only[VR] at h;obtain⟨u,h1,h2⟩:=h;refine xG (vs:=u::c.args.toList.map a.eval) R hg G (fun hk=>?_) (cy h2 (tT R hg _)) he hpre;have hm:=G.mt t m f hmt u w;have e1:(u::c.args.toList.map a.eval).toArray=#[u]++c.args.map a.eval:=by apply Array.ext';simp
     rw[e1];have e2:(#[Value.iface t u]++c.args.map a.eval)[0]?=some (.iface t u):=by rw[Array.getElem?_append_left (by simp)];rfl
     have e3:(#[Value.iface t u]++c.args.map a.eval).extract 1 (#[Value.iface t u]++c.args.map a.eval).size=c.args.map a.eval:=by
      apply Array.ext';simp[eo]
     simp only[execOp,ho,resolve,hb,Sem.run_bind,Sem.run_pure,Result.andThen_ok,h1,invoke,e2,e3,callMethod,run_program,hm,Am hk]
   . exact aa.fail
end

theorem s_op{C:Ctx} {E:Env} {st:St} {g:au} {s:AS} {a:Act} {w:World} {o:Oper} (R:Rel E st g s a w) (hg:aL C.gl st) (G:cq C):cw C E st g s a w o (cL C s o):=by
 unfold cL;split<;>rename_i ho
 . exact Ml R hg (.inl ho)
 . exact Ml R hg (.inr ho)
 . exact Yg R hg ho
 . exact XI R G.toGood ho
 . exact s_box R hg ho
 . exact XN R hg G.toGood ho
 . exact s_bs R hg G.toGood ho
 . exact Y4 R hg G.toGood ho
 . exact Yi R hg G.toGood ho
 . exact Yf R hg ho
 . exact XM R hg G.toGood ho
 . exact s_un R hg ho
 . exact Yc R hg G.toGood ho
 . exact Y7 R hg G.toGood ho
 . exact Y6 R hg ho
 . exact Y9 R hg G.toGood ho
 . cases zj C o.dst
   . exact Yh R hg G.toGood ho
   . exact Yj R hg G.toGood ho
 . exact XZ R hg G.toGood ho
 . exact XY R hg G.toGood ho
 . exact Y1 R hg G.toGood ho
 . exact Y0 R hg G.toGood ho
 . exact XL R hg G.toGood ho
 . exact XX R hg ho
 . exact Y2 R hg G.toGood ho
 . exact Yd R hg ho
 . exact Y8 R G.toGood ho
 . exact Y5 R hg G.toGood ho
 . exact Yb R hg G.toGood ho
 . exact Ya R hg G.toGood ho
 . exact XW R hg G.toGood ho
 . exact XV R hg ho
 . exact s_arr R hg G.toGood ho
 . exact XQ R hg G ho
 . exact aa.fail
end Go.VG
namespace Go.VG
open Go

def WF(F:Fence):Prop:=F=Fence.wide\/∃l,F=Fence.wide.inRound l
theorem WF.fn{F:Fence} (h:WF F) (f:FuncId):F.fn f:=by
 rcases h with rfl|⟨l,rfl⟩<;>exact trivial
theorem WF.depth{F:Fence} (h:WF F):F.depth.isSome=true->∀n:Nat,1<=n:=by
 rcases h with rfl|⟨l,rfl⟩<;>(intro q;simp[Fence.wide,Fence.inRound] at q)
theorem WF.calls{F:Fence} (h:WF F) {n:Nat} {P:Program} {f:FuncId} {args:Array Value} {w:World} {R:Ending->World->Prop} (k:Calls P f args w R):CallsIn F n P f args w R:=by
 rcases h with rfl|⟨l,rfl⟩
 . exact callsIn_wide.2 k
 . exact(callsIn_wide.2 k:CallsIn Fence.wide n P f args w R)
theorem WF.rows{F:Fence} (h:WF F) {n:Nat} {P:Program} {f:String} {args:Array Value} {w:World} {R:Value->World->Prop} (k:Rows P f args w R):RowsIn F n P f args w R:=by
 intro c cs _;obtain⟨v,w',r,s⟩:=k c cs;refine⟨v,w',r,?_⟩;rcases h with rfl|⟨l,rfl⟩
 . exact stepsIn_wide.2 s
 . exact stepsIn_wide.2 s
theorem WF.sem{F:Fence} (h:WF F) {o:Oper} {ρ:Operand->Value} (hnd:∀c,o.op≠.defer c):o.semAt F.round ρ=execOp ρ o:=by
 rcases h with rfl|⟨l,rfl⟩
 . exact Oper.semAt_none ρ o
 . exact Oper.semAt_some l ρ o hnd
theorem WF.wp{F:Fence} (hF:WF F) {P:Program} {o:Oper} {a:Act} {w:World} {next:Act->World->Prop} {Q:Exit->Act->World->Prop} (hnd:∀c,o.op≠.defer c) (h:o.wp P a w next Q):o.wpIn F 0 P a w next Q:=by
 refine⟨fun f _=>hF.fn f,?_⟩;rw[hF.sem hnd];unfold Oper.wp at h;revert h;generalize (execOp a.eval o).run P w=r;intro h;unfold Oper.upon at h;split at h
 . exact h
 . exact h
 . exact h
 . exact⟨fun q=>hF.depth q 0,hF.calls h⟩
 . exact⟨fun q=>hF.depth q 0,hF.rows h⟩
 . exact h
 . exact h.elim
theorem WF.value{F:Fence} (hF:WF F) {P:Program} {o:Oper} {a:Act} {w w1:World} {v:Value} {next:Act->World->Prop} {Q:Exit->Act->World->Prop} (hnd:∀c,o.op≠.defer c)
   (hr:(execOp a.eval o).run P w=.ok (.value v) w1) (h:next (a.put o.dst v) w1):o.wpIn F 0 P a w next Q:=
 hF.wp hnd (by unfold Oper.wp;rw[hr];exact h)
theorem sQ{b:Bool} {A:Prop}:mh b A↔b=true/\A:=by cases b<;>simp[mh]
theorem lU{i:Nat}:∀{ks l:List Nat},aH i (gW ks l) =true↔i∈ks\/aH i l=true
 |[],l=>by simp[gW]
 |k::ks,l=>by
   simp only[gW,List.mem_cons];cases hk:aH k l with
   |true=>
     simp only[cond_true,lU (ks:=ks)];constructor
     . rintro(h|h)
       . exact .inl (.inr h)
       . exact .inr h
     . rintro((rfl|h)|h)
       . exact .inr hk
       . exact .inl h
       . exact .inr h
   |false=>
     simp only[cond_false,aH,Bool.or_eq_true,lU (ks:=ks)];constructor
     . rintro(h|h|h)
       . exact .inl (.inl (aB h))
       . exact .inl (.inr h)
       . exact .inr h
     . rintro((rfl|h)|h)
       . exact .inl (Nat.beq_refl _)
       . exact .inr (.inl h)
       . exact .inr (.inr h)

theorem aL.mono{gl:Nat->Option (List V)} {st st':St} (h:aL gl st) (hm:∀b o v,st b o=some v->st' b o=some v):aL gl st':=fun b cs hb g=>by
 obtain⟨vs,h1,h2⟩:=h b cs hb g;refine⟨vs,la hm (fun _ _ hi=>absurd hi (Nat.not_lt_zero _)) h1,fun j hj=>?_⟩;have h3:=h2 j hj;rw[am hj] at h3⊢;exact hm _ _ _ h3

structure cm(st:St) (g:au) (s:AS) (st':St) (g':au) (s':AS):Prop where
 mono:∀b o v,st b o=some v->st' b o=some v
 aO:∀i,i<s.sg.length->aH i s'.kl=false->g' i=g i
 len:s.sg.length<=s'.sg.length
 kl:∀i,aH i s.kl=true->aH i s'.kl=true

theorem cm.refl{st:St} {g:au} {s:AS}:cm st g s st g s:=⟨fun _ _ _ h=>h,fun _ _ _=>rfl,cb _,fun _ h=>h⟩
theorem cm.trans{st st' st'':St} {g g' g'':au} {s s' s'':AS} (h:cm st g s st' g' s') (k:cm st' g' s' st'' g'' s''):cm st g s st'' g'' s'' where
 mono:=fun _ _ _ hv=>k.mono _ _ _ (h.mono _ _ _ hv)
 aO:=fun i hi hm=>by
  rw[k.aO i (Nat.lt_of_lt_of_le hi h.len) hm];refine h.aO i hi ?_;cases hb:aH i s'.kl with
  |false=>rfl
  |true=>rw[k.kl i hb] at hm;cases hm
 len:=Nat.le_trans h.len k.len
 kl:=fun i hi=>k.kl i (h.kl i hi)

theorem n8.rq{st:St} {g:au} {s:AS} {n:Nat} {st0 st':St} {g0 g':au} {s':AS} (B:n8 n st0 g0 st g s) (A:cm st g s st' g' s'):n8 n st0 g0 st' g' s' where
 mono:=fun _ _ _ h=>A.mono _ _ _ (B.mono _ _ _ h)
 aO:=fun i hi hm=>by
  rw[A.aO i (Nat.lt_of_lt_of_le hi B.len) hm];refine B.aO i hi ?_;cases hb:aH i s.kl with
  |false=>rfl
  |true=>rw[A.kl i hb] at hm;cases hm
 len:=Nat.le_trans B.len A.len
def iD(C:Ctx) (E:Env) (n:Nat) (st0:St) (g0:au):Prop:=∀l,Og C E n st0 g0 l (C.yd l)
theorem WF.ZE{F:Fence} (hF:WF F) {P:Program} {l:Nat} {args:Array Value} {w:World} {R:Ending->World->Prop} (h:YieldAt Fence.wide 0 P l args w R):YieldAt F 0 P l args w R:=by
 rcases hF with rfl|⟨k,rfl⟩
 . exact h
 . exact h
theorem iD.none{C:Ctx} {E:Env} {n:Nat} {st0:St} {g0:au} (h:C.yd=fun _ _ _ _=>none):iD C E n st0 g0:=fun l args s pre x sg' ks hy=>by simp only[h] at hy;cases hy
section
variable {C:Ctx} {E:Env} {st:St} {g:au} {s:AS} {a:Act} {w:World} {o:Oper} {e:Ef}

theorem cm.app{st':St} {g':au} {d:Option Nat} (A:kn E st g s.sg.length st' g' (s.app d e).sg.length e.ks):cm st g s st' g' (s.app d e) where
 mono:=A.mono
 aO:=fun i hi hm=>A.aO i hi (by
  cases hb:aH i e.ks with
  |false=>rfl
  |true=>
    have:aH i (gW e.ks s.kl) =true:=lU.2 (.inl (ny.1 hb));simp only[AS.app] at hm;rw[this] at hm;cases hm)
 len:=A.len
 kl:=fun i hi=>lU.2 (.inr hi)

def Go(C:Ctx) (E:Env) (st:St) (g:au) (s:AS) (s':AS) (a':Act) (w':World):Prop:=∃st' g',Rel E st' g' s' a' w'/\aL C.gl st'/\cm st g s st' g' s'

theorem Go.trans{st':St} {g':au} {s' s'':AS} {a'':Act} {w'':World} (A:cm st g s st' g' s') (h:Go C E st' g' s' s'' a'' w''):Go C E st g s s'' a'' w'':=by
 obtain⟨st2,g2,R,hg,B⟩:=h;exact⟨st2,g2,R,hg,A.trans B⟩

theorem oX(R:Rel E st g s a w) (hg:aL C.gl st) (hd:e9 s o.dst=true) (h:az C E st g s a w o e) {next:Act->World->Prop} {Q:Exit->Act->World->Prop}
   (hn:∀a' w',Go C E st g s (s.app o.dst e) a' w'->next a' w'):o.wp C.P a w next Q:=
 h next Q fun st' g' w' v A W hv=>hn _ _ ⟨st',g',R.app hd A W hv,hg.mono A.mono,cm.app A⟩

theorem Rel.lit(R:Rel E st g s a w) {t:Nat} {x:V} (h:lk s.tm t=x):Rel E st g (s.app (some t) (pe x)) a w where
 nt:=R.nt
 df:=R.df
 wr:=by rw[jr];exact R.wr
 tm:=fun u=>by
  rw[jr];simp only[AS.app,pe,kK,lk];cases hb:Nat.beq t u with
  |true=>
    have:=aB hb;subst this;have:=R.tm t;rw[h] at this;exact this
  |false=>exact R.tm u

theorem xz(R:Rel E st g s a w) (hd:e9 s o.dst=true):Rel E st g (s.app o.dst (pe (.tuple []))) (a.put o.dst undef) w:=by
 refine R.app hd ⟨fun _ _ _ h=>h,fun _ _ _=>rfl,?_⟩ ?_ ?_
 . rw[jr];exact cb _
 . rw[jr];exact R.wr
 . simp[pe,VR,aC,undef]
theorem cm.pe{d:Option Nat} {x:V}:cm st g s st g (s.app d (pe x)) where
 mono:=fun _ _ _ h=>h
 aO:=fun _ _ _=>rfl
 len:=by rw[jr];exact cb _
 kl:=fun i hi=>by simpa[AS.app,VG.pe,gW] using hi

theorem Gm{ops:Array Oper} {j t:Nat} {b:Bool} (R:Rel E st g s a w) (ht:cO ops.toList j=some t) (h:lk s.tm t=.bool b):yielded ops a.tmps j=some b:=by
 have h1:∀(l:List Oper) (j t:Nat),cO l j=some t->(l[j]?).bind (·.dst) =some t:=by
  intro l
  induction l with
  |nil=>intro j t h;simp[cO] at h
  |cons o l ih=>intro j t h;cases j with
    |zero=>simpa[cO] using h
    |succ j=>simpa using ih j t (by simpa[cO] using h)
 have h2:=h1 _ _ _ ht;have h3:(ops[j]?).bind (·.dst) =some t:=by rw[<-Array.getElem?_toList];exact h2
 have h4:=R.tm t;rw[h] at h4;simp only[VR] at h4;unfold yielded;rw[h3];simp only[Option.bind_some];rcases d7 t a.tmps.size with h5|h5
 . rw[Array.getElem?_eq_getElem h5];have:a.tmps.getD t undef=a.tmps[t]:=by simp[Array.getD,h5]
   rw[this] at h4;rw[h4]
 . have:a.tmps.getD t undef=undef:=by simp[Array.getD,Nat.not_lt.2 h5]
   rw[this] at h4;simp[undef] at h4

theorem Gn{ops:Array Oper} {j t:Nat} (R:Rel E st g s a w) (ht:cO ops.toList j=some t) (h:lk s.tm t=.tuple []):yielded ops a.tmps j=none:=by
 have h1:∀(l:List Oper) (j t:Nat),cO l j=some t->(l[j]?).bind (·.dst) =some t:=by
  intro l
  induction l with
  |nil=>intro j t h;simp[cO] at h
  |cons o l ih=>intro j t h;cases j with
    |zero=>simpa[cO] using h
    |succ j=>simpa using ih j t (by simpa[cO] using h)
 have h2:=h1 _ _ _ ht;have h3:(ops[j]?).bind (·.dst) =some t:=by rw[<-Array.getElem?_toList];exact h2
 have h4:=R.tm t;rw[h] at h4;simp only[VR,aC] at h4;obtain⟨vs,h4,h6⟩:=h4;unfold yielded;rw[h3];simp only[Option.bind_some];rcases d7 t a.tmps.size with h5|h5
 . rw[Array.getElem?_eq_getElem h5];have:a.tmps.getD t undef=a.tmps[t]:=by simp[Array.getD,h5]
   rw[this] at h4;rw[h4]
 . rw[Array.getElem?_eq_none h5]

theorem Rel.back{st':St} {g':au} {w':World} {x:V} {sg':List O} {ks:List Nat} {v:Value} {d:Option Nat} (R:Rel E st g s a w) (hd:e9 s d=true) (A:kn E st g s.sg.length st' g' sg'.length ks)
   (W:aF E st' g' sg' w') (hv:VR st' g' x sg'.length v):Rel E st' g' (s.back d x sg' ks) (a.put d v) w'/\cm st g s st' g' (s.back d x sg' ks):=by
 refine⟨⟨?_,?_,fun t=>?_,W⟩,⟨A.mono,fun i hi hm=>A.aO i hi ?_,A.len,fun i hi=>lU.2 (.inr hi)⟩⟩
 . cases d with
   |none=>exact R.nt
   |some d=>simp[Act.put,AS.back,R.nt]
 . cases d<;>exact R.df
 . cases d with
   |none=>
     have h1:lk (s.back none x sg' ks).tm t=(lk s.tm t).kill ks:=by simp only[AS.back];exact pf _ _ _
     rw[h1];exact vA A (R.tm t)
   |some d=>
     have hlt:d<s.nt:=by simpa[e9] using hd
     have h1:lk (s.back (some d) x sg' ks).tm t=cond (Nat.beq d t) x ((lk s.tm t).kill ks):=by simp only[AS.back,lk];rw[pf]
     rw[h1];by_cases hdt:d=t
     . subst hdt;rw[show Nat.beq d d=true from Nat.beq_refl d];simp only[cond_true,Act.put];rw[show(a.tmps.setIfInBounds d v).getD d undef=v by simp[R.nt,hlt]];exact hv
     . rw[show Nat.beq d t=false from by cases hb:Nat.beq d t with|false=>rfl|true=>exact absurd (aB hb) hdt];simp only[cond_false,Act.put];rw[show(a.tmps.setIfInBounds d v).getD t undef=a.tmps.getD t undef by simp[hdt]];exact vA A (R.tm t)
 . cases hb:aH i ks with
   |false=>rfl
   |true=>
     have:aH i (gW ks s.kl) =true:=lU.2 (.inl (ny.1 hb));simp only[AS.back] at hm;rw[this] at hm;cases hm

theorem J7{K:Ef->AS->Prop} {U:AS->V->List O->List Nat->Prop} {X:Value->AS->Prop} (h:iY.go C o K U X s):∀c,o.op≠.defer c:=fun c hc=>by
 unfold iY.go at h;rw[hc] at h;simp only[cL,hc,fail] at h
theorem XE{P:Program} {o:Oper} {a:Act} {w:World} {x:Operand} {t:TypeId} {v:Value} (ho:o.op=.panic x) (hx:a.eval x=.iface t v):(execOp a.eval o).run P w=.halt (.panic (.iface t v)) w:=by
 simp only[execOp,ho,hx,Instr.panic];rfl
theorem cq.mR(G:cq C):cq C.mR where
 toGood:=⟨G.ti,G.mt,G.hm⟩
 gam:=fun f args sg pre x r h hp=>by
  have h:(match C.pn f args sg with|some (pre,c,_,_,x,r) =>some (pre/\¬c,x,r)|none=>none) =some (pre,x,r):=h;split at h
  . rename_i hpn;cases h;exact(G.del _ _ _ _ _ _ _ _ _ hpn hp.1).2 hp.2
  . cases h
 del:=G.del
theorem cq.kO(G:cq C) {f:FuncId}:∀args sg pre x r,C.kO.Γ f args sg=some (pre,x,r)->pre->∃v,mQ x=some v/\sX C.P C.gl f args sg v r:=fun args sg pre x r h hp=>by
 have h:(match C.pn f args sg with|some (pre,c,u,r,_,_) =>some (pre/\c,u,r)|none=>none) =some (pre,x,r):=h;split at h
 . rename_i hpn;cases h;exact(G.del _ _ _ _ _ _ _ _ _ hpn hp.1).1 hp.2
 . cases h
theorem ev_go{F:Fence} (hF:WF F) {n0:Nat} {st0:St} {g0:au} (hY:iD C E n0 st0 g0) (B:n8 n0 st0 g0 st g s) {K:AS->Prop} {U:AS->V->List O->List Nat->Prop} {X:Value->AS->Prop} (R:Rel E st g s a w) (hg:aL C.gl st) (G:cq C) (hd:e9 s o.dst=true) (h:iY.go C o (fun _=>K) U X s)
   {next:Act->World->Prop} {Q:Exit->Act->World->Prop} (hK:∀s' a' w',K s'->Go C E st g s s' a' w'->next a' w')
   (hU:∀x sg ks a' w',U s x sg ks->Go C E st g s (s.back o.dst x sg ks) a' w'->next a' w')
   (hX:∀u s' a' w',X u s'->Go C E st g s s' a' w'->Q (.panic [{v:=u,recovered:=false}]) a' w'):o.wpIn F 0 C.P a w next Q:=by
 have hnd:=J7 h;have hop:(cL C s o fun e=>fS s o.dst e K)->o.wpIn F 0 C.P a w next Q:=fun h=>by
  obtain⟨e,h1,h2⟩:=tS C s o _ h;rw[gX] at h1;have h3:=s_op R hg G e (h2 _ rfl);exact hF.wp hnd (oX R hg hd h3 fun a' w' hgo=>hK _ a' w' h1 hgo)
 unfold iY.go at h;split at h
 . rename_i c hc;split at h
   . rename_i f args ht;have hval:∃x first captured,c.callee=.value x/\s.ev C x=.func (.func f) first captured/\args=first++s.evs C c.args.toList++captured:=by
      unfold target at ht;split at ht
      . rename_i x hx;split at ht
        . rename_i g' first captured hf
          cases ht;exact⟨x,first,captured,hx,hf,rfl⟩
        . cases ht
      . cases ht
     obtain⟨x,first,captured,hx1,hx2,rfl⟩:=hval;obtain⟨vs,hv1,hv2⟩:=Au (c:=c) R hg hx1 hx2;split at h
     . rename_i pre e he;obtain⟨hpre,h⟩:=h;rw[lD,gX] at h;have h3:=xG (o:=o) R hg G (hv2 o hc) hv1 he hpre;exact hF.wp hnd (oX R hg hd h3 fun a' w' hgo=>hK _ a' w' h hgo)
     . split at h
       . rename_i p e1 q e2 hp1 hp2;obtain⟨hpq,h1,h2⟩:=h;by_cases hp:p
         . have h1:=h1 hp;unfold su at h1;rw[lD] at h1;refine hF.wp hnd (Eu (C:=C.kO) R hg G.kO (hv2 o hc) hv1 hp1 hp fun u st' g' w' hu A W=>?_);rw[hu] at h1;simp only[iu,gX] at h1;refine hX u _ a w' h1 ⟨st',g',?_,hg.mono A.mono,cm.app (d:=none) (e:=⟨.undef,e1.ks,e1.up,e1.nw,e1.rd⟩) A⟩;exact R.app (d:=none) (e:=⟨.undef,e1.ks,e1.up,e1.nw,e1.rd⟩) (v:=undef) rfl A W (by simp[VR])
         . have hq:=hpq.resolve_left hp;have h2:=h2 hq;rw[lD,gX] at h2;have h3:=xG (C:=C.mR) (o:=o) R hg G.mR (hv2 o hc) hv1 hp2 hq;exact hF.wp hnd (oX (C:=C) R hg hd h3 fun a' w' hgo=>hK _ a' w' h2 hgo)
       obtain⟨hck,hcall⟩:=h;refine hF.wp hnd ?_;unfold Oper.wp;rw[hv2 o hc hck];refine Calls.mono (hcall E st g w vs R.wr hg hv1) ?_;rintro en w' ⟨v,x,sg',ks,st',g',rfl,W,hv,A,hk⟩;obtain⟨R',A'⟩:=R.back hd A W hv;exact hU _ _ _ _ _ hk ⟨st',g',R',hg.mono A.mono,A'⟩
   . split at h
     . rename_i l args hy;split at h
       . rename_i pre x sg' ks hyd;obtain⟨hpre,h⟩:=h;have hval:∃x,c.callee=.value x/\s.ev C x=.func (.yield l) [] []/\args=s.evs C c.args.toList:=by
          unfold yieldOf at hy;split at hy
          . rename_i x hx;split at hy
            . rename_i l' hf;cases hy;exact⟨x,hx,hf,rfl⟩
            . cases hy
          . cases hy
         obtain⟨f,hx1,hx2,rfl⟩:=hval;have hfv:=aR (C:=C) R hg f;rw[hx2] at hfv;simp only[VR] at hfv;obtain⟨fa,fb,hf1,hf2,hf3⟩:=hfv;simp only[aC] at hf2 hf3;have hvs:=tT (C:=C) R hg c.args.toList;obtain⟨fn,tmps,assign,body,hrun,hround⟩:=hF.ZE (hY l _ _ _ _ _ _ hyd hpre st g w _ R.wr hg hvs B);refine⟨fun f _=>hF.fn f,?_⟩;rw[hF.sem hnd];have he:(execOp a.eval o).run C.P w=.ok (.round l fn tmps assign body) w:=by
          have e1:fa++c.args.map a.eval++fb=(c.args.toList.map a.eval).toArray:=by
           apply Array.ext';simp[hf2,hf3]
          have hx:a.eval f=.func (.yield l) fa fb:=hf1;simp only[execOp,hc,resolve,hx1,hx,Sem.run_bind];show(Sem.run C.P (Deferred.ofValue _ _) w).andThen _=_;simp only[Deferred.ofValue,Sem.run_pure,Result.andThen_ok,invoke];have hfb:fb=#[]:=by apply Array.ext';simpa using hf3
          rw[<-hrun,<-e1,hfb,Array.append_empty]
         rw[he,Oper.uponIn_round];refine⟨fun q=>hF.depth q 0,RoundIn.mono hround ?_⟩;rintro en w' ⟨v,st',g',rfl,W,hv,A⟩;obtain⟨R',A'⟩:=R.back hd A W hv;exact hU _ _ _ _ _ h ⟨st',g',R',hg.mono A.mono,A'⟩
       . exact h.elim
     . exact hop h
 . rename_i x hx;obtain⟨e,h1,h3⟩:=Ye R hg hx h;exact hF.wp hnd (oX R hg hd h3 fun a' w' hgo=>hK _ a' w' h1 hgo)
 . rename_i x hx;refine hF.wp hnd ?_;cases hu:mQ (s.ev C x) with
   |none=>rw[hu] at h;exact h.elim
   |some u=>
     rw[hu] at h;have hv:=aR (C:=C) R hg x;have he:∃t k n,s.ev C x=.iface t (.int k n)/\u=.iface t (.int k n):=by
      unfold mQ at hu;split at hu
      . rename_i t k n e;cases hu;exact⟨t,k,n,e,rfl⟩
      . cases hu
     obtain⟨t,k,n,e1,rfl⟩:=he;rw[e1] at hv;simp only[VR] at hv;obtain⟨u',e2,rfl,_⟩:=hv;unfold Oper.wp;rw[XE hx e2];exact hX _ s a w h ⟨st,g,R,hg,cm.refl⟩
 . exact hop h

theorem Vk{ops:List Oper} {rest:List Oper} {d d2:Nat} (h:zK C ops o rest=some (d,d2)):
   ∃t len parts e o2 rest2,o.op=.buildSlice t len parts/\o.dst=some d/\rest=o2::rest2/\o2.op=.convert t t (.tmp d)/\o2.dst=some d2/\(C.ti t).k=.slice e/\(C.ti e).k=.int .u8/\
    o2.guard=o.guard/\(∀j x,o.guard=some (j,x)->∃u,cO ops j=some u/\u≠d)/\C.lits d=false:=by
 unfold zK at h;split at h
 . rename_i t len parts d0 o2 rest2 h1 h2;split at h
   . rename_i a b d' d20 e h4 h5 h6;split at h
     . rename_i h7;cases hb:(Nat.beq a t&&Nat.beq b t&&Nat.beq d0 d'&&!C.lits d0) with
       |false=>rw[hb] at h;simp at h
       |true=>
         rw[hb] at h;simp only[cond_true,zza,Bool.not_eq_true'] at h hb;obtain⟨⟨⟨e1,e2⟩,e3⟩,e4⟩:=hb;have e1:=aB e1;have e2:=aB e2;have e3:=aB e3;subst e1;subst e2;subst e3;split at h
         . rename_i g1 g2;cases h;exact⟨_,len,parts,e,o2,rest2,h1,h2,rfl,h4,h5,h6,h7,by rw[g1,g2],fun j x hj=>by(rw[g1] at hj;cases hj),e4⟩
         . rename_i j x j' x' g1 g2;split at h
           . rename_i u hu;cases hc:(Nat.beq j j'&&Bool.and (x==x') (!Nat.beq u d0)) with
             |false=>rw[hc] at h;simp at h
             |true=>
               rw[hc] at h;simp only[cond_true,Option.some.injEq,Prod.mk.injEq] at h;obtain⟨rfl,rfl⟩:=h;simp only[zza,Bool.not_eq_true',beq_iff_eq] at hc;obtain⟨f1,f2,f3⟩:=hc;have f1:=aB f1;subst f1;subst f2;refine⟨_,len,parts,e,o2,rest2,h1,h2,rfl,h4,h5,h6,h7,by rw[g1,g2],fun j' x' hj=>?_,e4⟩;rw[g1] at hj;cases hj;exact⟨u,hu,fun e=>by subst e;simp at f3⟩
           . cases h
         . cases h
     . cases h
   . cases h
 . cases h

theorem NT{ops:Array Oper} {j u d:Nat} {v:Value} (hu:cO ops.toList j=some u) (hne:u≠d):yielded ops (a.put (some d) v).tmps j=yielded ops a.tmps j:=by
 have h1:∀(l:List Oper) (j t:Nat),cO l j=some t->(l[j]?).bind (·.dst) =some t:=by
  intro l
  induction l with
  |nil=>intro j t h;simp[cO] at h
  |cons o l ih=>intro j t h;cases j with
    |zero=>simpa[cO] using h
    |succ j=>simpa using ih j t (by simpa[cO] using h)
 have h3:(ops[j]?).bind (·.dst) =some u:=by rw[<-Array.getElem?_toList];exact h1 _ _ _ hu
 unfold yielded;rw[h3];simp only[Option.bind_some,Act.put];rw[Array.getElem?_setIfInBounds_ne (Ne.symm hne)]

theorem KU{s:AS} {d:Nat} {x:V}:lk (s.app (some d) (pe x)).tm d=x:=by simp[AS.app,pe,lk]
theorem LW{s:AS} {d:Nat} {x:V}:s.put (some d) x=s.app (some d) (pe x):=by
 simp[AS.put,AS.app,pe,kK,ir,dd,jS,gW]

theorem Vl(R:Rel E st g s a w) (hg:aL C.gl st) (G:cq C) {o2:Oper} {t len d d2:Nat} {parts:Array (Nat×Operand)} {e:TypeId} (h1:o.op=.buildSlice t len parts) (h2:o.dst=some d)
   (hnl:C.lits d=false) (h4:o2.op=.convert t t (.tmp d)) (h6:(C.ti t).k=.slice e) (h7:(C.ti e).k=.int .u8) {F:Bool->AS->Prop} {U:AS->V->List O->List Nat->Prop} {X:Value->AS->Prop} (hd:e9 s o.dst=true)
   (h:iY.go C o (fun _ s'=>jV s' (some (d,d2)) F) U X s):∃v w1 w2 s'',(execOp a.eval o).run C.P w=.ok (.value v) w1/\(execOp (a.put (some d) v).eval o2).run C.P w1=.ok (.value v) w2/\
    Go C E st g s s'' ((a.put (some d) v).put (some d2) v) w2/\F true s'':=by
 have hop:cL C s o fun e=>fS s o.dst e fun s'=>jV s' (some (d,d2)) F:=by
  unfold iY.go at h;rw[h1] at h;exact h
 obtain⟨ef,k1,k2⟩:=tS C s o _ hop;rw[gX] at k1;have k3:=k2 (fun b=>b=ef) rfl;have k4:lW C s t len parts fun b=>b=ef:=by
  have k3:=k3;simp only[cL,h1,h2,oS,hnl,cond_false] at k3;exact k3
 obtain⟨x,e',cells,rfl,q1,q2,q3,_⟩:=C9 R hg G.toGood h1 ef k4;have hu:=((G.toGood.ti t).of (by rw[h6];simp)).1;rw[h6] at hu;have hu:C.P.underlying t=some (.slice e):=hu;rw[hu] at q1;cases q1;have hue:=((G.toGood.ti e).of (by rw[h7];simp)).1;rw[h7] at hue;have hue:C.P.underlying e=some (.int .u8):=hue;rw[h2] at k1 hd;unfold jV at k1;simp only[qh] at k1;obtain⟨k5,k6⟩:=sQ.1 k1;rw[KU,LW] at k6;have hlt:d<s.nt:=by simpa[e9] using hd
 have hs2:(a.put (some d) (.slice (some ⟨w.heap.size,0,none⟩) len len)).eval (.tmp d) =.slice (some ⟨w.heap.size,0,none⟩) len len:=by
  show(a.tmps.setIfInBounds d _).getD d undef=_;simp[R.nt,hlt]
 have hr2:(execOp (a.put (some d) (.slice (some ⟨w.heap.size,0,none⟩) len len)).eval o2).run C.P (w.alloc (.cells cells e)) =.ok (.value (.slice (some ⟨w.heap.size,0,none⟩) len len)) (w.alloc (.cells cells e (cells.size,cells.size+1))):=by
  simp only[execOp,h4,hs2];rw[Sem.run_bind,Lib.run_convert_bytes_const w t e cells len len hu hue];rfl
 have R1:Rel E (lg st w.heap.size cells cells.size) g (s.app (some d) (pe x)) (a.put (some d) (.slice (some ⟨w.heap.size,0,none⟩) len len)) (w.alloc (.cells cells e (cells.size,cells.size+1))):=
  R.app hd ⟨pR R.wr.mX,fun _ _ _=>rfl,by rw[jr];exact cb _⟩ (by rw[jr];exact R.wr.C1 cells e _ cells.size) (by rw[jr];exact q3)
 have R2:=R1.app (d:=some d2) (e:=pe x) (v:=.slice (some ⟨w.heap.size,0,none⟩) len len) k5 ⟨fun _ _ _ h=>h,fun _ _ _=>rfl,by rw[jr];exact cb _⟩ (by rw[jr];exact R1.wr) (by rw[jr,jr];exact q3);refine⟨_,_,_,_,q2,hr2,⟨_,g,R2,hg.mono (pR R.wr.mX),?_⟩,k6⟩;exact cm.trans (s':=s.app (some d) (pe x)) (st':=lg st w.heap.size cells cells.size) (g':=g) ⟨pR R.wr.mX,fun _ _ _=>rfl,by rw[jr];exact cb _,fun i hi=>lU.2 (.inr hi)⟩ cm.pe

theorem DV{F:Fence} (hF:WF F) {E:Env} {n0:Nat} {st0:St} {g0:au} (hY:iD C E n0 st0 g0) (G:cq C) {ops:Array Oper} {Q:Exit->Act->World->Prop} {K:Ex->AS->Prop}:∀(n:Nat) (rest:List Oper),rest.length<=n->∀(s:AS) (st:St) (g:au) (a:Act) (w:World),Rel E st g s a w->aL C.gl st->n8 n0 st0 g0 st g s->
   gG C ops.toList false rest s K->(∀s' a' w',K .norm s'->Go C E st g s s' a' w'->Q .normal a' w')->(∀u s' a' w',K (.pan u) s'->Go C E st g s s' a' w'->Q (.panic [{v:=u,recovered:=false}]) a' w')->wpListIn F 0 C.P ops Q rest a w
 |_,[],_,s,st,g,a,w,R,hg,B,h,hK,_=>hK s a w h ⟨st,g,R,hg,cm.refl⟩
 |0,_::_,hn,_,_,_,_,_,_,_,_,_,_,_=>absurd hn (by simp)
 |n+1,o::rest,hn,s,st,g,a,w,R,hg,B,h,hK,hX=>by
   have hn:rest.length<=n:=by simpa using hn
   simp only[gG,Pw,iY] at h;obtain⟨hd,h⟩:=sQ.1 h;cases hlit:zK C ops.toList o rest with
   |some p=>
     obtain⟨d,d2⟩:=p;obtain⟨t,len,parts,e,o2,rest2,h1,h2,rfl,h4,h5,h6,h7,h8,h9,h10⟩:=Vk hlit;rw[hlit] at h;have hn2:rest2.length<=n:=by simp at hn;omega
     have hrest:∀s' a' w',gG C ops.toList true (o2::rest2) s' K->Go C E st g s s' a' w'->wpListIn F 0 C.P ops Q rest2 a' w':=fun s' a' w' h' hgo=>by
      obtain⟨st',g',R',hg',A⟩:=hgo;simp only[gG] at h';exact DV hF hY G n rest2 hn2 s' st' g' a' w' R' hg' (B.rq A) h' (fun s'' a'' w'' hk hgo'=>hK s'' a'' w'' hk (hgo'.trans A)) fun u s'' a'' w'' hk hgo'=>hX u s'' a'' w'' hk (hgo'.trans A)
     have hgo:∀s₁,Rel E st g s₁ a w->cm st g s st g s₁->e9 s₁ o.dst=true->Region.wanted o (yielded ops a.tmps) =true->(∀v,Region.wanted o2 (yielded ops (a.put (some d) v).tmps) =true)->
        iY.go C o (fun _ s'=>jV s' (some (d,d2)) fun b s''=>gG C ops.toList b (o2::rest2) s'' K) (fun s x sg ks=>oO s o.dst x sg ks fun s'=>jV s' (some (d,d2)) fun b s''=>gG C ops.toList b (o2::rest2) s'' K) (fun u s'=>K (.pan u) s') s₁->
        wpListIn F 0 C.P ops Q (o::o2::rest2) a w:=fun s₁ R₁ A₁ hd₁ hw1 hw2 h₁=>by
      obtain⟨v,w1,w2,s'',r1,r2,r3,r4⟩:=Vl R₁ hg G h1 h2 h10 h4 h6 h7 hd₁ h₁;unfold wpListIn;rw[if_pos hw1];refine hF.value (J7 h₁) r1 ?_;show wpListIn F 0 C.P ops Q (o2::rest2) (a.put o.dst v) w1;rw[h2];unfold wpListIn;rw[if_pos (hw2 v)];refine hF.value (fun c hc=>by rw[h4] at hc;cases hc) r2 ?_;show wpListIn F 0 C.P ops Q rest2 ((a.put (some d) v).put o2.dst v) w2;rw[h5];exact hrest _ _ _ r4 (r3.trans A₁)
     have hskip:∀s₁,Rel E st g s₁ a w->cm st g s st g s₁->e9 s₁ o.dst=true->Region.wanted o (yielded ops a.tmps) =false->(Region.wanted o2 (yielded ops (a.put (some d) undef).tmps) =false)->
        (jV (s₁.app o.dst (pe (.tuple []))) (some (d,d2)) fun b s''=>gG C ops.toList b (o2::rest2) s'' K)->wpListIn F 0 C.P ops Q (o::o2::rest2) a w:=fun s₁ R₁ A₁ hd₁ hw1 hw2 h₁=>by
      unfold wpListIn;rw[if_neg (by rw[hw1];simp)];refine⟨fun f _=>hF.fn f,?_⟩;unfold wpListIn;rw[h2,if_neg (by rw[hw2];simp)];refine⟨fun f _=>hF.fn f,?_⟩;rw[h2] at h₁ hd₁;unfold jV at h₁;simp only[qh] at h₁;obtain⟨k5,k6⟩:=sQ.1 h₁;rw[KU,LW] at k6;have Ra:=xz (o:=o) R₁ (by rw[h2];exact hd₁);rw[h2] at Ra;have Rb:=xz (o:=o2) Ra (by rw[h5];exact k5);rw[h5] at Rb⊢;exact hrest _ _ _ k6 ⟨st,g,Rb,hg,(A₁.trans cm.pe).trans cm.pe⟩
     split at h
     . rename_i hgd;exact hgo s R cm.refl hd (by simp[Region.wanted,hgd]) (fun v=>by simp[Region.wanted,h8,hgd]) h
     . rename_i j want hgd;obtain⟨u,hu1,hu2⟩:=h9 j want hgd;split at h
       . exact h.elim
       . rename_i t' ht;rw[hu1] at ht;cases ht;split at h
         . rename_i b hb;have hy:=Gm R hu1 hb;have hl:=R.lit hb;have hA:cm st g s st g (s.app (some u) (pe (.bool b))):=cm.pe;have hw:∀v,yielded ops (a.put (some d) v).tmps j=some b:=fun v=>by rw[NT hu1 hu2];exact hy
           have hrun:∀b',b=b'->want=b'->iY.run' C o s (fun _ s'=>jV s' (some (d,d2)) fun b s''=>gG C ops.toList b (o2::rest2) s'' K) (fun s x sg ks=>oO s o.dst x sg ks fun s'=>jV s' (some (d,d2)) fun b s''=>gG C ops.toList b (o2::rest2) s'' K) (fun u s'=>K (.pan u) s') (.bool b') u->wpListIn F 0 C.P ops Q (o::o2::rest2) a w:=fun b' e e2 h=>by
            subst e;unfold iY.run' at h;rw[gX] at h;exact hgo _ hl hA hd (by simp[Region.wanted,hgd,hy,e2]) (fun v=>by simp[Region.wanted,h8,hgd,hw v,e2]) h
           have hsk:∀b',b=b'->want≠b'->iY.skip o s (fun _ s'=>jV s' (some (d,d2)) fun b s''=>gG C ops.toList b (o2::rest2) s'' K) (.bool b') u->wpListIn F 0 C.P ops Q (o::o2::rest2) a w:=fun b' e e2 h=>by
            subst e;unfold iY.skip at h;rw[gX,gX] at h;exact hskip _ hl hA hd (by simp[Region.wanted,hgd,hy,Ne.symm e2]) (by simp[Region.wanted,h8,hgd,hw undef,Ne.symm e2]) h
           cases b<;>cases want<;>simp only[dY,cond_true,cond_false] at h
           . exact hrun _ rfl rfl h
           . exact hsk _ rfl (by simp) h
           . exact hsk _ rfl (by simp) h
           . exact hrun _ rfl rfl h
         . rename_i hb;have hy:=Gn R hu1 hb;have hl:=R.lit hb;have hA:cm st g s st g (s.app (some u) (pe (.tuple []))):=cm.pe;unfold iY.skip at h;rw[gX,gX] at h;exact hskip _ hl hA hd (by simp[Region.wanted,hgd,hy]) (by simp[Region.wanted,h8,hgd,NT hu1 hu2,hy]) h
         . exact h.elim
   |none=>
   rw[hlit] at h
   --the rest,from any state that this operation leads to
   have hrest:∀s' a' w',gG C ops.toList false rest s' K->Go C E st g s s' a' w'->wpListIn F 0 C.P ops Q rest a' w':=fun s' a' w' h' hgo=>by
    obtain⟨st',g',R',hg',A⟩:=hgo;exact DV hF hY G n rest hn s' st' g' a' w' R' hg' (B.rq A) h' (fun s'' a'' w'' hk hgo'=>hK s'' a'' w'' hk (hgo'.trans A)) fun u s'' a'' w'' hk hgo'=>hX u s'' a'' w'' hk (hgo'.trans A)
   have hgo:∀s₁,Rel E st g s₁ a w->cm st g s st g s₁->e9 s₁ o.dst=true->iY.go C o (fun _ s'=>jV s' none fun b s''=>gG C ops.toList b rest s'' K) (fun s x sg ks=>oO s o.dst x sg ks fun s'=>jV s' none fun b s''=>gG C ops.toList b rest s'' K) (fun u s'=>K (.pan u) s') s₁->
      o.wpIn F 0 C.P a w (wpListIn F 0 C.P ops Q rest) Q:=fun s₁ R₁ A₁ hd₁ h₁=>by
    refine ev_go hF hY (B.rq A₁) R₁ hg G hd₁ h₁ (fun s' a' w' h' hgo=>hrest s' a' w' h' (hgo.trans A₁)) (fun x sg ks a' w' h' hgo=>?_) ?_
    . rw[Oq] at h';exact hrest _ a' w' h' (hgo.trans A₁)
    exact fun u s' a' w' h' hgo=>hX u s' a' w' h' (hgo.trans A₁)
   unfold wpListIn;split at h
   . rename_i hgd;rw[if_pos (by simp[Region.wanted,hgd])];exact(hgo s R cm.refl hd h)
   . rename_i j want hgd;split at h
     . exact h.elim
     . rename_i t ht;split at h
       . rename_i b hb;have hy:=Gm R ht hb;have hl:=R.lit hb;have hA:cm st g s st g (s.app (some t) (pe (.bool b))):=cm.pe;have hrun:∀b',b=b'->iY.run' C o s (fun _ s'=>jV s' none fun b s''=>gG C ops.toList b rest s'' K) (fun s x sg ks=>oO s o.dst x sg ks fun s'=>jV s' none fun b s''=>gG C ops.toList b rest s'' K) (fun u s'=>K (.pan u) s') (.bool b') t->o.wpIn F 0 C.P a w (wpListIn F 0 C.P ops Q rest) Q:=fun b' e h=>by
          subst e;unfold iY.run' at h;rw[gX] at h;exact hgo _ hl hA hd h
         have hskip:∀b',b=b'->iY.skip o s (fun _ s'=>jV s' none fun b s''=>gG C ops.toList b rest s'' K) (.bool b') t->wpListIn F 0 C.P ops Q rest (a.put o.dst undef) w:=fun b' e h=>by
          subst e;unfold iY.skip at h;rw[gX,gX] at h;exact hrest _ _ _ h ⟨st,g,xz hl hd,hg,hA.trans cm.pe⟩
         cases b<;>cases want<;>simp only[dY,cond_true,cond_false] at h
         . rw[if_pos (by simp[Region.wanted,hgd,hy])];exact hrun _ rfl h
         . rw[if_neg (by simp[Region.wanted,hgd,hy])];exact⟨fun f _=>hF.fn f,hskip _ rfl h⟩
         . rw[if_neg (by simp[Region.wanted,hgd,hy])];exact⟨fun f _=>hF.fn f,hskip _ rfl h⟩
         . rw[if_pos (by simp[Region.wanted,hgd,hy])];exact hrun _ rfl h
       . rename_i hb;have hy:=Gn R ht hb;have hl:=R.lit hb;have hA:cm st g s st g (s.app (some t) (pe (.tuple []))):=cm.pe;rw[if_neg (by simp[Region.wanted,hgd,hy])];refine⟨fun f _=>hF.fn f,?_⟩;unfold iY.skip at h;rw[gX,gX] at h;exact hrest _ _ _ h ⟨st,g,xz hl hd,hg,hA.trans cm.pe⟩
       . exact h.elim

theorem Md{F:Fence} (hF:WF F) {n0:Nat} {st0:St} {g0:au} (hY:iD C E n0 st0 g0) {id:Nat} {ops:Array Oper} (R:Rel E st g s a w) (hg:aL C.gl st) (G:cq C) (B:n8 n0 st0 g0 st g s) {Q:Exit->Act->World->Prop} {K:Ex->AS->Prop} (h:gG C ops.toList false ops.toList s K)
   (hK:∀s' a' w',K .norm s'->Go C E st g s s' a' w'->Q .normal a' w') (hX:∀u s' a' w',K (.pan u) s'->Go C E st g s s' a' w'->Q (.panic [{v:=u,recovered:=false}]) a' w'):(Code.region id ops false).wpIn F 0 C.P Q a w:=
 wpIn_region_list (DV hF hY G _ _ (cb _) s st g a w R hg B h hK hX)
theorem El{n0:Nat} {st0:St} {g0:au} (hY:iD C E n0 st0 g0) {id:Nat} {ops:Array Oper} (R:Rel E st g s a w) (hg:aL C.gl st) (G:cq C) (B:n8 n0 st0 g0 st g s) {Q:Exit->Act->World->Prop} {K:Ex->AS->Prop} (h:gG C ops.toList false ops.toList s K)
   (hK:∀s' a' w',K .norm s'->Go C E st g s s' a' w'->Q .normal a' w') (hX:∀u s' a' w',K (.pan u) s'->Go C E st g s s' a' w'->Q (.panic [{v:=u,recovered:=false}]) a' w'):(Code.region id ops false).wp C.P Q a w:=
 wpIn_wide.1 (Md (.inl rfl) hY R hg G B h hK hX)
end
end Go.VG
