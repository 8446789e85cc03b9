/-
  A part of the proof.
-/
import Derived.Test.YtknljebcgcmaeaaGreatDoorVgO
set_option linter.unusedSimpArgs false
set_option linter.unusedVariables false
namespace Go.VG
open Go

theorem pV{e:Ef}:quiet e=true↔e.ks=[]/\e.up=[]/\e.nw=[]:=by
 obtain⟨v,ks,up,nw,rd⟩:=e;cases ks<;>cases up<;>cases nw<;>simp[quiet]

mutual
theorem CW:∀{x:V} {acc:List Nat} {i:Nat},i∈acc->i∈V.names x acc
 |.ptr j _,acc,i,h|.bptr j _ _,acc,i,h|.view j _ _,acc,i,h|.buf j,acc,i,h|.map j,acc,i,h=>by
   simp only[V.names];cases aQ j acc with
   |true=>exact h
   |false=>exact List.mem_append_left _ h
 |.agg cs,acc,i,h|.tuple cs,acc,i,h=>by simp only[V.names];exact wg h
 |.iface _ x,acc,i,h=>by simp only[V.names];exact CW h
 |.func _ fs cs,acc,i,h=>by simp only[V.names];exact wg (wg h)
 |.undef,_,_,h|.int ..,_,_,h|.bool _,_,_,h|.str _,_,_,h|.list ..,_,_,h|.nilptr,_,_,h|.box ..,_,_,h|.nilIface,_,_,h|.nilFunc,_,_,h|.nilmap,_,_,h=>by simp only[V.names];exact h
theorem wg:∀{x:List V} {acc:List Nat} {i:Nat},i∈acc->i∈V.fK x acc
 |[],_,_,h=>by simp only[V.fK];exact h
 |c::cs,_,_,h=>by simp only[V.fK];exact wg (CW h)
end
theorem Lz{o:O} {acc:List Nat} {i:Nat} (h:i∈acc):i∈o.names acc:=by
 cases o<;>simp only[O.names]<;>first|exact h|exact wg h|exact CW h

theorem M4{sg:List O}:∀{fuel:Nat} {todo acc:List Nat} {i:Nat},i∈acc->i∈reach sg fuel todo acc
 |0,_,_,_,h=>by simp only[reach];exact h
 |_+1,[],_,_,h=>by simp only[reach];exact h
 |fuel+1,k::todo,acc,i,h=>by simp only[reach];exact M4 (Lz h)
theorem M5{sg sg':List O}:∀{fuel:Nat} {todo acc:List Nat},(∀i∈todo,i∈acc)->(∀r∈reach sg fuel todo acc,aH sg' r=aH sg r)->reach sg' fuel todo acc=reach sg fuel todo acc
 |0,_,_,_,_=>by simp only[reach]
 |_+1,[],_,_,_=>by simp only[reach]
 |fuel+1,k::todo,acc,ht,h=>by
   have hk:aH sg' k=aH sg k:=h k (M4 (ht k (by simp)));simp only[reach] at h⊢;rw[hk];refine M5 (fun i hi=>?_) h;rcases List.mem_append.1 hi with hi|hi
   . exact Lz (ht i (d8 _ hi))
   . exact List.mem_of_mem_drop hi

theorem H8{sg sg':List O}:∀{th:List Nat},(∀r∈th,aH sg' r=aH sg r)->jV sg' th=jV sg th
 |[],_=>rfl
 |k::ks,h=>by simp only[jV,h k (by simp),H8 (th:=ks) fun r hr=>h r (d8 _ hr)]
theorem HI{sg sg':List O} {th0:List Nat}:∀{th:List Nat},(∀r∈th,aH sg' r=aH sg r)->jX sg' th0 th=jX sg th0 th
 |[],_=>rfl
 |k::ks,h=>by simp only[jX,h k (by simp),HI (th:=ks) fun r hr=>h r (d8 _ hr)]
theorem KY{sg sg':List O} {f:Nat->Option Nat}:∀{th:List Nat},(∀r∈th,aH sg' r=aH sg r)->locals sg' f th=locals sg f th
 |[],_=>rfl
 |k::ks,h=>by simp only[locals,h k (by simp),KY (th:=ks) fun r hr=>h r (d8 _ hr)]
theorem Ho{sg sg':List O}:∀{th:List Nat},(∀r∈th,aH sg' r=aH sg r)->kH sg' th=kH sg th
 |[],_=>rfl
 |k::ks,h=>by simp only[kH,h k (by simp),Ho (th:=ks) fun r hr=>h r (d8 _ hr)]
theorem Hi{n n':Nat}:∀{th:List Nat},dE th n 0=dE th n' 0
 |[]=>rfl
 |k::ks=>by
   funext j
   cases j with
   |zero=>simp[dE]
   |succ j=>simp only[dE];exact congrFun (Hi (th:=ks)) j

section
variable {C:Ctx} {s s':AS} {o:Oper} {e:Ef}

theorem Il{sg sg':List O} {f:FuncId} {args:List V} {pre:Prop} (h:gU C sg f args=some (pre,e)) (hq:quiet e=true) (hr:∀r∈e.rd,aH sg' r=aH sg r):gU C sg' f args=some (pre,e):=by
 unfold gU at h⊢;rw[pC,pC] at h⊢
 --what is read
 have hrd:e.rd=reach sg 256 (V.fK args []) (V.fK args []):=by
  unfold vr at h;simp only[lY,tq] at h;cases hc:(jK (reach sg 256 (V.fK args []) (V.fK args []))&&jV sg (reach sg 256 (V.fK args []) (V.fK args []))) with
  |false=>rw[hc] at h;cases h
  |true=>
    rw[hc,cond_true] at h;split at h
    . cases h
    . cases hcl:jX sg (reach sg 256 (V.fK args []) (V.fK args [])) (reach sg 256 (V.fK args []) (V.fK args [])) with
      |false=>rw[hcl] at h;cases h
      |true=>rw[hcl] at h;cases h;rfl
    . cases h;rfl
 rw[hrd] at hr;rw[M5 (fun _ h=>h) hr];generalize reach sg 256 (V.fK args []) (V.fK args []) =th at*;unfold vr at h⊢;simp only[lY,tq] at h⊢;rw[H8 hr,HI hr,KY hr,Ho hr];cases hc:(jK th&&jV sg th) with
 |false=>rw[hc] at h;cases h
 |true=>
   rw[hc,cond_true] at h;rw[cond_true];generalize C.Γ f (V.ku (fun i=>idxOf i th 0) args) (locals sg (fun i=>idxOf i th 0) th) =r at h⊢;rcases r with _|⟨pre',v,_|σ⟩
   . cases h
   . exact h
   . simp only[Option.some.injEq,Prod.mk.injEq] at h⊢;obtain⟨rfl,rfl⟩:=h;refine⟨rfl,?_⟩;obtain⟨q1,q2,q3⟩:=pV.1 hq;simp only[tJ,List.map_eq_nil_iff] at q3;rw[q3];simp only[List.length_nil];rw[Hi (n:=sg'.length) (n':=sg.length)]

theorem np:∀{l:List Operand},(∀x∈l,s'.ev C x=s.ev C x)->s'.aG C l=s.aG C l
 |[],_=>rfl
 |x::xs,h=>by simp only[AS.aG,h x (by simp),np (l:=xs) fun y hy=>h y (d8 _ hy)]
theorem xW:∀{l:List (Nat×Operand)},(∀x∈wv l,s'.ev C x=s.ev C x)->jI C s' l=jI C s l
 |[],_=>rfl
 |(i,x)::r,h=>by simp only[jI,h x (by simp[wv]),xW (l:=r) fun y hy=>h y (by simp[wv,hy])]
theorem Ip{n:Nat} {lo hi:Option Operand} (h1:∀x∈nG lo,s'.ev C x=s.ev C x) (h2:∀x∈nG hi,s'.ev C x=s.ev C x):ka C s' n lo hi=ka C s n lo hi:=by
 cases lo<;>cases hi<;>simp only[ka]<;>simp only[nG,List.mem_singleton,forall_eq,List.not_mem_nil] at h1 h2<;>simp only[h1,h2]
theorem I6{x:V} (h:∀i,x=.buf i->aH s'.sg i=aH s.sg i):elems s' x=elems s x:=by
 unfold elems;cases x<;>try rfl
 rename_i i;simp only[h i rfl]
theorem MX{c:Call} (h:∀x∈jR (.call c),s'.ev C x=s.ev C x):target C s' c=target C s c:=by
 unfold target;cases hc:c.callee with
 |value f=>
   simp only[jR,hc] at h;simp only[h f (by simp),np fun x hx=>h x (d8 _ hx)]
 |invoke r m=>rfl
 |builtin b=>rfl

theorem Hs{r:Option (Prop×Ef)} {e:Ef} (h:kK r (fun b=>b=e)):∃pre:Prop,r=some (pre,e)/\pre:=by
 cases r with
 |none=>exact h.elim
 |some p=>
   have h1:p.1:=h.1;have h2:kc p.2 (fun b=>b=e):=h.2;rw[kW] at h2;exact⟨p.1,by rw[<-h2],h1⟩
theorem Hr{r:Option (Prop×Ef)} {e:Ef} {pre:Prop} (h:r=some (pre,e)) (hp:pre):kK r (fun b=>b=e):=by
 subst h;refine⟨hp,?_⟩;show kc e _;rw[kW]

theorem BJ(h:∀x∈jR o.op,s'.ev C x=s.ev C x) (hs:s'.sg=s.sg):cJ C s' o=cJ C s o:=by
 obtain⟨dst,op,type,pos,after,guard⟩:=o;have hel:∀x,elems s' x=elems s x:=fun x=>I6 fun i _=>by rw[hs]
 cases op<;>simp only[cJ,jR] at h⊢
 case move x=>rw[h x (by simp)]
 case assign x=>rw[h x (by simp)]
 case pick c a b=>simp only[vw,h c (by simp),h a (by simp),h b (by simp)]
 case alloc t=>simp only[ni,nh,hs]
 case box t x=>rw[h x (by simp),hs]
 case build t ps=>simp only[sU,xW h]
 case buildSlice t n ps=>simp only[oh,sX,lz,xW h,hs]
 case load t x=>simp only[po,h x (by simp),hs]
 case store t x y=>simp only[qP,h x (by simp),h y (by simp),hs]
 case nilCheck x=>simp only[qO,h x (by simp)]
 case binOp b t x y u=>rw[h x (by simp),h y (by simp)]
 case unOp b t x=>rw[h x (by simp)]
 case convert a b x=>simp only[pq,lA,h x (by simp),hel,hs]
 case makeInterface t x=>simp only[vv,h x (by simp)]
 case makeFunc fn a b=>rw[np fun x hx=>h x (by simp[hx]),np fun x hx=>h x (by simp[hx])]
 case makeSlice t x y=>simp only[qL,h x (by simp),h y (by simp),hs]
 case slice t x lo hi mx=>
  have hr:∀n,ka C s' n lo hi=ka C s n lo hi:=fun n=>Ip (fun x hx=>h x (by simp[hx])) (fun x hx=>h x (by simp[hx]));have hh:∀y,hi=some y->s'.ev C y=s.ev C y:=fun y hy=>h y (by simp[hy,nG]);have hm:∀y,mx=some y->s'.ev C y=s.ev C y:=fun y hy=>h y (by simp[hy,nG]);have hl:∀y,lo=some y->s'.ev C y=s.ev C y:=fun y hy=>h y (by simp[hy,nG]);have hvw:pw C s' t x lo hi mx=pw C s t x lo hi mx:=by
   unfold pw;rw[h x (by simp),hs];cases lo with
   |none=>rfl
   |some y=>simp only[hl y rfl]
  have hsl:pr C s' t x lo hi mx=pr C s t x lo hi mx:=by
   simp only[pr,h x (by simp),hs,hr];repeat'(first
    |rfl
    |(simp only[hh _ rfl];done)
    |(simp only[hh _ rfl,hm _ rfl];done)
    |split)
  rw[hvw,hsl]
 case fieldAddr t x f=>simp only[qH,h x (by simp)]
 case field t x f=>simp only[qG,h x (by simp)]
 case indexAddr t x y=>simp only[sW,h x (by simp),h y (by simp),hs]
 case index t x y=>simp only[vu,h x (by simp),h y (by simp)]
 case typeAssert x _ t ok=>simp only[vn,h x (by simp)]
 case extract x i=>simp only[vt,h x (by simp)]
 case range t x=>simp only[qI,qJ,gI,h x (by simp),hs]
 case makeMap t r=>cases r<;>simp only[qK,hs]
 case lookup t m x ok=>simp only[mI,gI,h m (by simp),h x (by simp),hs]
 case mapUpdate t m x y=>simp only[qM,gI,h m (by simp),h x (by simp),h y (by simp),hs]
 case mapEntry t m x=>simp only[oq,gI,h m (by simp),h x (by simp),hs]
 case entryStore t m b y=>simp only[qF,gI,h m (by simp),h b (by simp),h y (by simp),hs]
 case entry x=>simp only[sV,h x (by simp),hs]
 case sliceToArrayPointer t x=>simp only[vm,h x (by simp)]
 case next x b=>simp only[sY,h x (by simp),hs]
 case call c=>
  have ht:=MX (C:=C) (s:=s) (s':=s') (c:=c) (by simpa only[jR] using h);unfold qD;cases hc:c.callee with
  |value f=>simp only[ht,hs]
  |invoke r m=>
    simp only[hc] at h;simp only[h r (by simp),np fun x hx=>h x (d8 _ hx),hs]
  |builtin b=>
    simp only[hc] at h;simp only[np h];have hb:∀xs,mH C s' b c.argTypes.toList xs=mH C s b c.argTypes.toList xs:=fun xs=>by
     unfold mH;simp only[hs,hel,pk,pj,qE,gI]
    simp only[hb]
end
end Go.VG
namespace Go.VG
open Go

section
variable {C:Ctx} {s s':AS} {o:Oper} {e:Ef} {nt:Nat} {tm:List (Nat×V)} {sg sg':List O} {kl:List Nat}

theorem KZ{t:TypeId}:aa (fun e=>quiet e=false) (nh C s t):=by
 unfold nh;split
 . exact aa.fail
 . rw[force_eq,dN];exact aa.when fun _=>aa.ret rfl
theorem V8{d:Option Nat} {t:TypeId}:aa (fun e=>quiet e=false) (ni C s d t):=by
 unfold ni;split
 . split
   . split
     . split
       . exact aa.fail
       . rw[force_eq];exact aa.when fun _=>aa.ret rfl
     . exact aa.fail
   . exact KZ
 . exact KZ
theorem Vb{x:V}:aa (fun e=>quiet e=false) (force x fun x=>dh s.sg.length fun n=>bE (!x.eX) (ret ⟨.ptr n 0,[],[],[.cells x.cells],[]⟩)):=by
 rw[force_eq,dN];exact aa.when fun _=>aa.ret rfl
theorem Vi{t:TypeId} {x y:Operand}:aa (fun e=>quiet e=false) (qL C s t x y):=by
 unfold qL;split
 . split
   . exact aa.fail
   . refine aa.when fun _=>aa.aR fun _=>?_;rw[dN,dN,force_eq];exact aa.ret rfl
 . exact aa.fail
theorem Vg{t:TypeId} {len:Nat} {ps:Array (Nat×Operand)}:aa (fun e=>quiet e=false) (sX C s t len ps):=by
 unfold sX;refine aa.bind (vo _ _ _ _ _) fun e _=>?_;split
 . rw[dN];exact aa.ret rfl
 . exact aa.fail
theorem tT{α β:Type} {o:Option α} {f:α->Tr β} {K:β->Prop}:ey o f K↔∃a,o=some a/\f a K:=by
 cases o with
 |none=>exact⟨fun h=>h.elim,fun⟨_,h,_⟩=>by cases h⟩
 |some a=>exact⟨fun h=>⟨a,rfl,h⟩,fun⟨_,h,k⟩=>by cases h;exact k⟩
theorem wm{t:TypeId} {m:V} {F:Nat->Bool->List Sc->List (V×Int)->List Nat->Nat->Tr Ef} (h:∀i ag sh es bs ck,aa (fun e=>quiet e=false) (F i ag sh es bs ck)):aa (fun e=>quiet e=false) (gI C s t m F):=by
 unfold gI;refine aa.opt fun _ _=>?_;split
 . split
   . exact aa.when fun _=>h _ _ _ _ _ _
   . exact aa.fail
 . exact aa.fail
theorem Vh{t:TypeId}:aa (fun e=>quiet e=false) (qK C s t):=by
 unfold qK;refine aa.opt fun _ _=>?_;rw[dN];exact aa.ret rfl
theorem Vk{t:TypeId} {m x y:Operand}:aa (fun e=>quiet e=false) (qM C s t m x y):=by
 unfold qM;refine wm fun i ag sh es bs ck=>?_;rw[force_eq];refine aa.when fun _=>?_;split
 . exact aa.fW (fun _ _=>aa.ret rfl) (fun _=>aa.ret rfl)
 . exact aa.fail
theorem Vj{t:TypeId} {m x:Operand}:aa (fun e=>quiet e=false) (oq C s t m x):=by
 unfold oq;refine wm fun i ag sh es bs ck=>?_;rw[force_eq];exact aa.when fun _=>aa.aR fun _=>aa.fW (fun _ _=>aa.ret rfl) (fun _=>aa.ret rfl)
theorem Vd{t:TypeId} {m x y:Operand}:aa (fun e=>quiet e=false) (qF C s t m x y):=by
 unfold qF;refine wm fun i ag sh es bs ck=>?_;split
 . exact aa.ex fun _=>aa.aR fun _=>aa.ret rfl
 . exact aa.fail
theorem Vc{t:TypeId} {m x:V}:aa (fun e=>quiet e=false) (qE C s t m x):=by
 unfold qE;refine wm fun i ag sh es bs ck=>?_;rw[force_eq];exact aa.when fun _=>aa.fW (fun _ _=>aa.ret rfl) (fun _=>aa.ret rfl)
theorem Vf{t:TypeId} {m:V}:aa (fun e=>quiet e=false) (qJ C s t m):=by
 unfold qJ;refine wm fun i ag sh es bs ck=>?_;rw[dN];exact aa.ret rfl
theorem Ve{t:TypeId} {x:Operand}:aa (fun e=>quiet e=false) (qI C s t x):=by
 unfold qI;split
 . rw[dN];exact aa.ret rfl
 . exact Vf
 . exact aa.fail
theorem Vl{t:TypeId} {x y:Operand}:aa (fun e=>quiet e=false) (qP C s t x y):=by
 unfold qP;simp only[mL];split
 . exact aa.fail
 . rw[force_eq];refine aa.when fun _=>?_;split
   . split
     . exact aa.opt fun _ _=>aa.ret rfl
     . exact aa.fail
   . split
     . refine aa.opt fun _ _=>?_;split
       . exact aa.when fun _=>aa.opt fun _ _=>aa.aR fun _=>aa.ret rfl
       . exact aa.fail
     . exact aa.fail
   . exact aa.fail
theorem V9{t:TypeId} {x:V} {ys:List V} {rd:List Nat}:aa (fun e=>quiet e=false) (pj C s t x ys rd):=by
 unfold pj;split
 . refine aa.when fun _=>aa.aR fun _=>aa.aR fun _=>?_;rw[dN,dN];exact aa.ret rfl
 . split
   . exact aa.when fun _=>aa.aR fun _=>aa.ret rfl
   . exact aa.fail
 . exact aa.fail
theorem Va{t:TypeId} {sz:Nat} {x:V} {ys:List V} {rd:List Nat}:aa (fun e=>quiet e=false) (pk C s t sz x ys rd):=by
 unfold pk;split
 . refine aa.when fun _=>aa.aR fun _=>?_;rw[dN];exact aa.ret rfl
 . exact V9

theorem OX{x:V}:aa (fun r=>∀i,x=.buf i->r.2.2=[i]) (elems s x):=by
 unfold elems;split
 . exact aa.ret fun i h=>by cases h
 . exact aa.ret fun i h=>by cases h
 . split
   . exact aa.ret fun i h=>by cases h;rfl
   . exact aa.fail
 . exact aa.fail

theorem Pe(he:cJ C ⟨nt,tm,sg,kl⟩ o (fun b=>b=e)) (hq:quiet e=true) (hr:∀r∈e.rd,aH sg' r=aH sg r):cJ C ⟨nt,tm,sg',kl⟩ o (fun b=>b=e):=by
 obtain⟨dst,op,type,pos,after,guard⟩:=o;have hev:∀x,AS.ev C ⟨nt,tm,sg',kl⟩ x=AS.ev C ⟨nt,tm,sg,kl⟩ x:=fun _=>rfl;have hevs:∀l,AS.aG C ⟨nt,tm,sg',kl⟩ l=AS.aG C ⟨nt,tm,sg,kl⟩ l:=fun l=>np fun _ _=>rfl;have hps:∀l,jI C ⟨nt,tm,sg',kl⟩ l=jI C ⟨nt,tm,sg,kl⟩ l:=fun l=>xW fun _ _=>rfl;have hrg:∀n lo hi,ka C ⟨nt,tm,sg',kl⟩ n lo hi=ka C ⟨nt,tm,sg,kl⟩ n lo hi:=fun n lo hi=>Ip (fun _ _=>rfl) (fun _ _=>rfl);have hno:∀{p:Prop},quiet e=false->p:=fun h=>by rw[h] at hq;cases hq
 cases op<;>simp only[cJ] at he⊢
 case move x=>exact he
 case assign x=>exact he
 case pick c a b=>exact he
 case alloc t=>exact hno (V8 e he)
 case box t x=>exact hno (Vb (s:=⟨nt,tm,sg,kl⟩) e he)
 case build t ps=>simp only[sU,hps] at he⊢;exact he
 case buildSlice t n ps=>
  have hb:lz C ⟨nt,tm,sg',kl⟩ t n ps=lz C ⟨nt,tm,sg,kl⟩ t n ps:=by simp only[lz,hps]
  cases dst with
  |none=>simp only[oh,hb] at he⊢;exact he
  |some d=>
    simp only[oh] at he⊢;cases hd:C.lits d with
    |false=>rw[hd] at he;simp only[cond_false,hb] at he⊢;exact he
    |true=>rw[hd] at he;exact hno (Vg e he)
 case load t x=>
  unfold po at he⊢;simp only[mL] at he⊢;rw[hev];cases hv:AS.ev C ⟨nt,tm,sg,kl⟩ x<;>rw[hv] at he<;>try exact he
  . rename_i i off;have hi:i∈e.rd:=by
     refine(?_:aa (fun e:Ef=>i∈e.rd) _) e he;split
     . exact aa.fail
     . simp only;split
       . refine aa.bind (mT _ _ _ _) fun v _=>?_;rw[force_eq];exact aa.ret (by simp)
       . exact aa.fail
    simp only[hr i hi];exact he
  . rename_i i idx off;have hi:i∈e.rd:=by
     refine(?_:aa (fun e:Ef=>i∈e.rd) _) e he;split
     . exact aa.fail
     . simp only;split
       . refine aa.opt fun _ _=>aa.when fun _=>aa.bind (mT _ _ _ _) fun v _=>?_;rw[force_eq];exact aa.ret (by simp)
       . exact aa.fail
    simp only[hr i hi];exact he
 case store t x y=>exact hno (Vl e he)
 case nilCheck x=>exact he
 case sliceToArrayPointer t x=>exact he
 case binOp b t x y u=>exact he
 case unOp b t x=>exact he
 case convert a b x=>
  rw[hev];have hmk:(lA C ⟨nt,tm,sg,kl⟩ a b (AS.ev C ⟨nt,tm,sg,kl⟩ x) (fun b=>b=e)->lA C ⟨nt,tm,sg',kl⟩ a b (AS.ev C ⟨nt,tm,sg,kl⟩ x) (fun b=>b=e))->pq C ⟨nt,tm,sg',kl⟩ a b (AS.ev C ⟨nt,tm,sg,kl⟩ x) (fun b=>b=e):=fun hk=>by
   unfold pq at he⊢;cases hv:AS.ev C ⟨nt,tm,sg,kl⟩ x<;>rw[hv] at he hk<;>try exact hk he
   rename_i i;simp only at he⊢;cases hb:Nat.beq a b with
   |false=>rw[hb] at he;exact hk he
   |true=>
     rw[hb] at he;refine hno ((?_:aa (fun e:Ef=>quiet e=false) _) e he);simp only[cond_true];split
     . split
       . split
         . exact aa.ret rfl
         . exact aa.fail
       . exact aa.fail
     . exact aa.fail
  refine hmk fun he=>?_;have hc:∀v,elems ⟨nt,tm,sg',kl⟩ v=elems ⟨nt,tm,sg,kl⟩ v->lA C ⟨nt,tm,sg',kl⟩ a b v=lA C ⟨nt,tm,sg,kl⟩ a b v:=fun v hel=>by
   unfold lA;repeat'(first
    |rfl
    |(simp only[hel];done)
    |split)
  generalize AS.ev C ⟨nt,tm,sg,kl⟩ x=v at he⊢;rw[hc v (I6 fun i hv=>?_)]
  . exact he
  subst hv;refine hr i ?_;refine(?_:aa (fun e:Ef=>i∈e.rd) _) e he;unfold lA;split<;>first
   |exact aa.fail
   |contradiction
   |skip
  split
  . exact aa.fail
  . refine aa.bind (kR _ _) fun r hr'=>?_;have:=OX r (hr' _ rfl) i rfl;obtain⟨sz,l,rd⟩:=r;simp only at this;subst this;exact aa.when fun _=>aa.ex fun _=>aa.aR fun _=>aa.ret (by simp)
  . exact aa.fail
 case makeInterface t x=>exact he
 case makeFunc fn a b=>rw[hevs,hevs];exact he
 case makeSlice t x y=>exact hno (Vi e he)
 case slice t x lo hi mx=>
  cases hV:yk C dst with
  |true=>
    rw[hV] at he;simp only[cond_true] at he⊢;unfold pw at he⊢;simp only[hev] at he⊢;generalize AS.ev C ⟨nt,tm,sg,kl⟩ x=v at he⊢;by_cases hv:∃i,v=.buf i
    . obtain⟨i,rfl⟩:=hv;have hi':i∈e.rd:=by
       refine(?_:aa (fun e:Ef=>i∈e.rd) _) e he;split<;>first
        |exact aa.fail
        |contradiction
        |skip
       rename_i h;cases h;split
       . exact aa.fail
       . split
         . split
           . split
             . exact aa.when fun _=>aa.aR fun _=>aa.ret (by simp)
             . exact aa.fail
           . exact aa.fail
         . exact aa.fail
      generalize (C.ti t).k=k at he⊢;cases k<;>cases hi<;>cases mx<;>first
       |exact he
       |(simp only[hr i hi'];exact he)
    . cases v<;>first
        |exact absurd ⟨_,rfl⟩ hv
        |skip
      all_goals (generalize (C.ti t).k=k at he⊢;cases k<;>cases hi<;>cases mx<;>exact he)
  |false=>
    rw[hV] at he;simp only[cond_false] at he⊢;unfold pr at he⊢;rw[hev];simp only[hrg,hev] at he⊢;generalize AS.ev C ⟨nt,tm,sg,kl⟩ x=v at he⊢;by_cases hv:∃i,v=.buf i
    . obtain⟨i,rfl⟩:=hv;refine hno ((?_:aa (fun e:Ef=>quiet e=false) _) e he);split<;>first
       |exact aa.fail
       |contradiction
       |skip
      all_goals
       split
       . exact aa.fail
       . split
         . split
           . exact aa.when fun _=>aa.aR fun _=>aa.ret rfl
           . exact aa.fail
         . exact aa.fail
    . by_cases hp:∃i a,v=.ptr i a
      . obtain⟨i,a,rfl⟩:=hp;refine hno ((?_:aa (fun e:Ef=>quiet e=false) _) e he);split<;>first
         |exact aa.fail
         |contradiction
         |skip
        split
        . exact aa.fail
        . split
          . exact aa.when fun _=>aa.opt fun _ _=>aa.bind (ot _ _ _ _ _) fun _ _=>by rw[sC];exact aa.ret rfl
          . exact aa.fail
      cases v<;>first
       |exact absurd ⟨_,rfl⟩ hv
       |exact absurd ⟨_,_,rfl⟩ hp
       |skip
      all_goals (generalize (C.ti t).k=k at he⊢;cases k<;>cases mx<;>exact he)
 case fieldAddr t x f=>exact he
 case field t x f=>exact he
 case indexAddr t x y=>
  unfold sW at he⊢;simp only[mL] at he⊢;rw[hev,hev];generalize AS.ev C ⟨nt,tm,sg,kl⟩ x=v at he⊢;generalize AS.ev C ⟨nt,tm,sg,kl⟩ y=u at he⊢;by_cases hv:∃i,v=.buf i
  . obtain⟨i,rfl⟩:=hv;have hi:i∈e.rd:=by
     refine(?_:aa (fun e:Ef=>i∈e.rd) _) e he;split<;>first
      |exact aa.fail
      |contradiction
      |skip
     rename_i h;cases h;split
     . exact aa.fail
     . split
       . exact aa.when fun _=>aa.aR fun _=>aa.ret (by simp)
       . exact aa.fail
    generalize (C.ti t).k=k at he⊢;cases k<;>cases u<;>simp only[hr i hi]<;>exact he
  . cases v<;>first
      |exact absurd ⟨_,rfl⟩ hv
      |skip
    all_goals (generalize (C.ti t).k=k at he⊢;cases k<;>cases u<;>exact he)
 case index t x y=>exact he
 case typeAssert x _ t ok=>exact he
 case extract x i=>exact he
 case range t x=>exact hno (Ve e he)
 case makeMap t r=>cases r with
  |none=>exact hno (Vh e he)
  |some r=>exact he
 case mapUpdate t m x y=>exact hno (Vk e he)
 case mapEntry t m x=>exact hno (Vj e he)
 case entryStore t m b y=>exact hno (Vd e he)
 case lookup t m x ok=>
  unfold mI gI at he⊢;rw[hev,hev];obtain⟨p,hp,he⟩:=tT.1 he;refine tT.2 ⟨p,hp,?_⟩;generalize AS.ev C ⟨nt,tm,sg,kl⟩ m=v at he⊢;cases v<;>try exact he
  rename_i i;have hi:i∈e.rd:=by
   refine(?_:aa (fun e:Ef=>i∈e.rd) _) e he;simp only;split
   . rw[force_eq];refine aa.when fun _=>aa.when fun _=>?_;split
     . exact aa.fW (fun _ _=>aa.ret (by simp)) (fun _=>aa.ret (by simp))
     . exact aa.ret (by simp)
   . exact aa.fail
  simp only[hr i hi];exact he
 case entry x=>
  unfold sV at he⊢;simp only[mL] at he⊢;rw[hev];generalize AS.ev C ⟨nt,tm,sg,kl⟩ x=v at he⊢;cases v<;>try exact he
  rename_i k off;cases off with
  |succ off=>exact he
  |zero=>
    have hk:k∈e.rd/\∀i bs ck left last,aH sg k=.miter (.map i) bs ck left last->i∈e.rd:=by
     refine(?_:aa (fun e:Ef=>k∈e.rd/\∀i bs ck left last,aH sg k=.miter (.map i) bs ck left last->i∈e.rd) _) e he;simp only;split
     . rename_i i bs ck left last hs;split
       . refine aa.aR fun _=>aa.opt fun _ _=>aa.ret ⟨by simp,fun i' bs' ck' left' last' h'=>?_⟩;rw[hs] at h';injection h' with h' _
         injection h' with h'
         subst h';simp
       . exact aa.fail
     . exact aa.fail
    simp only[hr k hk.1];have hk2:=hk.2;simp only at he;generalize aH sg k=ob at he hk2⊢;cases ob<;>try exact he
    rename_i m bs ck left last;cases m<;>try exact he
    rename_i i;simp only[hr i (hk2 i bs ck left last rfl)];exact he
 case next x b=>
  unfold sY at he⊢;rw[hev];cases hv:AS.ev C ⟨nt,tm,sg,kl⟩ x<;>rw[hv] at he<;>try exact he
  rename_i i off;cases off with
  |succ off=>cases b<;>exact he
  |zero=>cases b with
    |false=>exact he
    |true=>
      have hi:i∈e.rd:=by
       refine(?_:aa (fun e:Ef=>i∈e.rd) _) e he;simp only;split
       . exact aa.dS (fun _=>aa.opt fun _ _=>aa.aR fun _=>aa.ret (by simp)) (fun _=>aa.ret (by simp))
       . exact aa.fail
      simp only[hr i hi];exact he
 case call c=>
  unfold qD at he⊢;have htg:target C ⟨nt,tm,sg',kl⟩ c=target C ⟨nt,tm,sg,kl⟩ c:=MX fun _ _=>rfl;rw[htg];generalize hcal:c.callee=cal at he⊢;cases cal
  . --a function's value
    obtain⟨p,hp,hc⟩:∃p,target C ⟨nt,tm,sg,kl⟩ c=some p/\kK (gU C sg p.1 p.2) (fun b=>b=e):=by
     cases ht:target C ⟨nt,tm,sg,kl⟩ c with
     |none=>rw[ht] at he;exact he.elim
     |some p=>rw[ht] at he;exact⟨p,rfl,he⟩
    obtain⟨pre,h1,h2⟩:=Hs hc;rw[hp];exact Hr (Il h1 hq hr) h2
  . rename_i r m;simp only at he⊢;rw[hev,hevs];generalize AS.ev C ⟨nt,tm,sg,kl⟩ r=v at he⊢;cases v<;>try exact he
    obtain⟨f,hm,hc⟩:=he;obtain⟨pre,h1,h2⟩:=Hs hc;exact⟨f,hm,Hr (Il h1 hq hr) h2⟩
  . rename_i b;simp only at he⊢;rw[hevs];rw[tp] at he⊢;generalize AS.aG C ⟨nt,tm,sg,kl⟩ c.args.toList=xs at he⊢;generalize c.argTypes.toList=ts at he⊢;have hbt:aa (fun e'=>quiet e'=true->(∀r∈e'.rd,aH sg' r=aH sg r)->mH C ⟨nt,tm,sg',kl⟩ b ts xs (fun b=>b=e')) (mH C ⟨nt,tm,sg,kl⟩ b ts xs):=by
     unfold mH;split
     . rename_i t x;intro e he hq hr;generalize (C.ti t).k=k at he⊢;cases k<;>try exact he
       cases x<;>try exact he
       rename_i i _;have hi:i∈e.rd:=by
        refine(?_:aa (fun e:Ef=>i∈e.rd) _) e he;simp only;split
        . exact aa.ret (by simp)
        . exact aa.fail
       simp only[hr i hi];exact he
     . rename_i t t2 x y;refine fun e he hq _=>(?_:∀{p:Prop},quiet e=false->p) ((?_:aa (fun e:Ef=>quiet e=false) _) e he)
       . intro p h;rw[h] at hq;cases hq
       split
       . exact aa.fail
       . exact aa.fail
       . split
         . exact aa.fail
         . exact aa.when fun _=>aa.bind (kR _ _) fun r _=>aa.when fun _=>Va
       . exact aa.fail
     . rename_i t t2 x y;refine fun e he hq _=>(?_:∀{p:Prop},quiet e=false->p) ((?_:aa (fun e:Ef=>quiet e=false) _) e he)
       . intro p h;rw[h] at hq;cases hq
       split
       . split
         . exact aa.fail
         . split
           . exact aa.bind (kR _ _) fun r _=>aa.when fun _=>aa.ret rfl
           . exact aa.fail
       . split
         . exact aa.fail
         . split
           . exact aa.bind (kR _ _) fun r _=>aa.when fun _=>aa.opt fun _ _=>aa.ret rfl
           . exact aa.bind (kR _ _) fun r _=>aa.when fun _=>aa.ex fun _=>aa.aR fun _=>aa.ret rfl
           . exact aa.fail
       . exact aa.fail
     . exact fun e he hq _=>absurd hq (by rw[Vc e he];exact Bool.false_ne_true)
     . exact fun e he _ _=>he
     . exact fun e he _ _=>he
     . exact fun e he _ _=>he
    exact hbt e he hq hr
 all_goals exact he

theorem Pd(h:∀x∈jR o.op,s'.ev C x=s.ev C x) (he:cJ C s o (fun b=>b=e)) (hq:quiet e=true) (hr:∀r∈e.rd,aH s'.sg r=aH s.sg r):cJ C s' o (fun b=>b=e):=by
 obtain⟨nt,tm,sg,kl⟩:=s;obtain⟨nt',tm',sg',kl'⟩:=s';have h1:cJ C ⟨nt',tm',sg,kl'⟩ o (fun b=>b=e):=by
  rw[BJ (s':=⟨nt',tm',sg,kl'⟩) (s:=⟨nt,tm,sg,kl⟩) (fun x hx=>h x hx) rfl];exact he
 exact Pe h1 hq hr
end
end Go.VG
namespace Go.VG
open Go

mutual
theorem tF{ks:List Nat}:∀{x:V},x.free ks=true->x.kill ks=x
 |.undef,_|.int ..,_|.bool _,_|.str _,_|.nilptr,_|.nilIface,_|.nilFunc,_|.nilmap,_|.list ..,_|.box ..,_=>by simp[V.kill]
 |.ptr i _,h|.bptr i _ _,h|.view i _ _,h|.buf i,h|.map i,h=>by
   simp only[V.free,Bool.not_eq_true'] at h;simp[V.kill,h]
 |.agg cs,h|.tuple cs,h=>by simp[V.kill,vU (by simpa[V.free] using h)]
 |.iface t x,h=>by simp[V.kill,tF (by simpa[V.free] using h)]
 |.func fn fs cs,h=>by
   simp only[V.free,aA] at h;simp[V.kill,vU h.1,vU h.2]
theorem vU{ks:List Nat}:∀{x:List V},V.nq ks x=true->V.dH ks x=x
 |[],_=>by simp[V.dH]
 |c::cs,h=>by
   simp only[V.nq,aA] at h;simp[V.dH,tF h.1,vU h.2]
end
mutual
theorem yE{ks:List Nat}:∀{x:V},(x.kill ks).oN=true->x.kill ks=x
 |.undef,_|.int ..,_|.bool _,_|.str _,_|.nilptr,_|.nilIface,_|.nilFunc,_|.nilmap,_|.list ..,_|.box ..,_=>by simp[V.kill]
 |.ptr i _,h|.bptr i _ _,h|.view i _ _,h|.buf i,h|.map i,h=>by
   cases hm:aQ i ks with
   |true=>simp[V.kill,hm,V.oN] at h
   |false=>simp[V.kill,hm]
 |.agg cs,h|.tuple cs,h=>by
   simp only[V.kill,V.oN] at h;simp[V.kill,vW h]
 |.iface t x,h=>by
   simp only[V.kill,V.oN] at h;simp[V.kill,yE h]
 |.func fn fs cs,h=>by
   simp only[V.kill,V.oN,aA] at h;simp[V.kill,vW h.1,vW h.2]
theorem vW{ks:List Nat}:∀{x:List V},V.nP (V.dH ks x) =true->V.dH ks x=x
 |[],_=>by simp[V.dH]
 |c::cs,h=>by
   simp only[V.dH,V.nP,aA] at h;simp[V.dH,yE h.1,vW h.2]
end

theorem vG:∀(sg:List O) (i:Nat),aH sg i=sg.getD i .dead
 |[],i=>by simp[aH]
 |o::os,0=>by simp[aH]
 |o::os,i+1=>by simp[aH,vG os i]

theorem Ba:∀{up:List (Nat×O)} {rd:List Nat},uV up rd=true->∀p∈up,p.1∉rd
 |[],_,_,p,h=>by simp at h
 |(i,o)::r,rd,h,p,hp=>by
   simp only[uV,aA,Bool.not_eq_true'] at h;rcases List.mem_cons.1 hp with rfl|hp
   . exact rv.1 h.1
   . exact Ba h.2 p hp
theorem B3:∀{l:List Nat} {n:Nat},uU l n=true->∀i∈l,i<n
 |[],_,_,i,h=>by simp at h
 |k::ks,n,h,i,hi=>by
   simp only[uU,aA] at h;rcases List.mem_cons.1 hi with rfl|hi
   . exact d9 h.1
   . exact B3 h.2 i hi
theorem Ng:∀{up:List (Nat×O)} {sg:List O} {r:Nat},(∀p∈up,p.1≠r)->(dk sg up)[r]?=sg[r]?
 |[],sg,r,_=>rfl
 |(i,o)::up,sg,r,h=>by
   simp only[dk];rw[Ng fun p hp=>h p (d8 _ hp),jg,List.getElem?_set_ne (h (i,o) (by simp))]

structure iy(s t:AS):Prop where
 nt:s.nt=t.nt
 tm:∀u,lk s.tm u=lk t.tm u
 sg:s.sg=t.sg
 kl:∀i,aQ i s.kl=true↔aQ i t.kl=true
theorem iy.refl(s:AS):iy s s:=⟨rfl,fun _=>rfl,rfl,fun _=>Iff.rfl⟩
theorem iy.symm{s t:AS} (h:iy s t):iy t s:=⟨h.nt.symm,fun u=>(h.tm u).symm,h.sg.symm,fun i=>(h.kl i).symm⟩
theorem iy.trans{s t u:AS} (h:iy s t) (k:iy t u):iy s u:=⟨h.nt.trans k.nt,fun x=>(h.tm x).trans (k.tm x),h.sg.trans k.sg,fun i=>(h.kl i).trans (k.kl i)⟩

theorem jJ(s:AS) (d:Option Nat) (e:Ef) (t:Nat):lk (s.app d e).tm t=if d=some t then e.v else(lk s.tm t).kill e.ks:=by
 cases d with
 |none=>simp only[AS.app];rw[oB];simp
 |some d=>
   simp only[AS.app,lk];rw[oB];by_cases h:d=t
   . subst h;simp
   . have:Nat.beq d t=false:=by
       cases hb:Nat.beq d t with
       |false=>rfl
       |true=>exact absurd (cb hb) h
     simp[this,h]
theorem kG(s:AS) (d:Option Nat) (e:Ef):(s.app d e).sg=jC (dk (gY e.ks s.sg) e.up) e.nw:=rfl
theorem j8{s:AS} {d:Option Nat} {e:Ef} (h:quiet e=true):(s.app d e).sg=s.sg:=by
 obtain⟨h1,h2,h3⟩:=pV.1 h;rw[kG,h1,h2,h3];rfl
theorem iy.app{s t:AS} (h:iy s t) (d:Option Nat) (e:Ef):iy (s.app d e) (t.app d e):=by
 refine⟨h.nt,fun u=>?_,?_,fun i=>?_⟩
 . rw[jJ,jJ,h.tm]
 . rw[kG,kG,h.sg]
 . simp only[AS.app,lv,h.kl]
theorem ya{s:AS} {d:Option Nat} {e:Ef} {r:Nat} (hr:r<s.sg.length) (hu:∀p∈e.up,p.1≠r):aH (s.app d e).sg r=(aH s.sg r).kill e.ks:=by
 rw[vG,vG,kG,xB,ac,ac,d6 (by rw[pO,rf];simpa using hr),Ng hu,rf,
  List.getElem?_map,am hr]
 rfl

section
variable {C:Ctx} {ops:List Oper}

structure fu(C:Ctx) (ops:List Oper) (o:Oper) (s:AS) (r:Rc):Prop where
 ef:stepT C ops s o (fun b=>b=r.e)
 d:r.d=o.dst
 us:r.us=looks ops o
 ov:r.ov=s.aG C (jR o.op)
 oo:(lG o).1=1\/r.oo=m9 s.sg r.e.rd
 lu:r.lu=lG o
 n:quiet r.e=false->r.n=s.sg.length
 dok:dU s o.dst=true

theorem Ga:∀{l:List Operand} {t:Nat},Operand.tmp t∈l->t∈tmpsOf l
 |[],_,h=>by simp at h
 |x::xs,t,h=>by
   rcases List.mem_cons.1 h with h|h
   . subst h;simp[tmpsOf]
   . have:=Ga h;cases x<;>simp[tmpsOf,this]
theorem Is{s s':AS} {x:Operand} (h:∀t,x=.tmp t->lk s'.tm t=lk s.tm t):s'.ev C x=s.ev C x:=by
 cases x with
 |tmp t=>exact h t rfl
 |_=>rfl
theorem IZ{sg sg':List O}:∀{l:List Nat},(∀r∈l,aH sg' r=aH sg r)->m9 sg' l=m9 sg l
 |[],_=>rfl
 |r::rs,h=>by simp only[m9,h r (by simp),IZ (l:=rs) fun x hx=>h x (d8 _ hx)]

theorem Yk{s s':AS} {o:Oper} {e:Ef} (hg:∀t∈tw ops o.guard,lk s'.tm t=lk s.tm t) (ho:cJ C s o (fun b=>b=e)->cJ C s' o (fun b=>b=e)) (h:stepT C ops s o (fun b=>b=e)):stepT C ops s' o (fun b=>b=e):=by
 unfold stepT at h⊢;cases hgd:o.guard with
 |none=>rw[hgd] at h;exact ho h
 |some p=>
   obtain⟨j,want⟩:=p;rw[hgd] at h hg;simp only at h⊢;cases hd:cN ops j with
   |none=>rw[hd] at h;exact h
   |some t=>
     rw[hd] at h;simp only at h⊢;rw[hg t (by simp[tw,hd])];generalize lk s.tm t=v at h⊢;cases v<;>try exact h
     rotate_left
     . rename_i l;cases l with
       |nil=>exact h
       |cons _ _=>exact h
     rename_i b;cases want<;>cases b<;>simp only[cond_true,cond_false,mF,dS] at h⊢<;>first
      |exact h
      |exact ho h

theorem MI{s:AS} {o:Oper} {e:Ef} (h:stepT C ops s o (fun b=>b=e)):∀t∈tw ops o.guard,(∃b,lk s.tm t=.bool b)\/lk s.tm t=.tuple []:=by
 intro t ht;unfold stepT at h;cases hgd:o.guard with
 |none=>rw[hgd] at ht;simp[tw] at ht
 |some p=>
   obtain⟨j,want⟩:=p;rw[hgd] at h ht;simp only[tw] at ht;simp only at h;cases hd:cN ops j with
   |none=>rw[hd] at ht;simp at ht
   |some t'=>
     rw[hd] at ht h;simp only[List.mem_singleton] at ht;subst ht;simp only at h;generalize lk s.tm t=v at h;cases v<;>first
      |exact .inl ⟨_,rfl⟩
      |exact h.elim
      |(rename_i l;cases l with
         |nil=>exact .inr rfl
         |cons _ _=>exact h.elim)

theorem fu.loc{s s':AS} {o:Oper} {r:Rc} (h:fu C ops o s r) (hnt:s'.nt=s.nt) (hl:∀t∈looks ops o,lk s'.tm t=lk s.tm t) (hsg:s'.sg=s.sg\/(quiet r.e=true/\∀i∈r.e.rd,aH s'.sg i=aH s.sg i)):
   fu C ops o s' r:=by
 have hev:∀x∈jR o.op,s'.ev C x=s.ev C x:=fun x hx=>Is fun t ht=>hl t (List.mem_append_left _ (Ga (ht▸hx)));refine⟨?_,h.d,h.us,?_,?_,h.lu,fun hq=>?_,?_⟩
 . refine Yk (fun t ht=>hl t (List.mem_append_right _ ht)) (fun he=>?_) h.ef;rcases hsg with hsg|⟨hq,hr⟩
   . rw[BJ hev hsg];exact he
   . exact Pd hev he hq hr
 . rw[h.ov,np hev]
 . refine h.oo.imp id fun hoo=>?_;rw[hoo];rcases hsg with hsg|⟨_,hr⟩
   . rw[hsg]
   . exact(IZ hr).symm
 . rcases hsg with hsg|⟨hq',_⟩
   . rw[hsg];exact h.n hq
   . rw[hq'] at hq;cases hq
 . have:=h.dok;cases hd:o.dst with
   |none=>rfl
   |some d=>rw[hd] at this;simp only[dU] at this⊢;rw[hnt];exact this

theorem fu.eqv{s s':AS} {o:Oper} {r:Rc} (h:fu C ops o s r) (e:iy s s'):fu C ops o s' r:=
 h.loc e.nt.symm (fun t _=>(e.tm t).symm) (.inl e.sg.symm)

theorem IP{ks:List Nat}:∀{l:List V},V.nq ks l=true->∀x∈l,x.free ks=true
 |[],_,x,h=>by simp at h
 |c::cs,h,x,hx=>by
   simp only[V.nq,aA] at h;rcases List.mem_cons.1 hx with rfl|hx
   . exact h.1
   . exact IP h.2 x hx
theorem MF:∀{l:List V},V.nP l=true->∀x∈l,x.oN=true
 |[],_,x,h=>by simp at h
 |c::cs,h,x,hx=>by
   simp only[V.nP,aA] at h;rcases List.mem_cons.1 hx with rfl|hx
   . exact h.1
   . exact MF h.2 x hx
theorem BL{s:AS}:∀{l:List Operand} {x:Operand},x∈l->s.ev C x∈s.aG C l
 |[],_,h=>by simp at h
 |y::ys,x,h=>by
   rcases List.mem_cons.1 h with rfl|h
   . simp[AS.aG]
   . simp only[AS.aG,List.mem_cons];exact .inr (BL h)
theorem IQ{ks:List Nat} {sg:List O}:∀{l:List Nat},pD ks (m9 sg l) =true->∀i∈l,(aH sg i).kill ks=aH sg i
 |[],_,i,h=>by simp at h
 |k::l,h,i,hi=>by
   simp only[m9] at h;have hrest:pD ks (m9 sg l) =true:=by
    cases ho:aH sg k<;>rw[ho] at h<;>simp only[pD,aA] at h<;>first|exact h|exact h.2
   rcases List.mem_cons.1 hi with rfl|hi
   . cases ho:aH sg i<;>try rfl
     all_goals
      rw[ho] at h;simp only[pD,aA] at h;first
      |(simp only[O.kill,vU h.1];done)
      |(simp only[O.kill,tF h.1];done)
   . exact IQ hrest i hi
theorem MG{ks:List Nat} {sg sg':List O}:∀{l:List Nat},qa (m9 sg' l) =true->∀i∈l,aH sg' i=(aH sg i).kill ks->aH sg' i=aH sg i
 |[],_,i,h,_=>by simp at h
 |k::l,h,i,hi,he=>by
   simp only[m9] at h;have hrest:qa (m9 sg' l) =true:=by
    cases ho:aH sg' k<;>rw[ho] at h<;>simp only[qa,aA] at h<;>first|exact h|exact h.2|cases h
   rcases List.mem_cons.1 hi with rfl|hi
   . cases ho:aH sg i<;>rw[ho] at he<;>try exact he
     all_goals
      simp only[O.kill] at he;rw[he] at h;simp only[qa,aA] at h;first
      |(rw[he,vW h.1];done)
      |(rw[he,yE h.1];done)
   . exact MG hrest i hi he

theorem BC{d:Option Nat} {us:List Nat} (h:ve d us=true) {t:Nat} (ht:t∈us):d≠some t:=by
 intro e;subst e;simp only[ve,Bool.not_eq_true'] at h;exact rv.1 h ht

theorem Ia:∀{a b:List Nat},xT a b=true->a=b
 |[],[],_=>rfl
 |x::xs,y::ys,h=>by
   simp only[xT,aA] at h;rw[cb h.1,Ia h.2]
 |[],_::_,h=>by cases h
 |_::_,[],h=>by cases h
theorem L2{o:Oper} (h:(lG o).1=1):∃t m x,o.guard=none/\o.op=.lookup t (.tmp m) (.tmp x) false/\lG o=(1,[t,m,x]):=by
 unfold lG at h⊢;split at h<;>first
  |(rename_i t m x hg ho;exact⟨t,m,x,hg,ho,rfl⟩)
  |(cases h;done)
theorem Vm{o:Oper} (h:(lG o).1=2):∃t m x,o.guard=none/\o.op=.mapEntry t (.tmp m) (.tmp x)/\lG o=(2,[t,m,x]):=by
 unfold lG at h⊢;split at h<;>first
  |(rename_i t m x hg ho;exact⟨t,m,x,hg,ho,rfl⟩)
  |(cases h;done)
theorem IG{es:List (V×Int)} {x y:V} {q:Int} (h:bN es x=none):bN (es++[(y,q)]) x=cond (kZ y x) (some (es.length,q)) none:=by
 induction es with
 |nil=>simp only[List.nil_append,bN];cases kZ y x<;>rfl
 |cons p es ih=>
   obtain⟨z,r⟩:=p;simp only[List.cons_append,bN] at h⊢;cases hz:kZ z x with
   |true=>rw[hz] at h;simp at h
   |false=>
     rw[hz] at h;simp only[cond_false] at h⊢;have hn:bN es x=none:=by
      cases he:bN es x with
      |none=>rfl
      |some p=>rw[he] at h;cases h
     rw[ih hn];cases kZ y x<;>simp
theorem S5{es:List (V×Int)} {x y:V} (h:bN es x=none):getM (es++[(y,0)]) x=getM es x:=by
 unfold getM;rw[IG h,h];cases kZ y x<;>rfl
theorem S6{sg:List O} {i:Nat} {o:O} (h:i<sg.length):aH (fZ sg i o) i=o:=by
 have:∀(sg:List O) (i:Nat),i<sg.length->aH (fZ sg i o) i=o:=by
  intro sg
  induction sg with
  |nil=>intro i h;simp at h
  |cons a r ih=>
    intro i h;cases i with
    |zero=>rfl
    |succ i=>exact ih i (by simpa using h)
 exact this sg i h
theorem fu.look{s:AS} {o:Oper} {r:Rc} (h:fu C ops o s r) (hl:(lG o).1=1):quiet r.e=true/\∀i∈r.e.rd,∃ag sh es bs ck,aH s.sg i=.map ag sh es bs ck:=by
 obtain⟨t,m,x,hg,ho,_⟩:=L2 hl;have ef:mI C s t (.tmp m) (.tmp x) false (fun b=>b=r.e):=by
  have:=h.ef;unfold stepT at this;rw[hg] at this;simp only[cJ,ho] at this;exact this
 unfold mI gI at ef;obtain⟨p,hp,ef⟩:=tT.1 ef;cases hm:AS.ev C s (.tmp m)<;>rw[hm] at ef<;>try exact ef.elim
 rename_i i;simp only at ef;cases hs:aH s.sg i<;>rw[hs] at ef<;>try exact ef.elim
 rename_i ag sh es bs ck;simp only[force_eq] at ef;cases hw:(xF ag p.1&&uf sh p.2) with
 |false=>rw[hw] at ef;exact ef.elim
 |true=>
   cases hf:kU ag sh (AS.ev C s (.tmp x)) with
   |false=>rw[hw,hf] at ef;exact ef.elim
   |true=>
     rw[hw,hf] at ef;have ef:(⟨.int .i64 (getM es (AS.ev C s (.tmp x))),[],[],[],[i]⟩:Ef) =r.e:=ef;rw[<-ef];refine⟨rfl,fun k hk=>?_⟩;simp at hk;subst hk;exact⟨_,_,_,_,_,hs⟩
theorem fu.pair{s:AS} {oj oi:Oper} {rj ri:Rc} (hj:fu C ops oj s rj) (hi:fu C ops oi s ri) (h:wu rj ri=true) (a2:ve oi.dst (looks ops oj) =true):quiet rj.e=true/\ri.e.ks=[]/\fu C ops oj (s.app oi.dst ri.e) rj:=by
 unfold wu at h;simp only[aA] at h;rw[hj.lu,hi.lu] at h;obtain⟨l1,l2,l3⟩:=h;obtain⟨t,m,x,hgj,hoj,ej⟩:=L2 (cb l1);obtain⟨t',m',x',hgi,hoi,ei⟩:=Vm (cb l2);rw[ej,ei] at l3;have l3:=Ia l3;simp only[List.cons.injEq,and_true] at l3;obtain⟨rfl,rfl,rfl⟩:=l3;have efj:mI C s t (.tmp m) (.tmp x) false (fun b=>b=rj.e):=by
  have:=hj.ef;unfold stepT at this;rw[hgj] at this;simp only[cJ,hoj] at this;exact this
 have efi:oq C s t (.tmp m) (.tmp x) (fun b=>b=ri.e):=by
  have:=hi.ef;unfold stepT at this;rw[hgi] at this;simp only[cJ,hoi] at this;exact this
 unfold mI gI at efj;obtain⟨p,hp,efj⟩:=tT.1 efj;unfold oq gI at efi;obtain⟨p',hp',efi⟩:=tT.1 efi;rw[hp] at hp';cases hp';have hlm:Operand.tmp m∈jR oj.op:=by rw[hoj];simp[jR]
 have hlx:Operand.tmp x∈jR oj.op:=by rw[hoj];simp[jR]
 cases hm:AS.ev C s (.tmp m)<;>rw[hm] at efj efi<;>try exact efj.elim
 rename_i i;simp only at efj efi;cases hs:aH s.sg i<;>rw[hs] at efj efi<;>try exact efj.elim
 rename_i ag sh es bs ck;simp only[force_eq] at efj efi;have hil:i<s.sg.length:=(eU hs (by simp)).2;cases hw:(xF ag p.1&&uf sh p.2) with
 |false=>rw[hw] at efj;exact efj.elim
 |true=>
   cases hf:kU ag sh (AS.ev C s (.tmp x)) with
   |false=>rw[hw,hf] at efj;exact efj.elim
   |true=>
     rw[hw,hf] at efj efi;have efj:(⟨.int .i64 (getM es (AS.ev C s (.tmp x))),[],[],[],[i]⟩:Ef) =rj.e:=efj;have hri:∃v es' bs' ck',ri.e=⟨v,[],[(i,.map ag sh es' bs' ck')],[],[i]⟩/\getM es' (AS.ev C s (.tmp x)) =getM es (AS.ev C s (.tmp x)):=by
      obtain⟨_,k1,k2⟩:=efi;cases hfd:bN es (AS.ev C s (.tmp x)) with
      |some r=>
        have:=k1 r hfd;exact⟨_,_,_,_,(show _=ri.e from this).symm,rfl⟩
      |none=>
        have:=k2 hfd;exact⟨_,_,_,_,(show _=ri.e from this).symm,S5 hfd⟩
     obtain⟨v,es',bs',ck',hri,hget⟩:=hri;have hks:ri.e.ks=[]:=by rw[hri]
     have hlk:∀u∈looks ops oj,lk (s.app oi.dst ri.e).tm u=lk s.tm u:=fun u hu=>by
      rw[jJ,if_neg (BC a2 hu),hks,iW]
     have hev:∀y∈jR oj.op,(s.app oi.dst ri.e).ev C y=s.ev C y:=fun y hy=>Is fun u hu=>hlk u (List.mem_append_left _ (Ga (hu▸hy)));refine⟨by rw[<-efj];rfl,hks,?_⟩;have hsg:(s.app oi.dst ri.e).sg=fZ s.sg i (.map ag sh es' bs' ck'):=by
      rw[hri];simp[AS.app,gY,dk,jC]
     refine⟨?_,hj.d,hj.us,?_,.inl (cb l1),hj.lu,fun hq=>?_,?_⟩
     . unfold stepT;rw[hgj];simp only[cJ,hoj];unfold mI gI;refine tT.2 ⟨p,hp,?_⟩;rw[hev _ hlm,hm];simp only;rw[hsg,S6 hil];simp only[force_eq];rw[hev _ hlx,hw,hf];show(⟨.int .i64 (getM es' (AS.ev C s (.tmp x))),[],[],[],[i]⟩:Ef) =rj.e;rw[hget];exact efj
     . rw[hj.ov,np hev]
     . rw[<-efj] at hq;cases hq
     . have:=hj.dok;cases hd:oj.dst with
       |none=>rfl
       |some d=>rw[hd] at this;simp only[dU] at this⊢;exact this
theorem Vn{o:Oper} (h:(lG o).1=3):o.guard=none/\∃t,o.op=.alloc t:=by
 unfold lG at h;split at h
 . cases h
 . cases h
 . rename_i h1 h2;exact⟨h1,_,h2⟩
 . cases h
mutual
theorem yD(a b:List Nat):∀x:V,(x.kill a).kill b=(x.kill b).kill a
 |.undef|.int .. |.bool _|.str _|.list .. |.nilptr|.box .. |.nilIface|.nilFunc|.nilmap=>by simp only[V.kill]
 |.ptr i _|.bptr i _ _|.view i _ _|.buf i|.map i=>by
   simp only[V.kill];cases h1:aQ i a<;>cases h2:aQ i b<;>simp[V.kill,h1,h2]
 |.agg cs|.tuple cs=>by simp only[V.kill];rw[vS a b cs]
 |.iface t x=>by simp only[V.kill];rw[yD a b x]
 |.func f xs ys=>by simp only[V.kill];rw[vS a b xs,vS a b ys]
theorem vS(a b:List Nat):∀l:List V,V.dH b (V.dH a l) =V.dH a (V.dH b l)
 |[]=>by simp only[V.dH]
 |x::xs=>by simp only[V.dH];rw[yD a b x,vS a b xs]
end
theorem VM(a b:List Nat) (o:O):(o.kill a).kill b=(o.kill b).kill a:=by
 cases o<;>simp only[O.kill]
 . rw[vS]
 . rw[yD]
mutual
theorem Kv(a:List Nat):∀x:V,x.pure=true->x.kill a=x
 |.undef,h|.ptr ..,h|.bptr ..,h|.view ..,h|.buf _,h|.map _,h=>by simp[V.pure] at h
 |.int ..,_|.bool _,_|.str _,_|.list ..,_|.nilptr,_|.box ..,_|.nilIface,_|.nilFunc,_|.nilmap,_=>by simp only[V.kill]
 |.agg cs,h|.tuple cs,h=>by simp only[V.pure] at h;simp only[V.kill];rw[tE a cs h]
 |.iface t x,h=>by simp only[V.pure] at h;simp only[V.kill];rw[Kv a x h]
 |.func f xs ys,h=>by
   simp only[V.pure,aA] at h;simp only[V.kill];rw[tE a xs h.1,tE a ys h.2]
theorem tE(a:List Nat):∀l:List V,V.fX l=true->V.dH a l=l
 |[],_=>by simp only[V.dH]
 |x::xs,h=>by
   simp only[V.fX,aA] at h;simp only[V.dH];rw[Kv a x h.1,tE a xs h.2]
end
theorem VN{a:List Nat} {o:O} (h:o.kill a=.dead):o=.dead:=by cases o<;>simp only[O.kill] at h<;>first|rfl|cases h
theorem fu.laid{s:AS} {o:Oper} {r:Rc} (h:fu C ops o s r) (hl:(lG o).1=3) (hn:r.e.nw=[]):
   ∃k z,r.e=⟨.ptr k 0,[k],[(k,.cells z)],[],[]⟩/\aH s.sg k=.dead/\k<s.sg.length/\V.fX z=true/\∀s':AS,s'.sg.length=s.sg.length->s'.nt=s.nt->aH s'.sg k=.dead->fu C ops o s' r:=by
 obtain⟨hg,t,ho⟩:=Vn hl;have hu:jR o.op=[]:=by rw[ho];rfl
 have ef:ni C s o.dst t (fun b=>b=r.e):=by
  have:=h.ef;unfold stepT at this;rw[hg] at this;simp only[cJ,ho] at this;exact this
 have hold:¬nh C s t (fun b=>b=r.e):=fun q=>by
  unfold nh at q;cases hk:(C.ti t).k<;>rw[hk] at q<;>try exact q.elim
  all_goals
   simp only[force_eq,dN] at q;cases hz:(!((C.ti t).zero).eX) with
   |false=>rw[hz] at q;exact q
   |true=>
     rw[hz] at q;have q:_=r.e:=q;rw[<-q] at hn;cases hn
 unfold ni at ef;cases hd:o.dst with
 |none=>rw[hd] at ef;exact absurd ef hold
 |some d=>
   rw[hd] at ef;simp only at ef;cases hr:C.rsv d with
   |none=>rw[hr] at ef;exact absurd ef hold
   |some k=>
     rw[hr] at ef;simp only at ef;cases hs:aH s.sg k<;>rw[hs] at ef<;>try exact ef.elim
     simp only at ef;cases hk:(C.ti t).k<;>rw[hk] at ef<;>try exact ef.elim
     all_goals
      simp only[force_eq] at ef;cases hb:(Nat.blt k s.sg.length&&!((C.ti t).zero).eX&&V.fX ((C.ti t).zero).cells) with
      |false=>rw[hb] at ef;exact ef.elim
      |true=>
        rw[hb] at ef;have ef:(⟨.ptr k 0,[k],[(k,.cells ((C.ti t).zero).cells)],[],[]⟩:Ef) =r.e:=ef;have hb2:=hb;simp only[aA,Bool.not_eq_true'] at hb2;refine⟨k,_,ef.symm,hs,d9 hb2.1.1,hb2.2,fun s' h1 h2 h3=>⟨?_,h.d,h.us,?_,.inr ?_,h.lu,fun q=>by rw[h1];exact h.n q,?_⟩⟩
        . unfold stepT;rw[hg];simp only[cJ,ho];unfold ni;rw[hd];simp only;rw[hr];simp only;rw[h3];simp only;rw[hk];simp only[force_eq];rw[h1,hb];exact ef
        . rw[h.ov,hu];rfl
        . rcases h.oo with q|q
          . rw[hl] at q;cases q
          . rw[q,<-ef];rfl
        . have:=h.dok;rw[hd] at this⊢;simp only[dU] at this⊢;rw[h2];exact this
theorem YH{sg:List O} {a b:Nat} {x y:O} (hab:a≠b) (hx:x.kill [b]=x) (hy:y.kill [a]=y):
   dk (gY [b] (dk (gY [a] sg) [(a,x)])) [(b,y)]=dk (gY [a] (dk (gY [b] sg) [(b,y)])) [(a,x)]:=by
 simp only[dk,rf,jg];apply List.ext_getElem?;intro i;simp only[List.getElem?_set,List.getElem?_map,List.length_set,aB];by_cases h1:b=i
 . subst h1;by_cases h2:b<sg.length
   . simp[h2,hab,hy]
   . simp[h2,hab]
 . by_cases h2:a=i
   . subst h2;by_cases h3:a<sg.length
     . simp[h1,h3,hx]
     . simp[h1,h3]
   . simp only[if_neg h1,if_neg h2];cases sg[i]? with
     |none=>rfl
     |some o=>simp only[Option.map_some];rw[VM]
theorem fu.swap{s:AS} {oj oi:Oper} {rj ri:Rc} (hj:fu C ops oj s rj) (hi:fu C ops oi (s.app oj.dst rj.e) ri) (h:indep rj ri=true):
   fu C ops oi s ri/\fu C ops oj (s.app oi.dst ri.e) rj/\iy ((s.app oi.dst ri.e).app oj.dst rj.e) ((s.app oj.dst rj.e).app oi.dst ri.e):=by
 unfold indep at h;simp only[aA] at h;obtain⟨⟨⟨a1,a2⟩,a3⟩,h⟩:=h;rw[hj.d,hi.us] at a1;rw[hi.d,hj.us] at a2;rw[hi.d,hj.d] at a3;have hne:∀t,oj.dst=some t->oi.dst=some t->False:=fun t h1 h2=>by
  rw[h1,h2] at a3;simp[I0] at a3
 --what i looks at,ahead of j
 have lki:∀t∈looks ops oi,lk (s.app oj.dst rj.e).tm t=(lk s.tm t).kill rj.e.ks:=fun t ht=>by
  rw[jJ,if_neg (BC a1 ht)]
 have lkj:∀t∈looks ops oj,lk (s.app oi.dst ri.e).tm t=(lk s.tm t).kill ri.e.ks:=fun t ht=>by
  rw[jJ,if_neg (BC a2 ht)]
 have hfin:(rj.e.ks=[]\/ri.e.ks=[])->rj.e.v.kill ri.e.ks=rj.e.v->ri.e.v.kill rj.e.ks=ri.e.v->((s.app oi.dst ri.e).app oj.dst rj.e).sg=((s.app oj.dst rj.e).app oi.dst ri.e).sg->
    iy ((s.app oi.dst ri.e).app oj.dst rj.e) ((s.app oj.dst rj.e).app oi.dst ri.e):=fun hks hv1 hv2 hsg=>by
  refine⟨rfl,fun t=>?_,hsg,fun i=>by simp only[AS.app,lv];exact or_left_comm⟩;rw[jJ,jJ,jJ,jJ];by_cases e1:oj.dst=some t
  . rw[if_pos e1,if_pos e1,if_neg (fun e2=>hne t e1 e2),hv1]
  . rw[if_neg e1,if_neg e1];by_cases e2:oi.dst=some t
    . rw[if_pos e2,if_pos e2,hv2]
    . rw[if_neg e2,if_neg e2];rcases hks with hks|hks<;>rw[hks,iW,iW]
 cases hpl:wu rj ri with
 |true=>
   have hqj:quiet rj.e=true:=by
    have hp2:=hpl;unfold wu at hp2;simp only[aA] at hp2;rw[hj.lu] at hp2;exact(hj.look (cb hp2.1)).1
   obtain⟨j1,j2,j3⟩:=pV.1 hqj;have hsi:fu C ops oi s ri:=hi.loc rfl (fun t ht=>by rw[lki t ht,j1,iW]) (.inl (j8 hqj).symm);rw[<-hi.d] at a2;obtain⟨_,i1,hsj⟩:=hj.pair hsi hpl (hi.d▸a2);refine⟨hsi,hsj,hfin (.inl j1) (by rw[i1,iW]) (by rw[j1,iW]) ?_⟩;rw[j8 hqj,kG,kG,j8 hqj]
 |false=>
 rw[hpl,Bool.false_or] at h;cases hqj:quiet rj.e with
 |true=>
   obtain⟨j1,j2,j3⟩:=pV.1 hqj;have hsi:fu C ops oi s ri:=hi.loc rfl (fun t ht=>by rw[lki t ht,j1,iW]) (.inl (j8 hqj).symm);cases hqi:quiet ri.e with
   |true=>
     obtain⟨i1,i2,i3⟩:=pV.1 hqi;refine⟨hsi,hj.loc rfl (fun t ht=>by rw[lkj t ht,i1,iW]) (.inl (j8 hqi)),hfin (.inl j1) (by rw[i1,iW]) (by rw[j1,iW]) ?_⟩;rw[j8 hqj,j8 hqi,j8 hqi,j8 hqj]
   |false=>
     rw[hqj,hqi] at h;simp only[aA] at h;obtain⟨⟨⟨⟨b1,b2⟩,b3⟩,b4⟩,b5⟩:=h;rw[hj.ov] at b1;have hb2:∀r∈rj.e.rd,(aH s.sg r).kill ri.e.ks=aH s.sg r:=fun r hr=>by
      rcases hj.oo with q|q
      . obtain⟨_,_,_,_,_,hm⟩:=(hj.look q).2 r hr;rw[hm];rfl
      . rw[q] at b2;exact IQ b2 r hr
     have hn:ri.n=s.sg.length:=by rw[hi.n hqi,j8 hqj]
     rw[hn] at b5;refine⟨hsi,hj.loc rfl (fun t ht=>?_) (.inr ⟨hqj,fun r hr=>?_⟩),hfin (.inl j1) (tF b3) (by rw[j1,iW]) ?_⟩
     . rw[lkj t ht];rcases List.mem_append.1 ht with ht|ht
       . have:∀(l:List Operand) t,t∈tmpsOf l->Operand.tmp t∈l:=by
           intro l
           induction l with
           |nil=>intro t h;simp[tmpsOf] at h
           |cons x xs ih=>
             intro t h;cases x<;>simp only[tmpsOf,List.mem_cons] at h⊢<;>first
              |exact .inr (ih t h)
              | (rcases h with rfl | h
                 . exact .inl rfl
                 . exact .inr (ih t h))
         exact tF (IP b1 _ (BL (this _ _ ht)))
       . rcases MI hj.ef t ht with ⟨b,hb⟩|hb<;>rw[hb]<;>simp[V.kill,V.dH]
     . rw[ya (B3 b5 r hr) (fun p hp e=>Ba b4 p hp (e▸hr)),hb2 r hr]
     . rw[j8 hqj,kG,kG,j8 hqj]
 |false=>
   cases hqi:quiet ri.e with
   |false=>
     rw[hqj,hqi] at h;have h:Ge rj ri=true:=h;have ht:rj.e.nw=[]/\ri.e.nw=[]/\rj.lu.1=3/\ri.lu.1=3/\∀a b,rj.e.ks=[a]->ri.e.ks=[b]->a≠b:=by
      unfold Ge at h;split at h
      . rename_i e1 e2;simp only[aA,Bool.not_eq_true'] at h;rw[e1,e2];refine⟨rfl,rfl,cb h.1.1,cb h.1.2,fun a b ha hb q=>?_⟩;cases ha;cases hb;subst q;have:=h.2;rw[Nat.beq_refl] at this;cases this
      . cases h
     obtain⟨t1,t2,t3,t4,t5⟩:=ht;rw[hj.lu] at t3;rw[hi.lu] at t4;obtain⟨a,x,ej,hdj,hla,hpx,hSj⟩:=hj.laid t3 t1;obtain⟨b,y,ei,hdi,hlb,hpy,hSi⟩:=hi.laid t4 t2;have hab:a≠b:=t5 a b (by rw[ej]) (by rw[ei]);have hlj:(s.app oj.dst rj.e).sg.length=s.sg.length:=by rw[KR,t1];rfl
     have hli:(s.app oi.dst ri.e).sg.length=s.sg.length:=by rw[KR,t2];rfl
     have hb0:aH s.sg b=.dead:=by
      have:=ya (s:=s) (d:=oj.dst) (e:=rj.e) (r:=b) (by rw[hlj] at hlb;exact hlb) (fun p hp q=>by
       rw[ej] at hp;simp only[List.mem_singleton] at hp;subst hp;exact hab q)
      rw[hdi] at this;exact VN this.symm
     have ha1:aH (s.app oi.dst ri.e).sg a=.dead:=by
      have:=ya (s:=s) (d:=oi.dst) (e:=ri.e) (r:=a) hla (fun p hp q=>by
       rw[ei] at hp;simp only[List.mem_singleton] at hp;subst hp;exact hab q.symm)
      rw[this,hdj];rfl
     have hma:aQ a [b]=false:=by simp only[aQ,Bool.or_false];cases q:Nat.beq a b with|false=>simp[aQ,q]|true=>exact absurd (cb q) hab
     have hmb:aQ b [a]=false:=by cases q:Nat.beq b a with|false=>simp[aQ,q]|true=>exact absurd (cb q).symm hab
     refine⟨hSi s hlj.symm rfl hb0,hSj _ hli rfl ha1,⟨rfl,fun t=>?_,?_,fun i=>by simp only[AS.app,lv];exact or_left_comm⟩⟩
     . rw[jJ,jJ,jJ,jJ];by_cases e1:oj.dst=some t
       . rw[if_pos e1,if_pos e1,if_neg (fun e2=>hne t e1 e2),ej,ei];simp[V.kill,hma]
       . rw[if_neg e1,if_neg e1];by_cases e2:oi.dst=some t
         . rw[if_pos e2,if_pos e2,ej,ei];simp[V.kill,hmb]
         . rw[if_neg e2,if_neg e2,yD]
     . rw[kG,kG,kG,kG,ej,ei];show dk (gY [a] (dk (gY [b] s.sg) [(b,.cells y)])) [(a,.cells x)]=dk (gY [b] (dk (gY [a] s.sg) [(a,.cells x)])) [(b,.cells y)];exact(YH hab (by simp only[O.kill];rw[tE _ _ hpx]) (by simp only[O.kill];rw[tE _ _ hpy])).symm
   |true=>
     obtain⟨i1,i2,i3⟩:=pV.1 hqi;rw[hqj,hqi] at h;simp only[aA] at h;obtain⟨⟨⟨⟨b1,b2⟩,b3⟩,b4⟩,b5⟩:=h;rw[hi.ov] at b1;have hb2:∀r∈ri.e.rd,aH (s.app oj.dst rj.e).sg r=(aH s.sg r).kill rj.e.ks->aH (s.app oj.dst rj.e).sg r=aH s.sg r:=fun r hr he=>by
      rcases hi.oo with q|q
      . obtain⟨_,_,_,_,_,hm⟩:=(hi.look q).2 r hr;rw[hm] at he⊢;cases hg:aH s.sg r<;>rw[hg] at he<;>first
         |(cases he;done)
         |exact he
      . rw[q] at b2;exact MG b2 r hr he
     rw[hj.n hqj] at b5;have hlk:∀t∈looks ops oi,lk s.tm t=lk (s.app oj.dst rj.e).tm t:=fun t ht=>by
      have h1:=lki t ht;rw[h1];refine(yE ?_).symm;rw[<-h1];rcases List.mem_append.1 ht with ht|ht
      . have:∀(l:List Operand) t,t∈tmpsOf l->Operand.tmp t∈l:=by
          intro l
          induction l with
          |nil=>intro t h;simp[tmpsOf] at h
          |cons x xs ih=>
            intro t h;cases x<;>simp only[tmpsOf,List.mem_cons] at h⊢<;>first
             |exact .inr (ih t h)
             | (rcases h with rfl | h
                . exact .inl rfl
                . exact .inr (ih t h))
        exact MF b1 _ (BL (this _ _ ht))
      . rcases MI hi.ef t ht with ⟨b,hb⟩|hb<;>rw[hb]<;>rfl
     refine⟨hi.loc rfl hlk (.inr ⟨hqi,fun r hr=>?_⟩),hj.loc rfl (fun t ht=>by rw[lkj t ht,i1,iW]) (.inl (j8 hqi)),hfin (.inr i1) (by rw[i1,iW]) (tF b3) ?_⟩
     . exact(hb2 r hr (ya (B3 b5 r hr) (fun p hp e=>Ba b4 p hp (e▸hr)))).symm
     . show jC (dk (gY rj.e.ks (s.app oi.dst ri.e).sg) rj.e.up) rj.e.nw=_;rw[j8 hqi,j8 hqi];rfl

def jT(C:Ctx) (ops:List Oper) (f:Nat->Rc) (sN:AS):List Nat->AS->Prop
 |[],s=>iy s sN
 |i::L,s=>∃o,ops[i]?=some o/\fu C ops o s (f i)/\jT C ops f sN L (s.app o.dst (f i).e)

theorem jT.eqv{f:Nat->Rc} {sN:AS}:∀{L:List Nat} {s s':AS},jT C ops f sN L s->iy s s'->jT C ops f sN L s'
 |[],_,_,h,e=>e.symm.trans h
 |_::_,_,_,⟨o,h1,h2,h3⟩,e=>⟨o,h1,h2.eqv e,h3.eqv (e.app _ _)⟩

theorem jT.front{f:Nat->Rc} {sN:AS} {i:Nat} {l2:List Nat}:∀{l1:List Nat} {s:AS},jT C ops f sN (l1++i::l2) s->(∀j∈l1,indep (f j) (f i) =true)->jT C ops f sN (i::(l1++l2)) s
 |[],_,h,_=>h
 |j::l1,s,⟨oj,h1,h2,h3⟩,hi=>by
   obtain⟨oi,k1,k2,k3⟩:=jT.front h3 fun k hk=>hi k (d8 _ hk);obtain⟨q1,q2,q3⟩:=h2.swap k2 (hi j (by simp));exact⟨oi,k1,q1,oj,h1,q2,k3.eqv q3.symm⟩
end
end Go.VG
set_option linter.unusedSimpArgs false
set_option linter.unusedVariables false
namespace Go.VG
open Go

def oJ:Rc:=⟨none,[],[],pe .undef,0,[],[],(0,[])⟩

theorem Ha:∀(bC:List Rc) (j:Nat),p9 bC j=(bC.getD j oJ).anc
 |[],j=>by simp[p9,oJ]
 |r::rs,0=>by simp[p9]
 |r::rs,j+1=>by simp[p9,Ha rs j]
theorem B8{bC:List Rc} {j:Nat}:∀{es:List Edge} {acc:List Nat},j∈sj bC es acc->j∈acc\/∃e∈es,fP e.ground=true/\(j=e.on\/j∈p9 bC e.on)
 |[],_,h=>.inl h
 |⟨on,gr⟩::es,acc,h=>by
   simp only[sj] at h;cases hb:fP gr with
   |false=>
     rw[hb] at h;rcases B8 (es:=es) h with h|⟨e,h1,h2⟩
     . exact .inl h
     . exact .inr ⟨e,d8 _ h1,h2⟩
   |true=>
     rw[hb,cond_true,pC] at h;rcases B8 (es:=es) h with h|⟨e,h1,h2⟩
     . rcases lv.1 (mQ.2 h) with h|h
       . exact .inr ⟨⟨on,gr⟩,by simp,hb,by simpa using h⟩
       . exact .inl (mQ.1 h)
     . exact .inr ⟨e,d8 _ h1,h2⟩
theorem O3{bC:List Rc} {j:Nat} {es:List Edge} (h:j∈sj bC es []):∃e∈es,fP e.ground=true/\(j=e.on\/j∈p9 bC e.on):=by
 rcases B8 h with h|h
 . simp at h
 . exact h
theorem sQ{i:Nat}:∀{es:List Edge},oe i es=true->∀e∈es,fP e.ground=true->e.on<i
 |[],_,e,h=>by simp at h
 |⟨on,gr⟩::es,h,e,he=>by
   simp only[oe,aA,Bool.or_eq_true,Bool.not_eq_true'] at h;rcases List.mem_cons.1 he with rfl|he
   . intro hb;rcases h.1 with h|h
     . exact d9 h
     . rw[h] at hb;cases hb
   . exact sQ h.2 e he
theorem Js{r:Rc}:∀{bC:List Rc} {k:Nat},r7 r bC k=true->∀j,j<bC.length->aQ (k+j) r.anc=true\/indep (bC.getD j oJ) r=true
 |[],_,_,j,h=>by simp at h
 |q::bC,k,h,j,hj=>by
   simp only[r7,aA,Bool.or_eq_true] at h;cases j with
   |zero=>simpa using h.1
   |succ j=>
     have:=Js h.2 j (by simpa using hj);simpa[Nat.add_assoc,Nat.add_comm 1 j] using this

section
variable {C:Ctx} {E:Env} {st:St} {g:aw} {s:AS} {a:Act} {w:World}

def Fact(ops:List Oper) (f:Nat->Rc) (k:Nat):Prop:=∃o,ops[k]?=some o/\oe k o.after.toList=true/\
 (∀j∈(f k).anc,∃e∈o.after.toList,fP e.ground=true/\(j=e.on\/j∈(f e.on).anc))/\∀j,j<k->j∈(f k).anc\/indep (f j) (f k) =true

theorem xD{ops:List Oper} {K:AS->Prop}:∀(rest:List Oper) (i:Nat) (bC:List Rc) (s:AS),sS C ops rest i bC s K->bC.length=i->(∀k,rest[k]?=ops[i+k]?)->
   ∃new sN,K sN/\new.length=rest.length/\jT C ops (fun k=>(bC++new).getD k oJ) sN (List.range' i rest.length) s/\∀k,i<=k->k<i+rest.length->Fact ops (fun k=>(bC++new).getD k oJ) k
 |[],i,bC,s,h,hl,_=>⟨[],s,h,rfl,iy.refl s,fun k h1 h2=>by simp at h2;omega⟩
 |o::rest,i,bC,s,h,hl,hr=>by
   simp only[sS] at h;obtain⟨hd,h⟩:=rX.1 h;simp only[aA] at hd;have hfn:av (stepT C ops s o):=by
    unfold stepT;split
    . exact sZ _ _ _
    . split
      . exact av.fail
      . split
        . have hc:∀(c:Bool) (t u:Tr Ef),av t->av u->av (cond c t u):=fun c t u ht hu=>by cases c<;>assumption
          exact hc _ _ _ (av.dS (sZ _ _ _) (av.ret _)) (av.dS (av.ret _) (sZ _ _ _))
        . exact av.ret _
        . exact av.fail
   obtain⟨e,h1,h2⟩:=hfn _ h;rw[kW,C4] at h1;obtain⟨hi,h1⟩:=rX.1 h1;rw[vD,gQ] at h1;have ho:ops[i]?=some o:=by simpa using(hr 0).symm
   obtain⟨new,sN,k1,k2,k3,k4⟩:=xD rest (i+1) (bC++[kt C ops bC s o e]) (s.app o.dst e) h1 (by simp[hl]) (fun k=>by
    have:=hr (k+1);rw[List.getElem?_cons_succ] at this;rw[this];congr 1;omega)
   have hlist:bC++[kt C ops bC s o e]++new=bC++(kt C ops bC s o e::new):=by simp
   rw[hlist] at k3 k4;have hfi:(bC++(kt C ops bC s o e::new)).getD i oJ=kt C ops bC s o e:=by
    rw[ac,d7 (by omega)];simp[hl]
   have hfj:∀j,j<i->(bC++(kt C ops bC s o e::new)).getD j oJ=bC.getD j oJ:=fun j hj=>by
    rw[ac,d6 (by omega),ac]
   refine⟨kt C ops bC s o e::new,sN,k1,by simp[k2],?_,fun k hk1 hk2=>?_⟩
   . rw[List.length_cons,List.range'_succ];simp only[jT];refine⟨o,ho,?_,?_⟩
     . rw[hfi];exact⟨h2 _ rfl,rfl,rfl,rfl,.inr rfl,rfl,fun _=>rfl,hd.1⟩
     . rw[hfi];exact k3
   . rcases eg i k with hlt|hge
     . exact k4 k (by omega) (by rw[List.length_cons] at hk2;omega)
     . have:k=i:=by omega
       subst this;refine⟨o,ho,hd.2,fun j hj=>?_,fun j hj=>?_⟩
       . simp only at hj;rw[hfi] at hj;obtain⟨ed,q1,q2,q3⟩:=O3 hj;refine⟨ed,q1,q2,?_⟩;rcases q3 with q3|q3
         . exact .inl q3
         . right;simp only;rw[Ha] at q3;rw[hfj _ (sQ hd.2 ed q1 q2)];exact q3
       . simp only;rw[hfi,hfj j hj];rcases Js hi j (by omega) with h|h
         . left;simpa using mQ.1 h
         . exact .inr h

theorem Go.eqv{s':AS} (e:iy s s') (R:Rel E st g s a w) (hg:aV C.gl st):Go C E st g s s' a w:=
 ⟨st,g,⟨R.nt.trans e.nt,R.df,fun t=>by rw[<-e.tm,<-e.sg];exact R.tm t,by rw[<-e.sg];exact R.wr⟩,hg,⟨fun _ _ _ h=>h,fun _ _ _=>rfl,by rw[e.sg];exact co _,fun i hi=>(e.kl i).1 hi⟩⟩

theorem G2{ops:Array Oper} {o:Oper} {i:Nat} {e:Ef} (G:cn C) (R:Rel E st g s a w) (hg:aV C.gl st) (ho:ops[i]?=some o) (hd:dU s o.dst=true) (h:stepT C ops.toList s o (fun b=>b=e))
   {next:Act->World->Prop} {Q:Exit->Act->World->Prop} (hn:∀a' w',Go C E st g s (s.app o.dst e) a' w'->next a' w'):wpOp C.P ops Q i next a w:=by
 have hrun:cJ C s o (fun b=>b=e)->o.wp C.P a w next Q:=fun h=>nk R hg hd (s_op R hg G e h) hn
 have hskip:e=pe (.tuple [])->next (a.put o.dst undef) w:=fun he=>by
  subst he;exact hn _ _ ⟨st,g,wC R hd,hg,cm.pe⟩
 unfold wpOp;rw[ho];simp only;unfold stepT at h;cases hgd:o.guard with
 |none=>
   rw[hgd] at h;rw[if_pos (by simp[Region.wanted,hgd])];exact .inl (hrun h)
 |some p=>
   obtain⟨j,want⟩:=p;rw[hgd] at h;simp only at h;cases ht:cN ops.toList j with
   |none=>rw[ht] at h;exact h.elim
   |some t=>
     rw[ht] at h;simp only at h;cases hb:lk s.tm t<;>rw[hb] at h<;>try exact h.elim
     rotate_left
     . rename_i l;cases l with
       |cons _ _=>exact h.elim
       |nil=>
         have hy:=Gn R ht hb;rw[if_neg (by simp[Region.wanted,hgd,hy])];exact hskip h.symm
     rename_i b;have hy:=Gm R ht hb;cases b<;>cases want<;>simp only[cond_true,cond_false,mF,dS] at h
     . rw[if_pos (by simp[Region.wanted,hgd,hy])];exact .inl (hrun h)
     . rw[if_neg (by simp[Region.wanted,hgd,hy])];exact hskip h.symm
     . rw[if_neg (by simp[Region.wanted,hgd,hy])];exact hskip h.symm
     . rw[if_pos (by simp[Region.wanted,hgd,hy])];exact .inl (hrun h)

def left(n:Nat) (listed:Array Bool):List Nat:=(List.range n).filter fun i=>!listed.getD i true
theorem vZ(n:Nat) (listed:Array Bool):(left n listed).Pairwise (·<·):=List.Pairwise.filter _ List.pairwise_lt_range
theorem iK{n:Nat} {listed:Array Bool} {i:Nat}:i∈left n listed↔i<n/\listed.getD i true=false:=by
 simp[left]
theorem Aq{i:Nat}:∀{L:List Nat},L.Pairwise (·<·)->i∈L->∃l1 l2,L=l1++i::l2/\(∀j∈l1,j<i)/\L.filter (fun k=>k !=i) =l1++l2
 |[],_,h=>by simp at h
 |x::L,hp,h=>by
   rw[List.pairwise_cons] at hp;by_cases e:x=i
   . subst e;refine⟨[],L,rfl,by simp,?_⟩;rw[List.filter_cons_of_neg (by simp),List.nil_append,List.filter_eq_self];intro k hk;have:=hp.1 k hk;simp;omega
   . have h':i∈L:=by
       rcases List.mem_cons.1 h with h|h
       . exact absurd h.symm e
       . exact h
     obtain⟨l1,l2,h1,h2,h3⟩:=Aq hp.2 h';refine⟨x::l1,l2,by rw[h1];rfl,fun j hj=>?_,?_⟩
     . rcases List.mem_cons.1 hj with rfl|hj
       . exact hp.1 i h'
       . exact h2 j hj
     . rw[List.filter_cons_of_pos (by simpa using e),h3];rfl
theorem pF{listed:Array Bool} {i k:Nat} (hi:i<listed.size):(listed.setIfInBounds i true).getD k true=if k=i then true else listed.getD k true:=by
 by_cases h:k=i
 . subst h;simp[Array.getD,hi]
 . rw[if_neg h];simp only[Array.getD,Array.size_setIfInBounds];split
   . rename_i hk;exact Array.getElem_setIfInBounds_ne (by simpa using hk) (Ne.symm h)
   . rfl
theorem CL{n:Nat} {listed:Array Bool} {i:Nat} (hi:i<listed.size):left n (listed.setIfInBounds i true) =(left n listed).filter (fun k=>k !=i):=by
 unfold left;rw[List.filter_filter]
 congr 1
 funext k
 rw[pF hi];by_cases h:k=i
 . subst h;simp
 . simp[h]

theorem O5(G:cn C) {ops:Array Oper} {f:Nat->Rc} {sN:AS} {Q:Exit->Act->World->Prop} (hf:∀k,k<ops.size->Fact ops.toList f k):
    ∀(fuel:Nat) (listed:Array Bool) (s:AS) (st:St) (g:aw) (a:Act) (w:World),listed.size=ops.size->(left ops.size listed).length=fuel->jT C ops.toList f sN (left ops.size listed) s->
     (∀k,k<ops.size->listed.getD k true=true->∀j∈(f k).anc,j<ops.size->listed.getD j true=true)->Rel E st g s a w->aV C.gl st->(∀a' w',Go C E st g s sN a' w'->Q .normal a' w')->
     wpAny C.P .any ops Q fuel listed a w:=by
  --who is ready
  have hready:∀(listed:Array Bool) (i:Nat),listed.size=ops.size->i∈Region.ready .any ops listed->i∈left ops.size listed/\∀o,ops[i]?=some o->∀e∈o.after.toList,fP e.ground=true->listed.getD e.on false=true:=fun listed i _ hi=>by
   unfold Region.ready at hi;rw[List.mem_filter] at hi;obtain⟨h1,h2⟩:=hi;simp only[aA,Bool.not_eq_true',List.mem_range] at h1 h2;refine⟨iK.2 ⟨h1,h2.1⟩,fun o ho e he hb=>?_⟩;have h3:=h2.2;rw[ho] at h3;simp only[Option.map_some,Option.getD_some] at h3;have h4:=Array.all_eq_true'.1 h3 e (by simpa using he);have h5:Region.binds .any e=true:=by
    unfold Region.binds;obtain⟨on,gr⟩:=e;cases gr<;>simp only[fP] at hb⊢<;>cases hb
   simpa[h5] using h4
  have hready2:∀(listed:Array Bool),listed.size=ops.size->Region.ready .any ops listed=[]->left ops.size listed=[]:=fun listed hsz h=>by
   cases hL:left ops.size listed with
   |nil=>rfl
   |cons i L=>
     exfalso;have hi:i∈left ops.size listed:=by rw[hL];simp
     obtain⟨hi1,hi2⟩:=iK.1 hi;obtain⟨o,ho,hlt,_⟩:=hf i hi1;have ho':ops[i]?=some o:=by rw[<-Array.getElem?_toList];exact ho
     have hmem:i∈Region.ready .any ops listed:=by
      unfold Region.ready;rw[List.mem_filter];refine⟨List.mem_range.2 hi1,?_⟩;simp only[hi2,ho',Option.map_some,Option.getD_some,Bool.not_false,Bool.true_and];refine Array.all_eq_true'.2 fun e he=>?_;cases hb:Region.binds .any e with
      |false=>simp
      |true=>
        have hb':fP e.ground=true:=by
         unfold Region.binds at hb;obtain⟨on,gr⟩:=e;cases gr<;>simp only[fP] at hb⊢<;>first|rfl|cases hb
        have h1:=sQ hlt e (by simpa using he) hb';have h2:e.on∉left ops.size listed:=fun hm=>by
         have:=vZ ops.size listed;rw[hL,List.pairwise_cons] at this;rw[hL] at hm;rcases List.mem_cons.1 hm with rfl|hm
         . omega
         . have:=this.1 _ hm;omega
        have h3:listed.getD e.on true=true:=by
         cases h4:listed.getD e.on true with
         |true=>rfl
         |false=>exact absurd (iK.2 ⟨by omega,h4⟩) h2
        have h5:listed.getD e.on false=true:=by
         have h6:e.on<listed.size:=by omega
         simpa[Array.getD,h6] using h3
        simp[h5]
     rw[h] at hmem;simp at hmem
  intro fuel
  induction fuel with
  |zero=>
    intro listed s st g a w hsz hlen hch hup R hg hQ;have hL:left ops.size listed=[]:=d5 hlen;rw[hL] at hch;refine⟨?_,hQ _ _ (Go.eqv hch R hg)⟩;cases hr:Region.ready .any ops listed with
    |nil=>rfl
    |cons i r=>
      have:=(hready listed i hsz (by rw[hr];simp)).1;rw[hL] at this;simp at this
  |succ fuel ih=>
    intro listed s st g a w hsz hlen hch hup R hg hQ;refine⟨fun hr=>?_,fun i hi=>?_⟩
    . have hL:=hready2 listed hsz hr;rw[hL] at hch;exact hQ _ _ (Go.eqv hch R hg)
    . obtain⟨hi1,hi2⟩:=hready listed i hsz hi;obtain⟨hi3,hi4⟩:=iK.1 hi1;obtain⟨l1,l2,q1,q2,q3⟩:=Aq (vZ _ _) hi1;obtain⟨o,ho,hlt,hanc,hind⟩:=hf i hi3;have ho':ops[i]?=some o:=by rw[<-Array.getElem?_toList];exact ho
      --none of who is behind i is left
      have hno:∀j∈(f i).anc,j<ops.size->listed.getD j true=true:=fun j hj hjs=>by
       obtain⟨e,he,hb,hor⟩:=hanc j hj;have h5:=hi2 o ho' e he hb;have h6:e.on<listed.size:=by
        rcases eg e.on listed.size with h|h
        . exact h
        . have:¬e.on<listed.size:=by omega
          simp[Array.getD,this] at h5
       have h7:listed.getD e.on true=true:=by simpa[Array.getD,h6] using h5
       rcases hor with rfl|hor
       . exact h7
       . exact hup e.on (by omega) h7 j hor hjs
      rw[q1] at hch;obtain⟨o₂,h1,h2,h3⟩:=hch.front fun j hj=>by
       rcases hind j (q2 j hj) with h|h
       . have hjl:j∈left ops.size listed:=by rw[q1];exact List.mem_append_left _ hj
         obtain⟨hj1,hj2⟩:=iK.1 hjl;rw[hno j h hj1] at hj2;cases hj2
       . exact h
      rw[ho] at h1;cases h1;refine G2 G R hg ho' h2.dok h2.ef fun a' w' hgo=>?_;obtain⟨st',g',R',hg',A⟩:=hgo;have hls:left ops.size (listed.setIfInBounds i true) =l1++l2:=by rw[CL (by omega),q3]
      refine ih (listed.setIfInBounds i true) _ st' g' a' w' (by simpa using hsz) ?_ ?_ (fun k hk hkl j hj hjs=>?_) R' hg' fun a'' w'' hgo'=>hQ _ _ (hgo'.trans A)
      . rw[hls];have:=congrArg List.length q1;simp only[an,List.length_cons] at this⊢;omega
      . rw[hls];exact h3
      . rw[pF (by omega)] at hkl⊢;by_cases e1:j=i
        . rw[if_pos e1]
        . rw[if_neg e1];by_cases e2:k=i
          . subst e2;exact hno j hj hjs
          . rw[if_neg e2] at hkl;exact hup k hk hkl j hj hjs

theorem OV{id:Nat} {ops:Array Oper} (R:Rel E st g s a w) (hg:aV C.gl st) (G:cn C) {Q:Exit->Act->World->Prop} {K:AS->Prop} (h:sS C ops.toList ops.toList 0 [] s K)
   (hK:∀s' a' w',K s'->Go C E st g s s' a' w'->Q .normal a' w'):(Code.region id ops true).wp C.P Q a w:=by
 obtain⟨new,sN,h1,h2,h3,h4⟩:=xD ops.toList 0 [] s h rfl (fun k=>by rw[Nat.zero_add]);have hl:left ops.size (Array.replicate ops.size false) =List.range' 0 ops.toList.length:=by
  unfold left;rw[<-List.range_eq_range',Array.length_toList,List.filter_eq_self];intro i hi;have:i<ops.size:=List.mem_range.1 hi;simp[Array.getD,this]
 refine wp_region_any G.hm ?_;refine O5 (sN:=sN) G (fun k hk=>h4 k (ci _) (by simpa using hk)) ops.size (Array.replicate ops.size false) s st g a _ (by simp) ?_ ?_ (fun k hk hkl=>?_) ⟨R.nt,R.df,R.tm,R.wr.same ⟨rfl,rfl,rfl,rfl⟩⟩ hg fun a' w' hgo=>hK _ _ _ h1 hgo
 . rw[hl];simp
 . rw[hl];exact h3
 . simp[Array.getD,hk] at hkl
end
end Go.VG
namespace Go.VG
open Go

structure gM(s t:AS):Prop where
 nt:s.nt=t.nt
 tm:∀u,lk s.tm u=lk t.tm u
 sg:s.sg=t.sg
 kl:s.kl=t.kl

section
variable {C:Ctx} {E:Env} {st:St} {g:aw} {s t:AS} {a:Act} {w:World} {o:Oper} {e:Ef}
theorem gM.refl(s:AS):gM s s:=⟨rfl,fun _=>rfl,rfl,rfl⟩
theorem gM.ev(h:gM s t) (x:Operand):s.ev C x=t.ev C x:=by
 cases x with
 |tmp u=>exact h.tm u
 |_=>rfl
theorem gM.app(h:gM s t) (d:Option Nat) (e:Ef):gM (s.app d e) (t.app d e):=by
 refine⟨h.nt,fun u=>?_,?_,?_⟩
 . cases d with
   |none=>simp only[AS.app,oB,h.tm]
   |some d=>
     simp only[AS.app,lk];cases Nat.beq d u with
     |true=>rfl
     |false=>simp only[cond_false,oB,h.tm]
 . simp only[AS.app,h.sg]
 . simp only[AS.app,h.kl]
theorem gM.lit(h:gM s t) {u:Nat} {b:Bool} (hb:lk s.tm u=.bool b):gM ⟨s.nt,(u,.bool b)::s.tm,s.sg,s.kl⟩ t:=by
 refine⟨h.nt,fun v=>?_,h.sg,h.kl⟩;simp only[lk];cases hv:Nat.beq u v with
 |true=>
   have:=cb hv;subst this;rw[<-h.tm,hb];rfl
 |false=>exact h.tm v
theorem gM.bC(h:gM s t) (ops:List Oper) (bC:List Rc) (o:Oper) (e:Ef):kt C ops bC s o e=kt C ops bC t o e:=by
 unfold kt;rw[h.sg,np (fun x _=>h.ev x)]

theorem Yi{ops:List Oper} {K1:Ef->AS->Prop} {K2:Ef->Prop} (h:As C ops s o K1) (hs:gM s t) (hk:∀e s',gM s' t->K1 e s'->K2 e):stepT C ops t o K2:=by
 have key:∀s',gM s' t->(cJ C s' o fun e=>K1 e s')->cJ C t o K2:=fun s' hl h1=>by
  rw[BJ (s:=t) (s':=s') (fun x _=>hl.ev x) hl.sg] at h1;obtain⟨a,h2,h3⟩:=sZ C t o _ h1;exact h3 _ (hk a s' hl h2)
 unfold As at h;unfold stepT;cases hg:o.guard with
 |none=>rw[hg] at h;exact key s hs h
 |some p=>
   obtain⟨j,want⟩:=p;rw[hg] at h;simp only at h⊢;cases hd:cN ops j with
   |none=>rw[hd] at h;exact h.elim
   |some u=>
     rw[hd] at h;simp only at h⊢;cases hl:lk s.tm u<;>rw[hl] at h<;>(try simp only at h)<;>try(exact h.elim)
     rotate_left
     . rename_i l;cases l with
       |cons _ _=>exact h.elim
       |nil=>
         rw[<-hs.tm u,hl];exact hk _ _ hs h
     rename_i b;rw[<-hs.tm u,hl];simp only;obtain⟨nt,tm,sg,kl⟩:=s;cases want<;>cases b<;>simp only[cond_true,cond_false,dS,wa] at h<;>simp only[cond_true,cond_false,mF,dS]
     . exact key _ (hs.lit hl) h
     . exact hk _ _ (hs.lit hl) h
     . exact hk _ _ (hs.lit hl) h
     . exact key _ (hs.lit hl) h

theorem xV{ops:List Oper} {K:AS->Prop}:∀(rest:List Oper) (i:Nat) (bC:List Rc) (s t:AS),gM s t->nj C ops rest i bC s K->sS C ops rest i bC t fun x=>∃y,gM y x/\K y
 |[],_,_,s,t,hs,h=>⟨s,hs,h⟩
 |o::rest,i,bC,s,t,hs,h=>by
   simp only[nj,kW,C4,vD,gQ] at h;simp only[sS,kW,C4,vD,gQ];have hd:dU s o.dst=dU t o.dst:=by unfold dU;rw[hs.nt]
   rw[hd] at h;cases hw:(dU t o.dst&&oe i o.after.toList) with
   |false=>rw[hw] at h;exact h.elim
   |true=>
     rw[hw] at h;have h:As C ops s o (fun e s=>lN (r7 (kt C ops bC s o e) bC 0) (nj C ops rest (i+1) (bC++[kt C ops bC s o e]) (s.app o.dst e) K)):=h;refine Yi h hs fun e s' hl hk=>?_;rw[hl.bC] at hk;cases hi:r7 (kt C ops bC t o e) bC 0 with
     |false=>rw[hi] at hk;exact hk.elim
     |true=>
       rw[hi] at hk;exact xV rest (i+1) _ _ _ (hl.app o.dst e) hk

theorem Rel.leq(R:Rel E st g t a w) (h:gM s t):Rel E st g s a w where
 nt:=by rw[h.nt];exact R.nt
 df:=R.df
 tm:=fun u=>by rw[h.tm,h.sg];exact R.tm u
 wr:=by rw[h.sg];exact R.wr

theorem OQ{id:Nat} {ops:Array Oper} (R:Rel E st g s a w) (hg:aV C.gl st) (G:cn C) {Q:Exit->Act->World->Prop} {K:AS->Prop} (h:nj C ops.toList ops.toList 0 [] s K)
   (hK:∀s' a' w',K s'->Go C E st g s s' a' w'->Q .normal a' w'):(Code.region id ops true).wp C.P Q a w:=
 OV R hg G (xV _ _ _ _ _ (gM.refl s) h) fun s' a' w' ⟨y,hy,hk⟩ ⟨st',g',R',hg',A⟩=>hK y a' w' hk ⟨st',g',R'.leq hy,hg',{mono:=A.mono,aX:=fun i hi hm=>A.aX i hi (by rw[<-hy.kl];exact hm),len:=by rw[hy.sg];exact A.len,kl:=fun i hi=>by rw[hy.kl];exact A.kl i hi}⟩
end
end Go.VG
namespace Go.VG
open Go

theorem wo{j:Nat}:∀{es:List Edge},j∈l6 es↔∃e∈es,fP e.ground=true/\e.on=j
 |[]=>by simp[l6]
 |⟨on,gr⟩::es=>by
   simp only[l6];cases hb:fP gr with
   |true=>
     simp only[cond_true,List.mem_cons,wo (es:=es)];constructor
     . rintro(rfl|⟨e,h1,h2⟩)
       . exact⟨_,.inl rfl,hb,rfl⟩
       . exact⟨e,.inr h1,h2⟩
     . rintro⟨e,rfl|h1,h2,h3⟩
       . exact .inl h3.symm
       . exact .inr ⟨e,h1,h2,h3⟩
   |false=>
     simp only[cond_false,wo (es:=es)];constructor
     . rintro⟨e,h1,h2⟩;exact⟨e,d8 _ h1,h2⟩
     . rintro⟨e,h1,h2,h3⟩;rcases List.mem_cons.1 h1 with rfl|h1
       . rw[hb] at h2;cases h2
       . exact⟨e,h1,h2,h3⟩
theorem H9{l:List Nat}:∀{n k:Nat},uT l n=true->k<n->k∈l
 |0,_,_,h=>absurd h (Nat.not_lt_zero _)
 |n+1,k,h,hk=>by
   simp only[uT,aA] at h;rcases eg k n with h'|h'
   . exact H9 h.2 h'
   . have:k=n:=by omega
     subst this;exact mQ.1 h.1
theorem v7{ops:List Oper} {P:Nat->Prop} (hcl:∀k o,ops[k]?=some o->P k->∀j∈l6 o.after.toList,P j):∀(n:Nat) (cl:List Nat),(∀j∈cl,P j)->∀j∈qt ops n cl,P j
 |0,cl,h=>h
 |n+1,cl,h=>by
   simp only[qt];cases hb:aQ n cl with
   |false=>exact v7 hcl n cl h
   |true=>
     simp only[cond_true];cases ho:ops[n]? with
     |none=>exact v7 hcl n cl h
     |some o=>
       refine v7 hcl n _ fun j hj=>?_;rcases List.mem_append.1 hj with hj|hj
       . exact hcl n o ho (h n (mQ.1 hb)) j hj
       . exact h j hj

section
variable {C:Ctx} {E:Env} {st:St} {g:aw} {s:AS} {a:Act} {w:World}
theorem Yj{L ops:List Oper} {o:Oper} {K:Ef->Prop} (hd:∀j t,cN L j=some t->cN ops j=some t) (h:stepT C L s o K):stepT C ops s o K:=by
 unfold stepT at h⊢;cases hg:o.guard with
 |none=>rw[hg] at h;exact h
 |some p=>
   obtain⟨j,want⟩:=p;rw[hg] at h;simp only at h⊢;cases ht:cN L j with
   |none=>rw[ht] at h;exact h.elim
   |some t=>rw[ht] at h;rw[hd j t ht];exact h
def xu(ops:Array Oper) (listed:Array Bool):Prop:=∀k o,ops.toList[k]?=some o->listed.getD k true=true->∀j∈l6 o.after.toList,j<ops.size->listed.getD j true=true

theorem Hc(G:cn C) {ops:Array Oper} {L:List Oper} {n:Nat} (hn:L.length=n) (hnle:n<=ops.size) {f:Nat->Rc} {sN:AS} {Q:Exit->Act->World->Prop} (pi:Nat) (Inv:AS->St->aw->Prop)
    (hLo:∀k o,L[k]?=some o->∃o',ops.toList[k]?=some o'/\o'.after=o.after/\(k≠pi->o'=o))
    (hdst:∀j t,cN L j=some t->cN ops.toList j=some t) (hf:∀k,k<n->Fact L f k)
    (hinv:∀k s d st g st' g',k<n->k≠pi->Inv s st g->cm st g s st' g' (s.app d (f k).e)->Inv (s.app d (f k).e) st' g')
    (hpi:∀(s:AS) (st:St) (g:aw) (a:Act) (w:World) (next:Act->World->Prop) (l:List Nat) (o:Oper),Inv s st g->Rel E st g s a w->aV C.gl st->L[pi]?=some o->fu C L o s (f pi)->jT C L f sN l (s.app o.dst (f pi).e)->pi∉l->
     (∀j∈l,j<n)->wpOp C.P ops Q pi next a w)
    (htail:∀listed k,listed.size=ops.size->xu ops listed->n<=k->k<ops.size->k∈Region.ready .any ops listed->(pi<n->listed.getD pi true=false)->left n listed=[]):
    ∀(fuel:Nat) (listed:Array Bool) (s:AS) (st:St) (g:aw) (a:Act) (w:World),listed.size=ops.size->(left ops.size listed).length=fuel->jT C L f sN (left n listed) s->
     (∀k,k<n->listed.getD k true=true->∀j∈(f k).anc,j<n->listed.getD j true=true)->xu ops listed->(pi<n->listed.getD pi true=false)->(∀k,n<=k->k<ops.size->listed.getD k true=false)->Inv s st g->Rel E st g s a w->aV C.gl st->
     (∀fuel listed a' w',listed.size=ops.size->(left ops.size listed).length=fuel->left n listed=[]->xu ops listed->(pi<n->listed.getD pi true=false)->(∀k,n<=k->k<ops.size->listed.getD k true=false)->Go C E st g s sN a' w'->wpAny C.P .any ops Q fuel listed a' w')->
     wpAny C.P .any ops Q fuel listed a w:=by
  have hready:∀(listed:Array Bool) (i:Nat),listed.size=ops.size->i∈Region.ready .any ops listed->i∈left ops.size listed/\∀o,ops[i]?=some o->∀e∈o.after.toList,fP e.ground=true->listed.getD e.on false=true:=fun listed i _ hi=>by
   unfold Region.ready at hi;rw[List.mem_filter] at hi;obtain⟨h1,h2⟩:=hi;simp only[aA,Bool.not_eq_true',List.mem_range] at h1 h2;refine⟨iK.2 ⟨h1,h2.1⟩,fun o ho e he hb=>?_⟩;have h3:=h2.2;rw[ho] at h3;simp only[Option.map_some,Option.getD_some] at h3;have h4:=Array.all_eq_true'.1 h3 e (by simpa using he);have h5:Region.binds .any e=true:=by
    unfold Region.binds;obtain⟨on,gr⟩:=e;cases gr<;>simp only[fP] at hb⊢<;>cases hb
   simpa[h5] using h4
  have hdn:∀(listed:Array Bool) (k:Nat),listed.getD k false=true->listed.getD k true=true:=fun listed k h=>by
   simp only[Array.getD] at h⊢;split
   . rename_i hk;rw[dif_pos hk] at h;exact h
   . rfl
  have hready2:∀(listed:Array Bool),listed.size=ops.size->Region.ready .any ops listed=[]->left n listed=[]:=fun listed hsz h=>by
   cases hL:left n listed with
   |nil=>rfl
   |cons i L'=>
     exfalso;have hi:i∈left n listed:=by rw[hL];simp
     obtain⟨hi1,hi2⟩:=iK.1 hi;obtain⟨o,ho,hlt,_⟩:=hf i hi1;obtain⟨o',ho1,ho2,_⟩:=hLo i o ho;have ho':ops[i]?=some o':=by rw[<-Array.getElem?_toList];exact ho1
     have hmem:i∈Region.ready .any ops listed:=by
      unfold Region.ready;rw[List.mem_filter];refine⟨List.mem_range.2 (by omega),?_⟩;simp only[hi2,ho',Option.map_some,Option.getD_some,Bool.not_false,Bool.true_and];refine Array.all_eq_true'.2 fun e he=>?_;cases hb:Region.binds .any e with
      |false=>simp
      |true=>
        have hb':fP e.ground=true:=by
         unfold Region.binds at hb;obtain⟨on,gr⟩:=e;cases gr<;>simp only[fP] at hb⊢<;>first|rfl|cases hb
        have h1:=sQ hlt e (by rw[<-ho2];simpa using he) hb';have h2:e.on∉left n listed:=fun hm=>by
         have:=vZ n listed;rw[hL,List.pairwise_cons] at this;rw[hL] at hm;rcases List.mem_cons.1 hm with rfl|hm
         . omega
         . have:=this.1 _ hm;omega
        have h3:listed.getD e.on true=true:=by
         cases h4:listed.getD e.on true with
         |true=>rfl
         |false=>exact absurd (iK.2 ⟨by omega,h4⟩) h2
        have h5:listed.getD e.on false=true:=by
         have h6:e.on<listed.size:=by omega
         simpa[Array.getD,h6] using h3
        simp[h5]
     rw[h] at hmem;simp at hmem
  intro fuel
  induction fuel with
  |zero=>
    intro listed s st g a w hsz hlen hch hup hsh hpl hrs hI R hg hE;have hL:left ops.size listed=[]:=d5 hlen;have hL2:left n listed=[]:=by
     cases h:left n listed with
     |nil=>rfl
     |cons i l=>
       have hi:i∈left n listed:=by rw[h];simp
       obtain⟨h1,h2⟩:=iK.1 hi;have:i∈left ops.size listed:=iK.2 ⟨by omega,h2⟩;rw[hL] at this;simp at this
    rw[hL2] at hch;exact hE 0 listed a w hsz hlen hL2 hsh hpl hrs (Go.eqv hch R hg)
  |succ fuel ih=>
    intro listed s st g a w hsz hlen hch hup hsh hpl hrs hI R hg hE;by_cases hL2:left n listed=[]
    . rw[hL2] at hch;exact hE _ listed a w hsz hlen hL2 hsh hpl hrs (Go.eqv hch R hg)
    refine⟨fun hr=>absurd (hready2 listed hsz hr) hL2,fun i hi=>?_⟩;obtain⟨hi1,hi2⟩:=hready listed i hsz hi;obtain⟨hi3,hi4⟩:=iK.1 hi1;rcases eg i n with hin|hin
    rotate_left
    . exact absurd (htail listed i hsz hsh hin hi3 hi hpl) hL2
    have hi1':i∈left n listed:=iK.2 ⟨hin,hi4⟩;obtain⟨l1,l2,q1,q2,q3⟩:=Aq (vZ _ _) hi1';obtain⟨o,ho,hlt,hanc,hind⟩:=hf i hin;obtain⟨o',ho1,ho2,ho3⟩:=hLo i o ho;have ho':ops[i]?=some o':=by rw[<-Array.getElem?_toList];exact ho1
    have hno:∀j∈(f i).anc,j<n->listed.getD j true=true:=fun j hj hjs=>by
     obtain⟨e,he,hb,hor⟩:=hanc j hj;have h5:=hi2 o' ho' e (by rw[ho2];exact he) hb;have h6:e.on<n:=by
      have:=sQ hlt e he hb;omega
     have h7:listed.getD e.on true=true:=hdn listed _ h5;rcases hor with rfl|hor
     . exact h7
     . exact hup e.on h6 h7 j hor hjs
    rw[q1] at hch;obtain⟨o₂,h1,h2,h3⟩:=hch.front fun j hj=>by
     rcases hind j (q2 j hj) with h|h
     . have hjl:j∈left n listed:=by rw[q1];exact List.mem_append_left _ hj
       obtain⟨hj1,hj2⟩:=iK.1 hjl;rw[hno j h hj1] at hj2;cases hj2
     . exact h
    rw[ho] at h1;cases h1;have hls:left n (listed.setIfInBounds i true) =l1++l2:=by
     have e1:left n (listed.setIfInBounds i true) =(left n listed).filter (fun k=>k !=i):=by
      unfold left;rw[List.filter_filter]
      congr 1
      funext k
      rw[pF (by omega)];by_cases h:k=i
      . subst h;simp
      . simp[h]
     rw[e1,q3]
    by_cases hip:i=pi
    . subst hip;refine hpi s st g a w _ (l1++l2) o hI R hg ho h2 h3 ?_ ?_
      . rw[<-hls];intro hm;have:=(iK.1 hm).2;rw[pF (by omega),if_pos rfl] at this;cases this
      . rw[<-hls];exact fun j hj=>(iK.1 hj).1
    have hoo:=ho3 hip;subst hoo;refine G2 G R hg ho' h2.dok (Yj hdst h2.ef) fun a' w' hgo=>?_;obtain⟨st',g',R',hg',A⟩:=hgo;refine ih (listed.setIfInBounds i true) _ st' g' a' w' (by simpa using hsz) ?_ ?_ (fun k hk hkl j hj hjs=>?_) (fun k o hk hkl j hj hjs=>?_) (fun hp=>?_) (fun k hk1 hk2=>?_) (hinv i s _ st g st' g' hin hip hI A) R' hg' fun fl ls a'' w'' x1 x2 x3 x4 x5 x6 hgo'=>hE fl ls a'' w'' x1 x2 x3 x4 x5 x6 (hgo'.trans A)
    . rw[CL (by omega)];obtain⟨m1,m2,r1,r2,r3⟩:=Aq (vZ _ _) hi1;have:=congrArg List.length r1;rw[r3];simp only[an,List.length_cons] at this⊢;omega
    . rw[hls];exact h3
    . rw[pF (by omega)] at hkl⊢;by_cases e1:j=i
      . rw[if_pos e1]
      . rw[if_neg e1];by_cases e2:k=i
        . subst e2;exact hno j hj hjs
        . rw[if_neg e2] at hkl;exact hup k hk hkl j hj hjs
    . rw[pF (by omega)] at hkl⊢;by_cases e1:j=i
      . rw[if_pos e1]
      . rw[if_neg e1];by_cases e2:k=i
        . subst e2;rw[ho1] at hk;cases hk;obtain⟨e,he1,he2,rfl⟩:=wo.1 hj;exact hdn listed _ (hi2 _ ho' e he1 he2)
        . rw[if_neg e2] at hkl;exact hsh k o hk hkl j hj hjs
    . rw[pF (by omega),if_neg (Ne.symm hip)];exact hpl hp
    . rw[pF (by omega),if_neg (by omega)];exact hrs k hk1 hk2
theorem cn.both(G:cn C):cn C.both where
 toGood:=⟨G.ti,G.mt,G.hm⟩
 gam:=fun f args sg pre x r h hp=>by
  have h:(match C.Γ f args sg with|some r=>some r|none=>C.mf.Γ f args sg) =some (pre,x,r):=h;split at h
  . rename_i hr;cases h;exact G.gam _ _ _ _ _ _ hr hp
  . exact G.mf.gam _ _ _ _ _ _ h hp
 del:=G.del
theorem zk{ops:Array Oper} {listed:Array Bool} {i:Nat} (hi:i∈Region.ready .any ops listed):i∈left ops.size listed/\∀o,ops[i]?=some o->∀e∈o.after.toList,fP e.ground=true->listed.getD e.on true=true:=by
 unfold Region.ready at hi;rw[List.mem_filter] at hi;obtain⟨h1,h2⟩:=hi;simp only[aA,Bool.not_eq_true',List.mem_range] at h1 h2;refine⟨iK.2 ⟨h1,h2.1⟩,fun o ho e he hb=>?_⟩;have h3:=h2.2;rw[ho] at h3;simp only[Option.map_some,Option.getD_some] at h3;have h4:=Array.all_eq_true'.1 h3 e (by simpa using he);have h5:Region.binds .any e=true:=by
  unfold Region.binds;obtain⟨on,gr⟩:=e;cases gr<;>simp only[fP] at hb⊢<;>cases hb
 have h6:listed.getD e.on false=true:=by simpa[h5] using h4
 simp only[Array.getD] at h6⊢;split
 . rename_i hk;rw[dif_pos hk] at h6;exact h6
 . rfl
theorem X3{ops:Array Oper} {listed:Array Bool} {i:Nat} {o:Oper} (hsz:listed.size=ops.size) (hi:i∈left ops.size listed) (ho:ops[i]?=some o) (h:∀e∈o.after.toList,fP e.ground=true->e.on<ops.size/\listed.getD e.on true=true):
   i∈Region.ready .any ops listed:=by
 obtain⟨hi1,hi2⟩:=iK.1 hi;unfold Region.ready;rw[List.mem_filter];refine⟨List.mem_range.2 hi1,?_⟩;simp only[hi2,ho,Option.map_some,Option.getD_some,Bool.not_false,Bool.true_and];refine Array.all_eq_true'.2 fun e he=>?_;cases hb:Region.binds .any e with
 |false=>simp
 |true=>
   have hb':fP e.ground=true:=by
    unfold Region.binds at hb;obtain⟨on,gr⟩:=e;cases gr<;>simp only[fP] at hb⊢<;>first|rfl|cases hb
   obtain⟨h1,h3⟩:=h e (by simpa using he) hb';have h5:listed.getD e.on false=true:=by
    have h6:e.on<listed.size:=by omega
    simpa[Array.getD,h6] using h3
   simp[h5]
theorem yL{n m:Nat} (h:n<=m):left n (Array.replicate m false) =List.range' 0 n:=by
 unfold left;rw[<-List.range_eq_range',List.filter_eq_self];intro i hi;have:i<n:=List.mem_range.1 hi;simp[Array.getD,show i<m by omega]
theorem Mq{ops:Array Oper}:xu ops (Array.replicate ops.size false):=fun k o hk hl=>by
 have:k<ops.size:=by
  have:=(gB.1 hk).1;simpa using this
 simp[Array.getD,this] at hl
theorem cm.leq{st':St} {g':aw} {x y:AS} (A:cm st g s st' g' x) (h:gM y x):cm st g s st' g' y:=
 ⟨A.mono,fun i hi hm=>A.aX i hi (by rw[<-h.kl];exact hm),by rw[h.sg];exact A.len,fun i hi=>by rw[h.kl];exact A.kl i hi⟩
theorem HZ{L M:List Oper} {j t:Nat} (h:cN L j=some t):cN (L++M) j=some t:=by
 induction L generalizing j with
 |nil=>cases h
 |cons o L ih=>
   cases j with
   |zero=>exact h
   |succ j=>exact ih h
theorem Yr{c:Call} {f:FuncId} {args:List V} (ht:target C s c=some (f,args)):∃x first captured,c.callee=.value x/\s.ev C x=.func (.func f) first captured/\args=first++s.aG C c.args.toList++captured:=by
 unfold target at ht;split at ht
 . rename_i x hx;split at ht
   . rename_i g' first captured hf
     cases ht;exact⟨x,first,captured,hx,hf,rfl⟩
   . cases ht
 . cases ht
theorem OT{ops:Array Oper} {id:Nat} (R:Rel E st g s a w) (hg:aV C.gl st) (G:cn C) {Q:Exit->Act->World->Prop} {K:Ex->AS->Prop} {L:List Oper} {o:Oper} {c:Call} (hops:ops.toList=L++[o]) (hc:o.op=.call c) (hgd:o.guard=none)
   (hed:oe L.length o.after.toList=true) (hb:uT (qt ops.toList L.length (l6 o.after.toList)) L.length=true) (h:nj C.both L L 0 [] s (CH C o c K))
   (hK:∀s' a' w',K .norm s'->Go C E st g s s' a' w'->Q .normal a' w') (hX:∀u s' a' w',K (.pan u) s'->Go C E st g s s' a' w'->Q (.panic [{v:=u,recovered:=false}]) a' w'):(Code.region id ops true).wp C.P Q a w:=by
 have hsz:ops.size=L.length+1:=by rw[<-Array.length_toList,hops];simp
 have hn:ops[L.length]?=some o:=by rw[<-Array.getElem?_toList,hops,d7 (co _)];simp
 obtain⟨new,sN,⟨y,hy,hk⟩,_,hch,hfact⟩:=xD (C:=C.both) L 0 [] s (xV (C:=C.both) L 0 [] s s (gM.refl s) h) rfl (fun k=>by rw[Nat.zero_add]);refine wp_region_any G.hm ?_;refine Hc (C:=C.both) G.both (ops:=ops) (L:=L) (n:=L.length) rfl (by omega) L.length (fun _ _ _=>True) (fun k o' ho=>⟨o',by rw[hops,d6 (gB.1 ho).1];exact ho,rfl,fun _=>rfl⟩)
  (fun j t ht=>by rw[hops];exact HZ ht) (fun k hk2=>hfact k (ci _) (by simpa using hk2)) (fun _ _ _ _ _ _ _ _ _ _ _=>trivial) (fun _ _ _ _ _ _ _ o' _ _ _ ho=>?_) (fun listed k hls hsh hk1 hk2 hr _=>?_)
  ops.size (Array.replicate ops.size false) s st g a _ (by simp) (by rw[yL (co _)];simp) (by rw[yL (by omega)];exact hch) (fun k hk2 hkl=>?_) Mq (fun q=>absurd q (Nat.lt_irrefl _)) (fun k hk1 hk2=>?_) trivial ⟨R.nt,R.df,R.tm,R.wr.same ⟨rfl,rfl,rfl,rfl⟩⟩ hg
  (fun fuel listed a' w' hls hlen hL2 hsh _ hrs hgo=>?_)
 . rw[dl (co _)] at ho;cases ho
 . have:k=L.length:=by omega
   subst this;have hd:=(zk hr).2 o hn;have hcl:=v7 (ops:=ops.toList) (P:=fun j=>j<ops.size->listed.getD j true=true) (fun k o ho hkl j hj hjs=>hsh k o ho (hkl (by
    have:=(gB.1 ho).1;simpa using this)) j hj hjs) L.length (l6 o.after.toList) fun j hj _=>by
     obtain⟨e,he1,he2,rfl⟩:=wo.1 hj;exact hd e he1 he2
   cases hl:left L.length listed with
   |nil=>rfl
   |cons i l=>
     exfalso;have hi:i∈left L.length listed:=by rw[hl];simp
     obtain⟨hi1,hi2⟩:=iK.1 hi;have:=hcl i (H9 hb hi1) (by omega);rw[this] at hi2;cases hi2
 . have hlt:k<ops.size:=by omega
   simp[Array.getD,hlt] at hkl
 . simp[Array.getD,hk2]
 . obtain⟨st',g',R0,hg',A0⟩:=hgo;have Ry:=R0.leq hy;have Ay:=A0.leq hy;have hnl:listed.getD L.length true=false:=hrs _ (co _) (by omega);have hleft:left ops.size listed=[L.length]:=by
    rw[hsz];unfold left at hL2⊢;rw[List.range_succ,List.filter_append,hL2];simp only[List.nil_append,List.filter_cons,List.filter_nil,hnl];rfl
   rw[hleft] at hlen;obtain rfl:fuel=1:=by simpa using hlen.symm
   have hall:∀e∈o.after.toList,fP e.ground=true->e.on<ops.size/\listed.getD e.on true=true:=fun e he hb=>by
    have h1:=sQ hed e he hb;refine⟨by omega,?_⟩;cases h4:listed.getD e.on true with
    |true=>rfl
    |false=>
      have:e.on∈left L.length listed:=iK.2 ⟨h1,h4⟩;rw[hL2] at this;simp at this
   have hrd:=X3 (i:=L.length) hls (by rw[hleft];simp) hn hall;refine⟨fun hr=>by rw[hr] at hrd;simp at hrd,fun i hi=>?_⟩;have hi1:=(zk hi).1;rw[hleft,List.mem_singleton] at hi1;subst hi1;show wpOp C.P ops Q L.length (wpAny C.P .any ops Q 0 (listed.setIfInBounds L.length true)) a' w';unfold wpOp;rw[hn];simp only;rw[if_pos (by simp[Region.wanted,hgd])];left;unfold CH at hk;cases ht:target C y c with
   |none=>rw[ht] at hk;exact hk.elim
   |some p=>
     obtain⟨f,args⟩:=p;rw[ht] at hk;obtain⟨x,first,captured,hx1,hx2,rfl⟩:=Yr ht;obtain⟨vs,hv1,hv2⟩:=zu (C:=C) (c:=c) Ry hg' hx1 hx2;simp only at hk;split at hk
     . rename_i p e1 q e2 hp1 hp2;obtain⟨hd,hpq,h1,h2⟩:=rX.1 hk;by_cases hp:p
       . have h1:=h1 hp;unfold ry at h1;rw[kW] at h1;refine DE (C:=C.ko) Ry hg' G.ko (hv2 o hc) hv1 hp1 hp fun u st2 g2 w2 hu A2 W2=>?_;rw[hu] at h1;simp only[hJ,gQ] at h1;refine hX u _ a' w2 h1 ⟨st2,g2,?_,hg'.mono A2.mono,Ay.trans (cm.app (d:=none) (e:=⟨.undef,e1.ks,e1.up,e1.nw,e1.rd⟩) A2)⟩;exact Ry.app (d:=none) (e:=⟨.undef,e1.ks,e1.up,e1.nw,e1.rd⟩) (v:=undef) rfl A2 W2 (by simp[VR])
       . have hq:=hpq.resolve_left hp;have h2:=h2 hq;rw[kW,gQ] at h2;have h3:=wH (C:=C.mf) (o:=o) Ry hg' G.mf (hv2 o hc) hv1 hp2 hq;refine nk (C:=C) Ry hg' hd h3 fun a2 w2 hgo2=>?_;refine⟨?_,hK _ a2 w2 h2 (hgo2.trans Ay)⟩;cases hr:Region.ready .any ops (listed.setIfInBounds L.length true) with
         |nil=>rfl
         |cons j l=>
           exfalso;have hj:=(zk (by rw[hr];simp:j∈Region.ready .any ops (listed.setIfInBounds L.length true))).1;rw[CL (by omega),hleft] at hj;simp at hj
     . exact hk.elim
theorem Mm{o:Oper}:∀{L:List Oper} {i k:Nat},(l9 L i o)[k]?=if k=i/\i<L.length then some o else L[k]?
 |[],i,k=>by simp[l9]
 |p::L,0,0=>by simp[l9]
 |p::L,0,k+1=>by simp[l9]
 |p::L,i+1,0=>by simp[l9]
 |p::L,i+1,k+1=>by
   simp only[l9,List.getElem?_cons_succ,Mm (L:=L),List.length_cons];by_cases h:k=i/\i<L.length
   . rw[if_pos h,if_pos ⟨by omega,by omega⟩]
   . rw[if_neg h,if_neg (fun q=>h ⟨by omega,by omega⟩)]
theorem Mn{o:Oper}:∀{L:List Oper} {i:Nat},(l9 L i o).length=L.length
 |[],_=>rfl
 |_::_,0=>rfl
 |_::L,i+1=>by simp only[l9,List.length_cons];rw[Mn (L:=L)]
theorem LV{i:Nat}:∀{L:List Oper} {m k:Nat} {o:Oper},u6 i L m=true->L[k]?=some o->m+k≠i->qOp o.op=true
 |[],_,_,_,_,h,_=>by simp at h
 |p::L,m,0,o,h,ho,hk=>by
   simp at ho;subst ho;simp only[u6,aA,Bool.or_eq_true] at h;rcases h.1 with h|h
   . exact absurd (cb h) hk
   . exact h
 |p::L,m,k+1,o,h,ho,hk=>by
   simp only[u6,aA] at h;exact LV h.2 (by simpa using ho) (by omega)
theorem I1{i d:Nat}:∀{L:List Oper} {m k:Nat} {o:Oper},sL i d L m=true->L[k]?=some o->m+k≠i->o.dst≠some d
 |[],_,_,_,_,h,_=>by simp at h
 |p::L,m,0,o,h,ho,hk=>by
   simp at ho;subst ho;simp only[sL,aA,Bool.or_eq_true] at h;rcases h.1 with h|h
   . exact absurd (cb h) hk
   . intro q;rw[q] at h;simp at h
 |p::L,m,k+1,o,h,ho,hk=>by
   simp only[sL,aA] at h;exact I1 h.2 (by simpa using ho) (by omega)
theorem MU{ops:List Oper} {i:Nat}:∀{T:List Oper} {n k:Nat} {o:Oper},uz ops i T n=true->T[k]?=some o->i∈qt ops (n+k) (l6 o.after.toList)
 |[],_,_,_,_,h=>by simp at h
 |p::T,n,0,o,h,ho=>by
   simp at ho;subst ho;simp only[uz,aA] at h;exact mQ.1 h.1
 |p::T,n,k+1,o,h,ho=>by
   simp only[uz,aA] at h;have:=MU h.2 (by simpa using ho:T[k]?=some o)
   rwa [show n+1+k=n+(k+1) by omega] at this
def Qt(t:Tr Ef):Prop:=∀K:Ef->Prop,t K->∃b,K b/\quiet b=true
theorem Qt.fail:Qt fail:=fun _ h=>h.elim
theorem Qt.ret{e:Ef} (h:quiet e=true):Qt (ret e):=fun _ hk=>⟨e,hk,h⟩
theorem Qt.when{b:Bool} {t:Tr Ef} (h:Qt t):Qt (bE b t):=fun K hk=>h K (rX.1 hk).2
theorem Qt.opt{α:Type} {o:Option α} {f:α->Tr Ef} (h:∀a,Qt (f a)):Qt (ey o f):=fun K hk=>by
 have hk:hJ o fun a=>f a K:=hk;cases o with
 |none=>exact hk.elim
 |some a=>exact h a K hk
theorem Qt.idx{α:Type} {l:List α} {n:Nat} {f:α->Tr Ef} (h:∀a,Qt (f a)):Qt (pL l n f):=by rw[mL];exact Qt.opt h
theorem Qt.force{x:V} {f:V->Tr Ef} (h:∀x,Qt (f x)):Qt (force x f):=by rw[force_eq];exact h x
theorem Qt.dh{n:Nat} {f:Nat->Tr Ef} (h:∀x,Qt (f x)):Qt (dh n f):=by rw[dN];exact h n
theorem Qt.part{agg:Bool} {size off:Nat} {cs:List V} {f:V->Tr Ef} (h:∀v,Qt (f v)):Qt (fy (kn agg size cs off) f):=fun K hk=>by
 unfold kn fy at hk;cases agg with
 |true=>
   have hk:hJ (jv (kP cs off) size) fun r=>f (.agg r) K:=hk;cases hx:jv (kP cs off) size with
   |none=>rw[hx] at hk;exact hk.elim
   |some r=>rw[hx] at hk;exact h _ K hk
 |false=>
   have hk:hJ (m6 cs off) fun r=>f r K:=hk;cases hx:m6 cs off with
   |none=>rw[hx] at hk;exact hk.elim
   |some r=>rw[hx] at hk;exact h _ K hk
theorem WO{t:TypeId} {x:Operand}:Qt (po C s t x):=by
 unfold po;repeat' split
 all_goals first
  |exact Qt.fail
  |exact Qt.part fun v=>Qt.force fun v=>Qt.ret rfl
  |exact Qt.idx fun x=>Qt.when (Qt.part fun v=>Qt.force fun v=>Qt.ret rfl)
theorem WQ{x:Operand}:Qt (qO C s x):=by
 unfold qO;repeat' split
 all_goals first
  |exact Qt.fail
  |exact Qt.ret rfl
theorem qt_fa{t:TypeId} {x:Operand} {f:Nat}:Qt (qH C s t x f):=by
 unfold qH;split
 . refine Qt.opt fun ft=>?_;split
   . exact Qt.fail
   . refine Qt.when ?_;split<;>first
      |exact Qt.fail
      |exact Qt.dh fun a=>Qt.ret rfl
 . exact Qt.fail
theorem WN{t:TypeId} {x:Operand} {f:Nat}:Qt (qG C s t x f):=by
 unfold qG;split
 . refine Qt.opt fun ft=>?_;split
   . exact Qt.fail
   . exact Qt.part fun v=>Qt.force fun v=>Qt.ret rfl
 . exact Qt.fail
theorem LU{o:Oper} (h:qOp o.op=true):Qt (cJ C s o):=by
 unfold cJ;cases hop:o.op<;>rw[hop] at h<;>try(cases h;done)
 all_goals simp only
 . exact Qt.force fun x=>Qt.ret rfl
 . exact WO
 . exact WQ
 . exact qt_fa
 . exact WN
theorem WR{L:List Oper} {o:Oper} (h:qOp o.op=true):Qt (stepT C L s o):=by
 unfold stepT;split
 . exact LU h
 . split
   . exact Qt.fail
   . split
     . have hb:∀(c b:Bool) (t u:Tr Ef),Qt t->Qt u->Qt (cond c (mF b t u) (mF b u t)):=fun c b t u ht hu=>by
         cases c<;>cases b<;>first|exact ht|exact hu
       exact hb _ _ _ _ (LU h) (Qt.ret rfl)
     . exact Qt.ret rfl
     . exact Qt.fail
theorem Yl{L:List Oper} {o:Oper} {r:Rc} (h:qOp o.op=true) (hs:fu C L o s r):quiet r.e=true:=by
 obtain⟨b,hb,hq⟩:=WR h _ hs.ef;rw[<-hb];exact hq
theorem HE{L:List Oper} {f:Nat->Rc} {sN:AS}:∀{l:List Nat} {s:AS},jT C L f sN l s->∀k∈l,∃o s',L[k]?=some o/\fu C L o s' (f k)
 |[],_,_,k,hk=>by simp at hk
 |i::l,s,⟨o,h1,h2,h3⟩,k,hk=>by
   rcases List.mem_cons.1 hk with rfl|hk
   . exact⟨o,s,h1,h2⟩
   . exact HE h3 k hk
theorem HD{L:List Oper} {f:Nat->Rc} {sN:AS} {d:Nat}:∀{l:List Nat} {s:AS},jT C L f sN l s->(∀k∈l,quiet (f k).e=true/\∀o,L[k]?=some o->o.dst≠some d)->lk sN.tm d=lk s.tm d
 |[],s,h,_=>(iy.tm h d).symm
 |i::l,s,⟨o,h1,h2,h3⟩,hq=>by
   rw[HD h3 fun k hk=>hq k (d8 _ hk),jJ,if_neg ((hq i (by simp)).2 o h1),(pV.1 (hq i (by simp)).1).1];exact iW _
theorem OU{ops:Array Oper} {id:Nat} (R:Rel E st g s a w) (hg:aV C.gl st) (G:cn C) {Q:Exit->Act->World->Prop} {K:Ex->AS->Prop} {L T:List Oper} {i:Nat} {o:Oper} {x:Operand} {d:Tmp} {f:FuncId} {c:Call}
   (hops:ops.toList=L++T) (hi:L[i]?=some o) (hc:o.op=.call c) (hcv:c.callee=.value (.func f)) (hca:c.args=#[x]) (hgd:o.guard=none) (hd:o.dst=some d) (hq:u6 i L 0=true) (hu:sL i d L 0=true) (ht:uz ops.toList i T L.length=true)
   (h:nj C.both (l9 L i {o with op:=.move x}) (l9 L i {o with op:=.move x}) 0 [] s (Da C f d s K))
   (hX:∀u s' a' w',K (.pan u) s'->Go C E st g s s' a' w'->Q (.panic [{v:=u,recovered:=false}]) a' w'):(Code.region id ops true).wp C.P Q a w:=by
 have hsz:ops.size=L.length+T.length:=by rw[<-Array.length_toList,hops];simp
 have hil:i<L.length:=(gB.1 hi).1;have hoi:ops[i]?=some o:=by rw[<-Array.getElem?_toList,hops,d6 hil];exact hi
 generalize hL':l9 L i {o with op:=.move x}=L' at h;have hlen':L'.length=L.length:=by rw[<-hL',Mn]
 have hget:∀k,L'[k]?=if k=i then some {o with op:=.move x} else L[k]?:=fun k=>by
  rw[<-hL',Mm];by_cases e:k=i
  . rw[if_pos ⟨e,hil⟩,if_pos e]
  . rw[if_neg (fun q=>e q.1),if_neg e]
 obtain⟨new,sN,⟨y,hy,hk⟩,_,hch,hfact⟩:=xD (C:=C.both) L' 0 [] s (xV (C:=C.both) L' 0 [] s s (gM.refl s) h) rfl (fun k=>by rw[Nat.zero_add]);rw[hlen'] at hch hfact;generalize hf:(fun k=>([]++new).getD k oJ) =f0 at hch;have hquiet:∀k,k<L.length->k≠i->quiet (f0 k).e=true:=fun k hk1 hk2=>by
  obtain⟨o',s',h1,h2⟩:=HE hch k (by rw[List.mem_range'];exact⟨k,hk1,by omega⟩);rw[hget,if_neg hk2] at h1;exact Yl (LV hq h1 (by omega)) h2
 have hdst:∀j t,cN L' j=some t->cN ops.toList j=some t:=fun j t hj=>by
  have dstAt_get:∀(M:List Oper) (j:Nat),cN M j=(M[j]?).bind (·.dst):=fun M=>by
   induction M with
   |nil=>intro j;simp[cN]
   |cons p M ih=>intro j;cases j with
     |zero=>simp[cN]
     |succ j=>simp[cN,ih]
  rw[dstAt_get] at hj;have hj2:cN L j=some t:=by
   rw[dstAt_get];rw[hget] at hj;by_cases e:j=i
   . rw[if_pos e] at hj;subst e;rw[hi];exact hj
   . rw[if_neg e] at hj;exact hj
  rw[hops];exact HZ hj2
 refine wp_region_any G.hm ?_;refine Hc (C:=C.both) G.both (ops:=ops) (L:=L') (n:=L.length) hlen' (by omega) (f:=f0) (sN:=sN) i
  (fun s' st' g'=>s'.sg=s.sg/\s'.nt=s.nt/\(∀k,aQ k s'.kl=true↔aQ k s.kl=true)/\cm st g s st' g' s')
  (fun k o' ho=>?_) hdst (fun k hk2=>by rw[<-hf];exact hfact k (ci _) (by simpa using hk2)) (fun k s' d' st1 g1 st2 g2 hk1 hk2 hI A=>?_) (fun s' st1 g1 a1 w1 next l o' hI R1 hg1 ho hs1 hch1 hil1 hjl=>?_) (fun listed k hls hsh hk1 hk2 hr hpl=>?_)
  ops.size (Array.replicate ops.size false) s st g a _ (by simp) (by rw[yL (co _)];simp) (by rw[yL (by omega)];exact hch) (fun k hk2 hkl=>?_) Mq (fun _=>by simp[Array.getD,show i<ops.size by omega]) (fun k hk1 hk2=>by simp[Array.getD,hk2]) ⟨rfl,rfl,fun _=>Iff.rfl,cm.refl⟩
  ⟨R.nt,R.df,R.tm,R.wr.same ⟨rfl,rfl,rfl,rfl⟩⟩ hg (fun fuel listed a' w' hls hlen hL2 hsh hpl hrs hgo=>?_)
 . rw[hget] at ho;by_cases e:k=i
   . rw[if_pos e] at ho;cases ho;subst e;exact⟨o,by rw[hops,d6 hil];exact hi,rfl,fun q=>absurd rfl q⟩
   . rw[if_neg e] at ho;exact⟨o',by rw[hops,d6 (gB.1 ho).1];exact ho,rfl,fun _=>rfl⟩
 . have hqk:=hquiet k hk1 hk2;refine⟨by rw[j8 hqk];exact hI.1,hI.2.1,fun j=>?_,hI.2.2.2.trans A⟩;rw[<-hI.2.2.1 j];show aQ j (gP (f0 k).e.ks s'.kl) =true↔_;rw[(pV.1 hqk).1];rfl
 . rw[hget,if_pos rfl] at ho;cases ho;have he:(f0 i).e=pe (s'.ev C x):=by
    have:=hs1.ef;unfold stepT at this;simp only[hgd] at this;unfold cJ at this;simp only[force_eq] at this;exact this.symm
   have hlk:lk sN.tm d=s'.ev C x:=by
    rw[HD (d:=d) hch1 fun k hk=>⟨hquiet k (hjl k hk) (fun e=>hil1 (e▸hk)),fun o2 ho2=>by
     have e:k≠i:=fun e=>hil1 (e▸hk);rw[hget,if_neg e] at ho2;exact I1 hu ho2 (by omega)⟩]
    rw[jJ,if_pos hd,he];rfl
   unfold Da at hk;rw[show lk y.tm d=s'.ev C x by rw[hy.tm,hlk],show gU C.ko s.sg f [s'.ev C x]=gU C.ko s'.sg f [s'.ev C x] by rw[hI.1]] at hk;unfold wpOp;rw[hoi];simp only;rw[if_pos (by simp[Region.wanted,hgd])];left;obtain⟨vs,hv1,hv2⟩:=zu (C:=C) (c:=c) (f:=f) (first:=[]) (captured:=[]) (R:=R1) hg1 hcv rfl;have hargs:([]:List V)++s'.aG C c.args.toList++[]=[s'.ev C x]:=by rw[hca];simp[AS.aG]
   rw[hargs] at hv1;cases hp1:gU C.ko s'.sg f [s'.ev C x] with
   |none=>rw[hp1] at hk;exact hk.elim
   |some p1=>
     obtain⟨p,e1⟩:=p1;rw[hp1] at hk;obtain⟨hp,hk⟩:=hk;unfold ry at hk;rw[kW] at hk;refine DE (C:=C.ko) R1 hg1 G.ko (hv2 o hc) hv1 hp1 hp fun u st2 g2 w2 hu A2 W2=>?_;rw[hu] at hk;simp only[hJ,gQ] at hk;have hsg:(AS.app ⟨s.nt,[],s.sg,s.kl⟩ none ⟨.undef,e1.ks,e1.up,e1.nw,e1.rd⟩).sg=(s'.app none e1).sg:=by rw[kG,kG,hI.1]
     have A3:=hI.2.2.2.trans (cm.app (d:=none) (e:=⟨.undef,e1.ks,e1.up,e1.nw,e1.rd⟩) A2);have hkl:∀j,aQ j (AS.app ⟨s.nt,[],s.sg,s.kl⟩ none ⟨.undef,e1.ks,e1.up,e1.nw,e1.rd⟩).kl=true↔aQ j (s'.app none ⟨.undef,e1.ks,e1.up,e1.nw,e1.rd⟩).kl=true:=fun j=>by
      show aQ j (gP e1.ks s.kl) =true↔aQ j (gP e1.ks s'.kl) =true;rw[lv,lv,hI.2.2.1 j]
     refine hX u _ a1 w2 hk ⟨st2,g2,⟨by rw[R1.nt,hI.2.1];rfl,R1.df,fun t=>?_,by rw[hsg];exact W2⟩,hg1.mono A2.mono,⟨A3.mono,fun j hj hm=>A3.aX j hj ?_,by rw[hsg];exact A3.len,fun j hj=>(hkl j).2 (A3.kl j hj)⟩⟩
     . show VR st2 g2 (lk (kg e1.ks []) t) _ _;rw[oB];simp[lk,V.kill,VR]
     . cases hb:aQ j (s'.app none ⟨.undef,e1.ks,e1.up,e1.nw,e1.rd⟩).kl with
       |false=>rfl
       |true=>rw[(hkl j).2 hb] at hm;cases hm
 . exfalso;have hot:∃o',ops[k]?=some o':=⟨_,Array.getElem?_eq_getElem hk2⟩
   obtain⟨o',ho'⟩:=hot;have hok:ops.toList[k]?=some o':=by rw[Array.getElem?_toList];exact ho'
   have hT:T[k-L.length]?=some o':=by rw[hops,d7 hk1] at hok;exact hok
   have hm:=MU ht hT;rw[show L.length+(k-L.length) =k by omega] at hm;have hd2:=(zk hr).2 o' ho';have hcl:=v7 (ops:=ops.toList) (P:=fun j=>j<ops.size->listed.getD j true=true) (fun k o ho hkl j hj hjs=>hsh k o ho (hkl (by
    have:=(gB.1 ho).1;simpa using this)) j hj hjs) k (l6 o'.after.toList) (fun j hj _=>by
     obtain⟨e,he1,he2,rfl⟩:=wo.1 hj;exact hd2 e he1 he2) i hm (by omega)
   rw[hpl hil] at hcl;cases hcl
 . have hlt:k<ops.size:=by omega
   simp[Array.getD,hlt] at hkl
 . exfalso;have:i∈left L.length listed:=iK.2 ⟨hil,hpl hil⟩;rw[hL2] at this;simp at this
theorem OR{ops:Array Oper} {id:Nat} (R:Rel E st g s a w) (hg:aV C.gl st) (G:cn C) {Q:Exit->Act->World->Prop} {K:Ex->AS->Prop} (h:uL C ops.toList s K)
   (hK:∀s' a' w',K .norm s'->Go C E st g s s' a' w'->Q .normal a' w') (hX:∀u s' a' w',K (.pan u) s'->Go C E st g s s' a' w'->Q (.panic [{v:=u,recovered:=false}]) a' w'):(Code.region id ops true).wp C.P Q a w:=by
 cases h with
 |last L o c hops hc hgd hed hb h=>exact OT R hg G hops hc hgd hed hb h hK hX
 |pan L T i o x d f c hops hi hc hcv hca hgd hd hq hu ht h=>exact OU R hg G hops hi hc hcv hca hgd hd hq hu ht h hX
end
end Go.VG
