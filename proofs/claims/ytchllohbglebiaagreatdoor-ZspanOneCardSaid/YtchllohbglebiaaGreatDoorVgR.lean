/-
  A part of the proof.
-/
import Derived.Test.YtchllohbglebiaaGreatDoorVgO
set_option linter.unusedSimpArgs false
set_option linter.unusedVariables false
namespace Go.VG
open Go

theorem qP{e:Ef}:quiet e=true↔e.ks=[]/\e.up=[]/\e.nw=[]:=by
 obtain⟨v,ks,up,nw,rd⟩:=e;cases ks<;>cases up<;>cases nw<;>simp[quiet]

mutual
theorem DC:∀{x:V} {acc:List Nat} {i:Nat},i∈acc->i∈V.names x acc
 |.ptr j _,acc,i,h|.bptr j _ _,acc,i,h|.view j _ _,acc,i,h|.buf j,acc,i,h|.map j,acc,i,h=>by
   simp only[V.names];cases aH j acc with
   |true=>exact h
   |false=>exact List.mem_append_left _ h
 |.agg cs,acc,i,h|.tuple cs,acc,i,h=>by simp only[V.names];exact xk h
 |.iface _ x,acc,i,h=>by simp only[V.names];exact DC h
 |.func _ fs cs,acc,i,h=>by simp only[V.names];exact xk (xk h)
 |.undef,_,_,h|.int ..,_,_,h|.bool _,_,_,h|.str _,_,_,h|.list ..,_,_,h|.nilptr,_,_,h|.box ..,_,_,h|.nilIface,_,_,h|.nilFunc,_,_,h|.nilmap,_,_,h=>by simp only[V.names];exact h
theorem xk:∀{x:List V} {acc:List Nat} {i:Nat},i∈acc->i∈V.fN x acc
 |[],_,_,h=>by simp only[V.fN];exact h
 |c::cs,_,_,h=>by simp only[V.fN];exact xk (DC h)
end
theorem LF{o:O} {acc:List Nat} {i:Nat} (h:i∈acc):i∈o.names acc:=by
 cases o<;>simp only[O.names]<;>first|exact h|exact xk h|exact DC h

theorem M9{sg:List O}:∀{fuel:Nat} {todo acc:List Nat} {i:Nat},i∈acc->i∈reach sg fuel todo acc
 |0,_,_,_,h=>by simp only[reach];exact h
 |_+1,[],_,_,h=>by simp only[reach];exact h
 |fuel+1,k::todo,acc,i,h=>by simp only[reach];exact M9 (LF h)
theorem Ma{sg sg':List O}:∀{fuel:Nat} {todo acc:List Nat},(∀i∈todo,i∈acc)->(∀r∈reach sg fuel todo acc,aD sg' r=aD sg r)->reach sg' fuel todo acc=reach sg fuel todo acc
 |0,_,_,_,_=>by simp only[reach]
 |_+1,[],_,_,_=>by simp only[reach]
 |fuel+1,k::todo,acc,ht,h=>by
   have hk:aD sg' k=aD sg k:=h k (M9 (ht k (by simp)));simp only[reach] at h⊢;rw[hk];refine Ma (fun i hi=>?_) h;rcases List.mem_append.1 hi with hi|hi
   . exact LF (ht i (d5 _ hi))
   . exact List.mem_of_mem_drop hi

theorem H3{sg sg':List O}:∀{th:List Nat},(∀r∈th,aD sg' r=aD sg r)->kq sg' th=kq sg th
 |[],_=>rfl
 |k::ks,h=>by simp only[kq,h k (by simp),H3 (th:=ks) fun r hr=>h r (d5 _ hr)]
theorem HG{sg sg':List O} {th0:List Nat}:∀{th:List Nat},(∀r∈th,aD sg' r=aD sg r)->ku sg' th0 th=ku sg th0 th
 |[],_=>rfl
 |k::ks,h=>by simp only[ku,h k (by simp),HG (th:=ks) fun r hr=>h r (d5 _ hr)]
theorem KX{sg sg':List O} {f:Nat->Option Nat}:∀{th:List Nat},(∀r∈th,aD sg' r=aD sg r)->locals sg' f th=locals sg f th
 |[],_=>rfl
 |k::ks,h=>by simp only[locals,h k (by simp),KX (th:=ks) fun r hr=>h r (d5 _ hr)]
theorem Hk{sg sg':List O}:∀{th:List Nat},(∀r∈th,aD sg' r=aD sg r)->ll sg' th=ll sg th
 |[],_=>rfl
 |k::ks,h=>by simp only[ll,h k (by simp),Hk (th:=ks) fun r hr=>h r (d5 _ hr)]
theorem Hd{n n':Nat}:∀{th:List Nat},dB th n 0=dB th n' 0
 |[]=>rfl
 |k::ks=>by
   funext j
   cases j with
   |zero=>simp[dB]
   |succ j=>simp only[dB];exact congrFun (Hd (th:=ks)) j

section
variable {C:Ctx} {s s':AS} {o:Oper} {e:Ef}

theorem Ic{sg sg':List O} {f:FuncId} {args:List V} {pre:Prop} (h:i9 C sg f args=some (pre,e)) (hq:quiet e=true) (hr:∀r∈e.rd,aD sg' r=aD sg r):i9 C sg' f args=some (pre,e):=by
 unfold i9 at h⊢;rw[qj,qj] at h⊢
 --what is read
 have hrd:e.rd=reach sg 256 (V.fN args []) (V.fN args []):=by
  unfold wk at h;simp only[mH,u7] at h;cases hc:(kb (reach sg 256 (V.fN args []) (V.fN args []))&&kq sg (reach sg 256 (V.fN args []) (V.fN args []))) with
  |false=>rw[hc] at h;cases h
  |true=>
    rw[hc,cond_true] at h;split at h
    . cases h
    . cases hcl:ku sg (reach sg 256 (V.fN args []) (V.fN args [])) (reach sg 256 (V.fN args []) (V.fN args [])) with
      |false=>rw[hcl] at h;cases h
      |true=>rw[hcl] at h;cases h;rfl
    . cases h;rfl
 rw[hrd] at hr;rw[Ma (fun _ h=>h) hr];generalize reach sg 256 (V.fN args []) (V.fN args []) =th at*;unfold wk at h⊢;simp only[mH,u7] at h⊢;rw[H3 hr,HG hr,KX hr,Hk hr];cases hc:(kb th&&kq sg th) with
 |false=>rw[hc] at h;cases h
 |true=>
   rw[hc,cond_true] at h;rw[cond_true];generalize C.Γ f (V.kV (fun i=>idxOf i th 0) args) (locals sg (fun i=>idxOf i th 0) th) =r at h⊢;rcases r with _|⟨pre',v,_|σ⟩
   . cases h
   . exact h
   . simp only[Option.some.injEq,Prod.mk.injEq] at h⊢;obtain⟨rfl,rfl⟩:=h;refine⟨rfl,?_⟩;obtain⟨q1,q2,q3⟩:=qP.1 hq;simp only[uu,List.map_eq_nil_iff] at q3;rw[q3];simp only[List.length_nil];rw[Hd (n:=sg'.length) (n':=sg.length)]

theorem o8:∀{l:List Operand},(∀x∈l,s'.ev C x=s.ev C x)->s'.evs C l=s.evs C l
 |[],_=>rfl
 |x::xs,h=>by simp only[AS.evs,h x (by simp),o8 (l:=xs) fun y hy=>h y (d5 _ hy)]
theorem yQ:∀{l:List (Nat×Operand)},(∀x∈xu l,s'.ev C x=s.ev C x)->jY C s' l=jY C s l
 |[],_=>rfl
 |(i,x)::r,h=>by simp only[jY,h x (by simp[xu]),yQ (l:=r) fun y hy=>h y (by simp[xu,hy])]
theorem Ih{n:Nat} {lo hi:Option Operand} (h1:∀x∈oy lo,s'.ev C x=s.ev C x) (h2:∀x∈oy hi,s'.ev C x=s.ev C x):kz C s' n lo hi=kz C s n lo hi:=by
 cases lo<;>cases hi<;>simp only[kz]<;>simp only[oy,List.mem_singleton,forall_eq,List.not_mem_nil] at h1 h2<;>simp only[h1,h2]
theorem HY{x:V} (h:∀i,x=.buf i->aD s'.sg i=aD s.sg i):elems s' x=elems s x:=by
 unfold elems;cases x<;>try rfl
 rename_i i;simp only[h i rfl]
theorem N1{c:Call} (h:∀x∈kg (.call c),s'.ev C x=s.ev C x):target C s' c=target C s c:=by
 unfold target;cases hc:c.callee with
 |value f=>
   simp only[kg,hc] at h;simp only[h f (by simp),o8 fun x hx=>h x (d5 _ hx)]
 |invoke r m=>rfl
 |builtin b=>rfl

theorem Hp{r:Option (Prop×Ef)} {e:Ef} (h:lp r (fun b=>b=e)):∃pre:Prop,r=some (pre,e)/\pre:=by
 cases r with
 |none=>exact h.elim
 |some p=>
   have h1:p.1:=h.1;have h2:kD p.2 (fun b=>b=e):=h.2;rw[lD] at h2;exact⟨p.1,by rw[<-h2],h1⟩
theorem Ho{r:Option (Prop×Ef)} {e:Ef} {pre:Prop} (h:r=some (pre,e)) (hp:pre):lp r (fun b=>b=e):=by
 subst h;refine⟨hp,?_⟩;show kD e _;rw[lD]

theorem CB(h:∀x∈kg o.op,s'.ev C x=s.ev C x) (hs:s'.sg=s.sg):cL C s' o=cL C s o:=by
 obtain⟨dst,op,type,pos,after,guard⟩:=o;have hel:∀x,elems s' x=elems s x:=fun x=>HY fun i _=>by rw[hs]
 cases op<;>simp only[cL,kg] at h⊢
 case move x=>rw[h x (by simp)]
 case assign x=>rw[h x (by simp)]
 case pick c a b=>simp only[wu,h c (by simp),h a (by simp),h b (by simp)]
 case alloc t=>simp only[o5,nZ,hs]
 case box t x=>rw[h x (by simp),hs]
 case build t ps=>simp only[tN,yQ h]
 case buildSlice t n ps=>simp only[oS,tQ,lW,yQ h,hs]
 case load t x=>simp only[qc,h x (by simp),hs]
 case store t x y=>simp only[rR,h x (by simp),h y (by simp),hs]
 case nilCheck x=>simp only[rQ,h x (by simp)]
 case binOp b t x y u=>rw[h x (by simp),h y (by simp)]
 case unOp b t x=>rw[h x (by simp)]
 case convert a b x=>simp only[qd,lX,h x (by simp),hel,hs]
 case makeInterface t x=>simp only[wq,h x (by simp)]
 case makeFunc fn a b=>rw[o8 fun x hx=>h x (by simp[hx]),o8 fun x hx=>h x (by simp[hx])]
 case makeSlice t x y=>simp only[rN,h x (by simp),h y (by simp),hs]
 case slice t x lo hi mx=>
  have hr:∀n,kz C s' n lo hi=kz C s n lo hi:=fun n=>Ih (fun x hx=>h x (by simp[hx])) (fun x hx=>h x (by simp[hx]));have hh:∀y,hi=some y->s'.ev C y=s.ev C y:=fun y hy=>h y (by simp[hy,oy]);have hm:∀y,mx=some y->s'.ev C y=s.ev C y:=fun y hy=>h y (by simp[hy,oy]);have hl:∀y,lo=some y->s'.ev C y=s.ev C y:=fun y hy=>h y (by simp[hy,oy]);have hvw:qf C s' t x lo hi mx=qf C s t x lo hi mx:=by
   unfold qf;rw[h x (by simp),hs];cases lo with
   |none=>rfl
   |some y=>simp only[hl y rfl]
  have hsl:qe C s' t x lo hi mx=qe C s t x lo hi mx:=by
   simp only[qe,h x (by simp),hs,hr];repeat'(first
    |rfl
    |(simp only[hh _ rfl];done)
    |(simp only[hh _ rfl,hm _ rfl];done)
    |split)
  rw[hvw,hsl]
 case fieldAddr t x f=>simp only[rJ,h x (by simp)]
 case field t x f=>simp only[rI,h x (by simp)]
 case indexAddr t x y=>simp only[tP,h x (by simp),h y (by simp),hs]
 case index t x y=>simp only[wo,h x (by simp),h y (by simp)]
 case typeAssert x _ t ok=>simp only[wi,h x (by simp)]
 case extract x i=>simp only[wm,h x (by simp)]
 case range t x=>simp only[rK,rL,gL,h x (by simp),hs]
 case makeMap t r=>cases r<;>simp only[rM,hs]
 case lookup t m x ok=>simp only[np,gL,h m (by simp),h x (by simp),hs]
 case mapUpdate t m x y=>simp only[rO,gL,h m (by simp),h x (by simp),h y (by simp),hs]
 case mapEntry t m x=>simp only[oU,gL,h m (by simp),h x (by simp),hs]
 case entryStore t m b y=>simp only[rH,gL,h m (by simp),h b (by simp),h y (by simp),hs]
 case entry x=>simp only[tO,h x (by simp),hs]
 case sliceToArrayPointer t x=>simp only[wg,h x (by simp)]
 case next x b=>simp only[tR,h x (by simp),hs]
 case call c=>
  have ht:=N1 (C:=C) (s:=s) (s':=s') (c:=c) (by simpa only[kg] using h);unfold rF;cases hc:c.callee with
  |value f=>simp only[ht,hs]
  |invoke r m=>
    simp only[hc] at h;simp only[h r (by simp),o8 fun x hx=>h x (d5 _ hx),hs]
  |builtin b=>
    simp only[hc] at h;simp only[o8 h];have hb:∀xs,nk C s' b c.argTypes.toList xs=nk C s b c.argTypes.toList xs:=fun xs=>by
     unfold nk;simp only[hs,hel,qb,qa,rG,gL]
    simp only[hb]
end
end Go.VG
namespace Go.VG
open Go

section
variable {C:Ctx} {s s':AS} {o:Oper} {e:Ef} {nt:Nat} {tm:List (Nat×V)} {sg sg':List O} {kl:List Nat}

theorem KY{t:TypeId}:aa (fun e=>quiet e=false) (nZ C s t):=by
 unfold nZ;split
 . exact aa.fail
 . rw[force_eq,dN];exact aa.when fun _=>aa.ret rfl
theorem Vm{d:Option Nat} {t:TypeId}:aa (fun e=>quiet e=false) (o5 C s d t):=by
 unfold o5;split
 . split
   . split
     . split
       . exact aa.fail
       . rw[force_eq];exact aa.when fun _=>aa.ret rfl
     . exact aa.fail
   . exact KY
 . exact KY
theorem Vp{x:V}:aa (fun e=>quiet e=false) (force x fun x=>cY s.sg.length fun n=>bp (!x.eZ) (ret ⟨.ptr n 0,[],[],[.cells x.cells],[]⟩)):=by
 rw[force_eq,dN];exact aa.when fun _=>aa.ret rfl
theorem Vw{t:TypeId} {x y:Operand}:aa (fun e=>quiet e=false) (rN C s t x y):=by
 unfold rN;split
 . split
   . exact aa.fail
   . refine aa.when fun _=>aa.aI fun _=>?_;rw[dN,dN,force_eq];exact aa.ret rfl
 . exact aa.fail
theorem Vu{t:TypeId} {len:Nat} {ps:Array (Nat×Operand)}:aa (fun e=>quiet e=false) (tQ C s t len ps):=by
 unfold tQ;refine aa.bind (wj _ _ _ _ _) fun e _=>?_;split
 . rw[dN];exact aa.ret rfl
 . exact aa.fail
theorem uB{α β:Type} {o:Option α} {f:α->Tr β} {K:β->Prop}:eH o f K↔∃a,o=some a/\f a K:=by
 cases o with
 |none=>exact⟨fun h=>h.elim,fun⟨_,h,_⟩=>by cases h⟩
 |some a=>exact⟨fun h=>⟨a,rfl,h⟩,fun⟨_,h,k⟩=>by cases h;exact k⟩
theorem xo{t:TypeId} {m:V} {F:Nat->Bool->List Sc->List (V×Int)->List Nat->Nat->Tr Ef} (h:∀i ag sh es bs ck,aa (fun e=>quiet e=false) (F i ag sh es bs ck)):aa (fun e=>quiet e=false) (gL C s t m F):=by
 unfold gL;refine aa.opt fun _ _=>?_;split
 . split
   . exact aa.when fun _=>h _ _ _ _ _ _
   . exact aa.fail
 . exact aa.fail
theorem Vv{t:TypeId}:aa (fun e=>quiet e=false) (rM C s t):=by
 unfold rM;refine aa.opt fun _ _=>?_;rw[dN];exact aa.ret rfl
theorem Vy{t:TypeId} {m x y:Operand}:aa (fun e=>quiet e=false) (rO C s t m x y):=by
 unfold rO;refine xo fun i ag sh es bs ck=>?_;rw[force_eq];refine aa.when fun _=>?_;split
 . exact aa.gb (fun _ _=>aa.ret rfl) (fun _=>aa.ret rfl)
 . exact aa.fail
theorem Vx{t:TypeId} {m x:Operand}:aa (fun e=>quiet e=false) (oU C s t m x):=by
 unfold oU;refine xo fun i ag sh es bs ck=>?_;rw[force_eq];exact aa.when fun _=>aa.aI fun _=>aa.gb (fun _ _=>aa.ret rfl) (fun _=>aa.ret rfl)
theorem Vr{t:TypeId} {m x y:Operand}:aa (fun e=>quiet e=false) (rH C s t m x y):=by
 unfold rH;refine xo fun i ag sh es bs ck=>?_;split
 . exact aa.ex fun _=>aa.aI fun _=>aa.ret rfl
 . exact aa.fail
theorem Vq{t:TypeId} {m x:V}:aa (fun e=>quiet e=false) (rG C s t m x):=by
 unfold rG;refine xo fun i ag sh es bs ck=>?_;rw[force_eq];exact aa.when fun _=>aa.gb (fun _ _=>aa.ret rfl) (fun _=>aa.ret rfl)
theorem Vt{t:TypeId} {m:V}:aa (fun e=>quiet e=false) (rL C s t m):=by
 unfold rL;refine xo fun i ag sh es bs ck=>?_;rw[dN];exact aa.ret rfl
theorem Vs{t:TypeId} {x:Operand}:aa (fun e=>quiet e=false) (rK C s t x):=by
 unfold rK;split
 . rw[dN];exact aa.ret rfl
 . exact Vt
 . exact aa.fail
theorem Vz{t:TypeId} {x y:Operand}:aa (fun e=>quiet e=false) (rR C s t x y):=by
 unfold rR;simp only[nq];split
 . exact aa.fail
 . rw[force_eq];refine aa.when fun _=>?_;split
   . split
     . exact aa.opt fun _ _=>aa.ret rfl
     . exact aa.fail
   . split
     . refine aa.opt fun _ _=>?_;split
       . exact aa.when fun _=>aa.opt fun _ _=>aa.aI fun _=>aa.ret rfl
       . exact aa.fail
     . exact aa.fail
   . exact aa.fail
theorem Vn{t:TypeId} {x:V} {ys:List V} {rd:List Nat}:aa (fun e=>quiet e=false) (qa C s t x ys rd):=by
 unfold qa;split
 . refine aa.when fun _=>aa.aI fun _=>aa.aI fun _=>?_;rw[dN,dN];exact aa.ret rfl
 . split
   . exact aa.when fun _=>aa.aI fun _=>aa.ret rfl
   . exact aa.fail
 . exact aa.fail
theorem Vo{t:TypeId} {sz:Nat} {x:V} {ys:List V} {rd:List Nat}:aa (fun e=>quiet e=false) (qb C s t sz x ys rd):=by
 unfold qb;split
 . refine aa.when fun _=>aa.aI fun _=>?_;rw[dN];exact aa.ret rfl
 . exact Vn

theorem Pd{x:V}:aa (fun r=>∀i,x=.buf i->r.2.2=[i]) (elems s x):=by
 unfold elems;split
 . exact aa.ret fun i h=>by cases h
 . exact aa.ret fun i h=>by cases h
 . split
   . exact aa.ret fun i h=>by cases h;rfl
   . exact aa.fail
 . exact aa.fail

theorem Pv(he:cL C ⟨nt,tm,sg,kl⟩ o (fun b=>b=e)) (hq:quiet e=true) (hr:∀r∈e.rd,aD sg' r=aD sg r):cL C ⟨nt,tm,sg',kl⟩ o (fun b=>b=e):=by
 obtain⟨dst,op,type,pos,after,guard⟩:=o;have hev:∀x,AS.ev C ⟨nt,tm,sg',kl⟩ x=AS.ev C ⟨nt,tm,sg,kl⟩ x:=fun _=>rfl;have hevs:∀l,AS.evs C ⟨nt,tm,sg',kl⟩ l=AS.evs C ⟨nt,tm,sg,kl⟩ l:=fun l=>o8 fun _ _=>rfl;have hps:∀l,jY C ⟨nt,tm,sg',kl⟩ l=jY C ⟨nt,tm,sg,kl⟩ l:=fun l=>yQ fun _ _=>rfl;have hrg:∀n lo hi,kz C ⟨nt,tm,sg',kl⟩ n lo hi=kz C ⟨nt,tm,sg,kl⟩ n lo hi:=fun n lo hi=>Ih (fun _ _=>rfl) (fun _ _=>rfl);have hno:∀{p:Prop},quiet e=false->p:=fun h=>by rw[h] at hq;cases hq
 cases op<;>simp only[cL] at he⊢
 case move x=>exact he
 case assign x=>exact he
 case pick c a b=>exact he
 case alloc t=>exact hno (Vm e he)
 case box t x=>exact hno (Vp (s:=⟨nt,tm,sg,kl⟩) e he)
 case build t ps=>simp only[tN,hps] at he⊢;exact he
 case buildSlice t n ps=>
  have hb:lW C ⟨nt,tm,sg',kl⟩ t n ps=lW C ⟨nt,tm,sg,kl⟩ t n ps:=by simp only[lW,hps]
  cases dst with
  |none=>simp only[oS,hb] at he⊢;exact he
  |some d=>
    simp only[oS] at he⊢;cases hd:C.lits d with
    |false=>rw[hd] at he;simp only[cond_false,hb] at he⊢;exact he
    |true=>rw[hd] at he;exact hno (Vu e he)
 case load t x=>
  unfold qc at he⊢;simp only[nq] at he⊢;rw[hev];cases hv:AS.ev C ⟨nt,tm,sg,kl⟩ x<;>rw[hv] at he<;>try exact he
  . rename_i i off;have hi:i∈e.rd:=by
     refine(?_:aa (fun e:Ef=>i∈e.rd) _) e he;split
     . exact aa.fail
     . simp only;split
       . refine aa.bind (nz _ _ _ _) fun v _=>?_;rw[force_eq];exact aa.ret (by simp)
       . exact aa.fail
    simp only[hr i hi];exact he
  . rename_i i idx off;have hi:i∈e.rd:=by
     refine(?_:aa (fun e:Ef=>i∈e.rd) _) e he;split
     . exact aa.fail
     . simp only;split
       . refine aa.opt fun _ _=>aa.when fun _=>aa.bind (nz _ _ _ _) fun v _=>?_;rw[force_eq];exact aa.ret (by simp)
       . exact aa.fail
    simp only[hr i hi];exact he
 case store t x y=>exact hno (Vz e he)
 case nilCheck x=>exact he
 case sliceToArrayPointer t x=>exact he
 case binOp b t x y u=>exact he
 case unOp b t x=>exact he
 case convert a b x=>
  rw[hev];have hmk:(lX C ⟨nt,tm,sg,kl⟩ a b (AS.ev C ⟨nt,tm,sg,kl⟩ x) (fun b=>b=e)->lX C ⟨nt,tm,sg',kl⟩ a b (AS.ev C ⟨nt,tm,sg,kl⟩ x) (fun b=>b=e))->qd C ⟨nt,tm,sg',kl⟩ a b (AS.ev C ⟨nt,tm,sg,kl⟩ x) (fun b=>b=e):=fun hk=>by
   unfold qd at he⊢;cases hv:AS.ev C ⟨nt,tm,sg,kl⟩ x<;>rw[hv] at he hk<;>try exact hk he
   rename_i i;simp only at he⊢;cases hb:Nat.beq a b with
   |false=>rw[hb] at he;exact hk he
   |true=>
     rw[hb] at he;refine hno ((?_:aa (fun e:Ef=>quiet e=false) _) e he);simp only[cond_true];split
     . split
       . split
         . exact aa.ret rfl
         . exact aa.fail
       . exact aa.fail
     . exact aa.fail
  refine hmk fun he=>?_;have hc:∀v,elems ⟨nt,tm,sg',kl⟩ v=elems ⟨nt,tm,sg,kl⟩ v->lX C ⟨nt,tm,sg',kl⟩ a b v=lX C ⟨nt,tm,sg,kl⟩ a b v:=fun v hel=>by
   unfold lX;repeat'(first
    |rfl
    |(simp only[hel];done)
    |split)
  generalize AS.ev C ⟨nt,tm,sg,kl⟩ x=v at he⊢;rw[hc v (HY fun i hv=>?_)]
  . exact he
  subst hv;refine hr i ?_;refine(?_:aa (fun e:Ef=>i∈e.rd) _) e he;unfold lX;split<;>first
   |exact aa.fail
   |contradiction
   |skip
  split
  . exact aa.fail
  . refine aa.bind (lz _ _) fun r hr'=>?_;have:=Pd r (hr' _ rfl) i rfl;obtain⟨sz,l,rd⟩:=r;simp only at this;subst this;exact aa.when fun _=>aa.ex fun _=>aa.aI fun _=>aa.ret (by simp)
  . exact aa.fail
 case makeInterface t x=>exact he
 case makeFunc fn a b=>rw[hevs,hevs];exact he
 case makeSlice t x y=>exact hno (Vw e he)
 case slice t x lo hi mx=>
  cases hV:zj C dst with
  |true=>
    rw[hV] at he;simp only[cond_true] at he⊢;unfold qf at he⊢;simp only[hev] at he⊢;generalize AS.ev C ⟨nt,tm,sg,kl⟩ x=v at he⊢;by_cases hv:∃i,v=.buf i
    . obtain⟨i,rfl⟩:=hv;have hi':i∈e.rd:=by
       refine(?_:aa (fun e:Ef=>i∈e.rd) _) e he;split<;>first
        |exact aa.fail
        |contradiction
        |skip
       rename_i h;cases h;split
       . exact aa.fail
       . split
         . split
           . split
             . exact aa.when fun _=>aa.aI fun _=>aa.ret (by simp)
             . exact aa.fail
           . exact aa.fail
         . exact aa.fail
      generalize (C.ti t).k=k at he⊢;cases k<;>cases hi<;>cases mx<;>first
       |exact he
       |(simp only[hr i hi'];exact he)
    . cases v<;>first
        |exact absurd ⟨_,rfl⟩ hv
        |skip
      all_goals (generalize (C.ti t).k=k at he⊢;cases k<;>cases hi<;>cases mx<;>exact he)
  |false=>
    rw[hV] at he;simp only[cond_false] at he⊢;unfold qe at he⊢;rw[hev];simp only[hrg,hev] at he⊢;generalize AS.ev C ⟨nt,tm,sg,kl⟩ x=v at he⊢;by_cases hv:∃i,v=.buf i
    . obtain⟨i,rfl⟩:=hv;refine hno ((?_:aa (fun e:Ef=>quiet e=false) _) e he);split<;>first
       |exact aa.fail
       |contradiction
       |skip
      all_goals
       split
       . exact aa.fail
       . split
         . split
           . exact aa.when fun _=>aa.aI fun _=>aa.ret rfl
           . exact aa.fail
         . exact aa.fail
    . by_cases hp:∃i a,v=.ptr i a
      . obtain⟨i,a,rfl⟩:=hp;refine hno ((?_:aa (fun e:Ef=>quiet e=false) _) e he);split<;>first
         |exact aa.fail
         |contradiction
         |skip
        split
        . exact aa.fail
        . split
          . exact aa.when fun _=>aa.opt fun _ _=>aa.bind (oV _ _ _ _ _) fun _ _=>by rw[tu];exact aa.ret rfl
          . exact aa.fail
      cases v<;>first
       |exact absurd ⟨_,rfl⟩ hv
       |exact absurd ⟨_,_,rfl⟩ hp
       |skip
      all_goals (generalize (C.ti t).k=k at he⊢;cases k<;>cases mx<;>exact he)
 case fieldAddr t x f=>exact he
 case field t x f=>exact he
 case indexAddr t x y=>
  unfold tP at he⊢;simp only[nq] at he⊢;rw[hev,hev];generalize AS.ev C ⟨nt,tm,sg,kl⟩ x=v at he⊢;generalize AS.ev C ⟨nt,tm,sg,kl⟩ y=u at he⊢;by_cases hv:∃i,v=.buf i
  . obtain⟨i,rfl⟩:=hv;have hi:i∈e.rd:=by
     refine(?_:aa (fun e:Ef=>i∈e.rd) _) e he;split<;>first
      |exact aa.fail
      |contradiction
      |skip
     rename_i h;cases h;split
     . exact aa.fail
     . split
       . exact aa.when fun _=>aa.aI fun _=>aa.ret (by simp)
       . exact aa.fail
    generalize (C.ti t).k=k at he⊢;cases k<;>cases u<;>simp only[hr i hi]<;>exact he
  . cases v<;>first
      |exact absurd ⟨_,rfl⟩ hv
      |skip
    all_goals (generalize (C.ti t).k=k at he⊢;cases k<;>cases u<;>exact he)
 case index t x y=>exact he
 case typeAssert x _ t ok=>exact he
 case extract x i=>exact he
 case range t x=>exact hno (Vs e he)
 case makeMap t r=>cases r with
  |none=>exact hno (Vv e he)
  |some r=>exact he
 case mapUpdate t m x y=>exact hno (Vy e he)
 case mapEntry t m x=>exact hno (Vx e he)
 case entryStore t m b y=>exact hno (Vr e he)
 case lookup t m x ok=>
  unfold np gL at he⊢;rw[hev,hev];obtain⟨p,hp,he⟩:=uB.1 he;refine uB.2 ⟨p,hp,?_⟩;generalize AS.ev C ⟨nt,tm,sg,kl⟩ m=v at he⊢;cases v<;>try exact he
  rename_i i;have hi:i∈e.rd:=by
   refine(?_:aa (fun e:Ef=>i∈e.rd) _) e he;simp only;split
   . rw[force_eq];refine aa.when fun _=>aa.when fun _=>?_;split
     . exact aa.gb (fun _ _=>aa.ret (by simp)) (fun _=>aa.ret (by simp))
     . exact aa.ret (by simp)
   . exact aa.fail
  simp only[hr i hi];exact he
 case entry x=>
  unfold tO at he⊢;simp only[nq] at he⊢;rw[hev];generalize AS.ev C ⟨nt,tm,sg,kl⟩ x=v at he⊢;cases v<;>try exact he
  rename_i k off;cases off with
  |succ off=>exact he
  |zero=>
    have hk:k∈e.rd/\∀i bs ck left last,aD sg k=.miter (.map i) bs ck left last->i∈e.rd:=by
     refine(?_:aa (fun e:Ef=>k∈e.rd/\∀i bs ck left last,aD sg k=.miter (.map i) bs ck left last->i∈e.rd) _) e he;simp only;split
     . rename_i i bs ck left last hs;split
       . refine aa.aI fun _=>aa.opt fun _ _=>aa.ret ⟨by simp,fun i' bs' ck' left' last' h'=>?_⟩;rw[hs] at h';injection h' with h' _
         injection h' with h'
         subst h';simp
       . exact aa.fail
     . exact aa.fail
    simp only[hr k hk.1];have hk2:=hk.2;simp only at he;generalize aD sg k=ob at he hk2⊢;cases ob<;>try exact he
    rename_i m bs ck left last;cases m<;>try exact he
    rename_i i;simp only[hr i (hk2 i bs ck left last rfl)];exact he
 case next x b=>
  unfold tR at he⊢;rw[hev];cases hv:AS.ev C ⟨nt,tm,sg,kl⟩ x<;>rw[hv] at he<;>try exact he
  rename_i i off;cases off with
  |succ off=>cases b<;>exact he
  |zero=>cases b with
    |false=>exact he
    |true=>
      have hi:i∈e.rd:=by
       refine(?_:aa (fun e:Ef=>i∈e.rd) _) e he;simp only;split
       . exact aa.dY (fun _=>aa.opt fun _ _=>aa.aI fun _=>aa.ret (by simp)) (fun _=>aa.ret (by simp))
       . exact aa.fail
      simp only[hr i hi];exact he
 case call c=>
  unfold rF at he⊢;have htg:target C ⟨nt,tm,sg',kl⟩ c=target C ⟨nt,tm,sg,kl⟩ c:=N1 fun _ _=>rfl;rw[htg];generalize hcal:c.callee=cal at he⊢;cases cal
  . --a function's value
    obtain⟨p,hp,hc⟩:∃p,target C ⟨nt,tm,sg,kl⟩ c=some p/\lp (i9 C sg p.1 p.2) (fun b=>b=e):=by
     cases ht:target C ⟨nt,tm,sg,kl⟩ c with
     |none=>rw[ht] at he;exact he.elim
     |some p=>rw[ht] at he;exact⟨p,rfl,he⟩
    obtain⟨pre,h1,h2⟩:=Hp hc;rw[hp];exact Ho (Ic h1 hq hr) h2
  . rename_i r m;simp only at he⊢;rw[hev,hevs];generalize AS.ev C ⟨nt,tm,sg,kl⟩ r=v at he⊢;cases v<;>try exact he
    obtain⟨f,hm,hc⟩:=he;obtain⟨pre,h1,h2⟩:=Hp hc;exact⟨f,hm,Ho (Ic h1 hq hr) h2⟩
  . rename_i b;simp only at he⊢;rw[hevs];rw[u6] at he⊢;generalize AS.evs C ⟨nt,tm,sg,kl⟩ c.args.toList=xs at he⊢;generalize c.argTypes.toList=ts at he⊢;have hbt:aa (fun e'=>quiet e'=true->(∀r∈e'.rd,aD sg' r=aD sg r)->nk C ⟨nt,tm,sg',kl⟩ b ts xs (fun b=>b=e')) (nk C ⟨nt,tm,sg,kl⟩ b ts xs):=by
     unfold nk;split
     . rename_i t x;intro e he hq hr;generalize (C.ti t).k=k at he⊢;cases k<;>try exact he
       cases x<;>try exact he
       rename_i i _;have hi:i∈e.rd:=by
        refine(?_:aa (fun e:Ef=>i∈e.rd) _) e he;simp only;split
        . exact aa.ret (by simp)
        . exact aa.fail
       simp only[hr i hi];exact he
     . rename_i t t2 x y;refine fun e he hq _=>(?_:∀{p:Prop},quiet e=false->p) ((?_:aa (fun e:Ef=>quiet e=false) _) e he)
       . intro p h;rw[h] at hq;cases hq
       split
       . exact aa.fail
       . exact aa.fail
       . split
         . exact aa.fail
         . exact aa.when fun _=>aa.bind (lz _ _) fun r _=>aa.when fun _=>Vo
       . exact aa.fail
     . rename_i t t2 x y;refine fun e he hq _=>(?_:∀{p:Prop},quiet e=false->p) ((?_:aa (fun e:Ef=>quiet e=false) _) e he)
       . intro p h;rw[h] at hq;cases hq
       split
       . split
         . exact aa.fail
         . split
           . exact aa.bind (lz _ _) fun r _=>aa.when fun _=>aa.ret rfl
           . exact aa.fail
       . split
         . exact aa.fail
         . split
           . exact aa.bind (lz _ _) fun r _=>aa.when fun _=>aa.opt fun _ _=>aa.ret rfl
           . exact aa.bind (lz _ _) fun r _=>aa.when fun _=>aa.ex fun _=>aa.aI fun _=>aa.ret rfl
           . exact aa.fail
       . exact aa.fail
     . exact fun e he hq _=>absurd hq (by rw[Vq e he];exact Bool.false_ne_true)
     . exact fun e he _ _=>he
     . exact fun e he _ _=>he
     . exact fun e he _ _=>he
    exact hbt e he hq hr
 all_goals exact he

theorem Pu(h:∀x∈kg o.op,s'.ev C x=s.ev C x) (he:cL C s o (fun b=>b=e)) (hq:quiet e=true) (hr:∀r∈e.rd,aD s'.sg r=aD s.sg r):cL C s' o (fun b=>b=e):=by
 obtain⟨nt,tm,sg,kl⟩:=s;obtain⟨nt',tm',sg',kl'⟩:=s';have h1:cL C ⟨nt',tm',sg,kl'⟩ o (fun b=>b=e):=by
  rw[CB (s':=⟨nt',tm',sg,kl'⟩) (s:=⟨nt,tm,sg,kl⟩) (fun x hx=>h x hx) rfl];exact he
 exact Pv h1 hq hr
end
end Go.VG
namespace Go.VG
open Go

mutual
theorem uk{ks:List Nat}:∀{x:V},x.free ks=true->x.kill ks=x
 |.undef,_|.int ..,_|.bool _,_|.str _,_|.nilptr,_|.nilIface,_|.nilFunc,_|.nilmap,_|.list ..,_|.box ..,_=>by simp[V.kill]
 |.ptr i _,h|.bptr i _ _,h|.view i _ _,h|.buf i,h|.map i,h=>by
   simp only[V.free,Bool.not_eq_true'] at h;simp[V.kill,h]
 |.agg cs,h|.tuple cs,h=>by simp[V.kill,wW (by simpa[V.free] using h)]
 |.iface t x,h=>by simp[V.kill,uk (by simpa[V.free] using h)]
 |.func fn fs cs,h=>by
   simp only[V.free,zza] at h;simp[V.kill,wW h.1,wW h.2]
theorem wW{ks:List Nat}:∀{x:List V},V.o9 ks x=true->V.dE ks x=x
 |[],_=>by simp[V.dE]
 |c::cs,h=>by
   simp only[V.o9,zza] at h;simp[V.dE,uk h.1,wW h.2]
end
mutual
theorem zz{ks:List Nat}:∀{x:V},(x.kill ks).pB=true->x.kill ks=x
 |.undef,_|.int ..,_|.bool _,_|.str _,_|.nilptr,_|.nilIface,_|.nilFunc,_|.nilmap,_|.list ..,_|.box ..,_=>by simp[V.kill]
 |.ptr i _,h|.bptr i _ _,h|.view i _ _,h|.buf i,h|.map i,h=>by
   cases hm:aH i ks with
   |true=>simp[V.kill,hm,V.pB] at h
   |false=>simp[V.kill,hm]
 |.agg cs,h|.tuple cs,h=>by
   simp only[V.kill,V.pB] at h;simp[V.kill,wZ h]
 |.iface t x,h=>by
   simp only[V.kill,V.pB] at h;simp[V.kill,zz h]
 |.func fn fs cs,h=>by
   simp only[V.kill,V.pB,zza] at h;simp[V.kill,wZ h.1,wZ h.2]
theorem wZ{ks:List Nat}:∀{x:List V},V.oE (V.dE ks x) =true->V.dE ks x=x
 |[],_=>by simp[V.dE]
 |c::cs,h=>by
   simp only[V.dE,V.oE,zza] at h;simp[V.dE,zz h.1,wZ h.2]
end

theorem wG:∀(sg:List O) (i:Nat),aD sg i=sg.getD i .dead
 |[],i=>by simp[aD]
 |o::os,0=>by simp[aD]
 |o::os,i+1=>by simp[aD,wG os i]

theorem C4:∀{up:List (Nat×O)} {rd:List Nat},vJ up rd=true->∀p∈up,p.1∉rd
 |[],_,_,p,h=>by simp at h
 |(i,o)::r,rd,h,p,hp=>by
   simp only[vJ,zza,Bool.not_eq_true'] at h;rcases List.mem_cons.1 hp with rfl|hp
   . exact sl.1 h.1
   . exact C4 h.2 p hp
theorem C0:∀{l:List Nat} {n:Nat},vI l n=true->∀i∈l,i<n
 |[],_,_,i,h=>by simp at h
 |k::ks,n,h,i,hi=>by
   simp only[vI,zza] at h;rcases List.mem_cons.1 hi with rfl|hi
   . exact d6 h.1
   . exact C0 h.2 i hi
theorem Ns:∀{up:List (Nat×O)} {sg:List O} {r:Nat},(∀p∈up,p.1≠r)->(dd sg up)[r]?=sg[r]?
 |[],sg,r,_=>rfl
 |(i,o)::up,sg,r,h=>by
   simp only[dd];rw[Ns fun p hp=>h p (d5 _ hp),jD,List.getElem?_set_ne (h (i,o) (by simp))]

structure iU(s t:AS):Prop where
 nt:s.nt=t.nt
 tm:∀u,lk s.tm u=lk t.tm u
 sg:s.sg=t.sg
 kl:∀i,aH i s.kl=true↔aH i t.kl=true
theorem iU.refl(s:AS):iU s s:=⟨rfl,fun _=>rfl,rfl,fun _=>Iff.rfl⟩
theorem iU.symm{s t:AS} (h:iU s t):iU t s:=⟨h.nt.symm,fun u=>(h.tm u).symm,h.sg.symm,fun i=>(h.kl i).symm⟩
theorem iU.trans{s t u:AS} (h:iU s t) (k:iU t u):iU s u:=⟨h.nt.trans k.nt,fun x=>(h.tm x).trans (k.tm x),h.sg.trans k.sg,fun i=>(h.kl i).trans (k.kl i)⟩

theorem ka(s:AS) (d:Option Nat) (e:Ef) (t:Nat):lk (s.app d e).tm t=if d=some t then e.v else(lk s.tm t).kill e.ks:=by
 cases d with
 |none=>simp only[AS.app];rw[pf];simp
 |some d=>
   simp only[AS.app,lk];rw[pf];by_cases h:d=t
   . subst h;simp
   . have:Nat.beq d t=false:=by
       cases hb:Nat.beq d t with
       |false=>rfl
       |true=>exact absurd (aB hb) h
     simp[this,h]
theorem lh(s:AS) (d:Option Nat) (e:Ef):(s.app d e).sg=jS (dd (ir e.ks s.sg) e.up) e.nw:=rfl
theorem jt{s:AS} {d:Option Nat} {e:Ef} (h:quiet e=true):(s.app d e).sg=s.sg:=by
 obtain⟨h1,h2,h3⟩:=qP.1 h;rw[lh,h1,h2,h3];rfl
theorem iU.app{s t:AS} (h:iU s t) (d:Option Nat) (e:Ef):iU (s.app d e) (t.app d e):=by
 refine⟨h.nt,fun u=>?_,?_,fun i=>?_⟩
 . rw[ka,ka,h.tm]
 . rw[lh,lh,h.sg]
 . simp only[AS.app,lU,h.kl]
theorem z7{s:AS} {d:Option Nat} {e:Ef} {r:Nat} (hr:r<s.sg.length) (hu:∀p∈e.up,p.1≠r):aD (s.app d e).sg r=(aD s.sg r).kill e.ks:=by
 rw[wG,wG,lh,yj,ac,ac,dl (by rw[qE,sc];simpa using hr),Ns hu,sc,
  List.getElem?_map,am hr]
 rfl

section
variable {C:Ctx} {ops:List Oper}

structure fy(C:Ctx) (ops:List Oper) (o:Oper) (s:AS) (r:Rc):Prop where
 ef:stepT C ops s o (fun b=>b=r.e)
 d:r.d=o.dst
 us:r.us=looks ops o
 ov:r.ov=s.evs C (kg o.op)
 oo:(mb o).1=1\/r.oo=mL s.sg r.e.rd
 lu:r.lu=mb o
 n:quiet r.e=false->r.n=s.sg.length
 dok:e9 s o.dst=true

theorem Gb:∀{l:List Operand} {t:Nat},Operand.tmp t∈l->t∈tmpsOf l
 |[],_,h=>by simp at h
 |x::xs,t,h=>by
   rcases List.mem_cons.1 h with h|h
   . subst h;simp[tmpsOf]
   . have:=Gb h;cases x<;>simp[tmpsOf,this]
theorem Il{s s':AS} {x:Operand} (h:∀t,x=.tmp t->lk s'.tm t=lk s.tm t):s'.ev C x=s.ev C x:=by
 cases x with
 |tmp t=>exact h t rfl
 |_=>rfl
theorem IZ{sg sg':List O}:∀{l:List Nat},(∀r∈l,aD sg' r=aD sg r)->mL sg' l=mL sg l
 |[],_=>rfl
 |r::rs,h=>by simp only[mL,h r (by simp),IZ (l:=rs) fun x hx=>h x (d5 _ hx)]

theorem YL{s s':AS} {o:Oper} {e:Ef} (hg:∀t∈u9 ops o.guard,lk s'.tm t=lk s.tm t) (ho:cL C s o (fun b=>b=e)->cL C s' o (fun b=>b=e)) (h:stepT C ops s o (fun b=>b=e)):stepT C ops s' o (fun b=>b=e):=by
 unfold stepT at h⊢;cases hgd:o.guard with
 |none=>rw[hgd] at h;exact ho h
 |some p=>
   obtain⟨j,want⟩:=p;rw[hgd] at h hg;simp only at h⊢;cases hd:cO ops j with
   |none=>rw[hd] at h;exact h
   |some t=>
     rw[hd] at h;simp only at h⊢;rw[hg t (by simp[u9,hd])];generalize lk s.tm t=v at h⊢;cases v<;>try exact h
     rotate_left
     . rename_i l;cases l with
       |nil=>exact h
       |cons _ _=>exact h
     rename_i b;cases want<;>cases b<;>simp only[cond_true,cond_false,nh,dY] at h⊢<;>first
      |exact h
      |exact ho h

theorem MM{s:AS} {o:Oper} {e:Ef} (h:stepT C ops s o (fun b=>b=e)):∀t∈u9 ops o.guard,(∃b,lk s.tm t=.bool b)\/lk s.tm t=.tuple []:=by
 intro t ht;unfold stepT at h;cases hgd:o.guard with
 |none=>rw[hgd] at ht;simp[u9] at ht
 |some p=>
   obtain⟨j,want⟩:=p;rw[hgd] at h ht;simp only[u9] at ht;simp only at h;cases hd:cO ops j with
   |none=>rw[hd] at ht;simp at ht
   |some t'=>
     rw[hd] at ht h;simp only[List.mem_singleton] at ht;subst ht;simp only at h;generalize lk s.tm t=v at h;cases v<;>first
      |exact .inl ⟨_,rfl⟩
      |exact h.elim
      |(rename_i l;cases l with
         |nil=>exact .inr rfl
         |cons _ _=>exact h.elim)

theorem fy.loc{s s':AS} {o:Oper} {r:Rc} (h:fy C ops o s r) (hnt:s'.nt=s.nt) (hl:∀t∈looks ops o,lk s'.tm t=lk s.tm t) (hsg:s'.sg=s.sg\/(quiet r.e=true/\∀i∈r.e.rd,aD s'.sg i=aD s.sg i)):
   fy C ops o s' r:=by
 have hev:∀x∈kg o.op,s'.ev C x=s.ev C x:=fun x hx=>Il fun t ht=>hl t (List.mem_append_left _ (Gb (ht▸hx)));refine⟨?_,h.d,h.us,?_,?_,h.lu,fun hq=>?_,?_⟩
 . refine YL (fun t ht=>hl t (List.mem_append_right _ ht)) (fun he=>?_) h.ef;rcases hsg with hsg|⟨hq,hr⟩
   . rw[CB hev hsg];exact he
   . exact Pu hev he hq hr
 . rw[h.ov,o8 hev]
 . refine h.oo.imp id fun hoo=>?_;rw[hoo];rcases hsg with hsg|⟨_,hr⟩
   . rw[hsg]
   . exact(IZ hr).symm
 . rcases hsg with hsg|⟨hq',_⟩
   . rw[hsg];exact h.n hq
   . rw[hq'] at hq;cases hq
 . have:=h.dok;cases hd:o.dst with
   |none=>rfl
   |some d=>rw[hd] at this;simp only[e9] at this⊢;rw[hnt];exact this

theorem fy.eqv{s s':AS} {o:Oper} {r:Rc} (h:fy C ops o s r) (e:iU s s'):fy C ops o s' r:=
 h.loc e.nt.symm (fun t _=>(e.tm t).symm) (.inl e.sg.symm)

theorem IP{ks:List Nat}:∀{l:List V},V.o9 ks l=true->∀x∈l,x.free ks=true
 |[],_,x,h=>by simp at h
 |c::cs,h,x,hx=>by
   simp only[V.o9,zza] at h;rcases List.mem_cons.1 hx with rfl|hx
   . exact h.1
   . exact IP h.2 x hx
theorem MH:∀{l:List V},V.oE l=true->∀x∈l,x.pB=true
 |[],_,x,h=>by simp at h
 |c::cs,h,x,hx=>by
   simp only[V.oE,zza] at h;rcases List.mem_cons.1 hx with rfl|hx
   . exact h.1
   . exact MH h.2 x hx
theorem CC{s:AS}:∀{l:List Operand} {x:Operand},x∈l->s.ev C x∈s.evs C l
 |[],_,h=>by simp at h
 |y::ys,x,h=>by
   rcases List.mem_cons.1 h with rfl|h
   . simp[AS.evs]
   . simp only[AS.evs,List.mem_cons];exact .inr (CC h)
theorem IQ{ks:List Nat} {sg:List O}:∀{l:List Nat},qk ks (mL sg l) =true->∀i∈l,(aD sg i).kill ks=aD sg i
 |[],_,i,h=>by simp at h
 |k::l,h,i,hi=>by
   simp only[mL] at h;have hrest:qk ks (mL sg l) =true:=by
    cases ho:aD sg k<;>rw[ho] at h<;>simp only[qk,zza] at h<;>first|exact h|exact h.2
   rcases List.mem_cons.1 hi with rfl|hi
   . cases ho:aD sg i<;>try rfl
     all_goals
      rw[ho] at h;simp only[qk,zza] at h;first
      |(simp only[O.kill,wW h.1];done)
      |(simp only[O.kill,uk h.1];done)
   . exact IQ hrest i hi
theorem MI{ks:List Nat} {sg sg':List O}:∀{l:List Nat},qV (mL sg' l) =true->∀i∈l,aD sg' i=(aD sg i).kill ks->aD sg' i=aD sg i
 |[],_,i,h,_=>by simp at h
 |k::l,h,i,hi,he=>by
   simp only[mL] at h;have hrest:qV (mL sg' l) =true:=by
    cases ho:aD sg' k<;>rw[ho] at h<;>simp only[qV,zza] at h<;>first|exact h|exact h.2|cases h
   rcases List.mem_cons.1 hi with rfl|hi
   . cases ho:aD sg i<;>rw[ho] at he<;>try exact he
     all_goals
      simp only[O.kill] at he;rw[he] at h;simp only[qV,zza] at h;first
      |(rw[he,wZ h.1];done)
      |(rw[he,zz h.1];done)
   . exact MI hrest i hi he

theorem Cs{d:Option Nat} {us:List Nat} (h:vX d us=true) {t:Nat} (ht:t∈us):d≠some t:=by
 intro e;subst e;simp only[vX,Bool.not_eq_true'] at h;exact sl.1 h ht

theorem I2:∀{a b:List Nat},yN a b=true->a=b
 |[],[],_=>rfl
 |x::xs,y::ys,h=>by
   simp only[yN,zza] at h;rw[aB h.1,I2 h.2]
 |[],_::_,h=>by cases h
 |_::_,[],h=>by cases h
theorem L2{o:Oper} (h:(mb o).1=1):∃t m x,o.guard=none/\o.op=.lookup t (.tmp m) (.tmp x) false/\mb o=(1,[t,m,x]):=by
 unfold mb at h⊢;split at h<;>first
  |(rename_i t m x hg ho;exact⟨t,m,x,hg,ho,rfl⟩)
  |(cases h;done)
theorem VE{o:Oper} (h:(mb o).1=2):∃t m x,o.guard=none/\o.op=.mapEntry t (.tmp m) (.tmp x)/\mb o=(2,[t,m,x]):=by
 unfold mb at h⊢;split at h<;>first
  |(rename_i t m x hg ho;exact⟨t,m,x,hg,ho,rfl⟩)
  |(cases h;done)
theorem IG{es:List (V×Int)} {x y:V} {q:Int} (h:bF es x=none):bF (es++[(y,q)]) x=cond (lI y x) (some (es.length,q)) none:=by
 induction es with
 |nil=>simp only[List.nil_append,bF];cases lI y x<;>rfl
 |cons p es ih=>
   obtain⟨z,r⟩:=p;simp only[List.cons_append,bF] at h⊢;cases hz:lI z x with
   |true=>rw[hz] at h;simp at h
   |false=>
     rw[hz] at h;simp only[cond_false] at h⊢;have hn:bF es x=none:=by
      cases he:bF es x with
      |none=>rfl
      |some p=>rw[he] at h;cases h
     rw[ih hn];cases lI y x<;>simp
theorem T0{es:List (V×Int)} {x y:V} (h:bF es x=none):getM (es++[(y,0)]) x=getM es x:=by
 unfold getM;rw[IG h,h];cases lI y x<;>rfl
theorem T1{sg:List O} {i:Nat} {o:O} (h:i<sg.length):aD (gk sg i o) i=o:=by
 have:∀(sg:List O) (i:Nat),i<sg.length->aD (gk sg i o) i=o:=by
  intro sg
  induction sg with
  |nil=>intro i h;simp at h
  |cons a r ih=>
    intro i h;cases i with
    |zero=>rfl
    |succ i=>exact ih i (by simpa using h)
 exact this sg i h
theorem fy.look{s:AS} {o:Oper} {r:Rc} (h:fy C ops o s r) (hl:(mb o).1=1):quiet r.e=true/\∀i∈r.e.rd,∃ag sh es bs ck,aD s.sg i=.map ag sh es bs ck:=by
 obtain⟨t,m,x,hg,ho,_⟩:=L2 hl;have ef:np C s t (.tmp m) (.tmp x) false (fun b=>b=r.e):=by
  have:=h.ef;unfold stepT at this;rw[hg] at this;simp only[cL,ho] at this;exact this
 unfold np gL at ef;obtain⟨p,hp,ef⟩:=uB.1 ef;cases hm:AS.ev C s (.tmp m)<;>rw[hm] at ef<;>try exact ef.elim
 rename_i i;simp only at ef;cases hs:aD s.sg i<;>rw[hs] at ef<;>try exact ef.elim
 rename_i ag sh es bs ck;simp only[force_eq] at ef;cases hw:(yn ag p.1&&uM sh p.2) with
 |false=>rw[hw] at ef;exact ef.elim
 |true=>
   cases hf:lB ag sh (AS.ev C s (.tmp x)) with
   |false=>rw[hw,hf] at ef;exact ef.elim
   |true=>
     rw[hw,hf] at ef;have ef:(⟨.int .i64 (getM es (AS.ev C s (.tmp x))),[],[],[],[i]⟩:Ef) =r.e:=ef;rw[<-ef];refine⟨rfl,fun k hk=>?_⟩;simp at hk;subst hk;exact⟨_,_,_,_,_,hs⟩
theorem fy.pair{s:AS} {oj oi:Oper} {rj ri:Rc} (hj:fy C ops oj s rj) (hi:fy C ops oi s ri) (h:xt rj ri=true) (a2:vX oi.dst (looks ops oj) =true):quiet rj.e=true/\ri.e.ks=[]/\fy C ops oj (s.app oi.dst ri.e) rj:=by
 unfold xt at h;simp only[zza] at h;rw[hj.lu,hi.lu] at h;obtain⟨l1,l2,l3⟩:=h;obtain⟨t,m,x,hgj,hoj,ej⟩:=L2 (aB l1);obtain⟨t',m',x',hgi,hoi,ei⟩:=VE (aB l2);rw[ej,ei] at l3;have l3:=I2 l3;simp only[List.cons.injEq,and_true] at l3;obtain⟨rfl,rfl,rfl⟩:=l3;have efj:np C s t (.tmp m) (.tmp x) false (fun b=>b=rj.e):=by
  have:=hj.ef;unfold stepT at this;rw[hgj] at this;simp only[cL,hoj] at this;exact this
 have efi:oU C s t (.tmp m) (.tmp x) (fun b=>b=ri.e):=by
  have:=hi.ef;unfold stepT at this;rw[hgi] at this;simp only[cL,hoi] at this;exact this
 unfold np gL at efj;obtain⟨p,hp,efj⟩:=uB.1 efj;unfold oU gL at efi;obtain⟨p',hp',efi⟩:=uB.1 efi;rw[hp] at hp';cases hp';have hlm:Operand.tmp m∈kg oj.op:=by rw[hoj];simp[kg]
 have hlx:Operand.tmp x∈kg oj.op:=by rw[hoj];simp[kg]
 cases hm:AS.ev C s (.tmp m)<;>rw[hm] at efj efi<;>try exact efj.elim
 rename_i i;simp only at efj efi;cases hs:aD s.sg i<;>rw[hs] at efj efi<;>try exact efj.elim
 rename_i ag sh es bs ck;simp only[force_eq] at efj efi;have hil:i<s.sg.length:=(eY hs (by simp)).2;cases hw:(yn ag p.1&&uM sh p.2) with
 |false=>rw[hw] at efj;exact efj.elim
 |true=>
   cases hf:lB ag sh (AS.ev C s (.tmp x)) with
   |false=>rw[hw,hf] at efj;exact efj.elim
   |true=>
     rw[hw,hf] at efj efi;have efj:(⟨.int .i64 (getM es (AS.ev C s (.tmp x))),[],[],[],[i]⟩:Ef) =rj.e:=efj;have hri:∃v es' bs' ck',ri.e=⟨v,[],[(i,.map ag sh es' bs' ck')],[],[i]⟩/\getM es' (AS.ev C s (.tmp x)) =getM es (AS.ev C s (.tmp x)):=by
      obtain⟨_,k1,k2⟩:=efi;cases hfd:bF es (AS.ev C s (.tmp x)) with
      |some r=>
        have:=k1 r hfd;exact⟨_,_,_,_,(show _=ri.e from this).symm,rfl⟩
      |none=>
        have:=k2 hfd;exact⟨_,_,_,_,(show _=ri.e from this).symm,T0 hfd⟩
     obtain⟨v,es',bs',ck',hri,hget⟩:=hri;have hks:ri.e.ks=[]:=by rw[hri]
     have hlk:∀u∈looks ops oj,lk (s.app oi.dst ri.e).tm u=lk s.tm u:=fun u hu=>by
      rw[ka,if_neg (Cs a2 hu),hks,jh]
     have hev:∀y∈kg oj.op,(s.app oi.dst ri.e).ev C y=s.ev C y:=fun y hy=>Il fun u hu=>hlk u (List.mem_append_left _ (Gb (hu▸hy)));refine⟨by rw[<-efj];rfl,hks,?_⟩;have hsg:(s.app oi.dst ri.e).sg=gk s.sg i (.map ag sh es' bs' ck'):=by
      rw[hri];simp[AS.app,ir,dd,jS]
     refine⟨?_,hj.d,hj.us,?_,.inl (aB l1),hj.lu,fun hq=>?_,?_⟩
     . unfold stepT;rw[hgj];simp only[cL,hoj];unfold np gL;refine uB.2 ⟨p,hp,?_⟩;rw[hev _ hlm,hm];simp only;rw[hsg,T1 hil];simp only[force_eq];rw[hev _ hlx,hw,hf];show(⟨.int .i64 (getM es' (AS.ev C s (.tmp x))),[],[],[],[i]⟩:Ef) =rj.e;rw[hget];exact efj
     . rw[hj.ov,o8 hev]
     . rw[<-efj] at hq;cases hq
     . have:=hj.dok;cases hd:oj.dst with
       |none=>rfl
       |some d=>rw[hd] at this;simp only[e9] at this⊢;exact this
theorem VH{o:Oper} (h:(mb o).1=3):o.guard=none/\∃t,o.op=.alloc t:=by
 unfold mb at h;split at h
 . cases h
 . cases h
 . rename_i h1 h2;exact⟨h1,_,h2⟩
 . cases h
mutual
theorem zy(a b:List Nat):∀x:V,(x.kill a).kill b=(x.kill b).kill a
 |.undef|.int .. |.bool _|.str _|.list .. |.nilptr|.box .. |.nilIface|.nilFunc|.nilmap=>by simp only[V.kill]
 |.ptr i _|.bptr i _ _|.view i _ _|.buf i|.map i=>by
   simp only[V.kill];cases h1:aH i a<;>cases h2:aH i b<;>simp[V.kill,h1,h2]
 |.agg cs|.tuple cs=>by simp only[V.kill];rw[wV a b cs]
 |.iface t x=>by simp only[V.kill];rw[zy a b x]
 |.func f xs ys=>by simp only[V.kill];rw[wV a b xs,wV a b ys]
theorem wV(a b:List Nat):∀l:List V,V.dE b (V.dE a l) =V.dE a (V.dE b l)
 |[]=>by simp only[V.dE]
 |x::xs=>by simp only[V.dE];rw[zy a b x,wV a b xs]
end
theorem Wf(a b:List Nat) (o:O):(o.kill a).kill b=(o.kill b).kill a:=by
 cases o<;>simp only[O.kill]
 . rw[wV]
 . rw[zy]
mutual
theorem Kr(a:List Nat):∀x:V,x.pure=true->x.kill a=x
 |.undef,h|.ptr ..,h|.bptr ..,h|.view ..,h|.buf _,h|.map _,h=>by simp[V.pure] at h
 |.int ..,_|.bool _,_|.str _,_|.list ..,_|.nilptr,_|.box ..,_|.nilIface,_|.nilFunc,_|.nilmap,_=>by simp only[V.kill]
 |.agg cs,h|.tuple cs,h=>by simp only[V.pure] at h;simp only[V.kill];rw[uj a cs h]
 |.iface t x,h=>by simp only[V.pure] at h;simp only[V.kill];rw[Kr a x h]
 |.func f xs ys,h=>by
   simp only[V.pure,zza] at h;simp only[V.kill];rw[uj a xs h.1,uj a ys h.2]
theorem uj(a:List Nat):∀l:List V,V.gd l=true->V.dE a l=l
 |[],_=>by simp only[V.dE]
 |x::xs,h=>by
   simp only[V.gd,zza] at h;simp only[V.dE];rw[Kr a x h.1,uj a xs h.2]
end
theorem Wg{a:List Nat} {o:O} (h:o.kill a=.dead):o=.dead:=by cases o<;>simp only[O.kill] at h<;>first|rfl|cases h
theorem fy.laid{s:AS} {o:Oper} {r:Rc} (h:fy C ops o s r) (hl:(mb o).1=3) (hn:r.e.nw=[]):
   ∃k z,r.e=⟨.ptr k 0,[k],[(k,.cells z)],[],[]⟩/\aD s.sg k=.dead/\k<s.sg.length/\V.gd z=true/\∀s':AS,s'.sg.length=s.sg.length->s'.nt=s.nt->aD s'.sg k=.dead->fy C ops o s' r:=by
 obtain⟨hg,t,ho⟩:=VH hl;have hu:kg o.op=[]:=by rw[ho];rfl
 have ef:o5 C s o.dst t (fun b=>b=r.e):=by
  have:=h.ef;unfold stepT at this;rw[hg] at this;simp only[cL,ho] at this;exact this
 have hold:¬nZ C s t (fun b=>b=r.e):=fun q=>by
  unfold nZ at q;cases hk:(C.ti t).k<;>rw[hk] at q<;>try exact q.elim
  all_goals
   simp only[force_eq,dN] at q;cases hz:(!((C.ti t).zero).eZ) with
   |false=>rw[hz] at q;exact q
   |true=>
     rw[hz] at q;have q:_=r.e:=q;rw[<-q] at hn;cases hn
 unfold o5 at ef;cases hd:o.dst with
 |none=>rw[hd] at ef;exact absurd ef hold
 |some d=>
   rw[hd] at ef;simp only at ef;cases hr:C.rsv d with
   |none=>rw[hr] at ef;exact absurd ef hold
   |some k=>
     rw[hr] at ef;simp only at ef;cases hs:aD s.sg k<;>rw[hs] at ef<;>try exact ef.elim
     simp only at ef;cases hk:(C.ti t).k<;>rw[hk] at ef<;>try exact ef.elim
     all_goals
      simp only[force_eq] at ef;cases hb:(Nat.blt k s.sg.length&&!((C.ti t).zero).eZ&&V.gd ((C.ti t).zero).cells) with
      |false=>rw[hb] at ef;exact ef.elim
      |true=>
        rw[hb] at ef;have ef:(⟨.ptr k 0,[k],[(k,.cells ((C.ti t).zero).cells)],[],[]⟩:Ef) =r.e:=ef;have hb2:=hb;simp only[zza,Bool.not_eq_true'] at hb2;refine⟨k,_,ef.symm,hs,d6 hb2.1.1,hb2.2,fun s' h1 h2 h3=>⟨?_,h.d,h.us,?_,.inr ?_,h.lu,fun q=>by rw[h1];exact h.n q,?_⟩⟩
        . unfold stepT;rw[hg];simp only[cL,ho];unfold o5;rw[hd];simp only;rw[hr];simp only;rw[h3];simp only;rw[hk];simp only[force_eq];rw[h1,hb];exact ef
        . rw[h.ov,hu];rfl
        . rcases h.oo with q|q
          . rw[hl] at q;cases q
          . rw[q,<-ef];rfl
        . have:=h.dok;rw[hd] at this⊢;simp only[e9] at this⊢;rw[h2];exact this
theorem Zc{sg:List O} {a b:Nat} {x y:O} (hab:a≠b) (hx:x.kill [b]=x) (hy:y.kill [a]=y):
   dd (ir [b] (dd (ir [a] sg) [(a,x)])) [(b,y)]=dd (ir [a] (dd (ir [b] sg) [(b,y)])) [(a,x)]:=by
 simp only[dd,sc,jD];apply List.ext_getElem?;intro i;simp only[List.getElem?_set,List.getElem?_map,List.length_set,aA];by_cases h1:b=i
 . subst h1;by_cases h2:b<sg.length
   . simp[h2,hab,hy]
   . simp[h2,hab]
 . by_cases h2:a=i
   . subst h2;by_cases h3:a<sg.length
     . simp[h1,h3,hx]
     . simp[h1,h3]
   . simp only[if_neg h1,if_neg h2];cases sg[i]? with
     |none=>rfl
     |some o=>simp only[Option.map_some];rw[Wf]
theorem fy.swap{s:AS} {oj oi:Oper} {rj ri:Rc} (hj:fy C ops oj s rj) (hi:fy C ops oi (s.app oj.dst rj.e) ri) (h:indep rj ri=true):
   fy C ops oi s ri/\fy C ops oj (s.app oi.dst ri.e) rj/\iU ((s.app oi.dst ri.e).app oj.dst rj.e) ((s.app oj.dst rj.e).app oi.dst ri.e):=by
 unfold indep at h;simp only[zza] at h;obtain⟨⟨⟨a1,a2⟩,a3⟩,h⟩:=h;rw[hj.d,hi.us] at a1;rw[hi.d,hj.us] at a2;rw[hi.d,hj.d] at a3;have hne:∀t,oj.dst=some t->oi.dst=some t->False:=fun t h1 h2=>by
  rw[h1,h2] at a3;simp[HS] at a3
 --what i looks at,ahead of j
 have lki:∀t∈looks ops oi,lk (s.app oj.dst rj.e).tm t=(lk s.tm t).kill rj.e.ks:=fun t ht=>by
  rw[ka,if_neg (Cs a1 ht)]
 have lkj:∀t∈looks ops oj,lk (s.app oi.dst ri.e).tm t=(lk s.tm t).kill ri.e.ks:=fun t ht=>by
  rw[ka,if_neg (Cs a2 ht)]
 have hfin:(rj.e.ks=[]\/ri.e.ks=[])->rj.e.v.kill ri.e.ks=rj.e.v->ri.e.v.kill rj.e.ks=ri.e.v->((s.app oi.dst ri.e).app oj.dst rj.e).sg=((s.app oj.dst rj.e).app oi.dst ri.e).sg->
    iU ((s.app oi.dst ri.e).app oj.dst rj.e) ((s.app oj.dst rj.e).app oi.dst ri.e):=fun hks hv1 hv2 hsg=>by
  refine⟨rfl,fun t=>?_,hsg,fun i=>by simp only[AS.app,lU];exact or_left_comm⟩;rw[ka,ka,ka,ka];by_cases e1:oj.dst=some t
  . rw[if_pos e1,if_pos e1,if_neg (fun e2=>hne t e1 e2),hv1]
  . rw[if_neg e1,if_neg e1];by_cases e2:oi.dst=some t
    . rw[if_pos e2,if_pos e2,hv2]
    . rw[if_neg e2,if_neg e2];rcases hks with hks|hks<;>rw[hks,jh,jh]
 cases hpl:xt rj ri with
 |true=>
   have hqj:quiet rj.e=true:=by
    have hp2:=hpl;unfold xt at hp2;simp only[zza] at hp2;rw[hj.lu] at hp2;exact(hj.look (aB hp2.1)).1
   obtain⟨j1,j2,j3⟩:=qP.1 hqj;have hsi:fy C ops oi s ri:=hi.loc rfl (fun t ht=>by rw[lki t ht,j1,jh]) (.inl (jt hqj).symm);rw[<-hi.d] at a2;obtain⟨_,i1,hsj⟩:=hj.pair hsi hpl (hi.d▸a2);refine⟨hsi,hsj,hfin (.inl j1) (by rw[i1,jh]) (by rw[j1,jh]) ?_⟩;rw[jt hqj,lh,lh,jt hqj]
 |false=>
 rw[hpl,Bool.false_or] at h;cases hqj:quiet rj.e with
 |true=>
   obtain⟨j1,j2,j3⟩:=qP.1 hqj;have hsi:fy C ops oi s ri:=hi.loc rfl (fun t ht=>by rw[lki t ht,j1,jh]) (.inl (jt hqj).symm);cases hqi:quiet ri.e with
   |true=>
     obtain⟨i1,i2,i3⟩:=qP.1 hqi;refine⟨hsi,hj.loc rfl (fun t ht=>by rw[lkj t ht,i1,jh]) (.inl (jt hqi)),hfin (.inl j1) (by rw[i1,jh]) (by rw[j1,jh]) ?_⟩;rw[jt hqj,jt hqi,jt hqi,jt hqj]
   |false=>
     rw[hqj,hqi] at h;simp only[zza] at h;obtain⟨⟨⟨⟨b1,b2⟩,b3⟩,b4⟩,b5⟩:=h;rw[hj.ov] at b1;have hb2:∀r∈rj.e.rd,(aD s.sg r).kill ri.e.ks=aD s.sg r:=fun r hr=>by
      rcases hj.oo with q|q
      . obtain⟨_,_,_,_,_,hm⟩:=(hj.look q).2 r hr;rw[hm];rfl
      . rw[q] at b2;exact IQ b2 r hr
     have hn:ri.n=s.sg.length:=by rw[hi.n hqi,jt hqj]
     rw[hn] at b5;refine⟨hsi,hj.loc rfl (fun t ht=>?_) (.inr ⟨hqj,fun r hr=>?_⟩),hfin (.inl j1) (uk b3) (by rw[j1,jh]) ?_⟩
     . rw[lkj t ht];rcases List.mem_append.1 ht with ht|ht
       . have:∀(l:List Operand) t,t∈tmpsOf l->Operand.tmp t∈l:=by
           intro l
           induction l with
           |nil=>intro t h;simp[tmpsOf] at h
           |cons x xs ih=>
             intro t h;cases x<;>simp only[tmpsOf,List.mem_cons] at h⊢<;>first
              |exact .inr (ih t h)
              | (rcases h with rfl | h
                 . exact .inl rfl
                 . exact .inr (ih t h))
         exact uk (IP b1 _ (CC (this _ _ ht)))
       . rcases MM hj.ef t ht with ⟨b,hb⟩|hb<;>rw[hb]<;>simp[V.kill,V.dE]
     . rw[z7 (C0 b5 r hr) (fun p hp e=>C4 b4 p hp (e▸hr)),hb2 r hr]
     . rw[jt hqj,lh,lh,jt hqj]
 |false=>
   cases hqi:quiet ri.e with
   |false=>
     rw[hqj,hqi] at h;have h:Gf rj ri=true:=h;have ht:rj.e.nw=[]/\ri.e.nw=[]/\rj.lu.1=3/\ri.lu.1=3/\∀a b,rj.e.ks=[a]->ri.e.ks=[b]->a≠b:=by
      unfold Gf at h;split at h
      . rename_i e1 e2;simp only[zza,Bool.not_eq_true'] at h;rw[e1,e2];refine⟨rfl,rfl,aB h.1.1,aB h.1.2,fun a b ha hb q=>?_⟩;cases ha;cases hb;subst q;have:=h.2;rw[Nat.beq_refl] at this;cases this
      . cases h
     obtain⟨t1,t2,t3,t4,t5⟩:=ht;rw[hj.lu] at t3;rw[hi.lu] at t4;obtain⟨a,x,ej,hdj,hla,hpx,hSj⟩:=hj.laid t3 t1;obtain⟨b,y,ei,hdi,hlb,hpy,hSi⟩:=hi.laid t4 t2;have hab:a≠b:=t5 a b (by rw[ej]) (by rw[ei]);have hlj:(s.app oj.dst rj.e).sg.length=s.sg.length:=by rw[KN,t1];rfl
     have hli:(s.app oi.dst ri.e).sg.length=s.sg.length:=by rw[KN,t2];rfl
     have hb0:aD s.sg b=.dead:=by
      have:=z7 (s:=s) (d:=oj.dst) (e:=rj.e) (r:=b) (by rw[hlj] at hlb;exact hlb) (fun p hp q=>by
       rw[ej] at hp;simp only[List.mem_singleton] at hp;subst hp;exact hab q)
      rw[hdi] at this;exact Wg this.symm
     have ha1:aD (s.app oi.dst ri.e).sg a=.dead:=by
      have:=z7 (s:=s) (d:=oi.dst) (e:=ri.e) (r:=a) hla (fun p hp q=>by
       rw[ei] at hp;simp only[List.mem_singleton] at hp;subst hp;exact hab q.symm)
      rw[this,hdj];rfl
     have hma:aH a [b]=false:=by simp only[aH,Bool.or_false];cases q:Nat.beq a b with|false=>simp[aH,q]|true=>exact absurd (aB q) hab
     have hmb:aH b [a]=false:=by cases q:Nat.beq b a with|false=>simp[aH,q]|true=>exact absurd (aB q).symm hab
     refine⟨hSi s hlj.symm rfl hb0,hSj _ hli rfl ha1,⟨rfl,fun t=>?_,?_,fun i=>by simp only[AS.app,lU];exact or_left_comm⟩⟩
     . rw[ka,ka,ka,ka];by_cases e1:oj.dst=some t
       . rw[if_pos e1,if_pos e1,if_neg (fun e2=>hne t e1 e2),ej,ei];simp[V.kill,hma]
       . rw[if_neg e1,if_neg e1];by_cases e2:oi.dst=some t
         . rw[if_pos e2,if_pos e2,ej,ei];simp[V.kill,hmb]
         . rw[if_neg e2,if_neg e2,zy]
     . rw[lh,lh,lh,lh,ej,ei];show dd (ir [a] (dd (ir [b] s.sg) [(b,.cells y)])) [(a,.cells x)]=dd (ir [b] (dd (ir [a] s.sg) [(a,.cells x)])) [(b,.cells y)];exact(Zc hab (by simp only[O.kill];rw[uj _ _ hpx]) (by simp only[O.kill];rw[uj _ _ hpy])).symm
   |true=>
     obtain⟨i1,i2,i3⟩:=qP.1 hqi;rw[hqj,hqi] at h;simp only[zza] at h;obtain⟨⟨⟨⟨b1,b2⟩,b3⟩,b4⟩,b5⟩:=h;rw[hi.ov] at b1;have hb2:∀r∈ri.e.rd,aD (s.app oj.dst rj.e).sg r=(aD s.sg r).kill rj.e.ks->aD (s.app oj.dst rj.e).sg r=aD s.sg r:=fun r hr he=>by
      rcases hi.oo with q|q
      . obtain⟨_,_,_,_,_,hm⟩:=(hi.look q).2 r hr;rw[hm] at he⊢;cases hg:aD s.sg r<;>rw[hg] at he<;>first
         |(cases he;done)
         |exact he
      . rw[q] at b2;exact MI b2 r hr he
     rw[hj.n hqj] at b5;have hlk:∀t∈looks ops oi,lk s.tm t=lk (s.app oj.dst rj.e).tm t:=fun t ht=>by
      have h1:=lki t ht;rw[h1];refine(zz ?_).symm;rw[<-h1];rcases List.mem_append.1 ht with ht|ht
      . have:∀(l:List Operand) t,t∈tmpsOf l->Operand.tmp t∈l:=by
          intro l
          induction l with
          |nil=>intro t h;simp[tmpsOf] at h
          |cons x xs ih=>
            intro t h;cases x<;>simp only[tmpsOf,List.mem_cons] at h⊢<;>first
             |exact .inr (ih t h)
             | (rcases h with rfl | h
                . exact .inl rfl
                . exact .inr (ih t h))
        exact MH b1 _ (CC (this _ _ ht))
      . rcases MM hi.ef t ht with ⟨b,hb⟩|hb<;>rw[hb]<;>rfl
     refine⟨hi.loc rfl hlk (.inr ⟨hqi,fun r hr=>?_⟩),hj.loc rfl (fun t ht=>by rw[lkj t ht,i1,jh]) (.inl (jt hqi)),hfin (.inr i1) (by rw[i1,jh]) (uk b3) ?_⟩
     . exact(hb2 r hr (z7 (C0 b5 r hr) (fun p hp e=>C4 b4 p hp (e▸hr)))).symm
     . show jS (dd (ir rj.e.ks (s.app oi.dst ri.e).sg) rj.e.up) rj.e.nw=_;rw[jt hqi,jt hqi];rfl

def ko(C:Ctx) (ops:List Oper) (f:Nat->Rc) (sN:AS):List Nat->AS->Prop
 |[],s=>iU s sN
 |i::L,s=>∃o,ops[i]?=some o/\fy C ops o s (f i)/\ko C ops f sN L (s.app o.dst (f i).e)

theorem ko.eqv{f:Nat->Rc} {sN:AS}:∀{L:List Nat} {s s':AS},ko C ops f sN L s->iU s s'->ko C ops f sN L s'
 |[],_,_,h,e=>e.symm.trans h
 |_::_,_,_,⟨o,h1,h2,h3⟩,e=>⟨o,h1,h2.eqv e,h3.eqv (e.app _ _)⟩

theorem ko.front{f:Nat->Rc} {sN:AS} {i:Nat} {l2:List Nat}:∀{l1:List Nat} {s:AS},ko C ops f sN (l1++i::l2) s->(∀j∈l1,indep (f j) (f i) =true)->ko C ops f sN (i::(l1++l2)) s
 |[],_,h,_=>h
 |j::l1,s,⟨oj,h1,h2,h3⟩,hi=>by
   obtain⟨oi,k1,k2,k3⟩:=ko.front h3 fun k hk=>hi k (d5 _ hk);obtain⟨q1,q2,q3⟩:=h2.swap k2 (hi j (by simp));exact⟨oi,k1,q1,oj,h1,q2,k3.eqv q3.symm⟩
end
end Go.VG
