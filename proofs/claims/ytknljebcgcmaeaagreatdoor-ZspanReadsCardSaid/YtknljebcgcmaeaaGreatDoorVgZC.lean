/-
  A part of the proof.
-/
import Derived.Test.YtknljebcgcmaeaaGreatDoorVgU
import Derived.Deep.LoopGhost
import Derived.Sort.LoopGhostIn
import Derived.ScopeJumps
import GoSem.ClaimChange
import Derived.Deep.DeepHandedRow
import Derived.LaidLaws
import Derived.Below
import Derived.Carry
import Derived.ChangeSame
import Derived.ProofKit
import Derived.RecoverIn
set_option linter.unusedSimpArgs false
set_option linter.unusedVariables false
namespace Go.VG
open Go
section
variable {st:St} {g:aw}
mutual
theorem xz:∀{x:V} {n:Nat} {v:Value},VR st g x n v->x.wf
 |.int k m,n,v,h=>by simp only[VR] at h;simp only[V.wf];exact h.2
 |.str s,n,v,h=>by simp only[VR] at h;simp only[V.wf];exact h.2
 |.agg cs,n,v,h|.tuple cs,n,v,h=>by
   simp only[VR] at h;obtain⟨vs,_,h⟩:=h;simp only[V.wf];exact p7 h
 |.list c sz l,n,v,h=>by
   simp only[VR] at h;obtain⟨base,cap,_,_,h2,_,h3⟩:=h;simp only[V.wf];refine⟨h2,?_⟩;rcases h3 with rfl|⟨b,o,_,_,h3⟩
   . simp[V.eP]
   . exact B1 h3
 |.box cs off,n,v,h=>by
   simp only[VR] at h;obtain⟨b,o,vs,_,h,_⟩:=h;simp only[V.wf];exact p7 h
 |.iface t x,n,v,h=>by
   simp only[VR] at h;obtain⟨u,_,h⟩:=h;simp only[V.wf];exact xz h
 |.undef,_,_,_|.bool _,_,_,_|.nilptr,_,_,_|.ptr ..,_,_,_|.bptr ..,_,_,_|.view ..,_,_,_|.buf _,_,_,_|.nilIface,_,_,_|.func ..,_,_,_|.nilFunc,_,_,_|.map _,_,_,_|.nilmap,_,_,_=>by simp[V.wf]
theorem p7:∀{x:List V} {n:Nat} {v:List Value},aE st g x n v->V.eP x
 |[],_,_,_=>by simp[V.eP]
 |c::cs,_,_,h=>by
   simp only[aE] at h;obtain⟨u,us,_,h1,h2⟩:=h;simp only[V.eP];exact⟨xz h1,p7 h2⟩
theorem B1:∀{x:List V} {sz o:Nat} {look:Nat->Option Value},cq st g x sz look o->V.eP x
 |[],_,_,_,_=>by simp[V.eP]
 |c::cs,_,_,_,h=>by
   simp only[cq] at h;obtain⟨⟨u,h1,_⟩,h2⟩:=h;simp only[V.eP];exact⟨xz h1,B1 h2⟩
end
end

theorem Nr:∀{l:List O},i9 l↔∀x∈l,x.wf
 |[]=>by simp[i9]
 |c::cs=>by simp[i9,Nr (l:=cs)]

section
variable {C:Ctx} {E:Env} {st:St} {g:aw} {s:AS} {a:Act} {w:World}

theorem dK.wf{n:Nat} {gi:Gh} {o:O} (h:dK E st g n w gi o):o.wf:=by
 cases o with
 |dead=>simp[O.wf]
 |cells cs=>obtain⟨b,c,el,fr,_,_,_,h,_⟩:=h;simp only[O.wf];exact p7 h
 |buf sz pre l=>
   obtain⟨_,_,_,h4,h5,_,h7⟩:=h;simp only[O.wf];refine⟨h4,?_⟩;rcases h7 with ⟨h7,_⟩|⟨b,c,el,fr,_,_,_,_,_,k6,_⟩
   . have:l=[]:=d5 (by omega);subst this;simp[V.eP]
   . exact B1 k6
 |siter s p=>simp only[O.wf];exact h.1
 |map ag sh es bs ck=>
   obtain⟨_,_,_,_,_,h4,_⟩:=h;simp only[O.wf];have:=sR h4;omega
 |miter m bs ck l x=>simp[O.wf]
theorem aO.wf{sg:List O} (h:aO E st g sg w):i9 sg:=Nr.2 fun o ho=>by
 obtain⟨i,hi,hio⟩:=List.getElem_of_mem ho;exact(h.ob i o (by rw[am hi,hio])).wf
theorem xi(f:Nat->Value) {n:Nat}:∀(l:List (Nat×V)) (seen:List Nat),(∀t,t∉seen->VR st g (lk l t) n (f t))->nT l seen
 |[],_,_=>trivial
 |(t,x)::r,seen,h=>by
   simp only[nT];refine⟨?_,xi f (n:=n) r (t::seen) fun t' ht'=>?_⟩
   . cases hm:aQ t seen with
     |true=>trivial
     |false=>
       have:=h t (rv.1 hm);simp only[lk,show Nat.beq t t=true from Nat.beq_refl t,cond_true] at this;exact xz this
   . simp only[List.mem_cons,not_or] at ht';have:=h t' ht'.2;simp only[lk] at this
     rwa [show Nat.beq t t'=false from by cases hb:Nat.beq t t' with|false=>rfl|true=>exact absurd (cb hb).symm ht'.1,cond_false] at this

def et(C:Ctx) (E:Env) (n:Nat) (st0:St) (g0:aw) (s':AS) (a':Act) (w':World):Prop:=∃E',j5 E E'/\∃st' g',Rel E' st' g' s' a' w'/\aV C.gl st'/\my n st0 g0 st' g' s'

theorem MP{s:AS} {m:Nat}:∀{l:List (Nat×V)} {t:Nat},Az s m l->lk l t=.undef\/(lk s.tm t=lk l t/\(lk l t).gX m=true)
 |[],t,_=>.inl rfl
 |(k,x)::r,t,h=>by
   simp only[lk];cases hb:Nat.beq k t with
   |true=>
     have:=cb hb;subst this;simp only[cond_true];exact .inr h.1
   |false=>simp only[cond_false];exact MP h.2
theorem MM{i:Nat}:∀{ks l:List Nat},xc ks l=true->aQ i ks=true->aQ i l=true
 |[],_,_,h=>by simp[aQ] at h
 |k::ks,l,h,hm=>by
   simp only[xc,aA] at h;simp only[aQ,Bool.or_eq_true] at hm;rcases hm with hm|hm
   . have:=cb hm;subst this;exact h.1
   . exact MM h.2 hm

theorem et.sub{n:Nat} {st0:St} {g0:aw} {t:AS} (h:et C E n st0 g0 s a w) (hs:Sub n s t):et C E n st0 g0 t a w:=by
 obtain⟨E',hE',st',g',R,hg,B⟩:=h;refine⟨E',hE',st',g',⟨R.nt.trans hs.nt,R.df,fun u=>?_,R.wr.rM hs.sg⟩,hg,⟨B.mono,fun i hi hm=>B.aX i hi ?_,d9 hs.len⟩⟩
 . rcases MP (t:=u) hs.tm with h|⟨h1,h2⟩
   . rw[h];simp[VR]
   . have:=R.tm u;rw[h1] at this;exact gw (fun _ _ _ h=>h) (fun i hi _=>⟨qX h2 hi,rfl⟩) this
 . cases hb:aQ i s.kl with
   |false=>rfl
   |true=>rw[MM hs.kl hb] at hm;cases hm

theorem Mk{y:V}:∀{xs:List V} {off j:Nat},(mX xs off y)[j]?=if j=off/\off<xs.length then some y else xs[j]?
 |[],off,j=>by simp[mX]
 |x::xs,0,j=>by cases j<;>simp[mX]
 |x::xs,off+1,j=>by
   cases j with
   |zero=>simp[mX]
   |succ j=>simp[mX,Mk (xs:=xs) (off:=off) (j:=j)]
theorem Ml{y:V}:∀{xs:List V} {off:Nat},(mX xs off y).length=xs.length
 |[],_=>rfl
 |_::_,0=>rfl
 |_::xs,off+1=>by simp[mX,Ml (xs:=xs)]

theorem aO.ghost{sg:List O} (h:aO E st g sg w) {base:Option Addr} {sz:Nat} (hsz:0<sz):aO E st (br g sg.length ⟨none,base,0,0,sz⟩) (sg++[.buf sz 0 []]) w:=by
 refine h.step (dm.same (aY.refl w)) ?_ ?_
 . intro i o ho;rw[an,gt];rcases Nat.lt_trichotomy i sg.length with hlt|heq|hgt
   . rw[d6 hlt] at ho;rw[cI (Nat.ne_of_lt hlt)];exact(h.ob i o ho).aX (fun _ _=>rfl) (fun _ _ _ hv=>hv) (fun _ _ _ _ hv=>hv) (fun j _ hj=>⟨by omega,cI (Nat.ne_of_lt hj)⟩)
   . subst heq;rw[d7 (co _)] at ho;simp at ho;subst ho;rw[dP];exact⟨hsz,rfl,ci _,ci _,rfl,co _,.inl ⟨rfl,rfl⟩⟩
   . rw[dl (by simp;omega)] at ho;cases ho
 . intro i j b hi hj h1 h2;rw[an,gt] at hi hj;by_cases e1:i=sg.length
   . subst e1;rw[dP] at h1;cases h1
   . by_cases e2:j=sg.length
     . subst e2;rw[dP] at h2;cases h2
     . rw[cI e1] at h1;rw[cI e2] at h2;exact h.inj i j b (by omega) (by omega) h1 h2

theorem aO.C8{sg:List O} (h:aO E st g sg w) {base:Option Addr} {sz:Nat}:aO E st (br g sg.length ⟨none,base,0,0,sz⟩) (sg++[.dead]) w:=by
 refine h.step (dm.same (aY.refl w)) ?_ ?_
 . intro i o ho;rw[an,gt];rcases Nat.lt_trichotomy i sg.length with hlt|heq|hgt
   . rw[d6 hlt] at ho;rw[cI (Nat.ne_of_lt hlt)];exact(h.ob i o ho).aX (fun _ _=>rfl) (fun _ _ _ hv=>hv) (fun _ _ _ _ hv=>hv) (fun j _ hj=>⟨by omega,cI (Nat.ne_of_lt hj)⟩)
   . subst heq;rw[d7 (co _)] at ho;simp at ho;subst ho;rw[dP];intro b hb;cases hb
   . rw[dl (by simp;omega)] at ho;cases ho
 . intro i j b hi hj h1 h2;rw[an,gt] at hi hj;by_cases e1:i=sg.length
   . subst e1;rw[dP] at h1;cases h1
   . by_cases e2:j=sg.length
     . subst e2;rw[dP] at h2;cases h2
     . rw[cI e1] at h1;rw[cI e2] at h2;exact h.inj i j b (by omega) (by omega) h1 h2

theorem sd{sg:List O} {x:V} {v:Value} {gh:Gh} (h:VR st g x sg.length v):VR st (br g sg.length gh) x (sg.length+1) v:=
 gw (fun _ _ _ h=>h) (fun i _ hi=>⟨by omega,cI (Nat.ne_of_lt hi)⟩) h

theorem AA(i j k:Nat):swp i j k=if k=i then j else if k=j then i else k:=by
 unfold swp;cases h1:Nat.beq k i with
 |true=>simp[cb h1]
 |false=>
   have h1':k≠i:=fun e=>by subst e;rw[show Nat.beq k k=true from Nat.beq_refl k] at h1;cases h1
   cases h2:Nat.beq k j with
   |true=>simp only[cond_true,cond_false];rw[if_neg h1',if_pos (cb h2)]
   |false=>
     have h2':k≠j:=fun e=>by subst e;rw[show Nat.beq k k=true from Nat.beq_refl k] at h2;cases h2
     simp[h1',h2']
theorem G6(i j k:Nat):swp i j (swp i j k) =k:=by
 rw[AA,AA];by_cases h1:k=i
 . subst h1;by_cases h2:j=k
   . subst h2;simp
   . simp[h2]
 . by_cases h2:k=j
   . subst h2;simp[h1]
   . simp[h1,h2]
theorem G5{i j k n:Nat} (hi:i<n) (hj:j<n) (hk:k<n):swp i j k<n:=by
 rw[AA];split
 . exact hj
 . split
   . exact hi
   . exact hk
theorem C7{sg:List O} {i:Nat} (h:i<sg.length):sg[i]?=some (aH sg i):=by
 rw[vG,ac,am h];rfl
theorem Yn{sg:List O} {i j:Nat} (hi:i<sg.length) (hj:j<sg.length) (k:Nat):(swapAt sg i j)[k]?=sg[swp i j k]?:=by
 unfold swapAt;rw[AA,jg,jg];by_cases h2:k=j
 . subst h2;rw[List.getElem?_set_self (by simpa using hj)];by_cases h1:k=i
   . subst h1;simp[C7 hj]
   . simp[h1,C7 hi]
 . rw[List.getElem?_set_ne (Ne.symm h2)];by_cases h1:k=i
   . subst h1;rw[List.getElem?_set_self hi];simp[C7 hj]
   . rw[List.getElem?_set_ne (Ne.symm h1)];simp[h1,h2]
theorem Yo(sg:List O) (i j:Nat):(swapAt sg i j).length=sg.length:=by simp[swapAt,jg]
theorem KX(f:Nat->Option Nat):∀(tm:List (Nat×V)) (t:Nat),lk (u9 f tm) t=(lk tm t).bZ f
 |[],t=>by simp[u9,lk,V.bZ]
 |(k,x)::r,t=>by
   simp only[u9,lk];cases Nat.beq k t<;>simp[KX f r t]

mutual
theorem uN{i:Nat} {y:V} {z:Nat->V} (hy:∀n v,VR st g (.buf i) n v->VR st g y n v) (hz:∀o n v,VR st g (.ptr i o) n v->VR st g (z o) n v):∀{x:V} {n:Nat} {v:Value},VR st g x n v->VR st g (V.put i y z x) n v
 |.buf j,n,v,h=>by
   simp only[V.put];cases hb:Nat.beq j i with
   |true=>
     have:=cb hb;subst this;exact hy n v h
   |false=>exact h
 |.ptr j o,n,v,h=>by
   simp only[V.put];cases hb:Nat.beq j i with
   |true=>
     have:=cb hb;subst this;exact hz o n v h
   |false=>exact h
 |.agg cs,n,v,h|.tuple cs,n,v,h=>by
   simp only[VR,V.put] at h⊢;obtain⟨vs,rfl,h⟩:=h;exact⟨vs,rfl,uR hy hz h⟩
 |.iface t x,n,v,h=>by
   simp only[VR,V.put] at h⊢;obtain⟨u,rfl,h⟩:=h;exact⟨u,rfl,uN hy hz h⟩
 |.func f a b,n,v,h=>by
   simp only[VR,V.put] at h⊢;obtain⟨p,q,rfl,h1,h2⟩:=h;exact⟨p,q,rfl,uR hy hz h1,uR hy hz h2⟩
 |.undef,_,_,h|.int ..,_,_,h|.bool _,_,_,h|.str _,_,_,h|.list ..,_,_,h|.nilptr,_,_,h|.box ..,_,_,h|.nilIface,_,_,h|.nilFunc,_,_,h|.nilmap,_,_,h|.bptr ..,_,_,h|.view ..,_,_,h|.map _,_,_,h=>by
   simpa only[V.put] using h
theorem uR{i:Nat} {y:V} {z:Nat->V} (hy:∀n v,VR st g (.buf i) n v->VR st g y n v) (hz:∀o n v,VR st g (.ptr i o) n v->VR st g (z o) n v):∀{x:List V} {n:Nat} {v:List Value},aE st g x n v->aE st g (V.oH i y z x) n v
 |[],_,_,h=>by simpa only[V.oH] using h
 |c::cs,n,v,h=>by
   simp only[aE,V.oH] at h⊢;obtain⟨u,us,rfl,h1,h2⟩:=h;exact⟨u,us,rfl,uN hy hz h1,uR hy hz h2⟩
end
theorem dK.put{n:Nat} {gi:Gh} {o:O} {i:Nat} {y:V} {z:Nat->V} (hy:∀n v,VR st g (.buf i) n v->VR st g y n v) (hz:∀o n v,VR st g (.ptr i o) n v->VR st g (z o) n v) (h:dK E st g n w gi o):dK E st g n w gi (o.put i y z):=by
 cases o with
 |cells cs=>
   obtain⟨b,c,el,fr,h1,h2,h3,h4,h5,h6⟩:=h;exact⟨b,c,el,fr,h1,h2,h3,uR hy hz h4,h5,h6⟩
 |miter m bs ck l x=>
   obtain⟨b,b',seen,h1,h2,h3,h4,h5⟩:=h;exact⟨b,b',seen,h1,h2,h3,uN hy hz h4,h5⟩
 |_=>exact h
theorem Dp{i:Nat} {y:V} {z:Nat->V}:∀{sg:List O} {j:Nat},(kp i y z sg)[j]?=(sg[j]?).map (O.put i y z)
 |[],_=>by simp[kp]
 |o::os,0=>by simp[kp]
 |o::os,j+1=>by simp only[kp,List.getElem?_cons_succ];exact Dp
theorem wz{i:Nat} {y:V} {z:Nat->V}:∀{sg:List O},(kp i y z sg).length=sg.length
 |[]=>rfl
 |_::os=>by simp only[kp,List.length_cons];rw[wz (sg:=os)]
theorem CQ{i:Nat} {y:V} {z:Nat->V}:∀(tm:List (Nat×V)) (t:Nat),lk (pU i y z tm) t=V.put i y z (lk tm t)
 |[],t=>by simp[pU,lk,V.put]
 |(k,x)::r,t=>by
   simp only[pU,lk];cases Nat.beq k t with
   |true=>rfl
   |false=>exact CQ r t
theorem et.mU{n:Nat} {st0:St} {g0:aw} (h:et C E n st0 g0 s a w) (p:gu):et C E n st0 g0 (s.mU p) a w:=by
 cases p with
 |tm t sz=>
   simp only[AS.mU];split
   . rename_i sz0 sz1 hlk;obtain⟨E',hE',st',g',R,hg,B⟩:=h;have hv:=R.tm t;rw[hlk] at hv;simp only[VR] at hv;obtain⟨base,cap,hv,_,_,hcap,_⟩:=hv;obtain rfl:cap=0:=by simpa using hcap trivial
     refine⟨E',hE',st',br g' s.sg.length ⟨none,base,0,0,sz1+1⟩,⟨R.nt,R.df,fun u=>?_,R.wr.ghost (Nat.succ_pos _)⟩,hg,⟨B.mono,fun i hi hm=>?_,by simp;exact Nat.le_succ_of_le B.len⟩⟩
     . show VR st' _ (lk ((t,.buf s.sg.length)::s.tm) u) (s.sg++[_]).length _;rw[an,gt];simp only[lk];cases hb:Nat.beq t u with
       |true=>
         have:=cb hb;subst this;simp only[cond_true,VR];exact⟨Nat.lt_succ_self _,by rw[dP];simpa using hv⟩
       |false=>simp only[cond_false];exact sd (R.tm u)
     . have:=B.len;show br g' s.sg.length _ i=g0 i;rw[cI (by omega)];exact B.aX i hi hm
   . exact h
 |cell i off sz=>
   simp only[AS.mU];split
   . rename_i cs sz1 hob;split
     . rename_i sz0 hgl;obtain⟨E',hE',st',g',R,hg,B⟩:=h;obtain⟨hoi,hil⟩:=eU hob (by simp);rw[y9] at hgl;have W1:=R.wr;have hobr:=W1.ob i _ hoi;obtain⟨b,c,el,fr,k1,k2,k3,k4,k5,k6⟩:=hobr;obtain⟨v,hv1,hv⟩:=jA k4 hgl;simp only[VR] at hv;obtain⟨base,cap,rfl,_,_,hcap,_⟩:=hv;obtain rfl:cap=0:=by simpa using hcap trivial
       have W2:=W1.ghost (base:=base) (sz:=sz1+1) (Nat.succ_pos _);have hlen:(fZ s.sg i (.cells (mX cs off (.buf s.sg.length)))++[O.buf (sz1+1) 0 []]).length=s.sg.length+1:=by simp[jg]
       have hoff:off<cs.length:=by
        rcases eg off cs.length with h'|h'
        . exact h'
        . simp[dl h'] at hgl
       have W3:aO E' st' (br g' s.sg.length ⟨none,base,0,0,sz1+1⟩) (fZ s.sg i (.cells (mX cs off (.buf s.sg.length)))++[O.buf (sz1+1) 0 []]) w:=by
        refine W2.step (dm.same (aY.refl w)) ?_ ?_
        . intro j o ho;rw[hlen];by_cases e:j=i
          . subst e;rw[jg,d6 (by simpa using hil),List.getElem?_set_self hil] at ho;cases ho;rw[cI (Nat.ne_of_lt hil)];refine⟨b,c,el,fr,k1,k2,k3,jB.2 ⟨by rw[Ml];exact eJ k4,fun q x v hx hv=>?_⟩,k5,k6⟩;rw[Mk] at hx;split at hx
            . rename_i hq;obtain⟨rfl,_⟩:=hq;cases hx;rw[hv1] at hv;cases hv;simp only[VR];exact⟨Nat.lt_succ_self _,by rw[dP];simp⟩
            . exact sd ((jB.1 k4).2 q x v hx hv)
          . have ho':(s.sg++[O.buf (sz1+1) 0 []])[j]?=some o:=by
              rw[jg] at ho;rcases eg j s.sg.length with hj|hj
              . rw[d6 (by simpa using hj),List.getElem?_set_ne (Ne.symm e)] at ho;rw[d6 hj];exact ho
              . rw[d7 (by simpa using hj)] at ho;rw[d7 hj];simpa using ho
            have:=W2.ob j o ho';rw[an,gt] at this;exact this
        . intro q r bb hq hr h1 h2;rw[hlen] at hq hr;exact W2.inj q r bb (by simpa using hq) (by simpa using hr) h1 h2
       refine⟨E',hE',st',br g' s.sg.length ⟨none,base,0,0,sz1+1⟩,⟨R.nt,R.df,fun u=>?_,W3⟩,hg,⟨B.mono,fun j hj hm=>?_,?_⟩⟩
       . show VR st' _ (lk s.tm u) (fZ s.sg i _++[_]).length _;rw[hlen];exact sd (R.tm u)
       . have:=B.len;show br g' s.sg.length _ j=g0 j;rw[cI (by omega)];exact B.aX j hj hm
       . show n<=(fZ s.sg i _++[_]).length;rw[hlen];exact Nat.le_succ_of_le B.len
     . exact h
   . exact h
 |swap i j=>
   simp only[AS.mU];split
   . rename_i hij;simp only[aA] at hij;have hi:i<s.sg.length:=d9 hij.1;have hj:j<s.sg.length:=d9 hij.2;obtain⟨E',hE',st',g',R,hg,B⟩:=h;have hlen:(l5 (fun k=>some (swp i j k)) (swapAt s.sg i j)).length=s.sg.length:=by rw[tJ];simp[Yo]
     have hf:∀a b,(fun k=>some (swp i j k)) a=some b->a<s.sg.length->b<s.sg.length/\(fun k=>g' (swp i j k)) b=g' a:=fun a b hab ha=>by
      cases hab;exact⟨G5 hi hj ha,by simp only[G6]⟩
     have W1:=R.wr;refine⟨E',hE',st',fun k=>g' (swp i j k),⟨R.nt,R.df,fun u=>?_,?_⟩,hg,⟨B.mono,fun k hk hm=>?_,?_⟩⟩
     . show VR st' _ (lk (u9 _ s.tm) u) (l5 _ _).length _;rw[KX,hlen];exact sf hf (R.tm u)
     . refine W1.step (dm.same (aY.refl w)) ?_ ?_
       . intro k o ho;rw[tJ,List.getElem?_map,Yn hi hj] at ho;cases hs:s.sg[swp i j k]? with
         |none=>rw[hs] at ho;cases ho
         |some o0=>
           rw[hs] at ho;cases ho;show dK E' st' _ (l5 _ _).length w (g' (swp i j k)) (o0.bZ _);rw[hlen];have h0:=W1.ob _ _ hs;exact h0.bZ hf (fun b hb=>(h0.cF hb).2)
       . intro q r bb hq hr h1 h2;have hq:q<s.sg.length:=hlen▸hq;have hr:r<s.sg.length:=hlen▸hr;have:=W1.inj _ _ bb (G5 hi hj hq) (G5 hi hj hr) h1 h2;rw[<-G6 i j q,this,G6]
     . have hm:aQ k (i::j::s.kl) =false:=hm;simp only[aQ,Bool.or_eq_false_iff] at hm;show g' (swp i j k) =g0 k;rw[show swp i j k=k by simp[swp,hm.1,hm.2.1]];exact B.aX k hk hm.2.2
     . show n<=(l5 _ _).length;rw[hlen];exact B.len
   . exact h
 |nw=>
   simp only[AS.mU];obtain⟨E',hE',st',g',R,hg,B⟩:=h;refine⟨E',hE',st',br g' s.sg.length ⟨none,none,0,0,1⟩,⟨R.nt,R.df,fun u=>?_,R.wr.ghost (Nat.succ_pos _)⟩,hg,⟨B.mono,fun i hi hm=>?_,by simp;exact Nat.le_succ_of_le B.len⟩⟩
   . show VR st' _ (lk s.tm u) (s.sg++[_]).length _;rw[an,gt];exact sd (R.tm u)
   . have:=B.len;show br g' s.sg.length _ i=g0 i;rw[cI (by omega)];exact B.aX i hi hm
 |res=>
   simp only[AS.mU];obtain⟨E',hE',st',g',R,hg,B⟩:=h;refine⟨E',hE',st',br g' s.sg.length ⟨none,none,0,0,0⟩,⟨R.nt,R.df,fun u=>?_,R.wr.C8⟩,hg,⟨B.mono,fun i hi hm=>?_,by simp;exact Nat.le_succ_of_le B.len⟩⟩
   . show VR st' _ (lk s.tm u) (s.sg++[_]).length _;rw[an,gt];exact sd (R.tm u)
   . have:=B.len;show br g' s.sg.length _ i=g0 i;rw[cI (by omega)];exact B.aX i hi hm
 |bL i=>
   simp only[AS.mU];split
   . rename_i sz pre l hob;obtain⟨E',hE',st',g',R,hg,B⟩:=h;obtain⟨hoi,hil⟩:=eU hob (by simp);obtain⟨q1,q2,q3,q4,q5,q6,q7⟩:=R.wr.ob i _ hoi;obtain⟨st2,hch,hnew,hy⟩:∃st2,dm E' st' st2 w w (fun b=>(g' i).blk=some b)/\(∀j b,j<s.sg.length->j≠i->(g' j).blk=some b->∀o v,st2 b o=some v->st' b o=some v)/\
        ∀n v,VR st2 g' (.buf i) n v->VR st2 g' (.list false sz l) n v:=by
      rcases q7 with ⟨q7,q8⟩|⟨b,c,el,fr,k1,k2,k3,k4,k5,k6,k7,k8⟩
      . refine⟨st',⟨rfl,rfl,rfl,co _,fun _ _ _=>rfl,fun b hb=>(by rw[q8] at hb;cases hb),fun _ _ _ h=>h,fun _ _ _ h=>.inl h,fun b o v _ h=>R.wr.stw _ _ _ h⟩,fun _ _ _ _ _ _ _ h=>h,fun m v h=>?_⟩;simp only[VR] at h⊢;obtain⟨_,rfl⟩:=h;exact⟨_,_,by rw[q5],by rw[<-q5,q5];exact q6,q4,by simp,.inl (d5 (by omega))⟩
      . have hmono:∀b' o' v',st' b' o'=some v'->bL st' b c b' o'=some v':=fun b' o' v' h=>by
          simp only[bL];split
          . rename_i e;subst e;rw[<-gS k4];exact R.wr.stw _ _ _ h
          . exact h
        refine⟨bL st' b c,⟨rfl,rfl,rfl,co _,fun _ _ _=>rfl,fun b' hb'=>(R.wr.cF hil hb').2,hmono,fun b' o' v' h=>?_,fun b' o' v' hb' h=>R.wr.stw _ _ _ h⟩,fun j b' hj hne hb' o' v' h=>?_,fun m v h=>?_⟩
        . simp only[bL] at h;split at h
          . rename_i e;subst e;exact .inr ⟨k3,by rw[gS k4];exact h⟩
          . exact .inl h
        . simp only[bL] at h;split at h
          . rename_i e;subst e;exact absurd (R.wr.inj j i b' hj hil hb' k1) hne
          . exact h
        . simp only[VR] at h⊢;obtain⟨_,rfl⟩:=h;refine⟨_,_,by rw[q5],q6,q4,by simp,.inr ⟨b,0,k2,q1,?_⟩⟩;exact lq hmono (fun o' v' h=>by simp only[bL,if_true];exact h) k6
     have hlen:(fZ (kp i (.list false sz l) (.ptr i) s.sg) i .dead).length=s.sg.length:=by rw[jg,List.length_set,wz]
     have W2:aO E' st2 g' (fZ (kp i (.list false sz l) (.ptr i) s.sg) i .dead) w:=by
      refine R.wr.step hch ?_ ?_
      . intro j o ho;rw[hlen];rw[jg] at ho;by_cases e:j=i
        . subst e;rw[List.getElem?_set_self (by rw[wz];exact hil)] at ho;cases ho;exact fun b hb=>R.wr.cF hil hb
        . rw[List.getElem?_set_ne (Ne.symm e),Dp] at ho;cases hs:s.sg[j]? with
          |none=>rw[hs] at ho;cases ho
          |some o₀=>
            rw[hs] at ho;cases ho;have hjl:j<s.sg.length:=by
             rcases eg j s.sg.length with h'|h'
             . exact h'
             . simp[dl h'] at hs
            refine dK.put hy (fun _ _ _ h=>h) ((R.wr.ob j o₀ hs).aX (fun b hb=>rfl) hch.mono (fun b hb=>hnew j b hjl e hb) (fun k hk hkn=>⟨hkn,rfl⟩))
      . intro p q b hp hq;rw[hlen] at hp hq;exact R.wr.inj p q b hp hq
     refine⟨E',hE',st2,g',⟨R.nt,R.df,fun u=>?_,W2⟩,hg.mono hch.mono,⟨fun b o v hv=>hch.mono _ _ _ (B.mono b o v hv),B.aX,by rw[hlen];exact B.len⟩⟩;show VR st2 g' (lk (pU i (.list false sz l) (.ptr i) s.tm) u) (fZ (kp i (.list false sz l) (.ptr i) s.sg) i .dead).length _;rw[CQ,hlen];exact uN hy (fun _ _ _ h=>h) (gw hch.mono (fun _ _ h=>⟨h,rfl⟩) (R.tm u))
   . exact h
 |fbx i=>
   simp only[AS.mU];split
   . rename_i cs hob;cases hpu:V.fX cs with
     |false=>exact h
     |true=>
     simp only[cond_true];obtain⟨E',hE',st',g',R,hg,B⟩:=h;obtain⟨hoi,hil⟩:=eU hob (by simp);obtain⟨b,c,el,fr,k1,k2,k3,k4,k5,k6⟩:=R.wr.ob i _ hoi;have hmono:∀b' o' v',st' b' o'=some v'->bL st' b c b' o'=some v':=fun b' o' v' h=>by
      simp only[bL];split
      . rename_i e;subst e;rw[<-gS k3];exact R.wr.stw _ _ _ h
      . exact h
     have hch:dm E' st' (bL st' b c) w w (fun b=>(g' i).blk=some b):=⟨rfl,rfl,rfl,co _,fun _ _ _=>rfl,fun b' hb'=>(R.wr.cF hil hb').2,hmono,fun b' o' v' h=>by
      simp only[bL] at h;split at h
      . rename_i e;subst e;exact .inr ⟨k2,by rw[gS k3];exact h⟩
      . exact .inl h,fun b' o' v' hb' h=>R.wr.stw _ _ _ h⟩
     have hnew:∀j b',j<s.sg.length->j≠i->(g' j).blk=some b'->∀o' v',bL st' b c b' o'=some v'->st' b' o'=some v':=fun j b' hj hne hb' o' v' h=>by
      simp only[bL] at h;split at h
      . rename_i e;subst e;exact absurd (R.wr.inj j i b' hj hil hb' k1) hne
      . exact h
     have hz:∀o n v,VR (bL st' b c) g' (.ptr i o) n v->VR (bL st' b c) g' (.box cs o) n v:=fun o n v h=>by
      simp only[VR] at h⊢;obtain⟨_,b2,hb2,rfl⟩:=h;rw[k1] at hb2;cases hb2;refine⟨b,0,c.toList,by rw[Nat.zero_add],kE hmono (fun _ _ h=>⟨h,rfl⟩) (LP k4 hpu),fun j hj=>?_⟩;simp[bL]
     have hlen:(fZ (kp i (.buf i) (.box cs) s.sg) i .dead).length=s.sg.length:=by rw[jg,List.length_set,wz]
     have W2:aO E' (bL st' b c) g' (fZ (kp i (.buf i) (.box cs) s.sg) i .dead) w:=by
      refine R.wr.step hch ?_ ?_
      . intro j o ho;rw[hlen];rw[jg] at ho;by_cases e:j=i
        . subst e;rw[List.getElem?_set_self (by rw[wz];exact hil)] at ho;cases ho;exact fun b hb=>R.wr.cF hil hb
        . rw[List.getElem?_set_ne (Ne.symm e),Dp] at ho;cases hs:s.sg[j]? with
          |none=>rw[hs] at ho;cases ho
          |some o₀=>
            rw[hs] at ho;cases ho;have hjl:j<s.sg.length:=by
             rcases eg j s.sg.length with h'|h'
             . exact h'
             . simp[dl h'] at hs
            refine dK.put (fun _ _ h=>h) hz ((R.wr.ob j o₀ hs).aX (fun b hb=>rfl) hch.mono (fun b hb=>hnew j b hjl e hb) (fun k hk hkn=>⟨hkn,rfl⟩))
      . intro p q b hp hq;rw[hlen] at hp hq;exact R.wr.inj p q b hp hq
     refine⟨E',hE',bL st' b c,g',⟨R.nt,R.df,fun u=>?_,W2⟩,hg.mono hch.mono,⟨fun b o v hv=>hch.mono _ _ _ (B.mono b o v hv),B.aX,by rw[hlen];exact B.len⟩⟩;show VR (bL st' b c) g' (lk (pU i (.buf i) (.box cs) s.tm) u) (fZ (kp i (.buf i) (.box cs) s.sg) i .dead).length _;rw[CQ,hlen];exact uN (fun _ _ h=>h) hz (gw hch.mono (fun _ _ h=>⟨h,rfl⟩) (R.tm u))
   . exact h
theorem et.dA{n:Nat} {st0:St} {g0:aw}:∀(ps:List gu) {s:AS},et C E n st0 g0 s a w->et C E n st0 g0 (s.dA ps) a w
 |[],_,h=>h
 |p::ps,_,h=>et.dA ps (h.mU p)

def qQ:Ex->Exit
 |.norm=>.normal
 |.exit i=>.exit i
 |.goto l=>.goto l
 |.ret=>.ret
 |.pan v=>.panic [{v:=v,recovered:=false}]

theorem yM{c:Operand} {b:Bool} {K:AS->Prop} {n:Nat} {st0:St} {g0:aw} (h:rm s c b K) (hc:s.ev C c=.bool b) (hgo:et C E n st0 g0 s a w):∃s',K s'/\et C E n st0 g0 s' a w:=by
 obtain⟨nt,tm,sg,kl⟩:=s;cases c with
 |tmp t=>
   obtain⟨E',hE',st',g',R,hg,B⟩:=hgo;exact⟨_,h,E',hE',st',g',R.lit hc,hg,B.mono,B.aX,B.len⟩
 |_=>exact⟨_,h,hgo⟩

theorem Z2{P:Program} {a:Act} {w:World} {Q:Exit->Act->World->Prop} {c rest:Code} (l:Nat) (I:Nat->Act->World->Prop) (hf:findLabel c l=some rest)
   (first:c.wp P (Exit.jump l (fun a w=>∃n,I n a w) Q) a w)
   (pass:∀n a w,I n a w->rest.wp P (Exit.jump l (fun a' w'=>∃n',n'<n/\I n' a' w') Q) a w):(Code.scope c).wp P Q a w:=by
 refine wp_scope_jumps l (fun a w=>∃n,I n a w) (fun a w=>leastOf (fun n=>I n a w)) hf first ?_
 intro a w hI;refine wp_mono (pass _ a w (leastOf_spec hI).1) ?_;intro e a' w' hq;cases e with
 |goto l'=>
   obtain⟨h1,n',hlt,hI'⟩:=hq;exact⟨h1,⟨n',hI'⟩,Nat.lt_of_le_of_lt ((leastOf_spec ⟨n',hI'⟩).2 n' hI') hlt⟩
 |normal=>exact hq
 |exit id=>exact hq
 |ret=>exact hq
 |panic ch=>exact hq
 |outgrown=>exact hq
def Sound(C:Ctx) (E:Env) (n:Nat) (st0:St) (g0:aw) (c:Code):Prop:=∀(s:AS) (a:Act) (w:World) (K:Ex->AS->Prop) (Q:Exit->Act->World->Prop),et C E n st0 g0 s a w->vc C n c s K->
 (∀ex s' a' w',K ex s'->et C E n st0 g0 s' a' w'->Q (qQ ex) a' w')->c.wp C.P Q a w
theorem XX{n:Nat} {st0:St} {g0:aw} {x b:Code} {l:Nat} (hx:Sound C E n st0 g0 x) (hb:Sound C E n st0 g0 b):∀(s:AS) (a:Act) (w:World) (K:Ex->AS->Prop) (Q:Exit->Act->World->Prop),et C E n st0 g0 s a w->
   findLabel x l=none->vc C n x s (mW (fun s'=>qk n l s' (vc C n b) K) (pQ K))->
   (∀ex s' a' w',K ex s'->et C E n st0 g0 s' a' w'->Q (qQ ex) a' w')->(Code.scope (.seq x (.seq (.label l) b))).wp C.P Q a w:=by
 intro s a w K Q hgo hf h hQ
 --where the label is come to for the first time,all that is needed later is told
 have hfind:findLabel (Code.seq x (Code.seq (Code.label l) b)) l=some (Code.seq Code.skip b):=by
  show(match findLabel x l with
   |some rest=>some (Code.seq rest (Code.seq (Code.label l) b))
   |none=>findLabel (Code.seq (Code.label l) b) l) =_
  rw[hf];show(match findLabel (Code.label l) l with
   |some rest=>some (Code.seq rest b)
   |none=>findLabel b l) =_
  have:findLabel (Code.label l) l=some Code.skip:=by simp[findLabel]
  rw[this]
 refine Z2 l (fun m a w=>∃(X:Type) (inv:X->Prop) (I:X->AS) (μ:X->Nat) (y:X),inv y/\μ y=m/\et C E n st0 g0 (I y) a w/\
  (∀x,inv x->nT (I x).tm []->i9 (I x).sg->vc C n b (I x) (yc l (fun s'=>∃(qs:List gu) (x':X),inv x'/\Sub n (s'.dA qs) (I x')/\μ x'<μ x) K))) hfind ?_ ?_
 . refine wp_seq (hx s a w _ _ hgo h fun ex s' a' w' hk hgo'=>?_);cases ex with
   |norm=>
     have hk:qk n l s' (vc C n b) K:=hk;obtain⟨X,inv,I,μ,ps,x0,h0,hs,hr⟩:=hk;have g1:=(hgo'.dA ps).sub hs;have hw:nT (I x0).tm []/\i9 (I x0).sg:=by
      obtain⟨E',hE',st',g',R,hg,B⟩:=g1;exact⟨xi _ _ _ fun t _=>R.tm t,R.wr.wf⟩
     refine wp_seq (wp_label (show(b.wp C.P _) a' w' from ?_));refine hb (I x0) a' w' _ _ g1 (hr x0 h0 hw.1 hw.2) fun ex s2 a2 w2 hk hgo2=>?_;cases ex with
     |norm=>exact hQ .norm _ _ _ hk hgo2
     |exit id=>exact hQ (.exit id) _ _ _ hk hgo2
     |ret=>exact hQ .ret _ _ _ hk hgo2
     |pan u=>exact hQ (.pan u) _ _ _ hk hgo2
     |goto j=>
       simp only[yc] at hk;split at hk
       . rename_i hj;obtain⟨qs,x',hi',h1,h2⟩:=hk;exact⟨cb hj,μ x',X,inv,I,μ,x',hi',rfl,(hgo2.dA qs).sub h1,hr⟩
       . exact hk.elim
   |exit id=>exact hQ (.exit id) _ _ _ hk hgo'
   |ret=>exact hQ .ret _ _ _ hk hgo'
   |goto j=>exact False.elim hk
   |pan u=>exact hQ (.pan u) _ _ _ hk hgo'
 . rintro m a w ⟨X,inv,I,μ,y,hy,hm,hgo,hr⟩;have hw:nT (I y).tm []/\i9 (I y).sg:=by
    obtain⟨E',hE',st',g',R,hg,B⟩:=hgo;exact⟨xi _ _ _ fun t _=>R.tm t,R.wr.wf⟩
   refine wp_seq (wp_skip (show(b.wp C.P _) a w from ?_));refine hb (I y) a w _ _ hgo (hr y hy hw.1 hw.2) fun ex s2 a2 w2 hk hgo2=>?_;cases ex with
   |norm=>exact hQ .norm _ _ _ hk hgo2
   |exit id=>exact hQ (.exit id) _ _ _ hk hgo2
   |ret=>exact hQ .ret _ _ _ hk hgo2
   |pan u=>exact hQ (.pan u) _ _ _ hk hgo2
   |goto j=>
     simp only[yc] at hk;split at hk
     . rename_i hj;obtain⟨qs,x',hi',h1,h2⟩:=hk;exact⟨cb hj,μ x',by omega,X,inv,I,μ,x',hi',rfl,(hgo2.dA qs).sub h1,hr⟩
     . exact hk.elim

theorem YQ{n:Nat} {c:Code} {K:Ex->AS->Prop}:vc C n (.scope c) s K->(∃a l b,c=.seq a (.seq (.label l) b)/\findLabel a l=none/\vc C n a s (mW (fun s'=>qk n l s' (vc C n b) K) (pQ K)))\/vc C n c s (pQ K):=by
 intro h;cases c with
 |seq a y=>
   cases y with
   |seq l b=>
     cases l with
     |label l=>
       left;refine⟨a,l,b,rfl,?_⟩;have h:(match findLabel a l with
        |none=>vc C n a s (mW (fun s'=>qk n l s' (vc C n b) K) (pQ K))
        |some _=>False):=h
       split at h
       . rename_i hf;exact⟨hf,h⟩
       . exact h.elim
     |_=>right;exact h
   |_=>right;exact h
 |_=>right;exact h
theorem aO.ds{E:Env} {st:St} {g:aw} {sg:List O} {w:World} (R:aO E st g sg w) (D:List Deferred):aO {E with ds:=D} st g sg w:=
 ⟨R.os,R.tape,R.output,R.size,R.gnew,R.sub,R.stG,R.stw,R.fr,fun i o h=>by
  have:=R.ob i o h;cases o<;>exact this,R.inj⟩
theorem aO.rQ{E:Env} {D:List Deferred} {st:St} {g:aw} {sg:List O} {w:World} (R:aO {E with ds:=D} st g sg w):aO E st g sg w:=
 ⟨R.os,R.tape,R.output,R.size,R.gnew,R.sub,R.stG,R.stw,R.fr,fun i o h=>by
  have:=R.ob i o h;cases o<;>exact this,R.inj⟩
theorem aO.env{E1 E2:Env} {st:St} {g:aw} {sg:List O} {w w':World} (R:aO E1 st g sg w) (hos:w'.os=E2.w0.os) (htp:w'.tape=E2.w0.tape) (hou:w'.output=E2.w0.output) (hsz:E2.w0.heap.size<=w'.heap.size)
   (hgn:∀b,E2.w0.heap.size<=b->E2.G b) (hsub:∀b o v,E2.st0 b o=some v->st b o=some v) (hstG:∀b o v,st b o=some v->E2.st0 b o=some v\/E2.G b)
   (hG:∀i b,i<sg.length->(g i).blk=some b->E2.G b) (hheap:∀b,(∃i,i<sg.length/\(g i).blk=some b)\/(∃o v,st b o=some v)->w'.heap[b]?=w.heap[b]?)
   (hle:w.heap.size<=w'.heap.size) (hfr:∀b,¬E2.G b->w'.heap[b]?=E2.w0.heap[b]?):aO E2 st g sg w' where
 os:=hos
 tape:=htp
 output:=hou
 size:=hsz
 gnew:=hgn
 sub:=hsub
 stG:=hstG
 stw:=fun b o v h=>by rw[qq (hheap b (.inr ⟨o,v,h⟩))];exact R.stw b o v h
 fr:=hfr
 ob:=fun i o ho=>by
  have h:=R.ob i o ho;have hi:i<sg.length:=by
   rcases eg i sg.length with q|q
   . exact q
   . rw[dl q] at ho;cases ho
  cases o with
  |dead=>exact fun b hb=>⟨Nat.lt_of_lt_of_le (h b hb).1 hle,hG i b hi hb⟩
  |cells cs=>
    obtain⟨b,c,el,fr,h1,h2,h3,h4⟩:=h;exact⟨b,c,el,fr,h1,hG i b hi h1,(hheap b (.inl ⟨i,hi,h1⟩)).trans h3,h4⟩
  |buf sz pre l=>
    obtain⟨h1,h2,h3,h4,h5,h6,h7⟩:=h;refine⟨h1,h2,h3,h4,h5,h6,?_⟩;rcases h7 with h7|⟨b,c,el,fr,k1,k2,k3,k4,k5⟩
    . exact .inl h7
    . exact .inr ⟨b,c,el,fr,k1,k2,hG i b hi k1,(hheap b (.inl ⟨i,hi,k1⟩)).trans k4,k5⟩
  |siter ss pos=>
    obtain⟨h1,b,h2,h3,h4⟩:=h;exact⟨h1,b,h2,hG i b hi h2,(hheap b (.inl ⟨i,hi,h2⟩)).trans h4⟩
  |map ag sh es bs ck=>
    obtain⟨b,arr,h1,h2,h3,h4⟩:=h;exact⟨b,arr,h1,hG i b hi h1,(hheap b (.inl ⟨i,hi,h1⟩)).trans h3,h4⟩
  |miter m bs ck l x=>
    obtain⟨b,b',seen,h1,h2,h3,h4⟩:=h;exact⟨b,b',seen,h1,hG i b hi h1,(hheap b (.inl ⟨i,hi,h1⟩)).trans h3,h4⟩
 inj:=R.inj
theorem aO.Ar{E1:Env} {st:St} {g:aw} {sg:List O} {w:World} (R:aO E1 st g sg w) {b o:Nat} {v:Value} (h:st b o=some v):∃c el fr,w.heap[b]?=some (.cells c el fr):=by
 have h:=R.stw b o v h;simp only[World.cell?] at h;split at h
 . rename_i c el fr hh;exact⟨_,_,_,hh⟩
 . cases h
theorem j5.refl{E0:Env} (hg:∀b,E0.w0.heap.size<=b->E0.G b):j5 E0 E0:=
 ⟨fun _ h=>h,fun _ _=>rfl,rfl,rfl,rfl,co _,rfl,hg,[],rfl,List.nodup_nil,fun _ h=>by cases h⟩
theorem j5.whole{E0 E1:Env} (h:j5 E0 E1) {st:St} {g:aw} {sg:List O} {w:World} (R:aO E1 st g sg w):aO E0 st g sg w:=
 R.env (R.os.trans h.os) (R.tape.trans h.tape) (R.output.trans h.output) (Nat.le_trans h.size R.size) h.gnew (by rw[<-h.st0];exact R.sub)
  (fun b o v k=>by rw[<-h.st0];exact(R.stG b o v k).imp id (h.G b)) (fun i b hi hb=>h.G b (R.cF hi hb).2) (fun _ _=>rfl) (co _) (fun b hb=>(R.fr b fun k=>hb (h.G b k)).trans (h.w0 b hb))
theorem Zp{F:Fence} (hF:WF F) (G:cn C) {n:Nat} {st0:St} {g0:aw} (hY:∀E',j5 E E'->ib C E' n st0 g0):∀(c:Code),oM c=true->∀(s:AS) (a:Act) (w:World) (K:Ex->AS->Prop) (Q:Exit->Act->World->Prop),et C E n st0 g0 s a w->vc C n c s K->
   (∀ex s' a' w',K ex s'->et C E n st0 g0 s' a' w'->Q (qQ ex) a' w')->c.wpIn F 0 C.P Q a w:=by
 intro c
 induction c with
 |skip=>intro _ s a w K Q hgo h hQ;exact wpIn_skip (hQ .norm _ _ _ h hgo)
 |label l=>intro _ s a w K Q hgo h hQ;exact wpIn_label (hQ .norm _ _ _ h hgo)
 |region id ops drawn=>
   intro hs0 s0 a w K Q hgo0 h hQ;have hgo:=hgo0.dA (C.hint id);generalize hs:s0.dA (C.hint id) =s at hgo;obtain⟨E',hE',st',g',R,hg,B⟩:=hgo;have hK:∀s' a' w',K .norm s'->Go C E' st' g' s s' a' w'->Q .normal a' w':=fun s' a' w' hk hgo=>by
    obtain⟨st2,g2,R2,hg2,A⟩:=hgo;exact hQ .norm _ _ _ hk ⟨E',hE',st2,g2,R2,hg2,B.qn A⟩
   have hX:∀u s' a' w',K (.pan u) s'->Go C E' st' g' s s' a' w'->Q (.panic [{v:=u,recovered:=false}]) a' w':=fun u s' a' w' hk hgo=>by
    obtain⟨st2,g2,R2,hg2,A⟩:=hgo;exact hQ (.pan u) _ _ _ hk ⟨E',hE',st2,g2,R2,hg2,B.qn A⟩
   cases drawn with
   |false=>
     simp only[vc,Df,hs] at h;exact M8 hF (hY E' hE') R hg G B h hK hX
   |true=>simp[oM] at hs0
 |seq x y ihx ihy=>
   intro hs s a w K Q hgo h hQ;simp only[oM,aA] at hs;refine wpIn_seq (ihx hs.1 s a w _ _ hgo h fun ex s' a' w' hk hgo'=>?_);cases ex with
   |norm=>exact ihy hs.2 s' a' w' K Q hgo' hk hQ
   |exit id=>exact hQ (.exit id) _ _ _ hk hgo'
   |ret=>exact hQ .ret _ _ _ hk hgo'
   |goto j=>exact hQ (.goto j) _ _ _ hk hgo'
   |pan u=>exact hQ (.pan u) _ _ _ hk hgo'
 |cond c x y ihx ihy=>
   intro hs s a w K Q hgo h hQ;simp only[oM,aA] at hs;simp only[vc] at h;split at h
   . rename_i b hb;have hgo':=hgo;obtain⟨E',hE',st',g',R,hg,B⟩:=hgo';have hv:=bn (C:=C) R hg c;rw[hb] at hv;simp only[VR] at hv;cases b with
     |true=>
       have h:rm s c true fun s=>vc C n x s K:=h;obtain⟨s',h1,h2⟩:=yM h hb hgo;exact wpIn_cond_true hv (ihx hs.1 s' a w K Q h2 h1 hQ)
     |false=>
       have h:rm s c false fun s=>vc C n y s K:=h;obtain⟨s',h1,h2⟩:=yM h hb hgo;exact wpIn_cond_false hv (ihy hs.2 s' a w K Q h2 h1 hQ)
   . exact h.elim
 |block id c ih=>
   intro hs s a w K Q hgo h hQ;refine wpIn_block (ih hs s a w _ _ hgo h fun ex s' a' w' hk hgo'=>?_);cases ex with
   |norm=>exact hQ .norm _ _ _ hk hgo'
   |exit j=>
     simp only[qQ,Exit.inBlock];by_cases hj:j=id
     . subst hj;rw[if_pos rfl];simp only[uX,show Nat.beq j j=true from Nat.beq_refl j] at hk;exact hQ .norm _ _ _ hk hgo'
     . rw[if_neg hj];have:Nat.beq j id=false:=by
        cases hb:Nat.beq j id with
        |false=>rfl
        |true=>exact absurd (cb hb) hj
       simp only[uX,this] at hk;exact hQ (.exit j) _ _ _ hk hgo'
   |ret=>exact hQ .ret _ _ _ hk hgo'
   |goto j=>exact hQ (.goto j) _ _ _ hk hgo'
   |pan u=>exact hQ (.pan u) _ _ _ hk hgo'
 |loop c ih=>
   intro hs s a w K Q hgo h hQ;simp only[oM] at hs;have h:aM n s (vc C n c) K:=h;obtain⟨X,inv,I,μ,ps,x0,h0,hs0,hr⟩:=h;refine wpIn_loop_ghost (fun m a w=>∃x,inv x/\μ x=m/\et C E n st0 g0 (I x) a w) (μ x0) ⟨x0,h0,rfl,(hgo.dA ps).sub hs0⟩ fun m a w ⟨x,hi,hm,hgo⟩=>?_;have hw:nT (I x).tm []/\i9 (I x).sg:=by
    obtain⟨E',hE',st',g',R,hg,B⟩:=hgo;exact⟨xi _ _ _ fun t _=>R.tm t,R.wr.wf⟩
   refine ih hs (I x) a w _ _ hgo (hr x hi hw.1 hw.2) fun ex s' a' w' hk hgo'=>?_;cases ex with
   |norm=>
     obtain⟨qs,x',hi',h1,h2⟩:=hk;exact⟨μ x',by omega,x',hi',rfl,(hgo'.dA qs).sub h1⟩
   |exit id=>exact hQ (.exit id) _ _ _ hk hgo'
   |ret=>exact hQ .ret _ _ _ hk hgo'
   |goto j=>exact hQ (.goto j) _ _ _ hk hgo'
   |pan u=>exact hQ (.pan u) _ _ _ hk hgo'
 |exit id=>intro _ s a w K Q hgo h hQ;exact wpIn_exit (hQ (.exit id) _ _ _ h hgo)
 |ret=>intro _ s a w K Q hgo h hQ;exact wpIn_ret (hQ .ret _ _ _ h hgo)
 |goto l=>intro _ s a w K Q hgo h hQ;exact wpIn_goto (hQ (.goto l) _ _ _ h hgo)
 |_=>intro hs;simp[oM] at hs
theorem YR(G:cn C) {n:Nat} {st0:St} {g0:aw} (hY:∀E',j5 E E'->ib C E' n st0 g0):∀(k:Nat) (c:Code),SizeOf.sizeOf c<=k->Sound C E n st0 g0 c:=by
 intro k
 induction k with
 |zero=>intro c hc;cases c<;>simp at hc
 |succ k IH=>
 intro c hc;cases c with
 |skip=>intro s a w K Q hgo h hQ;exact wp_skip (hQ .norm _ _ _ h hgo)
 |label l=>intro s a w K Q hgo h hQ;exact wp_label (hQ .norm _ _ _ h hgo)
 |region id ops drawn=>
   intro s0 a w K Q hgo0 h hQ;have hgo:=hgo0.dA (C.hint id);generalize hs:s0.dA (C.hint id) =s at hgo;obtain⟨E',hE',st',g',R,hg,B⟩:=hgo;have hK:∀s' a' w',K .norm s'->Go C E' st' g' s s' a' w'->Q .normal a' w':=fun s' a' w' hk hgo=>by
    obtain⟨st2,g2,R2,hg2,A⟩:=hgo;exact hQ .norm _ _ _ hk ⟨E',hE',st2,g2,R2,hg2,B.qn A⟩
   have hX:∀u s' a' w',K (.pan u) s'->Go C E' st' g' s s' a' w'->Q (.panic [{v:=u,recovered:=false}]) a' w':=fun u s' a' w' hk hgo=>by
    obtain⟨st2,g2,R2,hg2,A⟩:=hgo;exact hQ (.pan u) _ _ _ hk ⟨E',hE',st2,g2,R2,hg2,B.qn A⟩
   cases drawn with
   |false=>
     simp only[vc,Df,hs] at h;exact Dt (hY E' hE') R hg G B h hK hX
   |true=>
     simp only[vc,Df,hs] at h;cases hp:C.pdr id with
     |false=>rw[hp] at h;exact OQ R hg G h hK
     |true=>rw[hp] at h;exact OR R hg G h hK hX
 |seq x y=>
   have ihx:=IH x (by simp at hc;omega);have ihy:=IH y (by simp at hc;omega);intro s a w K Q hgo h hQ;refine wp_seq (ihx s a w _ _ hgo h fun ex s' a' w' hk hgo'=>?_);cases ex with
   |norm=>exact ihy s' a' w' K Q hgo' hk hQ
   |exit id=>exact hQ (.exit id) _ _ _ hk hgo'
   |ret=>exact hQ .ret _ _ _ hk hgo'
   |goto j=>exact hQ (.goto j) _ _ _ hk hgo'
   |pan u=>exact hQ (.pan u) _ _ _ hk hgo'
 |cond c x y=>
   have ihx:=IH x (by simp at hc;omega);have ihy:=IH y (by simp at hc;omega);intro s a w K Q hgo h hQ;simp only[vc] at h;split at h
   . rename_i b hb;have hgo':=hgo;obtain⟨E',hE',st',g',R,hg,B⟩:=hgo';have hv:=bn (C:=C) R hg c;rw[hb] at hv;simp only[VR] at hv;cases b with
     |true=>
       have h:rm s c true fun s=>vc C n x s K:=h;obtain⟨s',h1,h2⟩:=yM h hb hgo;exact wp_cond_true hv (ihx s' a w K Q h2 h1 hQ)
     |false=>
       have h:rm s c false fun s=>vc C n y s K:=h;obtain⟨s',h1,h2⟩:=yM h hb hgo;exact wp_cond_false hv (ihy s' a w K Q h2 h1 hQ)
   . exact h.elim
 |block id c=>
   have ih:=IH c (by simp at hc;omega);intro s a w K Q hgo h hQ;refine wp_block (ih s a w _ _ hgo h fun ex s' a' w' hk hgo'=>?_);cases ex with
   |norm=>exact hQ .norm _ _ _ hk hgo'
   |exit j=>
     simp only[qQ,Exit.inBlock];by_cases hj:j=id
     . subst hj;rw[if_pos rfl];simp only[uX,show Nat.beq j j=true from Nat.beq_refl j] at hk;exact hQ .norm _ _ _ hk hgo'
     . rw[if_neg hj];have:Nat.beq j id=false:=by
        cases hb:Nat.beq j id with
        |false=>rfl
        |true=>exact absurd (cb hb) hj
       simp only[uX,this] at hk;exact hQ (.exit j) _ _ _ hk hgo'
   |ret=>exact hQ .ret _ _ _ hk hgo'
   |goto j=>exact hQ (.goto j) _ _ _ hk hgo'
   |pan u=>exact hQ (.pan u) _ _ _ hk hgo'
 |loop c=>
   have ih:=IH c (by simp at hc;omega);intro s a w K Q hgo h hQ;have h:aM n s (vc C n c) K:=h;obtain⟨X,inv,I,μ,ps,x0,h0,hs,hr⟩:=h;refine wp_loop_ghost (fun m a w=>∃x,inv x/\μ x=m/\et C E n st0 g0 (I x) a w) (μ x0) ⟨x0,h0,rfl,(hgo.dA ps).sub hs⟩ fun m a w ⟨x,hi,hm,hgo⟩=>?_;have hw:nT (I x).tm []/\i9 (I x).sg:=by
    obtain⟨E',hE',st',g',R,hg,B⟩:=hgo;exact⟨xi _ _ _ fun t _=>R.tm t,R.wr.wf⟩
   refine ih (I x) a w _ _ hgo (hr x hi hw.1 hw.2) fun ex s' a' w' hk hgo'=>?_;cases ex with
   |norm=>
     obtain⟨qs,x',hi',h1,h2⟩:=hk;exact⟨μ x',by omega,x',hi',rfl,(hgo'.dA qs).sub h1⟩
   |exit id=>exact hQ (.exit id) _ _ _ hk hgo'
   |ret=>exact hQ .ret _ _ _ hk hgo'
   |goto j=>exact hQ (.goto j) _ _ _ hk hgo'
   |pan u=>exact hQ (.pan u) _ _ _ hk hgo'
 |scope c=>
   have ih:=IH c (by simp at hc;omega);intro s a w K Q hgo h hQ;have straight:vc C n c s (pQ K)->(Code.scope c).wp C.P Q a w:=fun h=>by
    refine wp_scope_straight (ih s a w (pQ K) _ hgo h fun ex s' a' w' hk hgo'=>?_);cases ex with
    |goto j=>exact False.elim hk
    |pan u=>exact hQ (.pan u) _ _ _ hk hgo'
    |norm=>exact hQ .norm _ _ _ hk hgo'
    |exit id=>exact hQ (.exit id) _ _ _ hk hgo'
    |ret=>exact hQ .ret _ _ _ hk hgo'
   rcases YQ h with ⟨x,l,b,rfl,hf,h⟩|h
   . exact XX (IH x (by simp at hc;omega)) (IH b (by simp at hc;omega)) s a w K Q hgo hf h hQ
   . exact straight h
 |exit id=>intro s a w K Q hgo h hQ;exact wp_exit (hQ (.exit id) _ _ _ h hgo)
 |ret=>intro s a w K Q hgo h hQ;exact wp_ret (hQ .ret _ _ _ h hgo)
 |goto l=>intro s a w K Q hgo h hQ;exact wp_goto (hQ (.goto l) _ _ _ h hgo)
 |_=>intro s a w K Q hgo h hQ;exact h.elim
theorem oT(G:cn C) {n:Nat} {st0:St} {g0:aw} (hY:∀E',j5 E E'->ib C E' n st0 g0) (c:Code):Sound C E n st0 g0 c:=YR G hY _ c (co _)

def AB:Nat->Code->Code
 |k+2,.seq a b=>.seq a (AB (k+1) b)
 |1,.seq a _=>a
 |_,c=>c
def By:Nat->Code->Code
 |k+2,.seq _ b=>By (k+1) b
 |1,.seq _ b=>b
 |_,_=>.skip
def okC:Nat->Code->Bool
 |k+2,.seq _ b=>okC (k+1) b
 |1,.seq _ _=>true
 |_,_=>false
inductive na (C:Ctx) (n:Nat) (K:Ex->AS->Prop):Code->AS->Prop
 |vc {c:Code} {s:AS} (h:vc C n c s K):na C n K c s
 |cut {c:Code} {s:AS} (k:Nat) (X:Type) (inv:X->Prop) (I:X->AS) (hk:okC k c=true) (h1:VG.vc C n (AB k c) s (mW (fun s'=>∃(qs:List gu) (x:X),inv x/\Sub n (s'.dA qs) (I x)) K))
  (h2:∀x,inv x->na C n K (By k c) (I x)):na C n K c s
theorem HK(G:cn C) {n:Nat} {st0:St} {g0:aw} (hY:∀E',j5 E E'->ib C E' n st0 g0) {K:Ex->AS->Prop} {f:AS->Prop} {Q:Exit->Act->World->Prop}:
   ∀(k:Nat) (c:Code) (s:AS) (a:Act) (w:World),okC k c=true->et C E n st0 g0 s a w->vc C n (AB k c) s (mW f K)->(∀s' a' w',f s'->et C E n st0 g0 s' a' w'->(By k c).wp C.P Q a' w')->
   (∀ex s' a' w',K ex s'->et C E n st0 g0 s' a' w'->Q (qQ ex) a' w')->c.wp C.P Q a w
 |0,c,_,_,_,hk,_,_,_,_=>by cases c<;>cases hk
 |1,c,s,a,w,hk,hg,h,hf,hQ=>by
   cases c with
   |seq x y=>
     refine wp_seq (oT G hY x s a w _ _ hg h fun ex s' a' w' h1 h2=>?_);cases ex with
     |norm=>exact hf s' a' w' h1 h2
     |ret=>exact hQ _ _ _ _ h1 h2
     |exit id=>exact hQ _ _ _ _ h1 h2
     |goto l=>exact hQ _ _ _ _ h1 h2
     |pan v=>exact hQ _ _ _ _ h1 h2
   |_=>cases hk
 |k+2,c,s,a,w,hk,hg,h,hf,hQ=>by
   cases c with
   |seq x y=>
     have h:vc C n (.seq x (AB (k+1) y)) s (mW f K):=h;rw[vc] at h;refine wp_seq (oT G hY x s a w _ _ hg h fun ex s' a' w' h1 h2=>?_);cases ex with
     |norm=>exact HK G hY (k+1) y s' a' w' hk h2 h1 hf hQ
     |ret=>exact hQ _ _ _ _ h1 h2
     |exit id=>exact hQ _ _ _ _ h1 h2
     |goto l=>exact hQ _ _ _ _ h1 h2
     |pan v=>exact hQ _ _ _ _ h1 h2
   |_=>cases hk
theorem YW(G:cn C) {n:Nat} {st0:St} {g0:aw} (hY:∀E',j5 E E'->ib C E' n st0 g0) {K:Ex->AS->Prop} {Q:Exit->Act->World->Prop} (hQ:∀ex s' a' w',K ex s'->et C E n st0 g0 s' a' w'->Q (qQ ex) a' w') {c:Code} {s:AS} (h:na C n K c s):
   ∀(a:Act) (w:World),et C E n st0 g0 s a w->c.wp C.P Q a w:=by
 induction h with
 |vc h=>exact fun a w hg=>oT G hY _ _ a w _ _ hg h hQ
 |cut k X inv I hk h1 h2 ih=>
   intro a w hg;refine HK G hY k _ _ a w hk hg h1 (fun s' a' w' ⟨qs,x,hx,hs⟩ hg'=>?_) hQ;exact ih x hx a' w' ((hg'.dA qs).sub hs)
theorem Wq{agg:Bool} {size off:Nat} {cs:List V} {v:V} (h:Db agg size cs off=some v) (K:V->Prop) (hk:K v):kn agg size cs off K:=by
 unfold Db at h;unfold kn;cases agg with
 |true=>
   simp only at h⊢;cases hr:jv (kP cs off) size with
   |none=>rw[hr] at h;cases h
   |some r=>rw[hr] at h;cases h;exact hk
 |false=>
   simp only at h⊢;rw[h];exact hk

theorem Dv(G:Good C) (R:Rel E st g s a w):∀{rs:List ResultVar} {xs:List V},pW C.ti s rs=some xs->∃vs:List Value,(rs.mapM fun|.tmp t=>pure (a.tmps.getD t undef)|.cell b t=>do loadVar t (<-asAddr (a.tmps.getD b undef)):Sem (List Value)).run C.P w=.ok vs w/\aE st g xs s.sg.length vs
  |[],xs,h=>by
    simp only[pW,Option.some.injEq] at h;subst h;exact⟨[],by simp,by simp[aE]⟩
  |.tmp t::r,xs,h=>by
    simp only[pW] at h;split at h
    . rename_i ys hy;cases h;obtain⟨vs,h1,h2⟩:=Dv G R hy;refine⟨a.tmps.getD t undef::vs,?_,cu (R.tm t) h2⟩;rw[List.mapM_cons];simp only[Sem.run_bind,Sem.run_pure,Result.andThen_ok];rw[h1];simp
    . cases h
  |.cell b t::r,xs,h=>by
    simp only[pW] at h;split at h
    . rename_i i off hlk;split at h
      . rename_i cs hob;split at h
        . cases h
        . rename_i hk;have hk:(C.ti t).k≠.other:=fun h=>hk h;split at h
          . rename_i x ys hx hy;cases h;obtain⟨vs,h1,h2⟩:=Dv G R hy;have hv:=R.tm b;rw[hlk] at hv;simp only[VR] at hv;obtain⟨hi,bb,hbb,hv⟩:=hv;obtain⟨hs1,_⟩:=eU hob (by simp);obtain⟨b',c,el,fr,k1,k2,k3,k4,k5,k6⟩:=xL R.wr hs1;rw[hbb] at k1;cases k1;have hcell:∀j,j<c.toList.length->w.cell? ⟨bb,0+j,none⟩=c.toList[j]?:=fun j hj=>by rw[gS k3];simp
            obtain⟨u,h5,h6⟩:=zr (w:=w) (b:=bb) (o:=0) G hk k4 hcell (Wq hx);rw[Nat.zero_add] at h5;refine⟨u::vs,?_,cu h6 h2⟩;rw[List.mapM_cons];have ha:(asAddr (a.tmps.getD b undef)).run C.P w=.ok ⟨bb,off,none⟩ w:=by rw[hv];rfl
            simp only[Sem.run_bind,Sem.run_pure,Result.andThen_ok,ha,h5];rw[h1];simp
          . cases h
      . cases h
    . cases h

theorem zm(G:Good C) (R:Rel E st g s a w) {fn:Func} {x:V} (h:oK C.ti s fn.results.toList=some x):∃v,(results fn a.tmps).run C.P w=.ok v w/\VR st g x s.sg.length v:=by
 unfold oK at h;have key:∀xs,pW C.ti s fn.results.toList=some xs->∃vs:List Value,aE st g xs s.sg.length vs/\(results fn a.tmps).run C.P w=.ok (if h:vs.toArray.size=1 then vs.toArray[0] else .tuple vs.toArray) w:=fun xs hx=>by
  obtain⟨vs,h1,h2⟩:=Dv G R hx;refine⟨vs,h2,?_⟩;unfold results;rw[Array.mapM_eq_mapM_toList];simp only[map_eq_pure_bind,bind_assoc,pure_bind];rw[Sem.run_bind]
  erw [h1]
  rfl
 split at h
 . rename_i x' hx;cases h;obtain⟨vs,h2,h3⟩:=key _ hx;refine⟨_,h3,?_⟩;simp only[aE] at h2;obtain⟨u,us,rfl,h5,rfl⟩:=h2;simpa using h5
 . rename_i xs hne hx;cases h;obtain⟨vs,h2,h3⟩:=key _ hx;refine⟨_,h3,?_⟩;have hl:=eJ h2;rw[dif_neg (by
    intro h4;simp only[List.size_toArray] at h4;rw[h4] at hl
    match xs,hl with
    |[x],_=>exact hne x rfl)]
   simp only[VR];exact⟨_,rfl,by simpa using h2⟩
 . cases h

theorem vl:∀(xs:List V) (i t:Nat),lk (gT xs i) t=if i<=t then xs.getD (t-i) .undef else .undef
 |[],i,t=>by simp[gT,lk]
 |x::xs,i,t=>by
   simp only[gT,lk];rw[vl xs (i+1) t];cases hb:Nat.beq i t with
   |true=>
     have:=cb hb;subst this;simp
   |false=>
     have hne:i≠t:=fun e=>by subst e;rw[show Nat.beq i i=true from Nat.beq_refl i] at hb;cases hb
     simp only[cond_false];by_cases h:i<=t
     . rw[if_pos h,if_pos (by omega)];rw[show t-i=(t-(i+1))+1 by omega];simp
     . rw[if_neg h,if_neg (by omega)]

theorem vY{sg:List O} {aX:Bool}:∀{kl:List Nat},mP sg aX kl=true->∀i o,sg[i]?=some o->(aX=true\/o.gF=false)->aQ i kl=false
 |[],_,i,o,_,_=>rfl
 |k::kl,h,i,o,ho,hk=>by
   simp only[mP,aA] at h;simp only[aQ,Bool.or_eq_false_iff];refine⟨?_,vY h.2 i o ho hk⟩;cases hb:Nat.beq i k with
   |false=>rfl
   |true=>
     exfalso;have:=cb hb;subst this;have hil:i<sg.length:=by
      rcases eg i sg.length with h'|h'
      . exact h'
      . simp[dl h'] at ho
     have hg:aH sg i=o:=by rw[vG,ac,ho];rfl
     have h1:=h.1;rw[hg] at h1;split at h1
     . rcases hk with hk|hk
       . rw[hk] at h1;cases h1
       . simp[O.gF] at hk
     . have:=d9 h1;omega

def shut(w:World):List Nat->World
 |[]=>w
 |D::Ds=>shut (w.putObj D (.deferred none)) Ds
theorem zw:∀(Ds:List Nat) (w:World) (b:Nat),b∉Ds->(shut w Ds).heap[b]?=w.heap[b]?
 |[],_,_,_=>rfl
 |D::Ds,w,b,h=>by
   rw[shut,zw Ds _ b (fun q=>h (d8 _ q))];exact World.putObj_heap_other (fun e=>h (by rw[e];exact List.mem_cons_self))
theorem zx:∀(Ds:List Nat) (w:World),(shut w Ds).heap.size=w.heap.size/\(shut w Ds).os=w.os/\(shut w Ds).tape=w.tape/\(shut w Ds).output=w.output
 |[],_=>⟨rfl,rfl,rfl,rfl⟩
 |D::Ds,w=>by
   obtain⟨h1,h2,h3,h4⟩:=zx Ds (w.putObj D (.deferred none));exact⟨h1.trans World.putObj_size,h2,h3,h4⟩
theorem KN{P:Program} {fn:Func} {tmps:Array Value} {R:Ending->World->Prop}:∀(Ds:List Nat) (w:World),Ds.Nodup->(∀D∈Ds,w.heap[D]?=some (.deferred (some [])))->
   (∃v,(results fn tmps).run P (shut w Ds) =.ok v (shut w Ds)/\R (.returned v) (shut w Ds))->LeavesInM Fence.wide 0 P fn tmps R (Ds.map fun D=>{target:=.collected D,args:=#[]}) .returning w
 |[],w,_,_,h=>h
 |D::Ds,w,hn,hD,h=>by
   refine⟨by simp,.inl ⟨D,w.putObj D (.deferred none),rfl,run_takeDeferred (hD D List.mem_cons_self),?_⟩⟩;have hn:=List.nodup_cons.1 hn;refine KN Ds _ hn.2 (fun D' h'=>?_) h;rw[World.putObj_heap_other (fun e=>hn.1 (by rw[<-e];exact h'))];exact hD D' (d8 _ h')
theorem Ol(G:cn C) {f:FuncId} {fn:Func} {c:Code} {args:List V} {σ:List O} {x:V} {r:Option (List O)} (hf:C.P.funcs[f]?=some fn) (hb:fn.body=some c) (hn:(fn.name== "runtime.NumGoroutine") =false)
   (hnt:Nat.ble args.length fn.ntmps=true) (h:V.eP args->i9 σ->na C σ.length (Ends C.ti fn.results.toList σ x r) c ⟨fn.ntmps,gT args 0,σ,[]⟩) {E:Env} (hds:E.ds=[]) (st:St) (g:aw) (hY:∀E',j5 E E'->ib C E' σ.length st g) (w:World) (vs:List Value) (W:aO E st g σ w) (hg:aV C.gl st) (hv:aE st g args σ.length vs):
   Calls C.P f vs.toArray w fun e w'=>∃v st' g',e=.returned v/\aO E st' g' (r.getD σ) w'/\VR st' g' x (r.getD σ).length v/\(∀b o v,st b o=some v->st' b o=some v)/\
    σ.length<=(r.getD σ).length/\∀i o,σ[i]?=some o->(r=none\/eZ (r.getD []) =true\/o.gF=false)->g' i=g i:=by
 have hlen:=eJ hv;have hnt':=d9 hnt;have hvc:=h (p7 hv) W.wf;have R:Rel E st g ⟨fn.ntmps,gT args 0,σ,[]⟩ {tmps:=vs.toArray++Array.replicate (fn.ntmps-vs.toArray.size) undef,defers:=[]} w:=by
  refine⟨by simp;omega,hds.symm,fun t=>?_,W⟩;show VR st g (lk (gT args 0) t) σ.length _;rw[vl,if_pos (ci _),Nat.sub_zero];rcases eg t args.length with h1|h1
  . have h2:args[t]?=some args[t]:=am h1;obtain⟨v,h3,h4⟩:=jA hv h2;have h5:(vs.toArray++Array.replicate (fn.ntmps-vs.toArray.size) undef).getD t undef=v:=by
     rw[Array.getD_eq_getD_getElem?,Array.getElem?_append_left (by simp;omega)];simp[h3]
    rw[ac,h2];show VR st g args[t] σ.length ((vs.toArray++Array.replicate (fn.ntmps-vs.toArray.size) undef).getD t undef);rw[h5];exact h4
  . rw[ac,dl h1];simp[VR]
 refine callsIn_wide.1 (callsIn_of_wp_marks (F:=Fence.wide) (n:=0) hf hb trivial (wpIn_wide.2 (YW G hY (fun ex s' a' w0' hk hgo=>?_) hvc _ w ⟨E,j5.refl W.gnew,st,g,R,hg,⟨fun _ _ _ h=>h,fun _ _ _=>rfl,co _⟩⟩)));have hex0:ex=.norm\/ex=.ret:=by
  cases ex with
  |norm=>exact .inl rfl
  |ret=>exact .inr rfl
  |exit id=>exact hk.elim
  |goto l=>exact hk.elim
  |pan u=>exact hk.elim
 have hk0:ab C.ti fn.results.toList σ x r s':=by rcases hex0 with rfl|rfl<;>exact hk
 obtain⟨ps,hk1⟩:=hk0;replace hgo:=hgo.dA ps;clear hk;generalize s'.dA ps=s' at hgo hk1;obtain⟨E',hE',st',g',R0',hg',B⟩:=hgo;obtain⟨Ds,hDs,hnd,hDall⟩:=hE'.ds;have hdf:a'.defers=Ds.map fun D=>{target:=.collected D,args:=#[]}:=by rw[R0'.df,hDs,hds,List.append_nil]
 have hDh:∀D∈Ds,w0'.heap[D]?=some (.deferred (some [])):=fun D hD=>(R0'.wr.fr D (hDall D hD).2.1).trans (hDall D hD).2.2;obtain⟨w',hw'⟩:∃w',w'=shut w0' Ds:=⟨_,rfl⟩
 obtain⟨q1,q2,q3,q4⟩:=zx Ds w0';rw[<-hw'] at q1 q2 q3 q4;have hheap:∀b,b∉Ds->w'.heap[b]?=w0'.heap[b]?:=fun b hb=>by rw[hw'];exact zw Ds w0' b hb
 have RW:aO E st' g' s'.sg w':=by
  have R1:=hE'.whole R0'.wr;refine R1.env (q2.trans R1.os) (q3.trans R1.tape) (q4.trans R1.output) (by rw[q1];exact R1.size) R1.gnew R1.sub R1.stG (fun i b hi hb=>(R1.cF hi hb).2) (fun b hb=>hheap b fun hD=>?_) (by rw[q1];exact co _) (fun b hb=>?_)
  . rcases hb with ⟨i,hi,hb⟩|⟨o,v,hv⟩
    . exact(hDall b hD).2.1 (R0'.wr.cF hi hb).2
    . obtain⟨c,el,fr,hc⟩:=R0'.wr.Ar hv;rw[hDh b hD] at hc;cases hc
  . rw[hheap b fun hD=>hb (hDall b hD).1];exact R1.fr b hb
 have R':Rel {E with ds:=a'.defers} st' g' s' a' w':=⟨R0'.nt,rfl,R0'.tm,RW.ds _⟩
 have hend:∀(x':V) (σ':List O),oK C.ti s' fn.results.toList=some x'->x'.gX σ'.length=true->ga s'.sg σ' σ'.length->∃v,(results fn a'.tmps).run C.P w'=.ok v w'/\aO E st' g' σ' w'/\VR st' g' x' σ'.length v:=fun x' σ' h1 h2 h3=>by
  obtain⟨v,h4,h5⟩:=zm G.toGood R' h1;exact⟨v,h4,RW.rM h3,gw (fun _ _ _ h=>h) (fun i hi _=>⟨qX h2 hi,rfl⟩) h5⟩
 unfold xo at hk1;cases hres:oK C.ti s' fn.results.toList with
 |none=>rw[hres] at hk1;exact hk1.elim
 |some y=>
 rw[hres] at hk1;simp only[hJ] at hk1;have hfin:(∃v,(results fn a'.tmps).run C.P w'=.ok v w'/\aO E st' g' (r.getD σ) w'/\VR st' g' x (r.getD σ).length v/\(∀b o v,st b o=some v->st' b o=some v)/\σ.length<=(r.getD σ).length/\∀i o,σ[i]?=some o->(r=none\/eZ (r.getD []) =true\/o.gF=false)->g' i=g i)/\(ex=.norm\/ex=.ret):=by
  have hex:=hex0;have hk':=hk1;refine⟨?_,hex⟩;have hkeep:∀aX,mP σ aX s'.kl=true->∀i o,σ[i]?=some o->(aX=true\/o.gF=false)->g' i=g i:=fun aX hkl i o ho hor=>by
   refine B.aX i ?_ (vY hkl i o ho hor);rcases eg i σ.length with h'|h'
   . exact h'
   . simp[dl h'] at ho
  cases r with
  |none=>
    obtain⟨h1,h2,h3,h4⟩:=hk';subst h1;obtain⟨v,q1,q2,q3⟩:=hend y σ hres h2 h3;exact⟨v,q1,q2,q3,B.mono,co _,fun i o ho _=>hkeep true h4 i o ho (.inl rfl)⟩
  |some σ'=>
    obtain⟨h1,h2,h3,h4,h5⟩:=hk';subst h1;obtain⟨v,q1,q2,q3⟩:=hend y σ' hres h2 h3;exact⟨v,q1,q2,q3,B.mono,d9 h5,fun i o ho hor=>hkeep (eZ σ') h4 i o ho (hor.resolve_left (by simp))⟩
 obtain⟨⟨v,h1,h2,h3,h4,h5,h6⟩,hex⟩:=hfin;have hfinal:LeavesInM Fence.wide 0 C.P fn a'.tmps (fun e w'=>∃v st' g',e=.returned v/\aO E st' g' (r.getD σ) w'/\VR st' g' x (r.getD σ).length v/\(∀b o v,st b o=some v->st' b o=some v)/\
    σ.length<=(r.getD σ).length/\∀i o,σ[i]?=some o->(r=none\/eZ (r.getD []) =true\/o.gF=false)->g' i=g i) a'.defers .returning w0':=by
  rw[hdf];refine KN Ds w0' hnd hDh ?_;rw[<-hw'];exact⟨v,h1,v,st',g',rfl,h2,h3,h4,h5,h6⟩
 rcases hex with rfl|rfl
 . exact hfinal
 . exact hfinal
theorem C6(G:cn C) {f:FuncId} {fn:Func} {c:Code} {args:List V} {σ:List O} {x:V} {r:Option (List O)} (hf:C.P.funcs[f]?=some fn) (hb:fn.body=some c) (hn:(fn.name== "runtime.NumGoroutine") =false)
   (hnt:Nat.ble args.length fn.ntmps=true) (h:V.eP args->i9 σ->na C σ.length (Ends C.ti fn.results.toList σ x r) c ⟨fn.ntmps,gT args 0,σ,[]⟩) (hy:C.yd=fun _ _ _ _=>none:=by rfl):eH C.P C.gl f args σ x r:=by
 refine⟨⟨fn,hf,hn,by rw[hb];rfl⟩,fun E st g w vs W hg hv=>?_⟩;refine Calls.mono (Ol G hf hb hn hnt h (E:={E with ds:=[]}) rfl st g (fun _ _=>ib.none hy) w vs (W.ds []) hg hv) ?_;rintro e w' ⟨v,st',g',h1,h2,h3,h4,h5,h6⟩;exact⟨v,st',g',h1,h2.rQ,h3,h4,h5,h6⟩
theorem RZ(G:cn C) {f:FuncId} {fn:Func} {c:Code} {args:List V} {σ:List O} {x:V} {r:Option (List O)} (hf:C.P.funcs[f]?=some fn) (hb:fn.body=some c) (hn:(fn.name== "runtime.NumGoroutine") =false)
   (hnt:Nat.ble args.length fn.ntmps=true) (h:V.eP args->i9 σ->vc C σ.length c ⟨fn.ntmps,gT args 0,σ,[]⟩ (Ends C.ti fn.results.toList σ x r)) (hy:C.yd=fun _ _ _ _=>none:=by rfl):eH C.P C.gl f args σ x r:=
 C6 G hf hb hn hnt (fun h1 h2=>.vc (h h1 h2)) hy
theorem ai(G:cn C) {f:FuncId} {fn:Func} {c:Code} {args:List V} {σ:List O} {x:V} {r:Option (List O)} (h:V.eP args->i9 σ->vc C σ.length c ⟨fn.ntmps,gT args 0,σ,[]⟩ (Ends C.ti fn.results.toList σ x r)) (hf:C.P.funcs[f]?=some fn:=by rfl) (hb:fn.body=some c:=by rfl)
 (hn:(fn.name== "runtime.NumGoroutine") =false:=by rfl) (hnt:Nat.ble args.length fn.ntmps=true:=by rfl) (hy:C.yd=fun _ _ _ _=>none:=by rfl):eH C.P C.gl f args σ x r:=RZ G hf hb hn hnt h hy
theorem KO{P:Program} {fn:Func} {tmps:Array Value} {R:Ending->World->Prop} {ch:List PanicEntry}:∀(Ds:List Nat) (w:World),Ds.Nodup->(∀D∈Ds,w.heap[D]?=some (.deferred (some [])))->
   R (.panicked ch) (shut w Ds)->LeavesInM Fence.wide 0 P fn tmps R (Ds.map fun D=>{target:=.collected D,args:=#[]}) (.panicking ch) w
 |[],w,_,_,h=>h
 |D::Ds,w,hn,hD,h=>by
   refine⟨by simp,.inl ⟨D,w.putObj D (.deferred none),rfl,run_takeDeferred (hD D List.mem_cons_self),?_⟩⟩;have hn:=List.nodup_cons.1 hn;refine KO Ds _ hn.2 (fun D' h'=>?_) h;rw[World.putObj_heap_other (fun e=>hn.1 (by rw[<-e];exact h'))];exact hD D' (d8 _ h')
theorem Oj(G:cn C) {f:FuncId} {fn:Func} {c:Code} {args:List V} {σ:List O} {u:Value} {r:Option (List O)} (hf:C.P.funcs[f]?=some fn) (hb:fn.body=some c) (hn:(fn.name== "runtime.NumGoroutine") =false)
   (hnt:Nat.ble args.length fn.ntmps=true) (h:V.eP args->i9 σ->vc C σ.length c ⟨fn.ntmps,gT args 0,σ,[]⟩ (GY u σ r)) {E:Env} (hds:E.ds=[]) (st:St) (g:aw) (hY:∀E',j5 E E'->ib C E' σ.length st g) (w:World) (vs:List Value) (W:aO E st g σ w) (hg:aV C.gl st) (hv:aE st g args σ.length vs):
   Calls C.P f vs.toArray w fun e w'=>∃st' g',e=.panicked [{v:=u,recovered:=false}]/\aO E st' g' (r.getD σ) w'/\(∀b o v,st b o=some v->st' b o=some v)/\
    σ.length<=(r.getD σ).length/\∀i o,σ[i]?=some o->(r=none\/eZ (r.getD []) =true\/o.gF=false)->g' i=g i:=by
 have hlen:=eJ hv;have hnt':=d9 hnt;have hvc:=h (p7 hv) W.wf;have R:Rel E st g ⟨fn.ntmps,gT args 0,σ,[]⟩ {tmps:=vs.toArray++Array.replicate (fn.ntmps-vs.toArray.size) undef,defers:=[]} w:=by
  refine⟨by simp;omega,hds.symm,fun t=>?_,W⟩;show VR st g (lk (gT args 0) t) σ.length _;rw[vl,if_pos (ci _),Nat.sub_zero];rcases eg t args.length with h1|h1
  . have h2:args[t]?=some args[t]:=am h1;obtain⟨v,h3,h4⟩:=jA hv h2;have h5:(vs.toArray++Array.replicate (fn.ntmps-vs.toArray.size) undef).getD t undef=v:=by
     rw[Array.getD_eq_getD_getElem?,Array.getElem?_append_left (by simp;omega)];simp[h3]
    rw[ac,h2];show VR st g args[t] σ.length ((vs.toArray++Array.replicate (fn.ntmps-vs.toArray.size) undef).getD t undef);rw[h5];exact h4
  . rw[ac,dl h1];simp[VR]
 refine callsIn_wide.1 (callsIn_of_wp_marks (F:=Fence.wide) (n:=0) hf hb trivial (wpIn_wide.2 (oT G hY c _ _ w _ _ ⟨E,j5.refl W.gnew,st,g,R,hg,⟨fun _ _ _ h=>h,fun _ _ _=>rfl,co _⟩⟩ hvc fun ex s' a' w0' hk hgo=>?_)));have hex0:ex=.pan u/\bI σ r s':=by
  cases ex with
  |norm=>exact hk.elim
  |ret=>exact hk.elim
  |exit id=>exact hk.elim
  |goto l=>exact hk.elim
  |pan v=>exact⟨by rw[hk.1],hk.2⟩
 obtain⟨rfl,ps,hk1⟩:=hex0;replace hgo:=hgo.dA ps;clear hk;generalize s'.dA ps=s' at hgo hk1;obtain⟨E',hE',st',g',R0',hg',B⟩:=hgo;obtain⟨Ds,hDs,hnd,hDall⟩:=hE'.ds;have hdf:a'.defers=Ds.map fun D=>{target:=.collected D,args:=#[]}:=by rw[R0'.df,hDs,hds,List.append_nil]
 have hDh:∀D∈Ds,w0'.heap[D]?=some (.deferred (some [])):=fun D hD=>(R0'.wr.fr D (hDall D hD).2.1).trans (hDall D hD).2.2;obtain⟨w',hw'⟩:∃w',w'=shut w0' Ds:=⟨_,rfl⟩
 obtain⟨q1,q2,q3,q4⟩:=zx Ds w0';rw[<-hw'] at q1 q2 q3 q4;have hheap:∀b,b∉Ds->w'.heap[b]?=w0'.heap[b]?:=fun b hb=>by rw[hw'];exact zw Ds w0' b hb
 have RW:aO E st' g' s'.sg w':=by
  have R1:=hE'.whole R0'.wr;refine R1.env (q2.trans R1.os) (q3.trans R1.tape) (q4.trans R1.output) (by rw[q1];exact R1.size) R1.gnew R1.sub R1.stG (fun i b hi hb=>(R1.cF hi hb).2) (fun b hb=>hheap b fun hD=>?_) (by rw[q1];exact co _) (fun b hb=>?_)
  . rcases hb with ⟨i,hi,hb⟩|⟨o,v,hv⟩
    . exact(hDall b hD).2.1 (R0'.wr.cF hi hb).2
    . obtain⟨c,el,fr,hc⟩:=R0'.wr.Ar hv;rw[hDh b hD] at hc;cases hc
  . rw[hheap b fun hD=>hb (hDall b hD).1];exact R1.fr b hb
 have R':Rel {E with ds:=a'.defers} st' g' s' a' w':=⟨R0'.nt,rfl,R0'.tm,RW.ds _⟩
 have hfin:aO E st' g' (r.getD σ) w'/\(∀b o v,st b o=some v->st' b o=some v)/\σ.length<=(r.getD σ).length/\∀i o,σ[i]?=some o->(r=none\/eZ (r.getD []) =true\/o.gF=false)->g' i=g i:=by
  have hkeep:∀aX,mP σ aX s'.kl=true->∀i o,σ[i]?=some o->(aX=true\/o.gF=false)->g' i=g i:=fun aX hkl i o ho hor=>by
   refine B.aX i ?_ (vY hkl i o ho hor);rcases eg i σ.length with h'|h'
   . exact h'
   . simp[dl h'] at ho
  cases r with
  |none=>
    obtain⟨h3,h4⟩:=hk1;exact⟨RW.rM h3,B.mono,co _,fun i o ho _=>hkeep true h4 i o ho (.inl rfl)⟩
  |some σ'=>
    obtain⟨h3,h4,h5⟩:=hk1;exact⟨RW.rM h3,B.mono,d9 h5,fun i o ho hor=>hkeep (eZ σ') h4 i o ho (hor.resolve_left (by simp))⟩
 obtain⟨h2,h4,h5,h6⟩:=hfin;show LeavesInM Fence.wide 0 C.P fn a'.tmps _ a'.defers (.panicking [{v:=u,recovered:=false}]) w0';rw[hdf];refine KO Ds w0' hnd hDh ?_;rw[<-hw'];exact⟨st',g',rfl,h2,h4,h5,h6⟩
theorem je(G:cn C) {f:FuncId} {fn:Func} {c:Code} {args:List V} {σ:List O} {u:Value} {r:Option (List O)} (hf:C.P.funcs[f]?=some fn) (hb:fn.body=some c) (hn:(fn.name== "runtime.NumGoroutine") =false)
   (hnt:Nat.ble args.length fn.ntmps=true) (h:V.eP args->i9 σ->vc C σ.length c ⟨fn.ntmps,gT args 0,σ,[]⟩ (GY u σ r)) (hy:C.yd=fun _ _ _ _=>none:=by rfl):sa C.P C.gl f args σ u r:=by
 refine⟨⟨fn,hf,hn,by rw[hb];rfl⟩,fun E st g w vs W hg hv=>?_⟩;refine Calls.mono (Oj G hf hb hn hnt h (E:={E with ds:=[]}) rfl st g (fun _ _=>ib.none hy) w vs (W.ds []) hg hv) ?_;rintro e w' ⟨st',g',h1,h2,h4,h5,h6⟩;exact⟨st',g',h1,h2.rQ,h4,h5,h6⟩
end
end Go.VG
set_option linter.unusedSimpArgs false
set_option linter.unusedVariables false
namespace Go.VG
open Go

def jD(agg:Bool) (cs:List V):Option V:=match agg,cs with
 |true,cs=>some (.agg cs)
 |false,[x]=>some x
 |false,_=>none

def cr{H:Type} (ti:TypeId->TI):Nat->TypeId->DataW H->Option (List V)
 |0,_,_=>none
 |f+1,t,d=>match (ti t).k,d with
   |.bool,.lit (.bool b) =>some [.bool b]
   |.int k,.lit (.int _ n) =>some [.int k n]
   |.string,.lit (.string s) =>some [.str s]
   |.slice e,.nil=>some [.list true (ti e).size []]
   |.slice e,.slice elems _=>(elems.mapM fun x=>(cr ti f e x).bind (jD (ti e).k.isAgg)).map fun l=>[.list false (ti e).size l]
   |.ptr _,.nil=>some [.nilptr]
   |.ptr e,.ptr x=>(cr ti f e x).map fun cs=>[.box cs 0]
   |.struct fs,.agg parts=>cond (Nat.beq fs.length parts.length) (((fs.zip parts).mapM fun p=>cr ti f p.1.2 p.2).map List.flatten) none
   |.array n e,.agg parts=>cond (Nat.beq n parts.length) ((parts.mapM fun x=>cr ti f e x).map List.flatten) none
   |.iface,.nil=>some [.nilIface]
   |_,_=>none

def vR(S:TypeId->Bool):TK->Bool
 |.bool|.int _|.string=>true
 |.slice e=>S e
 |.struct fs=>fs.all fun f=>S f.2
 |.array _ e=>S e
 |_=>false

theorem He{agg:Bool} {cs:List V} {n:Nat} {st:St} {g:aw} {vs:List Value} {x:V} (h:jD agg cs=some x) (hv:aE st g cs n vs) (ho:ew cs=true):∃u,VR st g x n u/\u.cells.toList=vs:=by
 cases agg with
 |true=>
   simp only[jD,Option.some.injEq] at h;subst h;exact⟨.agg vs.toArray,by simp only[VR];exact⟨_,rfl,by simpa using hv⟩,by simp[Value.cells]⟩
 |false=>
   match cs,h with
   |[y],h=>
     simp only[jD,Option.some.injEq] at h;subst h;have hvs:=hv;simp only[aE] at hv;obtain⟨u,us,rfl,h1,rfl⟩:=hv;refine⟨u,h1,?_⟩;have hone:=tS hvs ho u (by simp);cases u<;>first
      |rfl
      |(simp[Value.oneCell'] at hone)

theorem L7{α β γ:Type} {f:α->Option β} {k:β->Option γ} {p:α->β->γ->Prop}:∀{l:List α} {r:List β},l.mapM f=some r->(∀a∈l,∀b,f a=some b->∃c,k b=some c/\p a b c)->
   ∃cs,r.mapM k=some cs/\cs.length=l.length/\∀(i:Nat) a b c,l[i]?=some a->r[i]?=some b->cs[i]?=some c->p a b c
 |[],r,h,_=>by
   simp at h;subst h;exact⟨[],by simp,rfl,fun i a b c h=>by simp at h⟩
 |x::l,r,h,hk=>by
   rw[List.mapM_cons] at h;cases hx:f x with
   |none=>rw[hx] at h;simp at h
   |some y=>
     rw[hx] at h;cases hl:l.mapM f with
     |none=>rw[hl] at h;simp at h
     |some ys=>
       rw[hl] at h;simp at h;subst h;obtain⟨c,h1,h2⟩:=hk x (by simp) y hx;obtain⟨cs,h3,h4,h5⟩:=L7 hl fun a ha=>hk a (d8 _ ha);refine⟨c::cs,by rw[List.mapM_cons,h1,h3];rfl,by simp[h4],fun i a b c' ha hb hc=>?_⟩;cases i with
       |zero=>simp at ha hb hc;subst ha;subst hb;subst hc;exact h2
       |succ i=>simp at ha hb hc;exact h5 i a b c' ha hb hc

theorem Gc{H:Type} {enc:TypeId×Value->H} {P:Program} {w:World} {ti:TypeId->TI} (hti:∀t,lp P t (ti t)) {fuel:Nat} {t:TypeId} {cs:List Value} {d:DataW H} {ps:List MemPlace} {st:St} {g:aw}
   {held:Bool} (hk:(ti t).k=.bool\/(∃k,(ti t).k=.int k)\/(ti t).k=.string) (h:DataW.trod enc P w 0 (fun _=>true) held (fuel+1) t cs=some (d,ps)):
   ∃xs,cr ti (fuel+1) t d=some xs/\aE st g xs 0 cs/\ew xs=true:=by
 unfold DataW.trod at h;rcases hk with hk|⟨k,hk⟩|hk
 . have hu:=((hti t).of (by rw[hk];simp)).1;rw[hk] at hu;rw[show P.underlying t=some .bool from hu] at h;simp only at h;split at h<;>simp_all;obtain⟨rfl,_⟩:=h;rename_i b _;exact⟨[.bool b],by simp only[cr,hk],cu (by simp[VR]) dD,rfl⟩
 . have hu:=((hti t).of (by rw[hk];simp)).1;rw[hk] at hu;rw[show P.underlying t=some (.int k) from hu] at h;simp only at h;split at h<;>simp_all;obtain⟨⟨rfl,hwf⟩,rfl,_⟩:=h;rename_i k' n _ _;refine⟨[.int k' n],by simp only[cr,hk],cu ?_ dD,rfl⟩;simp only[Lit.wf,aA,decide_eq_true_eq] at hwf;simp only[VR];exact⟨trivial,hwf⟩
 . have hu:=((hti t).of (by rw[hk];simp)).1;rw[hk] at hu;rw[show P.underlying t=some .string from hu] at h;simp only at h;split at h<;>simp_all;obtain⟨hl,rfl,_⟩:=h;rename_i s _;refine⟨[.str s.data.toList],by simp only[cr,hk],cu ?_ dD,rfl⟩;simp only[VR];exact⟨trivial,by simpa using hl⟩

theorem LA{xs ys:List V} (h:ew xs=true) (k:ew ys=true):ew (xs++ys) =true:=by
 induction xs with
 |nil=>exact k
 |cons x xs ih=>
   simp only[ew,aA,List.cons_append] at h⊢;exact⟨h.1,ih h.2⟩

theorem YF{w:World} {a:Addr} {len cap sz:Nat} {l:List V} {st:St} {g:aw} (hst:∀b o,st b o=w.cell? ⟨b,o,none⟩) (hl:l.length=len) (hcap:len<=cap) (hmax:cap<=maxLen) (hsz:0<sz)
   (h:∀(i:Nat) x,l[i]?=some x->∃u,VR st g x 0 u/\u.cells.size=sz/\(∀v∈u.cells.toList,v.oneCell'=true)/\∀j,j<sz->w.cell? ((a.add (i*sz)).add j) =u.cells[j]?):
   VR st g (.list false sz l) 0 (.slice (some a) len cap):=by
 simp only[VR];refine⟨some a,cap,by rw[hl],by omega,by omega,by simp,?_⟩;cases hl0:l with
 |nil=>exact .inl rfl
 |cons x l'=>
   right;have h0:=h 0 x (by rw[hl0];rfl);obtain⟨u,_,h2,_,h4⟩:=h0;have h5:=h4 0 hsz;rw[Nat.zero_mul] at h5;have ha0:(a.add 0).add 0=a:=by simp[Addr.add]
   rw[ha0] at h5;have hspot:a.spot=none:=by
    have h6:u.cells[0]?=some u.cells[0]:=Array.getElem?_eq_getElem (by omega);rw[h6] at h5;unfold World.cell? at h5;split at h5
    . cases hs:a.spot with
      |none=>rfl
      |some k=>rw[hs] at h5;simp at h5
    . cases h5
   obtain⟨b,o,sp⟩:=a;simp only at hspot;subst hspot;refine⟨b,o,rfl,hsz,?_⟩;rw[<-hl0,gO];intro i y hy;obtain⟨u,q1,q2,q3,q4⟩:=h i y hy;refine⟨u,q1,q2,q3,fun j hj=>?_⟩;rw[<-q4 j hj,hst]
   congr 1
   simp only[Addr.add];by_cases e1:i*sz=0<;>by_cases e2:j=0<;>simp[e1,e2,Nat.add_assoc]

theorem Hd{agg:Bool} {cs:List V} (h:agg=false->cs.length=1):∃x,jD agg cs=some x:=by
 cases agg with
 |true=>exact⟨_,rfl⟩
 |false=>
   match cs,h rfl with
   |[y],_=>exact⟨y,rfl⟩
theorem HC{H:Type} {ti:TypeId->TI} {f:Nat} {t:TypeId} {d:DataW H} {xs:List V} (hna:(ti t).k.isAgg=false) (h:cr ti f t d=some xs):xs.length=1:=by
 cases f with
 |zero=>simp[cr] at h
 |succ f=>
   simp only[cr] at h;split at h<;>simp_all[TK.isAgg];all_goals (first|(subst h;rfl)|(obtain⟨_,_,rfl⟩:=h;rfl))
theorem mapM_congr{α β:Type} {f g:α->Option β}:∀{l:List α},(∀a∈l,f a=g a)->l.mapM f=l.mapM g
 |[],_=>rfl
 |x::l,h=>by
   rw[List.mapM_cons,List.mapM_cons,h x (by simp),mapM_congr fun a ha=>h a (d8 _ ha)]
theorem N7{H:Type} {tr:List Value->Option (DataW H×List MemPlace)} {cd:DataW H->Option (List V)} {st:St} {g:aw} {cs:List Value} {sz:Nat}
   (hone:∀vs d ps,tr vs=some (d,ps)->∃xs,cd d=some xs/\aE st g xs 0 vs/\ew xs=true):∀(m k:Nat) (r:List (DataW H×List MemPlace)),(k+m)*sz<=cs.length->
   ((List.range' k m).mapM fun i=>tr ((cs.drop (i*sz)).take sz)) =some r->∃xss,(r.mapM fun p=>cd p.1) =some xss/\aE st g xss.flatten 0 ((cs.drop (k*sz)).take (m*sz))/\ew xss.flatten=true
 |0,k,r,_,h=>by
   simp at h;subst h;exact⟨[],by simp,by simp[aE],by simp[ew]⟩
 |m+1,k,r,hl,h=>by
   rw[List.range'_succ,List.mapM_cons] at h;cases hx:tr ((cs.drop (k*sz)).take sz) with
   |none=>simp only[hx] at h;simp at h
   |some y=>
     simp only[hx] at h;cases hl':((List.range' (k+1) m).mapM fun i=>tr ((cs.drop (i*sz)).take sz)) with
     |none=>rw[hl'] at h;simp at h
     |some ys=>
       rw[hl'] at h;simp at h;subst h;obtain⟨d,ps⟩:=y;obtain⟨xs,h1,h2,h3⟩:=hone _ _ _ hx;obtain⟨xss,k1,k2,k3⟩:=N7 hone m (k+1) ys (by rw[show k+1+m=k+(m+1) by omega];exact hl) hl';refine⟨xs::xss,?_,?_,?_⟩
       . rw[List.mapM_cons];simp only[h1,k1];rfl
       . rw[List.flatten_cons];have hsplit:(cs.drop (k*sz)).take ((m+1)*sz) =(cs.drop (k*sz)).take sz++(cs.drop ((k+1)*sz)).take (m*sz):=by
          rw[show(k+1)*sz=k*sz+sz by rw[Nat.succ_mul],<-List.drop_drop,show(m+1)*sz=sz+m*sz by rw[Nat.succ_mul,Nat.add_comm],List.take_add]
         rw[hsplit];exact si h2 k2
       . rw[List.flatten_cons];exact LA h3 k3

def pf(ti:TypeId->TI):List (Nat×TypeId)->Nat->Option Nat
 |[],o=>some o
 |(p,t)::r,o=>match Nat.beq p o with
   |true=>pf ti r (o+(ti t).size)
   |false=>none

theorem N8{H:Type} {ti:TypeId->TI} {tr:TypeId->List Value->Option (DataW H×List MemPlace)} {cd:TypeId->DataW H->Option (List V)} {st:St} {g:aw} {cs:List Value}
   (hone:∀t vs d ps,tr t vs=some (d,ps)->∃xs,cd t d=some xs/\aE st g xs 0 vs/\ew xs=true):∀(fs:List (Nat×TypeId)) (o n:Nat) (r:List (DataW H×List MemPlace)),pf ti fs o=some n->o<=cs.length->n<=cs.length->
   (fs.mapM fun f=>tr f.2 ((cs.drop f.1).take (ti f.2).size)) =some r->∃xss,((fs.zip (r.map (·.1))).mapM fun p=>cd p.1.2 p.2) =some xss/\aE st g xss.flatten 0 ((cs.drop o).take (n-o))/\ew xss.flatten=true/\o<=n
 |[],o,n,r,hc,_,_,h=>by
   simp[pf] at hc;simp at h;subst h;subst hc;exact⟨[],by simp,by simp[aE],by simp[ew],co _⟩
 |(p,t)::fs,o,n,r,hc,hol,hnl,h=>by
   simp only[pf] at hc;cases hb:Nat.beq p o with
   |false=>rw[hb] at hc;cases hc
   |true=>
     rw[hb] at hc;have:=cb hb;subst this;rw[List.mapM_cons] at h;cases hx:tr t ((cs.drop p).take (ti t).size) with
     |none=>simp only[hx] at h;simp at h
     |some y=>
       simp only[hx] at h;cases hl:(fs.mapM fun f=>tr f.2 ((cs.drop f.1).take (ti f.2).size)) with
       |none=>rw[hl] at h;simp at h
       |some ys=>
         rw[hl] at h;simp at h;subst h;obtain⟨d,ps⟩:=y;obtain⟨xs,h1,h2,h3⟩:=hone _ _ _ _ hx;have hle:p+(ti t).size<=n:=by
          have:∀(l:List (Nat×TypeId)) o n,pf ti l o=some n->o<=n:=by
           intro l
           induction l with
           |nil=>intro o n h;simp[pf] at h;omega
           |cons f l ih=>
             intro o n h;obtain⟨q,u⟩:=f;simp only[pf] at h;split at h
             . have:=ih _ _ h;omega
             . cases h
          exact this _ _ _ hc
         obtain⟨xss,k1,k2,k3,k4⟩:=N8 hone fs (p+(ti t).size) n ys hc (by omega) hnl hl;refine⟨xs::xss,?_,?_,?_,by omega⟩
         . rw[List.map_cons,List.zip_cons_cons,List.mapM_cons];simp only[h1,k1];rfl
         . rw[List.flatten_cons];have hsplit:(cs.drop p).take (n-p) =(cs.drop p).take (ti t).size++(cs.drop (p+(ti t).size)).take (n-(p+(ti t).size)):=by
            rw[<-List.drop_drop,show n-p=(ti t).size+(n-(p+(ti t).size)) by omega,List.take_add]
           rw[hsplit];exact si h2 k2
         . rw[List.flatten_cons];exact LA h3 k3

structure s8(P:Program) (ti:TypeId->TI) (S:TypeId->Bool):Prop where
 tys:∀t,lp P t (ti t)
 kids:∀t,S t=true->vR S (ti t).k=true
 pos:∀t,S t=true->(∃e,(ti t).k=.slice e/\0<(ti e).size)\/(∃e,(ti t).k=.ptr e/\0<(ti e).size)\/((∀e,(ti t).k≠.slice e)/\∀e,(ti t).k≠.ptr e)
 fields:∀t fs,S t=true->(ti t).k=.struct fs->pf ti fs 0=some (ti t).size
 array:∀t m e,S t=true->(ti t).k=.array m e->(ti t).size=m*(ti e).size

theorem CE{S:TypeId->Bool} {k:TK} (h:vR S k=true):k≠.other:=by
 intro e;subst e;simp[vR] at h

theorem N6{H:Type} {enc:TypeId×Value->H} {P:Program} {w:World} {ti:TypeId->TI} {S:TypeId->Bool} (D:s8 P ti S) {st:St} {g:aw} {held:Bool} (hst:∀b o,st b o=w.cell? ⟨b,o,none⟩):
   ∀(fuel:Nat) (t:TypeId) (cs:List Value) (d:DataW H) (ps:List MemPlace),S t=true->DataW.trod enc P w 0 (fun _=>true) held fuel t cs=some (d,ps)->∃xs,cr ti fuel t d=some xs/\aE st g xs 0 cs/\ew xs=true:=by
 intro fuel
 induction fuel with
 |zero=>intro t cs d ps _ h;simp[DataW.trod] at h
 |succ fuel ih=>
   intro t cs d ps hSt h;have hkid:=D.kids t hSt;have hu:=((D.tys t).of (CE hkid)).1;have hsize:∀e,S e=true->P.cellsOf e=(ti e).size:=fun e he=>Bm (D.tys e) (CE (D.kids e he));cases hk:(ti t).k<;>rw[hk] at hkid hu<;>simp only[vR] at hkid<;>try(cases hkid;done)
   case bool=>exact Gc D.tys (.inl hk) h
   case int k=>exact Gc D.tys (.inr (.inl ⟨k,hk⟩)) h
   case string=>exact Gc D.tys (.inr (.inr hk)) h
   case slice e=>
    have hpos:0<(ti e).size:=by
     rcases D.pos t hSt with ⟨e',h1,h2⟩|⟨e',h1,_⟩|⟨h1,_⟩
     . rw[hk] at h1;cases h1;exact h2
     . rw[hk] at h1;cases h1
     . exact absurd hk (h1 e)
    unfold DataW.trod at h;rw[show P.underlying t=some (.slice e) from hu] at h;simp only at h;rcases cs with _|⟨v,_|⟨v2,rest⟩⟩
    . simp at h
    . have hsl:∃base len cap,v=.slice base len cap:=by
        cases v<;>first
         |exact⟨_,_,_,rfl⟩
         |(simp at h;done)
      obtain⟨base,len,cap,rfl⟩:=hsl;cases base with
      |none=>
        have hz:len=0/\cap=0:=by
         cases len<;>cases cap<;>first
          |exact⟨rfl,rfl⟩
          |(simp at h;done)
        obtain⟨rfl,rfl⟩:=hz;simp only[Option.some.injEq,Prod.mk.injEq] at h;obtain⟨rfl,_⟩:=h;refine⟨[.list true (ti e).size []],by simp only[cr,hk],cu ?_ dD,rfl⟩;simp only[VR];exact⟨none,0,rfl,by simp,by simp,by simp,.inl trivial⟩
      |some a=>
        simp only[hsize e hkid] at h;split at h
        . rename_i hcond;obtain⟨_,hlc,hcm⟩:=hcond;cases hm:(List.range len).mapM (fun i=>(w.cells? 0 (a.add (i*(ti e).size)) (ti e).size).bind (DataW.trod enc P w 0 (fun _=>true) held fuel e)) with
          |none=>rw[hm] at h;simp at h
          |some elems=>
            rw[hm] at h;simp only[Option.bind_some,Option.map_eq_some_iff,Prod.mk.injEq] at h;obtain⟨rest,_,rfl,_⟩:=h;obtain⟨l,h1,h2,h3⟩:=L7 (k:=fun x=>(cr ti fuel e x.1).bind (jD (ti e).k.isAgg))
             (p:=fun i _ c=>∃u,VR st g c 0 u/\u.cells.size=(ti e).size/\(∀v∈u.cells.toList,v.oneCell'=true)/\∀j,j<(ti e).size->w.cell? ((a.add (i*(ti e).size)).add j) =u.cells[j]?) hm (fun i _ b hb=>by
              simp only[Option.bind_eq_some_iff] at hb;obtain⟨ecs,hb1,hb2⟩:=hb;obtain⟨_,hb3,hb4⟩:=World.cells?_some hb1;obtain⟨xs,q1,q2,q3⟩:=ih e ecs b.1 b.2 hkid hb2;have hxl:xs.length=(ti e).size:=by rw[eJ q2,hb3]
              obtain⟨x,hx⟩:=Hd (agg:=(ti e).k.isAgg) (fun hna=>HC hna q1);obtain⟨u,k1,k2⟩:=He hx q2 q3;refine⟨x,by rw[q1];exact hx,u,k1,?_,?_,fun j hj=>?_⟩
              . rw[<-Array.length_toList,k2,hb3]
              . rw[k2];exact tS q2 q3
              . rw[hb4 j hj,<-k2,Array.getElem?_toList])
            have hlen:l.length=len:=by simpa using h2
            refine⟨[.list false (ti e).size l],?_,cu (YF hst hlen hlc hcm hpos fun i x hx=>?_) dD,rfl⟩
            . simp only[cr,hk,List.mapM_map];rw[show((fun x=>(cr ti fuel e x).bind (jD (ti e).k.isAgg))∘fun x=>x.1) =(fun x:DataW H×List MemPlace=>(cr ti fuel e x.1).bind (jD (ti e).k.isAgg)) from rfl,h1];rfl
            . have hi:i<len:=by
                rw[<-hlen];rcases eg i l.length with h'|h'
                . exact h'
                . simp[dl h'] at hx
              have hel:elems.length=len:=by simpa using mapM_some_length hm
              exact h3 i i _ x (by simp[hi]) (am (by omega)) hx
        . cases h
    . simp at h
   case array m e=>
    unfold DataW.trod at h;rw[show P.underlying t=some (.array m e) from hu] at h;simp only[hsize e hkid,hsize t hSt] at h;split at h
    . rename_i hcl;simp only[Option.map_eq_some_iff,Prod.mk.injEq] at h;obtain⟨r,hm,rfl,_⟩:=h;obtain⟨xss,h1,h2,h3⟩:=N7 (cs:=cs) (sz:=(ti e).size) (fun vs d ps hh=>ih e vs d ps hkid hh) m 0 r (by have:=D.array t m e hSt hk;rw[Nat.zero_add];omega) (by rw[<-List.range_eq_range'];exact hm);refine⟨xss.flatten,?_,?_,h3⟩
      . simp only[cr,hk,List.mapM_map];have hlen:Nat.beq m (r.map (·.1)).length=true:=by
         have:=mapM_some_length hm;rw[aB,this,List.length_range];exact Nat.beq_refl _
        rw[hlen,cond_true,show(fun x=>cr ti fuel e x)∘(fun x:DataW H×List MemPlace=>x.1) =fun x=>cr ti fuel e x.1 from rfl,h1];rfl
      . have hh:=D.array t m e hSt hk;have:(cs.drop (0*(ti e).size)).take (m*(ti e).size) =cs:=by rw[Nat.zero_mul,List.drop_zero];exact gg (by omega)
        rw[this] at h2;exact h2
    . cases h
   case struct fs=>
    obtain⟨fields,hu1,hu2,_⟩:=hu;unfold DataW.trod at h;rw[hu1] at h;simp only[hsize t hSt] at h;split at h
    . rename_i hcl;simp only[Option.map_eq_some_iff,Prod.mk.injEq] at h;obtain⟨r,hm,rfl,_⟩:=h;have hfs:∀f∈fs,S f.2=true:=by simpa[List.all_eq_true] using hkid
      have hm':fs.mapM (fun f=>if S f.2=true then DataW.trod enc P w 0 (fun _=>true) held fuel f.2 ((cs.drop f.1).take (ti f.2).size) else none) =some r:=by
       rw[<-hm,<-hu2,List.mapM_map];refine mapM_congr fun f hf=>?_;have hs:S f.type=true:=hfs (f.offset,f.type) (by rw[<-hu2];exact List.mem_map.2 ⟨f,hf,rfl⟩);simp[hs,hsize _ hs]
      obtain⟨xss,h1,h2,h3,_⟩:=N8 (ti:=ti) (tr:=fun t vs=>if S t=true then DataW.trod enc P w 0 (fun _=>true) held fuel t vs else none) (cd:=cr ti fuel) (st:=st) (g:=g) (cs:=cs)
       (fun t vs d ps hh=>by
        split at hh
        . rename_i hs;exact ih t vs d ps hs hh
        . cases hh) fs 0 (ti t).size r (D.fields t fs hSt hk) (ci _) (by omega) hm'
      refine⟨xss.flatten,?_,?_,h3⟩
      . simp only[cr,hk];have hlen:Nat.beq fs.length (r.map (·.1)).length=true:=by
         have:=mapM_some_length hm';rw[aB,this];exact Nat.beq_refl _
        rw[hlen,cond_true,h1];rfl
      . have:(cs.drop 0).take ((ti t).size-0) =cs:=by rw[List.drop_zero];exact gg (by omega)
        rw[this] at h2;exact h2
    . cases h
end Go.VG
namespace Go.VG
open Go Go.RowKit Go.WideShapes Go.ChangeShapes

theorem zInt{k:IntKind} (st:St) (g:aw) (n:Nat):VR st g (.int k 0) n (.int k 0):=by
 simp only[VR];refine⟨trivial,?_⟩;cases k<;>decide
theorem zStr(st:St) (g:aw) (n:Nat):VR st g (.str []) n (.string ⟨#[]⟩):=by simp[VR]
theorem zBool{b:Bool} (st:St) (g:aw) (n:Nat):VR st g (.bool b) n (.bool b):=by simp[VR]
theorem zPtr(st:St) (g:aw) (n:Nat):VR st g .nilptr n (.pointer none):=by simp[VR]
theorem zMap(st:St) (g:aw) (n:Nat):VR st g .nilmap n (.map none):=by simp[VR]
theorem Z7(st:St) (g:aw) (n:Nat):VR st g .nilIface n .nilIface:=by simp[VR]
theorem zFunc(st:St) (g:aw) (n:Nat):VR st g .nilFunc n .nilFunc:=by simp[VR]
theorem zList(st:St) (g:aw) (n:Nat):VR st g (.list true 0 []) n (.slice none 0 0):=by simp[VR]
theorem zNil(st:St) (g:aw) (n:Nat):aE st g [] n []:=dD
theorem zCons{x:V} {xs:List V} {v:Value} {vs:List Value} (h:∀(st:St) (g:aw) (n:Nat),VR st g x n v) (hs:∀(st:St) (g:aw) (n:Nat),aE st g xs n vs) (st:St) (g:aw) (n:Nat):aE st g (x::xs) n (v::vs):=cu (h st g n) (hs st g n)
theorem zAgg{xs:List V} {vs:Array Value} (h:∀(st:St) (g:aw) (n:Nat),aE st g xs n vs.toList) (st:St) (g:aw) (n:Nat):VR st g (.agg xs) n (.agg vs):=by
 simp only[VR];exact⟨vs,rfl,h st g n⟩

section
variable {H:Type} {ti:TypeId->TI}

theorem Oz:∀{f:Nat} {t:TypeId} {d:DataW H} {xs:List V},cr ti f t d=some xs->cr ti (f+1) t d=some xs:=by
 intro f
 induction f with
 |zero=>intro t d xs h;simp[cr] at h
 |succ f ih=>
   intro t d xs h;have hm:∀{α:Type} {l:List α} {r:List (List V)} (k:α->TypeId×DataW H),l.mapM (fun x=>cr ti f (k x).1 (k x).2)=some r->l.mapM (fun x=>cr ti (f+1) (k x).1 (k x).2)=some r:=by
    intro α l
    induction l with
    |nil=>intro r k h;simpa using h
    |cons x l ihl=>
      intro r k h;rw[List.mapM_cons] at h⊢;cases hx:cr ti f (k x).1 (k x).2 with
      |none=>rw[hx] at h;simp at h
      |some y=>
        rw[hx] at h;cases hl:l.mapM (fun x=>cr ti f (k x).1 (k x).2) with
        |none=>rw[hl] at h;simp at h
        |some ys=>
          rw[hl] at h;rw[ih hx,ihl k hl];exact h
   have hm':∀{e:TypeId} {b:Bool} {l:List (DataW H)} {r:List V},l.mapM (fun x=>(cr ti f e x).bind (jD b))=some r->l.mapM (fun x=>(cr ti (f+1) e x).bind (jD b))=some r:=by
    intro e b l
    induction l with
    |nil=>intro r h;simpa using h
    |cons x l ihl=>
      intro r h;rw[List.mapM_cons] at h⊢;cases hx:cr ti f e x with
      |none=>rw[hx] at h;simp at h
      |some y=>
        rw[hx] at h;simp only[Option.bind_some] at h;cases hy:jD b y with
        |none=>rw[hy] at h;simp at h
        |some z=>
          rw[hy] at h;cases hl:l.mapM (fun x=>(cr ti f e x).bind (jD b)) with
          |none=>rw[hl] at h;simp at h
          |some ys=>
            rw[hl] at h;rw[ih hx,Option.bind_some,hy,ihl hl];exact h
   unfold cr at h;unfold cr;split at h<;>try simp_all only[]
   all_goals (first
    |exact h
    |(cases hb:Nat.beq _ _ with
       |false=>rw[hb] at h;cases h
       |true=>
         rw[hb] at h;simp only[cond_true,Option.map_eq_some_iff] at h⊢;obtain⟨l,h1,h2⟩:=h;first
          |exact⟨l,hm (fun x:DataW H=>(_,x)) h1,h2⟩
          |exact⟨l,hm (fun x:(Nat×TypeId)×DataW H=>(x.1.2,x.2)) h1,h2⟩)
    | (simp only [Option.map_eq_some_iff] at h ⊢
       obtain⟨l,h1,h2⟩:=h;first
        |exact⟨l,hm' h1,h2⟩
        |exact⟨l,hm (fun x:DataW H=>(_,x)) h1,h2⟩
        |exact⟨l,hm (fun x:(Nat×TypeId)×DataW H=>(x.1.2,x.2)) h1,h2⟩
        |exact⟨l,ih h1,h2⟩)
    |cases h)
theorem HB{f f':Nat} (h:f<=f') {t:TypeId} {d:DataW H} {xs:List V} (hx:cr ti f t d=some xs):cr ti f' t d=some xs:=by
 induction h with
 |refl=>exact hx
 |step _ ih=>exact Oz ih
theorem Ow{f f':Nat} {t:TypeId} {d:DataW H} {xs ys:List V} (hx:cr ti f t d=some xs) (hy:cr ti f' t d=some ys):xs=ys:=by
 have h1:=HB (Nat.le_max_left f f') hx;have h2:=HB (Nat.le_max_right f f') hy;rw[h1] at h2;exact Option.some.inj h2

def IsD(ti:TypeId->TI) (t:TypeId) (d:DataW H) (x:V):Prop:=∃f,(cr ti f t d).bind (jD (ti t).k.isAgg) =some x
def n8(ti:TypeId->TI):List TypeId->List (DataW H)->List V->Prop
 |[],[],[]=>True
 |t::ts,d::ds,x::xs=>IsD ti t d x/\n8 ti ts ds xs
 |_,_,_=>False

variable {P:Program} {S:TypeId->Bool} {enc:TypeId×Value->H} {st:St} {g:aw} {w:World}
theorem YE(D:s8 P ti S) (hst:∀b o,st b o=w.cell? ⟨b,o,none⟩) {t:TypeId} {v:Value} {d:DataW H} {ps:List MemPlace} {base:Nat} (hS:S t=true) (hok:Value.okWide P w .any base t v)
   (h:DataW.Trod enc P w 0 (fun _=>true) true t v d ps):∃x,IsD ti t d x/\VR st g x 0 v:=by
 obtain⟨fuel,h⟩:=h;obtain⟨xs,h1,h2,h3⟩:=N6 (g:=g) D hst fuel t _ d ps hS h;have hk:=CE (D.kids t hS);have hu:=((D.tys t).of hk).1;have hkid:=D.kids t hS;obtain⟨x,hx⟩:=Hd (agg:=(ti t).k.isAgg) (fun hna=>HC hna h1);refine⟨x,⟨fuel,by rw[h1];exact hx⟩,?_⟩;obtain⟨u,k1,k2⟩:=He hx h2 h3;cases hkk:(ti t).k<;>rw[hkk] at hu hkid hx<;>simp only[vR] at hkid<;>try(cases hkid;done)
 case struct fs=>
  obtain⟨fields,hu,_⟩:=hu;simp only[Value.okWide,hu] at hok;obtain⟨cs,rfl,_⟩:=hok;simp only[jD,TK.isAgg,Option.some.injEq] at hx;subst hx;simp only[VR];exact⟨cs,rfl,by simpa[Value.cells] using h2⟩
 case array n e=>
  simp only[Value.okWide,show P.underlying t=_ from hu] at hok;obtain⟨cs,rfl,_⟩:=hok;simp only[jD,TK.isAgg,Option.some.injEq] at hx;subst hx;simp only[VR];exact⟨cs,rfl,by simpa[Value.cells] using h2⟩
 all_goals
  simp only[Value.okWide,show P.underlying t=_ from hu,Cell.okWide,Cell.ok] at hok
  match xs,hx,h2 with
  |[y],hx,h2=>
    simp only[jD,TK.isAgg,Option.some.injEq] at hx;subst hx;cases v<;>first
     |(simp[Value.cells,aE] at h2;exact h2)
     |(simp at hok;done)

theorem N4(D:s8 P ti S) (hst:∀b o,st b o=w.cell? ⟨b,o,none⟩) {base:Nat}:∀(ts:List TypeId) (vs:List Value) (ds:List (DataW H)) (ps:List MemPlace),(∀t∈ts,S t=true)->
   (∀(j:Nat) t v,ts[j]?=some t->vs[j]?=some v->Value.okWide P w .any base t v)->
   DataW.TrodAll enc P w 0 (fun _=>true) true ts vs ds ps->∃xs,n8 ti ts ds xs/\aE st g xs 0 vs
 |[],[],[],_,_,_,_=>⟨[],trivial,dD⟩
 |t::ts,v::vs,d::ds,ps,hS,hok,h=>by
   obtain⟨p,q,h1,h2,_⟩:=h;obtain⟨x,h3,h4⟩:=YE (g:=g) D hst (hS t (by simp)) (hok 0 t v rfl rfl) h1;obtain⟨xs,h5,h6⟩:=N4 D hst ts vs ds q (fun t ht=>hS t (by simp[ht])) (fun j t v a b=>hok (j+1) t v (by simpa using a) (by simpa using b)) h2;exact⟨x::xs,⟨h3,h5⟩,cu h4 h6⟩
 |[],[],_::_,_,_,_,h=>h.elim
 |[],_::_,_,_,_,_,h=>by simp[DataW.TrodAll] at h
 |_::_,[],_,_,_,_,h=>by simp[DataW.TrodAll] at h
 |_::_,_::_,[],_,_,_,h=>by simp[DataW.TrodAll] at h

theorem N5(hl:laidOutB P=true) {W W':World} (hb:Below W.heap.size W W') {sp:Nat->Bool}:∀(ts:List TypeId) (vs:List Value) (ds:List (DataW H)) (ps:List MemPlace),
   (∀t∈ts,P.readableRec t=true/\t<P.types.size)->(∀p∈ps,p.block<W.heap.size)->(∀p∈ps,sp p.block=true)->
   DataW.TrodAll enc P W 0 (fun _=>true) true ts vs ds ps->DataW.TrodAll enc P W' 0 sp true ts vs ds ps
 |[],[],[],_,_,_,_,h=>h
 |t::ts,v::vs,d::ds,ps,hr,hlt,hs,h=>by
   obtain⟨p,q,h1,h2,rfl⟩:=h;refine⟨p,q,WideElems.Trod_stays hl (hr t (by simp)).1 (hr t (by simp)).2 h1 (fun x hx=>hb.same (hlt x (by simp[hx]))) (fun x hx=>hs x (by simp[hx])),
    N5 hl hb ts vs ds q (fun t ht=>hr t (by simp[ht])) (fun p hp=>hlt p (by simp[hp])) (fun p hp=>hs p (by simp[hp])) h2,rfl⟩
 |[],[],_::_,_,_,_,_,h=>h.elim
 |[],_::_,_,_,_,_,_,h=>by simp[DataW.TrodAll] at h
 |_::_,[],_,_,_,_,_,h=>by simp[DataW.TrodAll] at h
 |_::_,_::_,[],_,_,_,_,h=>by simp[DataW.TrodAll] at h

theorem Wx{f:Func} {s:ChangeSpec} {apart fresh handsOn again:Bool} {W W':World} {args:Array Value} {v:Value} {ds gs:List (DataW H)} {before pa pv:List MemPlace}
   (hW:DataW.Whole enc P f.params.toList s.vars apart W args.toList ds gs before)
   (hres:∀(b:Nat) (sp:Nat->Bool) (hd:Bool),DataW.TrodAll enc P W' b sp hd f.resultTypes.toList (v.resultList f.resultTypes.size) (s.fn H (ds++gs)).results [])
   (hargs:∀sp:Nat->Bool,(∀p∈before,sp p.block=true)->DataW.TrodAll enc P W' 0 sp true f.params.toList args.toList (s.fn H (ds++gs)).args pa)
   (hvars:∀sp:Nat->Bool,(∀p∈before,sp p.block=true)->DataW.TrodVars enc P W' sp s.vars (s.fn H (ds++gs)).vars pv)
   (hps:before=pa++pv) (hb:Below W.heap.size W W')
   (hok:∀(j:Nat) (t:TypeId) (r:Value),f.resultTypes[j]?=some t->(v.resultList f.resultTypes.size)[j]?=some r->Value.okWide P W' .any 0 t r):
   s.post enc P f apart fresh handsOn again W args v W':=by
 have hlt:∀p∈before,p.block<W.heap.size:=fun p hp=>hW.lt p hp;have hold:∀p∈before,(fun b=>decide (b<W.heap.size)) p.block=true:=fun p hp=>by simpa using hlt p hp
 refine⟨ds,gs,before,[],pa,pv,hW,hres _ _ _,hargs _ hold,hvars _ hold,World.keptBut_mono (fun p hp=>⟨hp,?_⟩) (hb.frame (·∈before)),fun _=>?_⟩
 . rw[hps,List.mem_append] at hp;exact Or.inr hp
 . obtain⟨_,_,_,_,_,hz,hn⟩:=hW;refine⟨hok,_,_,([]++pa)++pv,⟨[]++pa,pv,trodAll_append (hargs _ (fun _ _=>rfl)) (hres _ _ _),hvars _ (fun _ _=>rfl),rfl,?_,?_⟩,?_⟩
   . intro b off hp;have hin:MemPlace.cell b off∈before:=by rw[hps];simpa using hp
     rw[hb.frozen (hlt _ hin)];exact hz b off hin
   . intro ha;have:=hn ha;rw[hps] at this;simpa using this
   . intro p hp _;rw[hps];simpa using hp

def AX(P:Program) (ti:TypeId->TI) (S:TypeId->Bool) (laid:List (String×DataW Unit)) (gl:Nat->Option (List V)):Prop:=
 ∀b cs,gl b=some cs->∃n d t f,(n,d)∈laid/\d.handleName?=none/\P.globalNamed n=some b/\(P.globals[b]?).map (·.type) =some t/\S t=true/\cr ti f t d=some cs

theorem KC{n:String} {d:DataW Unit}:∀{laid:List (String×DataW Unit)} {ps:List MemPlace},DataW.LaidVars P w laid ps->(n,d)∈laid->
   ∃g t cs fuel p,P.globalNamed n=some g/\(P.globals[g]?).map (·.type) =some t/\w.var? P n=some cs/\DataW.trod (fun _=>()) P w 0 (fun _=>true) false fuel t cs.toList=some (d,p)
 |(n',d')::r,ps,h,hm=>by
   obtain⟨g,t,cs,fuel,p,q,h1,h2,h3,h4,h5,_⟩:=h;rcases List.mem_cons.1 hm with e|hm
   . cases e;exact⟨g,t,cs,fuel,p,h1,h2,h3,h4⟩
   . exact KC h5 hm

theorem Sa(D:s8 P ti S) {laid:List (String×DataW Unit)} {gl:Nat->Option (List V)} (hgl:AX P ti S laid gl) (hst:∀b o,st b o=w.cell? ⟨b,o,none⟩) (h:laidMetH P laid w):aV gl st:=by
 intro b cs hb g;obtain⟨n,d,t,f,h1,h2,h3,h4,h5,h6⟩:=hgl b cs hb;have:∃laid' ps,DataW.LaidVars P w laid' ps/\(n,d)∈laid':=by
  unfold laidMetH at h;split at h
  . obtain⟨ps,h,_⟩:=h;exact⟨_,ps,h,h1⟩
  . obtain⟨⟨ps,h,_⟩,_⟩:=h;exact⟨_,ps,h,by simp[h1,h2]⟩
 obtain⟨laid',ps,h7,h8⟩:=this;obtain⟨g',t',vs,fuel,p,k1,k2,k3,k4⟩:=KC h7 h8;obtain rfl:=Option.some.inj (k1.symm.trans h3);obtain rfl:=Option.some.inj (k2.symm.trans h4);obtain⟨xs,q1,q2,_⟩:=N6 (g:=g) D hst fuel _ _ d p h5 k4;obtain rfl:=Ow q1 h6;refine⟨vs.toList,q2,fun j hj=>?_⟩;rw[hst,World.var?_cell h3 k3];simp

theorem UX{f:FuncId} {fn:Func} {s:ChangeSpec} {apart fresh handsOn again:Bool} {laid:List (String×DataW Unit)} {gl:Nat->Option (List V)} {bt:TypeId} (D:s8 P ti S) (hl:laidOutB P=true)
    (hts:∀t∈fn.params.toList,S t=true/\P.readableRec t=true/\t<P.types.size) (hvars:s.vars=[]) (hrt:fn.resultTypes=#[bt]) (hbt:P.underlying bt=some .bool) (hgl:AX P ti S laid gl)
    {W:World} {base:Nat} {args:Array Value} {ds gs:List (DataW H)} {before:List MemPlace}
    (hval:∀(j:Nat) t v,fn.params[j]?=some t->args[j]?=some v->Value.okWide P W .any base t v)
    (hW:DataW.Whole enc P fn.params.toList s.vars apart W args.toList ds gs before) (hL:laidMetH P laid W)
    (hfn:ds.length=fn.params.size->s.fn H ds={results:=[.lit (.bool true)],args:=ds})
    (hfun:∀xs,n8 ti fn.params.toList ds xs->eH P gl f xs [] (.bool true) none):
    Calls P f args W fun e W'=>∃v,e=.returned v/\s.post enc P fn apart fresh handsOn again W args v W':=by
  have hW':=hW;obtain⟨p,q,hA,hV,rfl,hfz,hnd⟩:=hW';rw[hvars] at hV;obtain⟨rfl,rfl⟩:=trodVars_none hV;obtain⟨xs,h1,h2⟩:=N4 (st:=fun b o=>W.cell? ⟨b,o,none⟩) (g:=fun _=>⟨none,none,0,0,0⟩) D (fun _ _=>rfl) fn.params.toList args.toList ds p (fun t ht=>(hts t ht).1)
    (fun j t v a b=>hval j t v (by simpa using a) (by simpa using b)) hA
  have hlen:ds.length=fn.params.size:=by
    have:∀(ts:List TypeId) (ds:List (DataW H)) (xs:List V),n8 ti ts ds xs->ds.length=ts.length:=by
      intro ts
      induction ts with
      |nil=>intro ds xs h;cases ds<;>cases xs<;>simp_all[n8]
      |cons t ts ih=>intro ds xs h;cases ds<;>cases xs<;>simp_all[n8];exact ih _ _ h.2
    simpa using this _ _ _ h1
  obtain⟨_,hc⟩:=hfun xs h1;have wr:aO ⟨fun b=>W.heap.size<=b,W,fun b o=>W.cell? ⟨b,o,none⟩,[]⟩ (fun b o=>W.cell? ⟨b,o,none⟩) (fun _=>(⟨none,none,0,0,0⟩:Gh)) [] W:=
    {os:=rfl,tape:=rfl,output:=rfl,size:=co _,gnew:=fun _ h=>h,sub:=fun _ _ _ h=>h,stG:=fun _ _ _ h=>.inl h,stw:=fun _ _ _ h=>h,fr:=fun _ _=>rfl,
      ob:=fun i o h=>by simp at h,inj:=fun i j b h=>by simp at h}
  have:=hc _ _ _ W args.toList wr (Sa D hgl (fun _ _=>rfl) hL) (by simpa using h2);rw[show args.toList.toArray=args from rfl] at this;refine this.mono fun e W' hk=>?_;obtain⟨v,st',g',rfl,wr',hv,_⟩:=hk;simp only[VR] at hv;subst hv;have hb:Below W.heap.size W W':=⟨wr'.os,wr'.tape,wr'.output,wr'.size,fun k hk=>wr'.fr k (by show¬W.heap.size<=k;omega)⟩
  have hlt:∀x∈p++[],x.block<W.heap.size:=fun x hx=>hW.lt x hx;refine⟨_,rfl,Wx (pa:=p) (pv:=[]) hW ?_ (fun sp hs=>?_) (fun sp hs=>?_) rfl hb (ok_one hrt rfl (okWide_bool_mk hbt _))⟩
  . intro b sp hd;rw[List.append_nil,hfn hlen,hrt];exact⟨[],[],⟨1,by simp[DataW.trod,hbt,Value.cells]⟩,rfl,rfl⟩
  . rw[List.append_nil,hfn hlen];exact N5 hl hb _ _ _ _ (fun t ht=>(hts t ht).2) (fun x hx=>hlt x (by simpa using hx)) (fun x hx=>hs x (by simpa using hx)) hA
  . rw[List.append_nil,hfn hlen,hvars];rfl
end
end Go.VG
set_option linter.unusedSimpArgs false
set_option linter.unusedVariables false
namespace Go.VG
open Go

structure ae(A:Prop):Prop where
 h:A

theorem af{A B:Prop} (h:ae A) (k:B):A/\B:=⟨h.h,k⟩
theorem e9{b:Bool} {A B:Prop} (h1:b=true->A) (h2:b=false->B):dS b A B:=by cases b<;>simp_all[dS]
theorem aj{p:Prop} {d:Decidable p} {A B:Prop} (h1:p->A) (h2:¬p->B):dS (@decide p d) A B:=e9 (fun h=>h1 (by simpa using h)) (fun h=>h2 (by simpa using h))
theorem go7{a b:Int} {A B:Prop} (h1:a=b->A) (h2:a≠b->B):dS (a==b) A B:=e9 (fun h=>h1 (by simpa using h)) (fun h=>h2 (by simpa using h))
theorem go8{a b:Int} {A B:Prop} (h1:a≠b->A) (h2:a=b->B):dS (a !=b) A B:=e9 (fun h=>h1 (by simpa using h)) (fun h=>h2 (by simpa using h))
theorem dr{a b:g8} {A B:Prop} (h1:a=b->A) (h2:a≠b->B):dS (a==b) A B:=e9 (fun h=>h1 (by simpa using h)) (fun h=>h2 (by simpa using h))
theorem aI{b:Bool} {A B:Prop} (h:dS b B A):dS (!b) A B:=by cases b<;>exact h
theorem fD{b:Bool} {A:Prop} (h1:ae (b=true)) (h2:A):lN b A:=by
 obtain⟨h⟩:=h1;subst h;exact h2
theorem pG{α:Type} {l:List α} {n:Nat} {K:α->Prop} (h1:ae (n<l.length)) (h2:∀a,l[n]?=some a->K a):iz l n K:=
 ⟨l[n]'h1.h,am h1.h,h2 _ (am h1.h)⟩
theorem fH{s:g8} {n:Nat} {K:UInt8->Prop} (h1:ae (n<s.length)) (h2:(s.getD n 0).toNat<256->K (s.getD n 0)):iz s n K:=
 pG h1 fun a ha=>by rw[ac,ha] at h2;exact h2 (UInt8.toNat_lt _)
theorem cg{s:g8} {n:Nat} {K:UInt8->Prop} (h1:ae (n<s.length)) (h2:(s.getD n 0).toNat<256->K (s.getD n 0)):iz s (n:Int).toNat K:=fH h1 h2
theorem Jq{α γ:Type} {l:List α} {e:α->γ} {n:Nat} {K:γ->Prop} (h1:ae (n<l.length)) (h2:∀a,l[n]?=some a->K (e a)):iz (l.map e) n K:=by
 refine pG ⟨by simpa using h1.h⟩ fun a ha=>?_;simp only[List.getElem?_map,Option.map_eq_some_iff] at ha;obtain⟨b,hb,rfl⟩:=ha;exact h2 b hb
theorem uW(s:g8):bl s=s.map bv:=by induction s<;>simp_all[bl]
theorem goC{s:g8} {n:Nat} {K:V->Prop} (h1:ae (n<s.length)) (h2:(s.getD n 0).toNat<256->K (.int .u8 (s.getD n 0).toNat)):iz (bl s) n K:=by
 rw[uW];exact Jq h1 fun a ha=>by rw[ac,ha] at h2;exact h2 (UInt8.toNat_lt _)
theorem goB{s:g8} {n:Nat} {K:V->Prop} (h1:ae (n<s.length)) (h2:(s.getD n 0).toNat<256->K (.int .u8 (s.getD n 0).toNat)):iz (bl s) (n:Int).toNat K:=goC h1 h2
theorem ig{α γ:Type} [Inhabited α] {l:List α} {e:α->γ} {n:Nat} {K:γ->Prop} (h1:ae (n<l.length)) (h2:K (e (l.getD n default))):iz (l.map e) n K:=
 Jq h1 fun a ha=>by rw[ac,ha] at h2;exact h2
theorem j9{α γ:Type} [Inhabited α] {l:List α} {e:α->γ} {n:Nat} {K:γ->Prop} (h1:ae (n<l.length)) (h2:K (e (l.getD n default))):iz (l.map e) (n:Int).toNat K:=ig h1 h2
theorem dZ(s t:g8):bl (s++t) =bl s++bl t:=by simp[uW]
theorem Oa(s:g8) (n:Nat):(bl s).drop n=bl (s.drop n):=by simp[uW]
theorem mJ{s:g8} {Q:g8->Prop} (h:Q s):∃a,bl s=bl a/\Q a:=⟨s,rfl,h⟩
def byte(n:Int):UInt8:=.ofNat n.toNat
theorem eK{n:Int} (h:0<=n/\n<=255):((byte n).toNat:Int) =n:=by
 simp only[byte,UInt8.toNat_ofNat'];omega
theorem dd(b:UInt8):byte b.toNat=b:=by
 have:=eK (n:=b.toNat) (by have:=b.toNat_lt;omega);exact UInt8.toNat_inj.1 (by omega)
theorem goJ{n:Int} {Q:g8->Prop} (h1:ae (0<=n/\n<=255)) (h:Q [byte n]):∃a,[V.int .u8 n]=bl a/\Q a:=⟨_,by simp[bl,bv,eK h1.h],h⟩
theorem goK{n m:Int} {Q:g8->Prop} (h1:ae (0<=n/\n<=255)) (h2:ae (0<=m/\m<=255)) (h:Q [byte n,byte m]):∃a,[V.int .u8 n,V.int .u8 m]=bl a/\Q a:=⟨_,by simp[bl,bv,eK h1.h,eK h2.h],h⟩
theorem goL{n m k:Int} {Q:g8->Prop} (h1:ae (0<=n/\n<=255)) (h2:ae (0<=m/\m<=255)) (h3:ae (0<=k/\k<=255)) (h:Q [byte n,byte m,byte k]):∃a,[V.int .u8 n,V.int .u8 m,V.int .u8 k]=bl a/\Q a:=
 ⟨_,by simp[bl,bv,eK h1.h,eK h2.h,eK h3.h],h⟩
theorem goM{n m k l:Int} {Q:g8->Prop} (h1:ae (0<=n/\n<=255)) (h2:ae (0<=m/\m<=255)) (h3:ae (0<=k/\k<=255)) (h4:ae (0<=l/\l<=255)) (h:Q [byte n,byte m,byte k,byte l]):
   ∃a,[V.int .u8 n,V.int .u8 m,V.int .u8 k,V.int .u8 l]=bl a/\Q a:=
 ⟨_,by simp[bl,bv,eK h1.h,eK h2.h,eK h3.h,eK h4.h],h⟩
theorem n6(n:Int):IntKind.u8.wrap n=n%256:=rfl
theorem wu16(n:Int):IntKind.u16.wrap n=n%65536:=rfl
theorem wu32(n:Int):IntKind.u32.wrap n=n%4294967296:=rfl
theorem ld(n:Int):IntKind.u64.wrap n=n%18446744073709551616:=rfl
theorem bz(n:Int):IntKind.i64.wrap n=(n+9223372036854775808)%18446744073709551616-9223372036854775808:=by
 show(if true&&decide (n%18446744073709551616>=9223372036854775808) then n%18446744073709551616-18446744073709551616 else n%18446744073709551616) =_;simp only[Bool.true_and,decide_eq_true_eq];split<;>omega
theorem nU(n:Int):IntKind.i32.wrap n=(n+2147483648)%4294967296-2147483648:=by
 show(if true&&decide (n%4294967296>=2147483648) then n%4294967296-4294967296 else n%4294967296) =_;simp only[Bool.true_and,decide_eq_true_eq];split<;>omega
theorem wR:(∀n,IntKind.u8.wrap n=n%256)/\(∀n,IntKind.u16.wrap n=n%65536)/\(∀n,IntKind.u32.wrap n=n%4294967296)/\(∀n,IntKind.u64.wrap n=n%18446744073709551616)/\
   (∀n,IntKind.i32.wrap n=(n+2147483648)%4294967296-2147483648)/\(∀n,IntKind.i64.wrap n=(n+9223372036854775808)%18446744073709551616-9223372036854775808)/\
   (∀{a b:Int},0<=a->a.tdiv b=a/b)/\(∀{a b:Int},0<=a->a.tmod b=a%b):=
 ⟨n6,wu16,wu32,ld,nU,bz,fun h=>Int.tdiv_eq_ediv_of_nonneg h,fun h=>Int.tmod_eq_emod_of_nonneg h⟩
theorem du:(∀{α:Type} {a b:List α},(a++b).length=a.length+b.length)/\(∀{α:Type} {x:α} {a:List α},(x::a).length=a.length+1)/\(∀{α:Type},([]:List α).length=0)/\(∀s,(bl s).length=s.length)/\
   (∀{α:Type} {i:Nat} {a:List α},(a.take i).length=min i a.length)/\(∀{α:Type} {i:Nat} {a:List α},(a.drop i).length=a.length-i):=
 ⟨an,List.length_cons,List.length_nil,iA,eo,fo⟩
theorem sx{α:Type} {l:List α} {n:Nat} (d:α) (h:n<l.length):(l.take (n+1)).drop n=[l.getD n d]:=by
 rw[List.drop_take,show n+1-n=1 by omega];rw[ac,am h];rw[List.drop_eq_getElem_cons h];rfl
theorem oO{s:g8} {i:Nat} (h:i<s.length):s.take (i+1) =s.take i++[s.getD i 0]:=by
 rw[List.take_add_one,ac,am h];rfl
theorem v8{α:Type} {x y:α} {xs ys:List α} (h:x=y) (k:xs=ys):x::xs=y::ys:=by rw[h,k]
theorem yg(k:IntKind) (n b:Nat):lE k n b=((n/2^(min b k.bits):Nat):Int):=by
 unfold lE;rw[show((b:Int)).toNat=b from rfl,Int.fdiv_eq_ediv_of_nonneg _ (by exact_mod_cast ci _)];simp
theorem Sk(n:Nat) (h:n<256):pK .u8 n 15=((n%16:Nat):Int):=by
 show IntKind.u8.wrap ((BitVec.ofInt 8 (n:Int)&&&BitVec.ofInt 8 15).toNat:Int) =_;rw[n6,BitVec.ofInt_natCast,show BitVec.ofInt 8 15=BitVec.ofNat 8 15 from rfl,BitVec.toNat_and,BitVec.toNat_ofNat,BitVec.toNat_ofNat,Nat.mod_eq_of_lt h,
  show n&&&15%2^8=n%16 from Nat.and_two_pow_sub_one_eq_mod n 4]
 omega
theorem Mi{x:V}:∀{cs:List V} {n:Nat},n<cs.length->jr cs n [x]=some (cs.set n x)
 |[],n,h=>by simp at h
 |y::cs,0,_=>by simp[jr]
 |y::cs,n+1,h=>by simp only[jr];rw[Mi (cs:=cs) (by simpa using h)];simp
theorem goN{cs:List V} {n:Nat} {x:V} {K:List V->Prop} (h1:ae (n<cs.length)) (h2:K (cs.set n x)):hJ (jr cs n [x]) K:=by rw[Mi h1.h];exact h2
theorem MW:∀{cs:List V} {m:Nat},m<=cs.length->jv cs m=some (cs.take m)
 |cs,0,_=>by cases cs<;>simp[jv]
 |[],m+1,h=>by simp at h
 |c::cs,m+1,h=>by simp only[jv];rw[MW (cs:=cs) (by simpa using h)];simp
theorem goO{cs:List V} {a m:Nat} {K:List V->Prop} (h1:ae (a+m<=cs.length)) (h2:K ((cs.drop a).take m)):hJ (jv (kP cs a) m) K:=by
 rw[vb,MW (by simp;have:=h1.h;omega)];exact h2
theorem goP{l:List V} {K:List V->Prop} (h:K l):gV l K:=by rw[lY];exact h
theorem WD(s:g8):V.fX (bl s) =true:=by induction s<;>simp_all[bl,bv,V.fX,V.pure]
theorem VO(s:g8):ew (bl s) =true:=by induction s<;>simp_all[bl,bv,ew,V.one]
theorem go1{P:Nat×Int->Prop} {o:Option (Nat×Int)} {Q:Prop} (h:∀j q,o=some (j,q)->P (j,q)) (k:o=none->Q):(∀a,o=some a->P a)/\(o=none->Q):=⟨fun⟨j,q⟩ e=>h j q e,k⟩
theorem go2{bs bs':List Nat} {ck ck':Nat} {left:List Nat} {A:Prop} {B:Nat->Prop} (h0:bs'=bs/\ck'=ck) (h1:left=[]->A) (h2:∀j,j∈left->B j):
 (bs'=bs/\ck'=ck)/\(left=[]->A)/\(∀j,j∈left->B j):=⟨h0,h1,h2⟩
theorem XY(s:g8) (n:Nat):V.nM n (bl s) =true:=by induction s<;>simp_all[bl,bv,V.nM,V.gX]
theorem Ob(s:g8) (n:Nat) (b:UInt8):(bl s).set n (.int .u8 b.toNat) =bl (s.set n b):=by rw[uW,uW,List.map_set];rfl
def Wk(x y:V):Prop:=∀(st:St) (g:aw) (n:Nat) (v:Value),VR st g x n v->VR st g y n v
def aP(xs ys:List V):Prop:=∀(st:St) (g:aw) (n:Nat) (vs:List Value),aE st g xs n vs->aE st g ys n vs
theorem Wk.refl(x:V):Wk x x:=fun _ _ _ _ h=>h
theorem aP.nil:aP [] []:=fun _ _ _ _ h=>h
theorem aP.cons{x y:V} {xs ys:List V} (h:Wk x y) (hs:aP xs ys):aP (x::xs) (y::ys):=fun st g n vs k=>by
 simp only[aE] at k⊢;obtain⟨u,us,rfl,h1,h2⟩:=k;exact⟨u,us,rfl,h _ _ _ _ h1,hs _ _ _ _ h2⟩
theorem aP.refl(xs:List V):aP xs xs:=fun _ _ _ _ h=>h
theorem Wk.agg{xs ys:List V} (h:aP xs ys):Wk (.agg xs) (.agg ys):=fun st g n v k=>by
 simp only[VR] at k⊢;obtain⟨vs,rfl,k⟩:=k;exact⟨vs,rfl,h _ _ _ _ k⟩
theorem Wk.tuple{xs ys:List V} (h:aP xs ys):Wk (.tuple xs) (.tuple ys):=fun st g n v k=>by
 simp only[VR] at k⊢;obtain⟨vs,rfl,k⟩:=k;exact⟨vs,rfl,h _ _ _ _ k⟩
theorem Wk.nil{c d:Bool} {sz sz':Nat} (h:c=true\/d=false):Wk (.list c sz []) (.list d sz' []):=fun st g n v k=>by
 simp only[VR] at k⊢;obtain⟨base,cap,rfl,h1,h2,h3,_⟩:=k;refine⟨base,cap,rfl,h1,h2,fun hd=>?_,.inl trivial⟩;rcases h with h|h
 . exact h3 h
 . rw[h] at hd;cases hd
theorem Wk.list{c d:Bool} {sz:Nat} {l m:List V} (hcd:c=true\/d=false) (hl:m.length=l.length) (h:∀(i:Nat) x y,l[i]?=some x->m[i]?=some y->Wk x y):Wk (.list c sz l) (.list d sz m):=fun st g n v k=>by
 simp only[VR] at k⊢;obtain⟨base,cap,rfl,h1,h2,h3,h4⟩:=k;refine⟨base,cap,by rw[hl],by omega,by omega,fun hd=>?_,?_⟩
 . rcases hcd with hc|hc
   . rw[hl];exact h3 hc
   . rw[hc] at hd;cases hd
 . rcases h4 with h4|⟨b,o,h5,h6,h7⟩
   . left;subst h4;exact d5 (by simpa using hl)
   . right;refine⟨b,o,h5,h6,?_⟩;rw[gO] at h7⊢;intro i y hy;have hi:i<l.length:=by
      rcases eg i m.length with h'|h'
      . omega
      . simp[dl h'] at hy
     obtain⟨u,q1,q2⟩:=h7 i l[i] (am hi);exact⟨u,h i _ _ (am hi) hy _ _ _ _ q1,q2⟩

theorem eH.args{P:Program} {gl:Nat->Option (List V)} {f:FuncId} {xs ys:List V} {σ:List O} {x:V} {r:Option (List O)} (h:eH P gl f ys σ x r) (k:aP xs ys):eH P gl f xs σ x r:=
 ⟨h.1,fun E st g w vs W hg hv=>h.2 E st g w vs W hg (k _ _ _ _ hv)⟩
theorem eH.res{P:Program} {gl:Nat->Option (List V)} {f:FuncId} {xs:List V} {σ:List O} {x y:V} {r:Option (List O)} (h:eH P gl f xs σ x r) (k:Wk x y):eH P gl f xs σ y r:=
 ⟨h.1,fun E st g w vs W hg hv=>(h.2 E st g w vs W hg hv).mono fun _ _ ⟨v,st',g',h1,h2,h3,h4⟩=>⟨v,st',g',h1,h2,k _ _ _ _ h3,h4⟩⟩

theorem eH.nil{P:Program} {gl:Nat->Option (List V)} {f:FuncId} {xs:List V} {σ σ':List O} {x:V} (k z sz:Nat) (hx:xs[k]?=some (.list true z []))
   (h:eH P gl f (xs.set k (.buf σ.length)) (σ++[.buf (sz+1) 0 []]) x (some σ')):eH P gl f xs σ x (some σ'):=by
 refine⟨h.1,fun E st g w vs W hg hv=>?_⟩;obtain⟨v,hv1,hv2⟩:=jA hv hx;simp only[VR] at hv2;obtain⟨base,cap,rfl,_,_,hcap,_⟩:=hv2;obtain rfl:cap=0:=by simpa using hcap trivial
 have W2:=W.ghost (base:=base) (sz:=sz+1) (Nat.succ_pos _);have hlen:(σ++[O.buf (sz+1) 0 []]).length=σ.length+1:=by simp
 have hl:=eJ hv;refine(h.2 E st _ w vs W2 hg ?_).mono fun e w' ⟨v,st',g',h1,h2,h3,h4,h5,h6⟩=>⟨v,st',g',h1,h2,h3,h4,?_,fun i o ho hor=>?_⟩
 . rw[hlen,jB];refine⟨by simpa using hl,fun i c v hc hvi=>?_⟩;by_cases e:i=k
   . subst e;rw[List.getElem?_set_self (by rcases eg i xs.length with h'|h';exact h';simp[dl h'] at hx)] at hc;cases hc;rw[hv1] at hvi;cases hvi;simp only[VR];exact⟨Nat.lt_succ_self _,by rw[dP];simp⟩
   . rw[List.getElem?_set_ne (Ne.symm e)] at hc;exact sd ((jB.1 hv).2 i c v hc hvi)
 . simp only[Option.getD_some] at h5⊢;rw[hlen] at h5;omega
 . have hi:i<σ.length:=by
     rcases eg i σ.length with h'|h'
     . exact h'
     . simp[dl h'] at ho
   have:=h6 i o (by rw[d6 hi];exact ho) hor;rw[this,cI (Nat.ne_of_lt hi)]

def Sm:Type:=List V->List O->Option (Prop×V×Option (List O))
def xw(P:Program) (gl:Nat->Option (List V)) (f:FuncId) (s:Sm):Prop:=∀args sg pre x r,s args sg=some (pre,x,r)->pre->eH P gl f args sg x r
def sm0:Sm:=fun _ _=>none
theorem Yc{P:Program} {gl:Nat->Option (List V)} {f:FuncId}:xw P gl f sm0:=fun _ _ _ _ _ h=>by cases h
theorem cV{a b:g8} (h:a=b):V.str a=V.str b:=by rw[h]
theorem aC{k:IntKind} {a b:Int} (h:a=b):V.int k a=V.int k b:=by rw[h]
theorem jG{a b:Bool} (h:a=b):V.bool a=V.bool b:=by rw[h]
theorem bg{n m:Nat} {a b:List V} (h:a=b):O.buf n m a=O.buf n m b:=by rw[h]
theorem iR{a b:List V} (h:a=b):O.cells a=O.cells b:=by rw[h]
theorem kT{c:Bool} {n:Nat} {a b:List V} (h:a=b):V.list c n a=V.list c n b:=by rw[h]
theorem fQ{a b:List V} (h:a=b):V.agg a=V.agg b:=by rw[h]
theorem gC{a b:List V} (h:a=b):V.tuple a=V.tuple b:=by rw[h]
theorem bV{α:Type} {x y:α} {xs ys:List α} (h:x=y) (k:xs=ys):x::xs=y::ys:=by rw[h,k]
theorem eqS(s:g8) (n:Nat):V.nM n (bl s) =true:=XY s n
abbrev dL:Type:=List V->List O->Option (Prop×Prop×V×Option (List O)×V×Option (List O))
def xq(P:Program) (gl:Nat->Option (List V)) (f:FuncId) (s:dL):Prop:=∀args sg pre c u r x r2,s args sg=some (pre,c,u,r,x,r2)->pre->
 (c->∃v,me u=some v/\sa P gl f args sg v r)/\(¬c->eH P gl f args sg x r2)
def psm0:dL:=fun _ _=>none
theorem Wz{P:Program} {gl:Nat->Option (List V)} {f:FuncId}:xq P gl f psm0:=fun _ _ _ _ _ _ _ _ h=>by cases h
theorem cK{p c A B:Prop} (h:ae p) (h1:c->A) (h2:¬c->B):((p/\c)\/(p/\¬c))/\((p/\c)->A)/\((p/\¬c)->B):=by
 refine⟨?_,fun q=>h1 q.2,fun q=>h2 q.2⟩;by_cases hc:c
 . exact .inl ⟨h.h,hc⟩
 . exact .inr ⟨h.h,hc⟩
class ql (p:Prop):Prop where
 y:True
instance {a b c d}:ql (aM a b c d):=⟨trivial⟩
instance {a b c d e}:ql (qk a b c d e):=⟨trivial⟩
instance {a b c d e f}:ql (ab a b c d e f):=⟨trivial⟩
instance {a b c}:ql (bI a b c):=⟨trivial⟩
instance:ql False:=⟨trivial⟩
instance {α} {p:α->Prop}:ql (∃x,p x):=⟨trivial⟩
theorem stay{p:Prop} [ql p] (h:p):p:=h
theorem ah{a b:Prop} (h:a) (k:b):a/\b:=⟨h,k⟩
end Go.VG
namespace Go.VG
open Go
section
variable {H:Type} {ti:TypeId->TI} {f:Nat} {t:TypeId} {d:DataW H} {xs:List V}
theorem Ox{k:IntKind} (hk:(ti t).k=.int k) (h:cr ti f t d=some xs):∃n,xs=[.int k n]:=by
 cases f with
 |zero=>simp[cr] at h
 |succ f=>
   unfold cr at h;rw[hk] at h;split at h<;>simp_all;exact⟨_,h.symm⟩
theorem Oy(hk:(ti t).k=.string) (h:cr ti f t d=some xs):∃s,xs=[.str s]/\d=.lit (.string s):=by
 cases f with
 |zero=>simp[cr] at h
 |succ f=>
   unfold cr at h;rw[hk] at h;split at h<;>simp_all
theorem GX{t:TypeId} {ts:List TypeId} {ds:List (DataW H)} {xs:List V} (h:n8 ti (t::ts) ds xs):∃d x ds' xs',ds=d::ds'/\xs=x::xs'/\IsD ti t d x/\n8 ti ts ds' xs':=by
 match ds,xs,h with
 |d::ds,x::xs,h=>exact⟨d,x,ds,xs,rfl,rfl,h.1,h.2⟩
 |[],[],h=>exact h.elim
 |[],_::_,h=>exact h.elim
 |_::_,[],h=>exact h.elim
theorem NW{ds:List (DataW H)} {xs:List V} (h:n8 ti [] ds xs):ds=[]/\xs=[]:=by
 match ds,xs,h with
 |[],[],_=>exact⟨rfl,rfl⟩
 |[],_::_,h=>exact h.elim
 |_::_,[],h=>exact h.elim
 |_::_,_::_,h=>exact h.elim
theorem Sw(hk:(ti t).k=.string) {x:V} (h:IsD ti t d x):∃s,x=.str s/\d=.lit (.string s):=by
 obtain⟨f,h⟩:=h;simp only[Option.bind_eq_some_iff] at h;obtain⟨cs,h1,h2⟩:=h;obtain⟨s,rfl,rfl⟩:=Oy hk h1;rw[hk] at h2;have h2:some (V.str s) =some x:=h2;cases h2;exact⟨s,rfl,rfl⟩
end
end Go.VG
namespace Go.VG
open Go
theorem KQ{P:Program} {fn:Func} {tmps:Array Value} {R:Ending->World->Prop} {u:FrameMode} (hu:u≠.run) {rest:List Deferred}:∀(Ds:List Nat) (w:World),Ds.Nodup->(∀D∈Ds,w.heap[D]?=some (.deferred (some [])))->
   LeavesInM Fence.wide 0 P fn tmps R rest u (shut w Ds)->LeavesInM Fence.wide 0 P fn tmps R (Ds.map (fun D=>{target:=.collected D,args:=#[]})++rest) u w
 |[],w,_,_,h=>h
 |D::Ds,w,hn,hD,h=>by
   refine⟨hu,.inl ⟨D,w.putObj D (.deferred none),rfl,run_takeDeferred (hD D List.mem_cons_self),?_⟩⟩;have hn:=List.nodup_cons.1 hn;refine KQ hu Ds _ hn.2 (fun D' h'=>?_) h;rw[World.putObj_heap_other (fun e=>hn.1 (by rw[<-e];exact h'))];exact hD D' (d8 _ h')
theorem AG{C:Ctx} {E:Env} {n:Nat} {st0:St} {g0:aw} {s:AS} {a:Act} {w0:World} (hgo:et C E n st0 g0 s a w0):
   ∃st' g' w',Rel E st' g' s {a with defers:=E.ds} w'/\aV C.gl st'/\my n st0 g0 st' g' s/\
    ∀(fn:Func) (tmps:Array Value) (R:Ending->World->Prop) (u:FrameMode),u≠.run->LeavesInM Fence.wide 0 C.P fn tmps R E.ds u w'->LeavesInM Fence.wide 0 C.P fn tmps R a.defers u w0:=by
 obtain⟨E',hE',st',g',R0',hg',B⟩:=hgo;obtain⟨Ds,hDs,hnd,hDall⟩:=hE'.ds;have hdf:a.defers=Ds.map (fun D=>{target:=.collected D,args:=#[]})++E.ds:=by rw[R0'.df,hDs]
 have hDh:∀D∈Ds,w0.heap[D]?=some (.deferred (some [])):=fun D hD=>(R0'.wr.fr D (hDall D hD).2.1).trans (hDall D hD).2.2;obtain⟨w',hw'⟩:∃w',w'=shut w0 Ds:=⟨_,rfl⟩
 obtain⟨q1,q2,q3,q4⟩:=zx Ds w0;rw[<-hw'] at q1 q2 q3 q4;have hheap:∀b,b∉Ds->w'.heap[b]?=w0.heap[b]?:=fun b hb=>by rw[hw'];exact zw Ds w0 b hb
 have RW:aO E st' g' s.sg w':=by
  have R1:=hE'.whole R0'.wr;refine R1.env (q2.trans R1.os) (q3.trans R1.tape) (q4.trans R1.output) (by rw[q1];exact R1.size) R1.gnew R1.sub R1.stG (fun i b hi hb=>(R1.cF hi hb).2) (fun b hb=>hheap b fun hD=>?_) (by rw[q1];exact co _) (fun b hb=>?_)
  . rcases hb with ⟨i,hi,hb⟩|⟨o,v,hv⟩
    . exact(hDall b hD).2.1 (R0'.wr.cF hi hb).2
    . obtain⟨c,el,fr,hc⟩:=R0'.wr.Ar hv;rw[hDh b hD] at hc;cases hc
  . rw[hheap b fun hD=>hb (hDall b hD).1];exact R1.fr b hb
 refine⟨st',g',w',⟨R0'.nt,rfl,R0'.tm,RW⟩,hg',B,fun fn tmps R u hu h=>?_⟩;rw[hdf];refine KQ hu Ds w0 hnd hDh ?_;rw[<-hw'];exact h
section
variable {C:Ctx} {E:Env} {st:St} {g:aw} {s:AS} {a:Act} {w:World}
theorem NA(R:Rel E st g s a w) (hg:aV C.gl st) (G:cn C) {id:Nat} {mk df:Oper} {gf:FuncId} {cs:Array Operand} {t9:Tmp} {Q:Exit->Act->World->Prop}
   (hmk:mk.op=.makeFunc (.func gf) #[] cs) (hmd:mk.dst=some t9) (hmg:mk.guard=none) (hdf:df.op=.defer {callee:=.value (.tmp t9),args:=#[],argTypes:=#[]}) (hdd:df.dst=none) (hdg:df.guard=none) (hds:dU s (some t9) =true)
   (hQ:∀(a':Act) (w':World) (st':St) (g':aw) (ca:Array Value),aE st' g' (s.aG C cs.toList) s.sg.length ca.toList->cm st g s st' g' (s.app (some t9) (pe (.func (.func gf) [] (s.aG C cs.toList))))->aV C.gl st'->
    Rel {E with ds:={target:=.fn (.func gf) ca,args:=#[]}::E.ds} st' g' (s.app (some t9) (pe (.func (.func gf) [] (s.aG C cs.toList)))) a' w'->Q .normal a' w'):(Code.region id #[mk,df] false).wp C.P Q a w:=by
 refine wp_region ?_;show wpOps C.P #[mk,df] Q [0,1] a w;rw[wpOps_cons];refine G2 (s:=s) (o:=mk) (e:=pe (.func (.func gf) [] (s.aG C cs.toList))) G R hg (by simp) (by rw[hmd];exact hds) ?_ fun a1 w1 hgo=>?_
 . unfold stepT;rw[hmg];simp only;unfold cJ;rw[hmk];simp only[tp];rfl
 rw[hmd] at hgo;obtain⟨st1,g1,R1,hg1,A⟩:=hgo;have h9:=R1.tm t9;have hlk:lk (s.app (some t9) (pe (.func (.func gf) [] (s.aG C cs.toList)))).tm t9=.func (.func gf) [] (s.aG C cs.toList):=by
  rw[jJ,if_pos rfl];rfl
 rw[hlk] at h9;simp only[VR] at h9;obtain⟨fa,ca,h1,h2,h3⟩:=h9;have hfa:fa=#[]:=by
  have:=eJ h2;simp at this;exact Array.eq_empty_of_size_eq_zero this.symm
 subst hfa;rw[wpOps_cons];unfold wpOp;show(if Region.wanted df (yielded #[mk,df] a1.tmps) then df.wp C.P a1 w1 (wpOps C.P #[mk,df] Q []) Q\/(df.asks C.P a1 w1/\LetsOut Q) else _);rw[if_pos (by simp[Region.wanted,hdg])];left;unfold Oper.wp;have hx:(execOp a1.eval df).run C.P w1=.ok (.defer {target:=.fn (.func gf) ca,args:=#[]}) w1:=by
  have e1:a1.eval (.tmp t9) =.func (.func gf) #[] ca:=h1;simp only[execOp,hdf,resolve,Sem.run_bind,e1,Deferred.ofValue,Sem.run_pure,Result.andThen_ok];simp
 rw[hx,Oper.upon_defer,hdd];exact hQ _ _ st1 g1 ca (by have:=A.len;exact h3) A hg1 ⟨R1.nt,by show _::a1.defers=_;rw[R1.df],R1.tm,R1.wr.ds _⟩
end
def kh:Option Value->FrameMode
 |none=>.returning
 |some v=>.panicking [{v:=v,recovered:=false}]
def qj(P:Program) (gl:Nat->Option (List V)) (gf:FuncId) (args:List V) (σ:List O) (m:Option Value) (σ':List O):Prop:=
 mz P gf/\∀(E:Env) (st:St) (g:aw) (w:World) (vs:List Value),aO E st g σ w->aV gl st->aE st g args σ.length vs->
  CallsDIn Fence.wide 0 P gf vs.toArray (kh m) w fun e u' w'=>∃v st' g',e=.returned v/\settle u'=.returning/\aO E st' g' σ' w'/\(∀b o v,st b o=some v->st' b o=some v)/\(∀i,i<σ.length->g' i=g i)/\σ.length<=σ'.length
def uY:List V->List Nat->Bool
 |[],_=>true
 |.ptr i _::vs,kl=>!aQ i kl&&uY vs kl
 |_,_=>false
theorem Bl:∀{vs:List V} {kl:List Nat},uY vs kl=true->∀i,V.ij i vs=true->aQ i kl=false
 |[],_,_,i,h=>by simp[V.ij] at h
 |v::vs,kl,hc,i,h=>by
   cases v with
   |ptr j o=>
     simp only[uY,aA,Bool.not_eq_true'] at hc;simp only[V.ij,V.has,Bool.or_eq_true] at h;rcases h with h|h
     . have:j=i:=by
         first
          |exact cb h
          |exact(cb h).symm
          |simpa using h
       rw[<-this];exact hc.1
     . exact Bl hc.2 i h
   |_=>simp[uY] at hc
def nK(P:AS->Prop) (ex:Ex) (s:AS):Prop:=match ex with
 |.norm=>P s
 |_=>False
inductive ia (C:Ctx) (rs:List ResultVar) (σ:List O) (x:V) (r:Option (List O)) (gf:FuncId) (cap:List V) (m:Option Value) (s:AS):Prop where
 |mk (σ':List O) (hc:qj C.P C.gl gf cap s.sg m σ') (hk:uY cap s.kl=true) (h:ab C.ti rs σ x r ⟨s.nt,s.tm,σ',s.kl⟩)
def zl(C:Ctx) (rs:List ResultVar) (σ:List O) (x:V) (r:Option (List O)) (gf:FuncId) (cap:List V) (ex:Ex) (s:AS):Prop:=match ex with
 |.norm=>ia C rs σ x r gf cap none s
 |.ret=>ia C rs σ x r gf cap none s
 |.pan u=>ia C rs σ x r gf cap (some u) s
 |_=>False
theorem Om{C:Ctx} (G:cn C) {f gf:FuncId} {fn:Func} {c0 c1 M:Code} {id:Nat} {mk df:Oper} {cs:Array Operand} {t9:Tmp} {args:List V} {σ:List O} {x:V} {r:Option (List O)} (hf:C.P.funcs[f]?=some fn)
   (hb:fn.body=some (.seq c0 (.seq c1 (.seq (.region id #[mk,df] false) M)))) (hn:(fn.name== "runtime.NumGoroutine") =false)
   (hmk:mk.op=.makeFunc (.func gf) #[] cs) (hmd:mk.dst=some t9) (hmg:mk.guard=none) (hdf:df.op=.defer {callee:=.value (.tmp t9),args:=#[],argTypes:=#[]}) (hdd:df.dst=none) (hdg:df.guard=none)
   (hnt:Nat.ble args.length fn.ntmps=true) (h:V.eP args->i9 σ->vc C σ.length c0 ⟨fn.ntmps,gT args 0,σ,[]⟩ (nK fun s1=>vc C σ.length c1 s1 (nK fun s2=>dU s2 (some t9) =true/\s2.kl=[]/\
    vc C s2.sg.length M (s2.app (some t9) (pe (.func (.func gf) [] (s2.aG C cs.toList)))) (zl C fn.results.toList σ x r gf (s2.aG C cs.toList)))))
   (hy:C.yd=fun _ _ _ _=>none) {E:Env} (hds:E.ds=[]) (st:St) (g:aw) (w:World) (vs:List Value) (W:aO E st g σ w) (hg:aV C.gl st) (hv:aE st g args σ.length vs):
   Calls C.P f vs.toArray w fun e w'=>∃v st' g',e=.returned v/\aO E st' g' (r.getD σ) w'/\VR st' g' x (r.getD σ).length v/\(∀b o v,st b o=some v->st' b o=some v)/\
    σ.length<=(r.getD σ).length/\∀i o,σ[i]?=some o->(r=none\/eZ (r.getD []) =true\/o.gF=false)->g' i=g i:=by
 have hlen:=eJ hv;have hnt':=d9 hnt;have hvc:=h (p7 hv) W.wf;have R:Rel E st g ⟨fn.ntmps,gT args 0,σ,[]⟩ {tmps:=vs.toArray++Array.replicate (fn.ntmps-vs.toArray.size) undef,defers:=[]} w:=by
  refine⟨by simp;omega,hds.symm,fun t=>?_,W⟩;show VR st g (lk (gT args 0) t) σ.length _;rw[vl,if_pos (ci _),Nat.sub_zero];rcases eg t args.length with h1|h1
  . have h2:args[t]?=some args[t]:=am h1;obtain⟨v,h3,h4⟩:=jA hv h2;have h5:(vs.toArray++Array.replicate (fn.ntmps-vs.toArray.size) undef).getD t undef=v:=by
     rw[Array.getD_eq_getD_getElem?,Array.getElem?_append_left (by simp;omega)];simp[h3]
    rw[ac,h2];show VR st g args[t] σ.length ((vs.toArray++Array.replicate (fn.ntmps-vs.toArray.size) undef).getD t undef);rw[h5];exact h4
  . rw[ac,dl h1];simp[VR]
 have hY:∀(E':Env) (n:Nat) (st:St) (g:aw),ib C E' n st g:=fun _ _ _ _=>ib.none hy;refine callsIn_wide.1 (callsIn_of_wp_marks (F:=Fence.wide) (n:=0) hf hb trivial (wpIn_wide.2 (wp_seq (oT G (fun _ _=>hY _ _ _ _) c0 _ _ w _ _ ⟨E,j5.refl W.gnew,st,g,R,hg,⟨fun _ _ _ h=>h,fun _ _ _=>rfl,co _⟩⟩ hvc fun ex s1 a1 w1 hk hgo1=>?_))));cases ex with
 |ret=>exact hk.elim
 |exit id=>exact hk.elim
 |goto l=>exact hk.elim
 |pan v=>exact hk.elim
 |norm=>
 show Code.wp C.P (.seq c1 (.seq (.region id #[mk,df] false) M)) _ a1 w1;refine wp_seq (oT G (fun _ _=>hY _ _ _ _) c1 _ _ w1 _ _ hgo1 hk fun ex s2 a2 w2 hk2 hgo2=>?_);cases ex with
 |ret=>exact hk2.elim
 |exit id=>exact hk2.elim
 |goto l=>exact hk2.elim
 |pan v=>exact hk2.elim
 |norm=>
 show Code.wp C.P (.seq (.region id #[mk,df] false) M) _ a2 w2;obtain⟨hds2,hkl2,hM⟩:=hk2;obtain⟨E2,hE2,st2,g2,R2,hg2,B2⟩:=hgo2;refine wp_seq (NA R2 hg2 G hmk hmd hmg hdf hdd hdg hds2 fun a3 w3 st3 g3 ca hca A3 hg3 R3=>?_);show Code.wp C.P M _ a3 w3;refine oT G (fun _ _=>hY _ _ _ _) M _ _ w3 _ _ ⟨_,j5.refl R3.wr.gnew,st3,g3,R3,hg3,⟨fun _ _ _ h=>h,fun _ _ _=>rfl,co _⟩⟩ hM fun ex s4 a4 w4 hk4 hgo4=>?_;have key:∀m,ia C fn.results.toList σ x r gf (s2.aG C cs.toList) m s4->LeavesInM Fence.wide 0 C.P fn a4.tmps (fun e w'=>∃v st' g',e=.returned v/\aO E st' g' (r.getD σ) w'/\VR st' g' x (r.getD σ).length v/\(∀b o v,st b o=some v->st' b o=some v)/\
    σ.length<=(r.getD σ).length/\∀i o,σ[i]?=some o->(r=none\/eZ (r.getD []) =true\/o.gF=false)->g' i=g i) a4.defers (kh m) w4:=by
  rintro m ⟨σ',hclo,hcap,ps,hend⟩;have hm:kh m≠.run:=by cases m<;>simp[kh]
  obtain⟨st5,g5,w5,R5,hg5,B5,hL⟩:=AG hgo4;refine hL fn a4.tmps _ _ hm ⟨hm,.inr ⟨fun q=>(by cases q),.func gf,ca,gf,ca,rfl,?_,fun _ _=>trivial,?_⟩⟩
  . show(invoke (.fn (.func gf) ca) #[]).run C.P w5=_;simp only[invoke];rw[show(#[]++ca:Array Value) =ca by simp];exact zp hclo.1 ca w5
  have hn3:(s2.app (some t9) (pe (.func (.func gf) [] (s2.aG C cs.toList)))).sg.length=s2.sg.length:=by
   rw[j8 (by rfl)]
  have hca5:aE st5 g5 (s2.aG C cs.toList) s4.sg.length ca.toList:=kE B5.mono (fun i hi hlt=>⟨by have:=B5.len;omega,B5.aX i hlt (Bl hcap i hi)⟩) hca;refine CallsDIn.mono (hclo.2 _ st5 g5 w5 ca.toList R5.wr hg5 hca5) ?_;rintro e u' w6 ⟨v,st6,g6,rfl,hset,W6,hm6,hk6,hl6⟩;show LeavesInM Fence.wide 0 C.P fn a4.tmps _ E2.ds (settle u') w6;rw[hset];have hgo6:et C E σ.length st g ⟨s4.nt,s4.tm,σ',s4.kl⟩ {a4 with defers:=E2.ds} w6:=by
   refine⟨E2,hE2,st6,g6,⟨R5.nt,rfl,fun t=>?_,W6.rQ⟩,hg5.mono hm6,⟨fun b o v q=>hm6 _ _ _ (B5.mono _ _ _ (A3.mono _ _ _ (B2.mono _ _ _ q))),fun i hi hkl=>?_,?_⟩⟩
   . exact gw hm6 (fun i _ hlt=>⟨Nat.lt_of_lt_of_le hlt hl6,hk6 i hlt⟩) (R5.tm t)
   . have b2:σ.length<=s2.sg.length:=B2.len;have b5:s2.sg.length<=s4.sg.length:=by have:=B5.len;rw[hn3] at this;exact this
     have hi2:i<σ.length:=hi;rw[hk6 i (by omega),B5.aX i (by rw[hn3];omega) hkl,A3.aX i (by omega) (by show aQ i (gP [] s2.kl) =false;rw[hkl2];rfl),B2.aX i hi (by rw[hkl2];rfl)]
   . have b2:σ.length<=s2.sg.length:=B2.len;have b5:s2.sg.length<=s4.sg.length:=by have:=B5.len;rw[hn3] at this;exact this
     show σ.length<=σ'.length;omega
  replace hgo6:=hgo6.dA ps;generalize AS.dA ⟨s4.nt,s4.tm,σ',s4.kl⟩ ps=s7 at hgo6 hend;obtain⟨st7,g7,w7,R7,hg7,B7,hL7⟩:=AG hgo6;refine hL7 fn a4.tmps _ .returning (by simp) ?_;rw[hds];have hends:∀(x':V) (σ':List O),oK C.ti s7 fn.results.toList=some x'->x'.gX σ'.length=true->ga s7.sg σ' σ'.length->∃v,(results fn a4.tmps).run C.P w7=.ok v w7/\aO E st7 g7 σ' w7/\VR st7 g7 x' σ'.length v:=fun x' σ' h1 h2 h3=>by
   obtain⟨v,h4,h5⟩:=zm G.toGood R7 h1;exact⟨v,h4,R7.wr.rM h3,gw (fun _ _ _ h=>h) (fun i hi _=>⟨qX h2 hi,rfl⟩) h5⟩
  have hkeep:∀aX,mP σ aX s7.kl=true->∀i o,σ[i]?=some o->(aX=true\/o.gF=false)->g7 i=g i:=fun aX hkl i o ho hor=>by
   refine B7.aX i ?_ (vY hkl i o ho hor);exact(gB.1 ho).1
  unfold xo at hend;cases hres:oK C.ti s7 fn.results.toList with
  |none=>rw[hres] at hend;exact hend.elim
  |some y=>
  rw[hres] at hend;simp only[hJ] at hend;cases r with
  |none=>
    obtain⟨h1,h2,h3,h4⟩:=hend;subst h1;obtain⟨v,q1,q2,q3⟩:=hends y σ hres h2 h3;exact⟨v,q1,v,st7,g7,rfl,q2,q3,B7.mono,co _,fun i o ho _=>hkeep true h4 i o ho (.inl rfl)⟩
  |some σ2=>
    obtain⟨h1,h2,h3,h4,h5⟩:=hend;subst h1;obtain⟨v,q1,q2,q3⟩:=hends y σ2 hres h2 h3;exact⟨v,q1,v,st7,g7,rfl,q2,q3,B7.mono,d9 h5,fun i o ho hor=>hkeep (eZ σ2) h4 i o ho (hor.resolve_left (by simp))⟩
 cases ex with
 |norm=>exact key none hk4
 |ret=>exact key none hk4
 |exit id=>exact hk4.elim
 |goto l=>exact hk4.elim
 |pan u=>exact key (some u) hk4
theorem S0{C:Ctx} (G:cn C) {f gf:FuncId} {fn:Func} {c0 c1 M:Code} {id:Nat} {mk df:Oper} {cs:Array Operand} {t9:Tmp} {args:List V} {σ:List O} {x:V} {r:Option (List O)} (hf:C.P.funcs[f]?=some fn)
   (hb:fn.body=some (.seq c0 (.seq c1 (.seq (.region id #[mk,df] false) M)))) (hn:(fn.name== "runtime.NumGoroutine") =false)
   (hmk:mk.op=.makeFunc (.func gf) #[] cs) (hmd:mk.dst=some t9) (hmg:mk.guard=none) (hdf:df.op=.defer {callee:=.value (.tmp t9),args:=#[],argTypes:=#[]}) (hdd:df.dst=none) (hdg:df.guard=none)
   (hnt:Nat.ble args.length fn.ntmps=true) (h:V.eP args->i9 σ->vc C σ.length c0 ⟨fn.ntmps,gT args 0,σ,[]⟩ (nK fun s1=>vc C σ.length c1 s1 (nK fun s2=>dU s2 (some t9) =true/\s2.kl=[]/\
    vc C s2.sg.length M (s2.app (some t9) (pe (.func (.func gf) [] (s2.aG C cs.toList)))) (zl C fn.results.toList σ x r gf (s2.aG C cs.toList)))))
   (hy:C.yd=fun _ _ _ _=>none:=by rfl):eH C.P C.gl f args σ x r:=by
 refine⟨⟨fn,hf,hn,by rw[hb];rfl⟩,fun E st g w vs W hg hv=>?_⟩;refine Calls.mono (Om G hf hb hn hmk hmd hmg hdf hdd hdg hnt h hy (E:={E with ds:=[]}) rfl st g w vs (W.ds []) hg hv) ?_;rintro e w' ⟨v,st',g',h1,h2,h3,h4,h5,h6⟩;exact⟨v,st',g',h1,h2.rQ,h3,h4,h5,h6⟩
theorem Oo{C:Ctx} (G:cn C) {f gf:FuncId} {fn:Func} {c1 M:Code} {id:Nat} {mk df:Oper} {cs:Array Operand} {t9:Tmp} {args:List V} {σ:List O} {x:V} {r:Option (List O)} (hf:C.P.funcs[f]?=some fn)
   (hb:fn.body=some (.seq c1 (.seq (.region id #[mk,df] false) M))) (hn:(fn.name== "runtime.NumGoroutine") =false)
   (hmk:mk.op=.makeFunc (.func gf) #[] cs) (hmd:mk.dst=some t9) (hmg:mk.guard=none) (hdf:df.op=.defer {callee:=.value (.tmp t9),args:=#[],argTypes:=#[]}) (hdd:df.dst=none) (hdg:df.guard=none)
   (hnt:Nat.ble args.length fn.ntmps=true) (h:V.eP args->i9 σ->vc C σ.length c1 ⟨fn.ntmps,gT args 0,σ,[]⟩ (nK fun s2=>dU s2 (some t9) =true/\s2.kl=[]/\
    vc C s2.sg.length M (s2.app (some t9) (pe (.func (.func gf) [] (s2.aG C cs.toList)))) (zl C fn.results.toList σ x r gf (s2.aG C cs.toList))))
   (hy:C.yd=fun _ _ _ _=>none) {E:Env} (hds:E.ds=[]) (st:St) (g:aw) (w:World) (vs:List Value) (W:aO E st g σ w) (hg:aV C.gl st) (hv:aE st g args σ.length vs):
   Calls C.P f vs.toArray w fun e w'=>∃v st' g',e=.returned v/\aO E st' g' (r.getD σ) w'/\VR st' g' x (r.getD σ).length v/\(∀b o v,st b o=some v->st' b o=some v)/\
    σ.length<=(r.getD σ).length/\∀i o,σ[i]?=some o->(r=none\/eZ (r.getD []) =true\/o.gF=false)->g' i=g i:=by
 have hlen:=eJ hv;have hnt':=d9 hnt;have hvc:=h (p7 hv) W.wf;have R:Rel E st g ⟨fn.ntmps,gT args 0,σ,[]⟩ {tmps:=vs.toArray++Array.replicate (fn.ntmps-vs.toArray.size) undef,defers:=[]} w:=by
  refine⟨by simp;omega,hds.symm,fun t=>?_,W⟩;show VR st g (lk (gT args 0) t) σ.length _;rw[vl,if_pos (ci _),Nat.sub_zero];rcases eg t args.length with h1|h1
  . have h2:args[t]?=some args[t]:=am h1;obtain⟨v,h3,h4⟩:=jA hv h2;have h5:(vs.toArray++Array.replicate (fn.ntmps-vs.toArray.size) undef).getD t undef=v:=by
     rw[Array.getD_eq_getD_getElem?,Array.getElem?_append_left (by simp;omega)];simp[h3]
    rw[ac,h2];show VR st g args[t] σ.length ((vs.toArray++Array.replicate (fn.ntmps-vs.toArray.size) undef).getD t undef);rw[h5];exact h4
  . rw[ac,dl h1];simp[VR]
 have hY:∀(E':Env) (n:Nat) (st:St) (g:aw),ib C E' n st g:=fun _ _ _ _=>ib.none hy;refine callsIn_wide.1 (callsIn_of_wp_marks (F:=Fence.wide) (n:=0) hf hb trivial (wpIn_wide.2 (wp_seq (oT G (fun _ _=>hY _ _ _ _) c1 _ _ w _ _ ⟨E,j5.refl W.gnew,st,g,R,hg,⟨fun _ _ _ h=>h,fun _ _ _=>rfl,co _⟩⟩ hvc fun ex s2 a2 w2 hk2 hgo2=>?_))));cases ex with
 |ret=>exact hk2.elim
 |exit id=>exact hk2.elim
 |goto l=>exact hk2.elim
 |pan v=>exact hk2.elim
 |norm=>
 show Code.wp C.P (.seq (.region id #[mk,df] false) M) _ a2 w2;obtain⟨hds2,hkl2,hM⟩:=hk2;obtain⟨E2,hE2,st2,g2,R2,hg2,B2⟩:=hgo2;refine wp_seq (NA R2 hg2 G hmk hmd hmg hdf hdd hdg hds2 fun a3 w3 st3 g3 ca hca A3 hg3 R3=>?_);show Code.wp C.P M _ a3 w3;refine oT G (fun _ _=>hY _ _ _ _) M _ _ w3 _ _ ⟨_,j5.refl R3.wr.gnew,st3,g3,R3,hg3,⟨fun _ _ _ h=>h,fun _ _ _=>rfl,co _⟩⟩ hM fun ex s4 a4 w4 hk4 hgo4=>?_;have key:∀m,ia C fn.results.toList σ x r gf (s2.aG C cs.toList) m s4->LeavesInM Fence.wide 0 C.P fn a4.tmps (fun e w'=>∃v st' g',e=.returned v/\aO E st' g' (r.getD σ) w'/\VR st' g' x (r.getD σ).length v/\(∀b o v,st b o=some v->st' b o=some v)/\
    σ.length<=(r.getD σ).length/\∀i o,σ[i]?=some o->(r=none\/eZ (r.getD []) =true\/o.gF=false)->g' i=g i) a4.defers (kh m) w4:=by
  rintro m ⟨σ',hclo,hcap,ps,hend⟩;have hm:kh m≠.run:=by cases m<;>simp[kh]
  obtain⟨st5,g5,w5,R5,hg5,B5,hL⟩:=AG hgo4;refine hL fn a4.tmps _ _ hm ⟨hm,.inr ⟨fun q=>(by cases q),.func gf,ca,gf,ca,rfl,?_,fun _ _=>trivial,?_⟩⟩
  . show(invoke (.fn (.func gf) ca) #[]).run C.P w5=_;simp only[invoke];rw[show(#[]++ca:Array Value) =ca by simp];exact zp hclo.1 ca w5
  have hn3:(s2.app (some t9) (pe (.func (.func gf) [] (s2.aG C cs.toList)))).sg.length=s2.sg.length:=by
   rw[j8 (by rfl)]
  have hca5:aE st5 g5 (s2.aG C cs.toList) s4.sg.length ca.toList:=kE B5.mono (fun i hi hlt=>⟨by have:=B5.len;omega,B5.aX i hlt (Bl hcap i hi)⟩) hca;refine CallsDIn.mono (hclo.2 _ st5 g5 w5 ca.toList R5.wr hg5 hca5) ?_;rintro e u' w6 ⟨v,st6,g6,rfl,hset,W6,hm6,hk6,hl6⟩;show LeavesInM Fence.wide 0 C.P fn a4.tmps _ E2.ds (settle u') w6;rw[hset];have hgo6:et C E σ.length st g ⟨s4.nt,s4.tm,σ',s4.kl⟩ {a4 with defers:=E2.ds} w6:=by
   refine⟨E2,hE2,st6,g6,⟨R5.nt,rfl,fun t=>?_,W6.rQ⟩,hg5.mono hm6,⟨fun b o v q=>hm6 _ _ _ (B5.mono _ _ _ (A3.mono _ _ _ (B2.mono _ _ _ q))),fun i hi hkl=>?_,?_⟩⟩
   . exact gw hm6 (fun i _ hlt=>⟨Nat.lt_of_lt_of_le hlt hl6,hk6 i hlt⟩) (R5.tm t)
   . have b2:σ.length<=s2.sg.length:=B2.len;have b5:s2.sg.length<=s4.sg.length:=by have:=B5.len;rw[hn3] at this;exact this
     have hi2:i<σ.length:=hi;rw[hk6 i (by omega),B5.aX i (by rw[hn3];omega) hkl,A3.aX i (by omega) (by show aQ i (gP [] s2.kl) =false;rw[hkl2];rfl),B2.aX i hi (by rw[hkl2];rfl)]
   . have b2:σ.length<=s2.sg.length:=B2.len;have b5:s2.sg.length<=s4.sg.length:=by have:=B5.len;rw[hn3] at this;exact this
     show σ.length<=σ'.length;omega
  replace hgo6:=hgo6.dA ps;generalize AS.dA ⟨s4.nt,s4.tm,σ',s4.kl⟩ ps=s7 at hgo6 hend;obtain⟨st7,g7,w7,R7,hg7,B7,hL7⟩:=AG hgo6;refine hL7 fn a4.tmps _ .returning (by simp) ?_;rw[hds];have hends:∀(x':V) (σ':List O),oK C.ti s7 fn.results.toList=some x'->x'.gX σ'.length=true->ga s7.sg σ' σ'.length->∃v,(results fn a4.tmps).run C.P w7=.ok v w7/\aO E st7 g7 σ' w7/\VR st7 g7 x' σ'.length v:=fun x' σ' h1 h2 h3=>by
   obtain⟨v,h4,h5⟩:=zm G.toGood R7 h1;exact⟨v,h4,R7.wr.rM h3,gw (fun _ _ _ h=>h) (fun i hi _=>⟨qX h2 hi,rfl⟩) h5⟩
  have hkeep:∀aX,mP σ aX s7.kl=true->∀i o,σ[i]?=some o->(aX=true\/o.gF=false)->g7 i=g i:=fun aX hkl i o ho hor=>by
   refine B7.aX i ?_ (vY hkl i o ho hor);exact(gB.1 ho).1
  unfold xo at hend;cases hres:oK C.ti s7 fn.results.toList with
  |none=>rw[hres] at hend;exact hend.elim
  |some y=>
  rw[hres] at hend;simp only[hJ] at hend;cases r with
  |none=>
    obtain⟨h1,h2,h3,h4⟩:=hend;subst h1;obtain⟨v,q1,q2,q3⟩:=hends y σ hres h2 h3;exact⟨v,q1,v,st7,g7,rfl,q2,q3,B7.mono,co _,fun i o ho _=>hkeep true h4 i o ho (.inl rfl)⟩
  |some σ2=>
    obtain⟨h1,h2,h3,h4,h5⟩:=hend;subst h1;obtain⟨v,q1,q2,q3⟩:=hends y σ2 hres h2 h3;exact⟨v,q1,v,st7,g7,rfl,q2,q3,B7.mono,d9 h5,fun i o ho hor=>hkeep (eZ σ2) h4 i o ho (hor.resolve_left (by simp))⟩
 cases ex with
 |norm=>exact key none hk4
 |ret=>exact key none hk4
 |exit id=>exact hk4.elim
 |goto l=>exact hk4.elim
 |pan u=>exact key (some u) hk4
theorem S1{C:Ctx} (G:cn C) {f gf:FuncId} {fn:Func} {c1 M:Code} {id:Nat} {mk df:Oper} {cs:Array Operand} {t9:Tmp} {args:List V} {σ:List O} {x:V} {r:Option (List O)} (hf:C.P.funcs[f]?=some fn)
   (hb:fn.body=some (.seq c1 (.seq (.region id #[mk,df] false) M))) (hn:(fn.name== "runtime.NumGoroutine") =false)
   (hmk:mk.op=.makeFunc (.func gf) #[] cs) (hmd:mk.dst=some t9) (hmg:mk.guard=none) (hdf:df.op=.defer {callee:=.value (.tmp t9),args:=#[],argTypes:=#[]}) (hdd:df.dst=none) (hdg:df.guard=none)
   (hnt:Nat.ble args.length fn.ntmps=true) (h:V.eP args->i9 σ->vc C σ.length c1 ⟨fn.ntmps,gT args 0,σ,[]⟩ (nK fun s2=>dU s2 (some t9) =true/\s2.kl=[]/\
    vc C s2.sg.length M (s2.app (some t9) (pe (.func (.func gf) [] (s2.aG C cs.toList)))) (zl C fn.results.toList σ x r gf (s2.aG C cs.toList))))
   (hy:C.yd=fun _ _ _ _=>none:=by rfl):eH C.P C.gl f args σ x r:=by
 refine⟨⟨fn,hf,hn,by rw[hb];rfl⟩,fun E st g w vs W hg hv=>?_⟩;refine Calls.mono (Oo G hf hb hn hmk hmd hmg hdf hdd hdg hnt h hy (E:={E with ds:=[]}) rfl st g w vs (W.ds []) hg hv) ?_;rintro e w' ⟨v,st',g',h1,h2,h3,h4,h5,h6⟩;exact⟨v,st',g',h1,h2.rQ,h3,h4,h5,h6⟩
def Bw(σ σ':List O) (s:AS):Prop:=s.kl=[]/\ga s.sg σ' σ'.length/\Nat.ble σ.length σ'.length=true
def cloK(C:Ctx) (ops:List Oper) (t9:Tmp) (σ σ':List O) (m:Option Value) (s:AS):Prop:=match m with
 |none=>lk s.tm t9=.bool false/\Bw σ σ' s
 |some _=>lk s.tm t9=.bool true/\gD C ops false ops s (nK (Bw σ σ'))
theorem uZ{C:Ctx} (G:cn C) {gf:FuncId} {cfn:Func} {idr id1 id2:Nat} {rops ops1 ops2:Array Oper} {t9:Tmp} {args:List V} {σ σ':List O} {m:Option Value} {tm:List (Nat×V)} (hcf:C.P.funcs[gf]?=some cfn)
   (hcb:cfn.body=some (.seq (.region idr rops false) (.seq (.region id1 ops1 false) (.cond (.tmp t9) (.region id2 ops2 false) .skip)))) (hcn:(cfn.name== "runtime.NumGoroutine") =false) (hres:cfn.results=#[])
   (hreg:∀(vs:List Value) (w:World) (c₀:Frame) (cs:List Frame) (Q:Exit->Act->List Frame->World->Prop),vs.length=args.length->c₀.mode=kh m->
    (∀(a':Act) (u':FrameMode),settle u'=.returning->a'.defers=[]->a'.tmps.size=cfn.ntmps->(∀st g n,aE st g args n vs->∀t,VR st g (lk tm t) n (a'.tmps.getD t undef))->Q .normal a' ({c₀ with mode:=u'}::cs) w)->
    (Code.region idr rops false).wpSIn Fence.wide 0 C.P Q {tmps:=vs.toArray++Array.replicate (cfn.ntmps-vs.toArray.size) undef,defers:=[]} (c₀::cs) w)
   (hev:gD C ops1.toList false ops1.toList ⟨cfn.ntmps,tm,σ,[]⟩ (nK (cloK C ops2.toList t9 σ σ' m))) (hy:C.yd=fun _ _ _ _=>none:=by rfl):qj C.P C.gl gf args σ m σ':=by
 refine⟨⟨cfn,hcf,hcn,by rw[hcb];rfl⟩,fun E st g w vs W hg hv=>callsDIn_of_wpSIn hcf hcb trivial fun c₀ cs hu=>wpSIn_seq (hreg vs w c₀ cs _ (eJ hv).symm hu fun a' u' hset hd hsz htm=>?_)⟩;have R:Rel {E with ds:=[]} st g ⟨cfn.ntmps,tm,σ,[]⟩ a' w:=⟨hsz,hd,htm st g _ hv,W.ds []⟩
 have hfin:∀s2 a2 w2,Bw σ σ' s2->Go C {E with ds:=[]} st g ⟨cfn.ntmps,tm,σ,[]⟩ s2 a2 w2->bodyPostS C.P cfn c₀ cs (fun e u' w'=>∃v st' g',e=.returned v/\settle u'=.returning/\aO E st' g' σ' w'/\(∀b o v,st b o=some v->st' b o=some v)/\(∀i,i<σ.length->g' i=g i)/\σ.length<=σ'.length) .normal a2 ({c₀ with mode:=u'}::cs) w2:=by
  rintro s2 a2 w2 ⟨hk,hs,hl⟩ ⟨st2,g2,R2,hg2,A⟩;obtain⟨v,h1,_⟩:=zm (fn:=cfn) (x:=.tuple []) G.toGood R2 (by rw[hres];rfl);exact⟨R2.df,u',rfl,v,h1,v,st2,g2,rfl,hset,(R2.wr.rM hs).rQ,A.mono,fun i hi=>A.aX i hi (by rw[hk];rfl),d9 hl⟩
 have B:my 0 st g st g ⟨cfn.ntmps,tm,σ,[]⟩:=⟨fun _ _ _ h=>h,fun _ h=>absurd h (Nat.not_lt_zero _),ci _⟩
 refine wpSIn_seq (wpSIn_of_wpIn rfl (wpIn_wide.2 (Dt (n0:=0) (st0:=st) (g0:=g) (ib.none hy) R hg G B hev (fun s1 a1 w1 hk hgo=>?_) (fun u s1 a1 w1 hk _=>hk.elim))));show Code.wpSIn Fence.wide 0 C.P (.cond (.tmp t9) (.region id2 ops2 false) .skip) _ a1 _ w1;have hb:∀b,lk s1.tm t9=.bool b->a1.eval (.tmp t9) =.bool b:=fun b hb=>by
  obtain⟨st1,g1,R1,hg1,A1⟩:=hgo;have h:=R1.tm t9;rw[hb] at h;simp only[VR] at h;exact h
 cases m with
 |none=>
   obtain⟨h9,hdn⟩:=hk;refine wpSIn_cond (t:=false) (hb _ h9) ?_;exact wpSIn_of_wpIn rfl (wpIn_skip (hfin _ _ _ hdn hgo))
 |some v=>
   obtain⟨h9,he⟩:=hk;refine wpSIn_cond (t:=true) (hb _ h9) ?_;obtain⟨st1,g1,R1,hg1,A1⟩:=hgo;refine wpSIn_of_wpIn rfl (wpIn_wide.2 (Dt (n0:=0) (st0:=st1) (g0:=g1) (ib.none hy) R1 hg1 G ⟨fun _ _ _ h=>h,fun _ h=>absurd h (Nat.not_lt_zero _),ci _⟩ he (fun s2 a2 w2 hk2 hgo2=>?_) (fun u s2 a2 w2 hk2 _=>hk2.elim)));exact hfin _ _ _ hk2 (hgo2.trans A1)
end Go.VG
