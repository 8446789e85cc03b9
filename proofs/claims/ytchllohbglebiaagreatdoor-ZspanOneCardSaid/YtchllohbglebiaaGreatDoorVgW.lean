/-
  A part of the proof.
-/
import Derived.Test.YtchllohbglebiaaGreatDoorVgU
import Derived.Deep.LoopGhost
import Derived.Sort.LoopGhostIn
import Derived.ScopeJumps
set_option linter.unusedSimpArgs false
set_option linter.unusedVariables false
namespace Go.VG
open Go
section
variable {st:St} {g:au}
mutual
theorem yh:∀{x:V} {n:Nat} {v:Value},VR st g x n v->x.wf
 |.int k m,n,v,h=>by simp only[VR] at h;simp only[V.wf];exact h.2
 |.str s,n,v,h=>by simp only[VR] at h;simp only[V.wf];exact h.2
 |.agg cs,n,v,h|.tuple cs,n,v,h=>by
   simp only[VR] at h;obtain⟨vs,_,h⟩:=h;simp only[V.wf];exact pQ h
 |.list c sz l,n,v,h=>by
   simp only[VR] at h;obtain⟨base,cap,_,_,h2,_,h3⟩:=h;simp only[V.wf];refine⟨h2,?_⟩;rcases h3 with rfl|⟨b,o,_,_,h3⟩
   . simp[V.eK]
   . exact BZ h3
 |.box cs off,n,v,h=>by
   simp only[VR] at h;obtain⟨b,o,vs,_,h,_⟩:=h;simp only[V.wf];exact pQ h
 |.iface t x,n,v,h=>by
   simp only[VR] at h;obtain⟨u,_,h⟩:=h;simp only[V.wf];exact yh h
 |.undef,_,_,_|.bool _,_,_,_|.nilptr,_,_,_|.ptr ..,_,_,_|.bptr ..,_,_,_|.view ..,_,_,_|.buf _,_,_,_|.nilIface,_,_,_|.func ..,_,_,_|.nilFunc,_,_,_|.map _,_,_,_|.nilmap,_,_,_=>by simp[V.wf]
theorem pQ:∀{x:List V} {n:Nat} {v:List Value},aC st g x n v->V.eK x
 |[],_,_,_=>by simp[V.eK]
 |c::cs,_,_,h=>by
   simp only[aC] at h;obtain⟨u,us,_,h1,h2⟩:=h;simp only[V.eK];exact⟨yh h1,pQ h2⟩
theorem BZ:∀{x:List V} {sz o:Nat} {look:Nat->Option Value},cn st g x sz look o->V.eK x
 |[],_,_,_,_=>by simp[V.eK]
 |c::cs,_,_,_,h=>by
   simp only[cn] at h;obtain⟨⟨u,h1,_⟩,h2⟩:=h;simp only[V.eK];exact⟨yh h1,BZ h2⟩
end
end

theorem NC:∀{l:List O},iz l↔∀x∈l,x.wf
 |[]=>by simp[iz]
 |c::cs=>by simp[iz,NC (l:=cs)]

section
variable {C:Ctx} {E:Env} {st:St} {g:au} {s:AS} {a:Act} {w:World}

theorem dK.wf{n:Nat} {gi:Gh} {o:O} (h:dK E st g n w gi o):o.wf:=by
 cases o with
 |dead=>simp[O.wf]
 |cells cs=>obtain⟨b,c,el,fr,_,_,_,h,_⟩:=h;simp only[O.wf];exact pQ h
 |buf sz pre l=>
   obtain⟨_,_,_,h4,h5,_,h7⟩:=h;simp only[O.wf];refine⟨h4,?_⟩;rcases h7 with ⟨h7,_⟩|⟨b,c,el,fr,_,_,_,_,_,k6,_⟩
   . have:l=[]:=co (by omega);subst this;simp[V.eK]
   . exact BZ k6
 |siter s p=>simp only[O.wf];exact h.1
 |map ag sh es bs ck=>
   obtain⟨_,_,_,_,_,h4,_⟩:=h;simp only[O.wf];have:=tL h4;omega
 |miter m bs ck l x=>simp[O.wf]
theorem aF.wf{sg:List O} (h:aF E st g sg w):iz sg:=NC.2 fun o ho=>by
 obtain⟨i,hi,hio⟩:=List.getElem_of_mem ho;exact(h.ob i o (by rw[am hi,hio])).wf
theorem xW(f:Nat->Value) {n:Nat}:∀(l:List (Nat×V)) (seen:List Nat),(∀t,t∉seen->VR st g (lk l t) n (f t))->oK l seen
 |[],_,_=>trivial
 |(t,x)::r,seen,h=>by
   simp only[oK];refine⟨?_,xW f (n:=n) r (t::seen) fun t' ht'=>?_⟩
   . cases hm:aH t seen with
     |true=>trivial
     |false=>
       have:=h t (sl.1 hm);simp only[lk,show Nat.beq t t=true from Nat.beq_refl t,cond_true] at this;exact yh this
   . simp only[List.mem_cons,not_or] at ht';have:=h t' ht'.2;simp only[lk] at this
     rwa [show Nat.beq t t'=false from by cases hb:Nat.beq t t' with|false=>rfl|true=>exact absurd (aB hb).symm ht'.1,cond_false] at this

def eD(C:Ctx) (E:Env) (n:Nat) (st0:St) (g0:au) (s':AS) (a':Act) (w':World):Prop:=∃E',jo E E'/\∃st' g',Rel E' st' g' s' a' w'/\aL C.gl st'/\n8 n st0 g0 st' g' s'

theorem MT{s:AS} {m:Nat}:∀{l:List (Nat×V)} {t:Nat},Bs s m l->lk l t=.undef\/(lk s.tm t=lk l t/\(lk l t).il m=true)
 |[],t,_=>.inl rfl
 |(k,x)::r,t,h=>by
   simp only[lk];cases hb:Nat.beq k t with
   |true=>
     have:=aB hb;subst this;simp only[cond_true];exact .inr h.1
   |false=>simp only[cond_false];exact MT h.2
theorem MQ{i:Nat}:∀{ks l:List Nat},xQ ks l=true->aH i ks=true->aH i l=true
 |[],_,_,h=>by simp[aH] at h
 |k::ks,l,h,hm=>by
   simp only[xQ,zza] at h;simp only[aH,Bool.or_eq_true] at hm;rcases hm with hm|hm
   . have:=aB hm;subst this;exact h.1
   . exact MQ h.2 hm

theorem eD.sub{n:Nat} {st0:St} {g0:au} {t:AS} (h:eD C E n st0 g0 s a w) (hs:Sub n s t):eD C E n st0 g0 t a w:=by
 obtain⟨E',hE',st',g',R,hg,B⟩:=h;refine⟨E',hE',st',g',⟨R.nt.trans hs.nt,R.df,fun u=>?_,R.wr.sK hs.sg⟩,hg,⟨B.mono,fun i hi hm=>B.aO i hi ?_,d6 hs.len⟩⟩
 . rcases MT (t:=u) hs.tm with h|⟨h1,h2⟩
   . rw[h];simp[VR]
   . have:=R.tm u;rw[h1] at this;exact gC (fun _ _ _ h=>h) (fun i hi _=>⟨rY h2 hi,rfl⟩) this
 . cases hb:aH i s.kl with
   |false=>rfl
   |true=>rw[MQ hs.kl hb] at hm;cases hm

theorem Mr{y:V}:∀{xs:List V} {off j:Nat},(nD xs off y)[j]?=if j=off/\off<xs.length then some y else xs[j]?
 |[],off,j=>by simp[nD]
 |x::xs,0,j=>by cases j<;>simp[nD]
 |x::xs,off+1,j=>by
   cases j with
   |zero=>simp[nD]
   |succ j=>simp[nD,Mr (xs:=xs) (off:=off) (j:=j)]
theorem Ms{y:V}:∀{xs:List V} {off:Nat},(nD xs off y).length=xs.length
 |[],_=>rfl
 |_::_,0=>rfl
 |_::xs,off+1=>by simp[nD,Ms (xs:=xs)]

theorem aF.ghost{sg:List O} (h:aF E st g sg w) {base:Option Addr} {sz:Nat} (hsz:0<sz):aF E st (aX g sg.length ⟨none,base,0,0,sz⟩) (sg++[.buf sz 0 []]) w:=by
 refine h.step (dg.same (aQ.refl w)) ?_ ?_
 . intro i o ho;rw[an,gc];rcases Nat.lt_trichotomy i sg.length with hlt|heq|hgt
   . rw[dl hlt] at ho;rw[cK (Nat.ne_of_lt hlt)];exact(h.ob i o ho).aO (fun _ _=>rfl) (fun _ _ _ hv=>hv) (fun _ _ _ _ hv=>hv) (fun j _ hj=>⟨by omega,cK (Nat.ne_of_lt hj)⟩)
   . subst heq;rw[dt (cb _)] at ho;simp at ho;subst ho;rw[dU];exact⟨hsz,rfl,bu _,bu _,rfl,cb _,.inl ⟨rfl,rfl⟩⟩
   . rw[ci (by simp;omega)] at ho;cases ho
 . intro i j b hi hj h1 h2;rw[an,gc] at hi hj;by_cases e1:i=sg.length
   . subst e1;rw[dU] at h1;cases h1
   . by_cases e2:j=sg.length
     . subst e2;rw[dU] at h2;cases h2
     . rw[cK e1] at h1;rw[cK e2] at h2;exact h.inj i j b (by omega) (by omega) h1 h2

theorem aF.CU{sg:List O} (h:aF E st g sg w) {base:Option Addr} {sz:Nat}:aF E st (aX g sg.length ⟨none,base,0,0,sz⟩) (sg++[.dead]) w:=by
 refine h.step (dg.same (aQ.refl w)) ?_ ?_
 . intro i o ho;rw[an,gc];rcases Nat.lt_trichotomy i sg.length with hlt|heq|hgt
   . rw[dl hlt] at ho;rw[cK (Nat.ne_of_lt hlt)];exact(h.ob i o ho).aO (fun _ _=>rfl) (fun _ _ _ hv=>hv) (fun _ _ _ _ hv=>hv) (fun j _ hj=>⟨by omega,cK (Nat.ne_of_lt hj)⟩)
   . subst heq;rw[dt (cb _)] at ho;simp at ho;subst ho;rw[dU];intro b hb;cases hb
   . rw[ci (by simp;omega)] at ho;cases ho
 . intro i j b hi hj h1 h2;rw[an,gc] at hi hj;by_cases e1:i=sg.length
   . subst e1;rw[dU] at h1;cases h1
   . by_cases e2:j=sg.length
     . subst e2;rw[dU] at h2;cases h2
     . rw[cK e1] at h1;rw[cK e2] at h2;exact h.inj i j b (by omega) (by omega) h1 h2

theorem sZ{sg:List O} {x:V} {v:Value} {gh:Gh} (h:VR st g x sg.length v):VR st (aX g sg.length gh) x (sg.length+1) v:=
 gC (fun _ _ _ h=>h) (fun i _ hi=>⟨by omega,cK (Nat.ne_of_lt hi)⟩) h

theorem Bt(i j k:Nat):swp i j k=if k=i then j else if k=j then i else k:=by
 unfold swp;cases h1:Nat.beq k i with
 |true=>simp[aB h1]
 |false=>
   have h1':k≠i:=fun e=>by subst e;rw[show Nat.beq k k=true from Nat.beq_refl k] at h1;cases h1
   cases h2:Nat.beq k j with
   |true=>simp only[cond_true,cond_false];rw[if_neg h1',if_pos (aB h2)]
   |false=>
     have h2':k≠j:=fun e=>by subst e;rw[show Nat.beq k k=true from Nat.beq_refl k] at h2;cases h2
     simp[h1',h2']
theorem G8(i j k:Nat):swp i j (swp i j k) =k:=by
 rw[Bt,Bt];by_cases h1:k=i
 . subst h1;by_cases h2:j=k
   . subst h2;simp
   . simp[h2]
 . by_cases h2:k=j
   . subst h2;simp[h1]
   . simp[h1,h2]
theorem G7{i j k n:Nat} (hi:i<n) (hj:j<n) (hk:k<n):swp i j k<n:=by
 rw[Bt];split
 . exact hj
 . split
   . exact hi
   . exact hk
theorem CT{sg:List O} {i:Nat} (h:i<sg.length):sg[i]?=some (aD sg i):=by
 rw[wG,ac,am h];rfl
theorem YO{sg:List O} {i j:Nat} (hi:i<sg.length) (hj:j<sg.length) (k:Nat):(swapAt sg i j)[k]?=sg[swp i j k]?:=by
 unfold swapAt;rw[Bt,jD,jD];by_cases h2:k=j
 . subst h2;rw[List.getElem?_set_self (by simpa using hj)];by_cases h1:k=i
   . subst h1;simp[CT hj]
   . simp[h1,CT hi]
 . rw[List.getElem?_set_ne (Ne.symm h2)];by_cases h1:k=i
   . subst h1;rw[List.getElem?_set_self hi];simp[CT hj]
   . rw[List.getElem?_set_ne (Ne.symm h1)];simp[h1,h2]
theorem YP(sg:List O) (i j:Nat):(swapAt sg i j).length=sg.length:=by simp[swapAt,jD]
theorem KW(f:Nat->Option Nat):∀(tm:List (Nat×V)) (t:Nat),lk (uH f tm) t=(lk tm t).bN f
 |[],t=>by simp[uH,lk,V.bN]
 |(k,x)::r,t=>by
   simp only[uH,lk];cases Nat.beq k t<;>simp[KW f r t]

mutual
theorem vB{i:Nat} {y:V} {z:Nat->V} (hy:∀n v,VR st g (.buf i) n v->VR st g y n v) (hz:∀o n v,VR st g (.ptr i o) n v->VR st g (z o) n v):∀{x:V} {n:Nat} {v:Value},VR st g x n v->VR st g (V.put i y z x) n v
 |.buf j,n,v,h=>by
   simp only[V.put];cases hb:Nat.beq j i with
   |true=>
     have:=aB hb;subst this;exact hy n v h
   |false=>exact h
 |.ptr j o,n,v,h=>by
   simp only[V.put];cases hb:Nat.beq j i with
   |true=>
     have:=aB hb;subst this;exact hz o n v h
   |false=>exact h
 |.agg cs,n,v,h|.tuple cs,n,v,h=>by
   simp only[VR,V.put] at h⊢;obtain⟨vs,rfl,h⟩:=h;exact⟨vs,rfl,vF hy hz h⟩
 |.iface t x,n,v,h=>by
   simp only[VR,V.put] at h⊢;obtain⟨u,rfl,h⟩:=h;exact⟨u,rfl,vB hy hz h⟩
 |.func f a b,n,v,h=>by
   simp only[VR,V.put] at h⊢;obtain⟨p,q,rfl,h1,h2⟩:=h;exact⟨p,q,rfl,vF hy hz h1,vF hy hz h2⟩
 |.undef,_,_,h|.int ..,_,_,h|.bool _,_,_,h|.str _,_,_,h|.list ..,_,_,h|.nilptr,_,_,h|.box ..,_,_,h|.nilIface,_,_,h|.nilFunc,_,_,h|.nilmap,_,_,h|.bptr ..,_,_,h|.view ..,_,_,h|.map _,_,_,h=>by
   simpa only[V.put] using h
theorem vF{i:Nat} {y:V} {z:Nat->V} (hy:∀n v,VR st g (.buf i) n v->VR st g y n v) (hz:∀o n v,VR st g (.ptr i o) n v->VR st g (z o) n v):∀{x:List V} {n:Nat} {v:List Value},aC st g x n v->aC st g (V.pq i y z x) n v
 |[],_,_,h=>by simpa only[V.pq] using h
 |c::cs,n,v,h=>by
   simp only[aC,V.pq] at h⊢;obtain⟨u,us,rfl,h1,h2⟩:=h;exact⟨u,us,rfl,vB hy hz h1,vF hy hz h2⟩
end
theorem dK.put{n:Nat} {gi:Gh} {o:O} {i:Nat} {y:V} {z:Nat->V} (hy:∀n v,VR st g (.buf i) n v->VR st g y n v) (hz:∀o n v,VR st g (.ptr i o) n v->VR st g (z o) n v) (h:dK E st g n w gi o):dK E st g n w gi (o.put i y z):=by
 cases o with
 |cells cs=>
   obtain⟨b,c,el,fr,h1,h2,h3,h4,h5,h6⟩:=h;exact⟨b,c,el,fr,h1,h2,h3,vF hy hz h4,h5,h6⟩
 |miter m bs ck l x=>
   obtain⟨b,b',seen,h1,h2,h3,h4,h5⟩:=h;exact⟨b,b',seen,h1,h2,h3,vB hy hz h4,h5⟩
 |_=>exact h
theorem Eh{i:Nat} {y:V} {z:Nat->V}:∀{sg:List O} {j:Nat},(kQ i y z sg)[j]?=(sg[j]?).map (O.put i y z)
 |[],_=>by simp[kQ]
 |o::os,0=>by simp[kQ]
 |o::os,j+1=>by simp only[kQ,List.getElem?_cons_succ];exact Eh
theorem xy{i:Nat} {y:V} {z:Nat->V}:∀{sg:List O},(kQ i y z sg).length=sg.length
 |[]=>rfl
 |_::os=>by simp only[kQ,List.length_cons];rw[xy (sg:=os)]
theorem Dv{i:Nat} {y:V} {z:Nat->V}:∀(tm:List (Nat×V)) (t:Nat),lk (qO i y z tm) t=V.put i y z (lk tm t)
 |[],t=>by simp[qO,lk,V.put]
 |(k,x)::r,t=>by
   simp only[qO,lk];cases Nat.beq k t with
   |true=>rfl
   |false=>exact Dv r t
theorem eD.nA{n:Nat} {st0:St} {g0:au} (h:eD C E n st0 g0 s a w) (p:gz):eD C E n st0 g0 (s.nA p) a w:=by
 cases p with
 |tm t sz=>
   simp only[AS.nA];split
   . rename_i sz0 sz1 hlk;obtain⟨E',hE',st',g',R,hg,B⟩:=h;have hv:=R.tm t;rw[hlk] at hv;simp only[VR] at hv;obtain⟨base,cap,hv,_,_,hcap,_⟩:=hv;obtain rfl:cap=0:=by simpa using hcap trivial
     refine⟨E',hE',st',aX g' s.sg.length ⟨none,base,0,0,sz1+1⟩,⟨R.nt,R.df,fun u=>?_,R.wr.ghost (Nat.succ_pos _)⟩,hg,⟨B.mono,fun i hi hm=>?_,by simp;exact Nat.le_succ_of_le B.len⟩⟩
     . show VR st' _ (lk ((t,.buf s.sg.length)::s.tm) u) (s.sg++[_]).length _;rw[an,gc];simp only[lk];cases hb:Nat.beq t u with
       |true=>
         have:=aB hb;subst this;simp only[cond_true,VR];exact⟨Nat.lt_succ_self _,by rw[dU];simpa using hv⟩
       |false=>simp only[cond_false];exact sZ (R.tm u)
     . have:=B.len;show aX g' s.sg.length _ i=g0 i;rw[cK (by omega)];exact B.aO i hi hm
   . exact h
 |cell i off sz=>
   simp only[AS.nA];split
   . rename_i cs sz1 hob;split
     . rename_i sz0 hgl;obtain⟨E',hE',st',g',R,hg,B⟩:=h;obtain⟨hoi,hil⟩:=eY hob (by simp);rw[yZ] at hgl;have W1:=R.wr;have hobr:=W1.ob i _ hoi;obtain⟨b,c,el,fr,k1,k2,k3,k4,k5,k6⟩:=hobr;obtain⟨v,hv1,hv⟩:=jQ k4 hgl;simp only[VR] at hv;obtain⟨base,cap,rfl,_,_,hcap,_⟩:=hv;obtain rfl:cap=0:=by simpa using hcap trivial
       have W2:=W1.ghost (base:=base) (sz:=sz1+1) (Nat.succ_pos _);have hlen:(gk s.sg i (.cells (nD cs off (.buf s.sg.length)))++[O.buf (sz1+1) 0 []]).length=s.sg.length+1:=by simp[jD]
       have hoff:off<cs.length:=by
        rcases d7 off cs.length with h'|h'
        . exact h'
        . simp[ci h'] at hgl
       have W3:aF E' st' (aX g' s.sg.length ⟨none,base,0,0,sz1+1⟩) (gk s.sg i (.cells (nD cs off (.buf s.sg.length)))++[O.buf (sz1+1) 0 []]) w:=by
        refine W2.step (dg.same (aQ.refl w)) ?_ ?_
        . intro j o ho;rw[hlen];by_cases e:j=i
          . subst e;rw[jD,dl (by simpa using hil),List.getElem?_set_self hil] at ho;cases ho;rw[cK (Nat.ne_of_lt hil)];refine⟨b,c,el,fr,k1,k2,k3,jR.2 ⟨by rw[Ms];exact eN k4,fun q x v hx hv=>?_⟩,k5,k6⟩;rw[Mr] at hx;split at hx
            . rename_i hq;obtain⟨rfl,_⟩:=hq;cases hx;rw[hv1] at hv;cases hv;simp only[VR];exact⟨Nat.lt_succ_self _,by rw[dU];simp⟩
            . exact sZ ((jR.1 k4).2 q x v hx hv)
          . have ho':(s.sg++[O.buf (sz1+1) 0 []])[j]?=some o:=by
              rw[jD] at ho;rcases d7 j s.sg.length with hj|hj
              . rw[dl (by simpa using hj),List.getElem?_set_ne (Ne.symm e)] at ho;rw[dl hj];exact ho
              . rw[dt (by simpa using hj)] at ho;rw[dt hj];simpa using ho
            have:=W2.ob j o ho';rw[an,gc] at this;exact this
        . intro q r bb hq hr h1 h2;rw[hlen] at hq hr;exact W2.inj q r bb (by simpa using hq) (by simpa using hr) h1 h2
       refine⟨E',hE',st',aX g' s.sg.length ⟨none,base,0,0,sz1+1⟩,⟨R.nt,R.df,fun u=>?_,W3⟩,hg,⟨B.mono,fun j hj hm=>?_,?_⟩⟩
       . show VR st' _ (lk s.tm u) (gk s.sg i _++[_]).length _;rw[hlen];exact sZ (R.tm u)
       . have:=B.len;show aX g' s.sg.length _ j=g0 j;rw[cK (by omega)];exact B.aO j hj hm
       . show n<=(gk s.sg i _++[_]).length;rw[hlen];exact Nat.le_succ_of_le B.len
     . exact h
   . exact h
 |swap i j=>
   simp only[AS.nA];split
   . rename_i hij;simp only[zza] at hij;have hi:i<s.sg.length:=d6 hij.1;have hj:j<s.sg.length:=d6 hij.2;obtain⟨E',hE',st',g',R,hg,B⟩:=h;have hlen:(lJ (fun k=>some (swp i j k)) (swapAt s.sg i j)).length=s.sg.length:=by rw[uu];simp[YP]
     have hf:∀a b,(fun k=>some (swp i j k)) a=some b->a<s.sg.length->b<s.sg.length/\(fun k=>g' (swp i j k)) b=g' a:=fun a b hab ha=>by
      cases hab;exact⟨G7 hi hj ha,by simp only[G8]⟩
     have W1:=R.wr;refine⟨E',hE',st',fun k=>g' (swp i j k),⟨R.nt,R.df,fun u=>?_,?_⟩,hg,⟨B.mono,fun k hk hm=>?_,?_⟩⟩
     . show VR st' _ (lk (uH _ s.tm) u) (lJ _ _).length _;rw[KW,hlen];exact ta hf (R.tm u)
     . refine W1.step (dg.same (aQ.refl w)) ?_ ?_
       . intro k o ho;rw[uu,List.getElem?_map,YO hi hj] at ho;cases hs:s.sg[swp i j k]? with
         |none=>rw[hs] at ho;cases ho
         |some o0=>
           rw[hs] at ho;cases ho;show dK E' st' _ (lJ _ _).length w (g' (swp i j k)) (o0.bN _);rw[hlen];have h0:=W1.ob _ _ hs;exact h0.bN hf (fun b hb=>(h0.cH hb).2)
       . intro q r bb hq hr h1 h2;have hq:q<s.sg.length:=hlen▸hq;have hr:r<s.sg.length:=hlen▸hr;have:=W1.inj _ _ bb (G7 hi hj hq) (G7 hi hj hr) h1 h2;rw[<-G8 i j q,this,G8]
     . have hm:aH k (i::j::s.kl) =false:=hm;simp only[aH,Bool.or_eq_false_iff] at hm;show g' (swp i j k) =g0 k;rw[show swp i j k=k by simp[swp,hm.1,hm.2.1]];exact B.aO k hk hm.2.2
     . show n<=(lJ _ _).length;rw[hlen];exact B.len
   . exact h
 |nw=>
   simp only[AS.nA];obtain⟨E',hE',st',g',R,hg,B⟩:=h;refine⟨E',hE',st',aX g' s.sg.length ⟨none,none,0,0,1⟩,⟨R.nt,R.df,fun u=>?_,R.wr.ghost (Nat.succ_pos _)⟩,hg,⟨B.mono,fun i hi hm=>?_,by simp;exact Nat.le_succ_of_le B.len⟩⟩
   . show VR st' _ (lk s.tm u) (s.sg++[_]).length _;rw[an,gc];exact sZ (R.tm u)
   . have:=B.len;show aX g' s.sg.length _ i=g0 i;rw[cK (by omega)];exact B.aO i hi hm
 |res=>
   simp only[AS.nA];obtain⟨E',hE',st',g',R,hg,B⟩:=h;refine⟨E',hE',st',aX g' s.sg.length ⟨none,none,0,0,0⟩,⟨R.nt,R.df,fun u=>?_,R.wr.CU⟩,hg,⟨B.mono,fun i hi hm=>?_,by simp;exact Nat.le_succ_of_le B.len⟩⟩
   . show VR st' _ (lk s.tm u) (s.sg++[_]).length _;rw[an,gc];exact sZ (R.tm u)
   . have:=B.len;show aX g' s.sg.length _ i=g0 i;rw[cK (by omega)];exact B.aO i hi hm
 |c9 i=>
   simp only[AS.nA];split
   . rename_i sz pre l hob;obtain⟨E',hE',st',g',R,hg,B⟩:=h;obtain⟨hoi,hil⟩:=eY hob (by simp);obtain⟨q1,q2,q3,q4,q5,q6,q7⟩:=R.wr.ob i _ hoi;obtain⟨st2,hch,hnew,hy⟩:∃st2,dg E' st' st2 w w (fun b=>(g' i).blk=some b)/\(∀j b,j<s.sg.length->j≠i->(g' j).blk=some b->∀o v,st2 b o=some v->st' b o=some v)/\
        ∀n v,VR st2 g' (.buf i) n v->VR st2 g' (.list false sz l) n v:=by
      rcases q7 with ⟨q7,q8⟩|⟨b,c,el,fr,k1,k2,k3,k4,k5,k6,k7,k8⟩
      . refine⟨st',⟨rfl,rfl,rfl,cb _,fun _ _ _=>rfl,fun b hb=>(by rw[q8] at hb;cases hb),fun _ _ _ h=>h,fun _ _ _ h=>.inl h,fun b o v _ h=>R.wr.stw _ _ _ h⟩,fun _ _ _ _ _ _ _ h=>h,fun m v h=>?_⟩;simp only[VR] at h⊢;obtain⟨_,rfl⟩:=h;exact⟨_,_,by rw[q5],by rw[<-q5,q5];exact q6,q4,by simp,.inl (co (by omega))⟩
      . have hmono:∀b' o' v',st' b' o'=some v'->c9 st' b c b' o'=some v':=fun b' o' v' h=>by
          simp only[c9];split
          . rename_i e;subst e;rw[<-gZ k4];exact R.wr.stw _ _ _ h
          . exact h
        refine⟨c9 st' b c,⟨rfl,rfl,rfl,cb _,fun _ _ _=>rfl,fun b' hb'=>(R.wr.cH hil hb').2,hmono,fun b' o' v' h=>?_,fun b' o' v' hb' h=>R.wr.stw _ _ _ h⟩,fun j b' hj hne hb' o' v' h=>?_,fun m v h=>?_⟩
        . simp only[c9] at h;split at h
          . rename_i e;subst e;exact .inr ⟨k3,by rw[gZ k4];exact h⟩
          . exact .inl h
        . simp only[c9] at h;split at h
          . rename_i e;subst e;exact absurd (R.wr.inj j i b' hj hil hb' k1) hne
          . exact h
        . simp only[VR] at h⊢;obtain⟨_,rfl⟩:=h;refine⟨_,_,by rw[q5],q6,q4,by simp,.inr ⟨b,0,k2,q1,?_⟩⟩;exact lT hmono (fun o' v' h=>by simp only[c9,if_true];exact h) k6
     have hlen:(gk (kQ i (.list false sz l) (.ptr i) s.sg) i .dead).length=s.sg.length:=by rw[jD,List.length_set,xy]
     have W2:aF E' st2 g' (gk (kQ i (.list false sz l) (.ptr i) s.sg) i .dead) w:=by
      refine R.wr.step hch ?_ ?_
      . intro j o ho;rw[hlen];rw[jD] at ho;by_cases e:j=i
        . subst e;rw[List.getElem?_set_self (by rw[xy];exact hil)] at ho;cases ho;exact fun b hb=>R.wr.cH hil hb
        . rw[List.getElem?_set_ne (Ne.symm e),Eh] at ho;cases hs:s.sg[j]? with
          |none=>rw[hs] at ho;cases ho
          |some o₀=>
            rw[hs] at ho;cases ho;have hjl:j<s.sg.length:=by
             rcases d7 j s.sg.length with h'|h'
             . exact h'
             . simp[ci h'] at hs
            refine dK.put hy (fun _ _ _ h=>h) ((R.wr.ob j o₀ hs).aO (fun b hb=>rfl) hch.mono (fun b hb=>hnew j b hjl e hb) (fun k hk hkn=>⟨hkn,rfl⟩))
      . intro p q b hp hq;rw[hlen] at hp hq;exact R.wr.inj p q b hp hq
     refine⟨E',hE',st2,g',⟨R.nt,R.df,fun u=>?_,W2⟩,hg.mono hch.mono,⟨fun b o v hv=>hch.mono _ _ _ (B.mono b o v hv),B.aO,by rw[hlen];exact B.len⟩⟩;show VR st2 g' (lk (qO i (.list false sz l) (.ptr i) s.tm) u) (gk (kQ i (.list false sz l) (.ptr i) s.sg) i .dead).length _;rw[Dv,hlen];exact vB hy (fun _ _ _ h=>h) (gC hch.mono (fun _ _ h=>⟨h,rfl⟩) (R.tm u))
   . exact h
 |fbx i=>
   simp only[AS.nA];split
   . rename_i cs hob;cases hpu:V.gd cs with
     |false=>exact h
     |true=>
     simp only[cond_true];obtain⟨E',hE',st',g',R,hg,B⟩:=h;obtain⟨hoi,hil⟩:=eY hob (by simp);obtain⟨b,c,el,fr,k1,k2,k3,k4,k5,k6⟩:=R.wr.ob i _ hoi;have hmono:∀b' o' v',st' b' o'=some v'->c9 st' b c b' o'=some v':=fun b' o' v' h=>by
      simp only[c9];split
      . rename_i e;subst e;rw[<-gZ k3];exact R.wr.stw _ _ _ h
      . exact h
     have hch:dg E' st' (c9 st' b c) w w (fun b=>(g' i).blk=some b):=⟨rfl,rfl,rfl,cb _,fun _ _ _=>rfl,fun b' hb'=>(R.wr.cH hil hb').2,hmono,fun b' o' v' h=>by
      simp only[c9] at h;split at h
      . rename_i e;subst e;exact .inr ⟨k2,by rw[gZ k3];exact h⟩
      . exact .inl h,fun b' o' v' hb' h=>R.wr.stw _ _ _ h⟩
     have hnew:∀j b',j<s.sg.length->j≠i->(g' j).blk=some b'->∀o' v',c9 st' b c b' o'=some v'->st' b' o'=some v':=fun j b' hj hne hb' o' v' h=>by
      simp only[c9] at h;split at h
      . rename_i e;subst e;exact absurd (R.wr.inj j i b' hj hil hb' k1) hne
      . exact h
     have hz:∀o n v,VR (c9 st' b c) g' (.ptr i o) n v->VR (c9 st' b c) g' (.box cs o) n v:=fun o n v h=>by
      simp only[VR] at h⊢;obtain⟨_,b2,hb2,rfl⟩:=h;rw[k1] at hb2;cases hb2;refine⟨b,0,c.toList,by rw[Nat.zero_add],la hmono (fun _ _ h=>⟨h,rfl⟩) (LV k4 hpu),fun j hj=>?_⟩;simp[c9]
     have hlen:(gk (kQ i (.buf i) (.box cs) s.sg) i .dead).length=s.sg.length:=by rw[jD,List.length_set,xy]
     have W2:aF E' (c9 st' b c) g' (gk (kQ i (.buf i) (.box cs) s.sg) i .dead) w:=by
      refine R.wr.step hch ?_ ?_
      . intro j o ho;rw[hlen];rw[jD] at ho;by_cases e:j=i
        . subst e;rw[List.getElem?_set_self (by rw[xy];exact hil)] at ho;cases ho;exact fun b hb=>R.wr.cH hil hb
        . rw[List.getElem?_set_ne (Ne.symm e),Eh] at ho;cases hs:s.sg[j]? with
          |none=>rw[hs] at ho;cases ho
          |some o₀=>
            rw[hs] at ho;cases ho;have hjl:j<s.sg.length:=by
             rcases d7 j s.sg.length with h'|h'
             . exact h'
             . simp[ci h'] at hs
            refine dK.put (fun _ _ h=>h) hz ((R.wr.ob j o₀ hs).aO (fun b hb=>rfl) hch.mono (fun b hb=>hnew j b hjl e hb) (fun k hk hkn=>⟨hkn,rfl⟩))
      . intro p q b hp hq;rw[hlen] at hp hq;exact R.wr.inj p q b hp hq
     refine⟨E',hE',c9 st' b c,g',⟨R.nt,R.df,fun u=>?_,W2⟩,hg.mono hch.mono,⟨fun b o v hv=>hch.mono _ _ _ (B.mono b o v hv),B.aO,by rw[hlen];exact B.len⟩⟩;show VR (c9 st' b c) g' (lk (qO i (.buf i) (.box cs) s.tm) u) (gk (kQ i (.buf i) (.box cs) s.sg) i .dead).length _;rw[Dv,hlen];exact vB (fun _ _ h=>h) hz (gC hch.mono (fun _ _ h=>⟨h,rfl⟩) (R.tm u))
   . exact h
theorem eD.dq{n:Nat} {st0:St} {g0:au}:∀(ps:List gz) {s:AS},eD C E n st0 g0 s a w->eD C E n st0 g0 (s.dq ps) a w
 |[],_,h=>h
 |p::ps,_,h=>eD.dq ps (h.nA p)

def rS:Ex->Exit
 |.norm=>.normal
 |.exit i=>.exit i
 |.goto l=>.goto l
 |.ret=>.ret
 |.pan v=>.panic [{v:=v,recovered:=false}]

theorem zJ{c:Operand} {b:Bool} {K:AS->Prop} {n:Nat} {st0:St} {g0:au} (h:si s c b K) (hc:s.ev C c=.bool b) (hgo:eD C E n st0 g0 s a w):∃s',K s'/\eD C E n st0 g0 s' a w:=by
 obtain⟨nt,tm,sg,kl⟩:=s;cases c with
 |tmp t=>
   obtain⟨E',hE',st',g',R,hg,B⟩:=hgo;exact⟨_,h,E',hE',st',g',R.lit hc,hg,B.mono,B.aO,B.len⟩
 |_=>exact⟨_,h,hgo⟩

theorem Zz{P:Program} {a:Act} {w:World} {Q:Exit->Act->World->Prop} {c rest:Code} (l:Nat) (I:Nat->Act->World->Prop) (hf:findLabel c l=some rest)
   (first:c.wp P (Exit.jump l (fun a w=>∃n,I n a w) Q) a w)
   (pass:∀n a w,I n a w->rest.wp P (Exit.jump l (fun a' w'=>∃n',n'<n/\I n' a' w') Q) a w):(Code.scope c).wp P Q a w:=by
 refine wp_scope_jumps l (fun a w=>∃n,I n a w) (fun a w=>leastOf (fun n=>I n a w)) hf first ?_
 intro a w hI;refine wp_mono (pass _ a w (leastOf_spec hI).1) ?_;intro e a' w' hq;cases e with
 |goto l'=>
   obtain⟨h1,n',hlt,hI'⟩:=hq;exact⟨h1,⟨n',hI'⟩,Nat.lt_of_le_of_lt ((leastOf_spec ⟨n',hI'⟩).2 n' hI') hlt⟩
 |normal=>exact hq
 |exit id=>exact hq
 |ret=>exact hq
 |panic ch=>exact hq
 |outgrown=>exact hq
def Sound(C:Ctx) (E:Env) (n:Nat) (st0:St) (g0:au) (c:Code):Prop:=∀(s:AS) (a:Act) (w:World) (K:Ex->AS->Prop) (Q:Exit->Act->World->Prop),eD C E n st0 g0 s a w->vc C n c s K->
 (∀ex s' a' w',K ex s'->eD C E n st0 g0 s' a' w'->Q (rS ex) a' w')->c.wp C.P Q a w
theorem Yq{n:Nat} {st0:St} {g0:au} {x b:Code} {l:Nat} (hx:Sound C E n st0 g0 x) (hb:Sound C E n st0 g0 b):∀(s:AS) (a:Act) (w:World) (K:Ex->AS->Prop) (Q:Exit->Act->World->Prop),eD C E n st0 g0 s a w->
   findLabel x l=none->vc C n x s (nC (fun s'=>rk n l s' (vc C n b) K) (qI K))->
   (∀ex s' a' w',K ex s'->eD C E n st0 g0 s' a' w'->Q (rS ex) a' w')->(Code.scope (.seq x (.seq (.label l) b))).wp C.P Q a w:=by
 intro s a w K Q hgo hf h hQ
 --where the label is come to for the first time,all that is needed later is told
 have hfind:findLabel (Code.seq x (Code.seq (Code.label l) b)) l=some (Code.seq Code.skip b):=by
  show(match findLabel x l with
   |some rest=>some (Code.seq rest (Code.seq (Code.label l) b))
   |none=>findLabel (Code.seq (Code.label l) b) l) =_
  rw[hf];show(match findLabel (Code.label l) l with
   |some rest=>some (Code.seq rest b)
   |none=>findLabel b l) =_
  have:findLabel (Code.label l) l=some Code.skip:=by simp[findLabel]
  rw[this]
 refine Zz l (fun m a w=>∃(X:Type) (inv:X->Prop) (I:X->AS) (μ:X->Nat) (y:X),inv y/\μ y=m/\eD C E n st0 g0 (I y) a w/\
  (∀x,inv x->oK (I x).tm []->iz (I x).sg->vc C n b (I x) (za l (fun s'=>∃(qs:List gz) (x':X),inv x'/\Sub n (s'.dq qs) (I x')/\μ x'<μ x) K))) hfind ?_ ?_
 . refine wp_seq (hx s a w _ _ hgo h fun ex s' a' w' hk hgo'=>?_);cases ex with
   |norm=>
     have hk:rk n l s' (vc C n b) K:=hk;obtain⟨X,inv,I,μ,ps,x0,h0,hs,hr⟩:=hk;have g1:=(hgo'.dq ps).sub hs;have hw:oK (I x0).tm []/\iz (I x0).sg:=by
      obtain⟨E',hE',st',g',R,hg,B⟩:=g1;exact⟨xW _ _ _ fun t _=>R.tm t,R.wr.wf⟩
     refine wp_seq (wp_label (show(b.wp C.P _) a' w' from ?_));refine hb (I x0) a' w' _ _ g1 (hr x0 h0 hw.1 hw.2) fun ex s2 a2 w2 hk hgo2=>?_;cases ex with
     |norm=>exact hQ .norm _ _ _ hk hgo2
     |exit id=>exact hQ (.exit id) _ _ _ hk hgo2
     |ret=>exact hQ .ret _ _ _ hk hgo2
     |pan u=>exact hQ (.pan u) _ _ _ hk hgo2
     |goto j=>
       simp only[za] at hk;split at hk
       . rename_i hj;obtain⟨qs,x',hi',h1,h2⟩:=hk;exact⟨aB hj,μ x',X,inv,I,μ,x',hi',rfl,(hgo2.dq qs).sub h1,hr⟩
       . exact hk.elim
   |exit id=>exact hQ (.exit id) _ _ _ hk hgo'
   |ret=>exact hQ .ret _ _ _ hk hgo'
   |goto j=>exact False.elim hk
   |pan u=>exact hQ (.pan u) _ _ _ hk hgo'
 . rintro m a w ⟨X,inv,I,μ,y,hy,hm,hgo,hr⟩;have hw:oK (I y).tm []/\iz (I y).sg:=by
    obtain⟨E',hE',st',g',R,hg,B⟩:=hgo;exact⟨xW _ _ _ fun t _=>R.tm t,R.wr.wf⟩
   refine wp_seq (wp_skip (show(b.wp C.P _) a w from ?_));refine hb (I y) a w _ _ hgo (hr y hy hw.1 hw.2) fun ex s2 a2 w2 hk hgo2=>?_;cases ex with
   |norm=>exact hQ .norm _ _ _ hk hgo2
   |exit id=>exact hQ (.exit id) _ _ _ hk hgo2
   |ret=>exact hQ .ret _ _ _ hk hgo2
   |pan u=>exact hQ (.pan u) _ _ _ hk hgo2
   |goto j=>
     simp only[za] at hk;split at hk
     . rename_i hj;obtain⟨qs,x',hi',h1,h2⟩:=hk;exact⟨aB hj,μ x',by omega,X,inv,I,μ,x',hi',rfl,(hgo2.dq qs).sub h1,hr⟩
     . exact hk.elim

theorem Zp{n:Nat} {c:Code} {K:Ex->AS->Prop}:vc C n (.scope c) s K->(∃a l b,c=.seq a (.seq (.label l) b)/\findLabel a l=none/\vc C n a s (nC (fun s'=>rk n l s' (vc C n b) K) (qI K)))\/vc C n c s (qI K):=by
 intro h;cases c with
 |seq a y=>
   cases y with
   |seq l b=>
     cases l with
     |label l=>
       left;refine⟨a,l,b,rfl,?_⟩;have h:(match findLabel a l with
        |none=>vc C n a s (nC (fun s'=>rk n l s' (vc C n b) K) (qI K))
        |some _=>False):=h
       split at h
       . rename_i hf;exact⟨hf,h⟩
       . exact h.elim
     |_=>right;exact h
   |_=>right;exact h
 |_=>right;exact h
theorem aF.ds{E:Env} {st:St} {g:au} {sg:List O} {w:World} (R:aF E st g sg w) (D:List Deferred):aF {E with ds:=D} st g sg w:=
 ⟨R.os,R.tape,R.output,R.size,R.gnew,R.sub,R.stG,R.stw,R.fr,fun i o h=>by
  have:=R.ob i o h;cases o<;>exact this,R.inj⟩
theorem aF.sP{E:Env} {D:List Deferred} {st:St} {g:au} {sg:List O} {w:World} (R:aF {E with ds:=D} st g sg w):aF E st g sg w:=
 ⟨R.os,R.tape,R.output,R.size,R.gnew,R.sub,R.stG,R.stw,R.fr,fun i o h=>by
  have:=R.ob i o h;cases o<;>exact this,R.inj⟩
theorem aF.env{E1 E2:Env} {st:St} {g:au} {sg:List O} {w w':World} (R:aF E1 st g sg w) (hos:w'.os=E2.w0.os) (htp:w'.tape=E2.w0.tape) (hou:w'.output=E2.w0.output) (hsz:E2.w0.heap.size<=w'.heap.size)
   (hgn:∀b,E2.w0.heap.size<=b->E2.G b) (hsub:∀b o v,E2.st0 b o=some v->st b o=some v) (hstG:∀b o v,st b o=some v->E2.st0 b o=some v\/E2.G b)
   (hG:∀i b,i<sg.length->(g i).blk=some b->E2.G b) (hheap:∀b,(∃i,i<sg.length/\(g i).blk=some b)\/(∃o v,st b o=some v)->w'.heap[b]?=w.heap[b]?)
   (hle:w.heap.size<=w'.heap.size) (hfr:∀b,¬E2.G b->w'.heap[b]?=E2.w0.heap[b]?):aF E2 st g sg w' where
 os:=hos
 tape:=htp
 output:=hou
 size:=hsz
 gnew:=hgn
 sub:=hsub
 stG:=hstG
 stw:=fun b o v h=>by rw[rv (hheap b (.inr ⟨o,v,h⟩))];exact R.stw b o v h
 fr:=hfr
 ob:=fun i o ho=>by
  have h:=R.ob i o ho;have hi:i<sg.length:=by
   rcases d7 i sg.length with q|q
   . exact q
   . rw[ci q] at ho;cases ho
  cases o with
  |dead=>exact fun b hb=>⟨Nat.lt_of_lt_of_le (h b hb).1 hle,hG i b hi hb⟩
  |cells cs=>
    obtain⟨b,c,el,fr,h1,h2,h3,h4⟩:=h;exact⟨b,c,el,fr,h1,hG i b hi h1,(hheap b (.inl ⟨i,hi,h1⟩)).trans h3,h4⟩
  |buf sz pre l=>
    obtain⟨h1,h2,h3,h4,h5,h6,h7⟩:=h;refine⟨h1,h2,h3,h4,h5,h6,?_⟩;rcases h7 with h7|⟨b,c,el,fr,k1,k2,k3,k4,k5⟩
    . exact .inl h7
    . exact .inr ⟨b,c,el,fr,k1,k2,hG i b hi k1,(hheap b (.inl ⟨i,hi,k1⟩)).trans k4,k5⟩
  |siter ss pos=>
    obtain⟨h1,b,h2,h3,h4⟩:=h;exact⟨h1,b,h2,hG i b hi h2,(hheap b (.inl ⟨i,hi,h2⟩)).trans h4⟩
  |map ag sh es bs ck=>
    obtain⟨b,arr,h1,h2,h3,h4⟩:=h;exact⟨b,arr,h1,hG i b hi h1,(hheap b (.inl ⟨i,hi,h1⟩)).trans h3,h4⟩
  |miter m bs ck l x=>
    obtain⟨b,b',seen,h1,h2,h3,h4⟩:=h;exact⟨b,b',seen,h1,hG i b hi h1,(hheap b (.inl ⟨i,hi,h1⟩)).trans h3,h4⟩
 inj:=R.inj
theorem aF.Bo{E1:Env} {st:St} {g:au} {sg:List O} {w:World} (R:aF E1 st g sg w) {b o:Nat} {v:Value} (h:st b o=some v):∃c el fr,w.heap[b]?=some (.cells c el fr):=by
 have h:=R.stw b o v h;simp only[World.cell?] at h;split at h
 . rename_i c el fr hh;exact⟨_,_,_,hh⟩
 . cases h
theorem jo.refl{E0:Env} (hg:∀b,E0.w0.heap.size<=b->E0.G b):jo E0 E0:=
 ⟨fun _ h=>h,fun _ _=>rfl,rfl,rfl,rfl,cb _,rfl,hg,[],rfl,List.nodup_nil,fun _ h=>by cases h⟩
theorem jo.whole{E0 E1:Env} (h:jo E0 E1) {st:St} {g:au} {sg:List O} {w:World} (R:aF E1 st g sg w):aF E0 st g sg w:=
 R.env (R.os.trans h.os) (R.tape.trans h.tape) (R.output.trans h.output) (Nat.le_trans h.size R.size) h.gnew (by rw[<-h.st0];exact R.sub)
  (fun b o v k=>by rw[<-h.st0];exact(R.stG b o v k).imp id (h.G b)) (fun i b hi hb=>h.G b (R.cH hi hb).2) (fun _ _=>rfl) (cb _) (fun b hb=>(R.fr b fun k=>hb (h.G b k)).trans (h.w0 b hb))
theorem ZY{F:Fence} (hF:WF F) (G:cq C) {n:Nat} {st0:St} {g0:au} (hY:∀E',jo E E'->iD C E' n st0 g0):∀(c:Code),px c=true->∀(s:AS) (a:Act) (w:World) (K:Ex->AS->Prop) (Q:Exit->Act->World->Prop),eD C E n st0 g0 s a w->vc C n c s K->
   (∀ex s' a' w',K ex s'->eD C E n st0 g0 s' a' w'->Q (rS ex) a' w')->c.wpIn F 0 C.P Q a w:=by
 intro c
 induction c with
 |skip=>intro _ s a w K Q hgo h hQ;exact wpIn_skip (hQ .norm _ _ _ h hgo)
 |label l=>intro _ s a w K Q hgo h hQ;exact wpIn_label (hQ .norm _ _ _ h hgo)
 |region id ops drawn=>
   intro hs0 s0 a w K Q hgo0 h hQ;have hgo:=hgo0.dq (C.hint id);generalize hs:s0.dq (C.hint id) =s at hgo;obtain⟨E',hE',st',g',R,hg,B⟩:=hgo;have hK:∀s' a' w',K .norm s'->Go C E' st' g' s s' a' w'->Q .normal a' w':=fun s' a' w' hk hgo=>by
    obtain⟨st2,g2,R2,hg2,A⟩:=hgo;exact hQ .norm _ _ _ hk ⟨E',hE',st2,g2,R2,hg2,B.rq A⟩
   have hX:∀u s' a' w',K (.pan u) s'->Go C E' st' g' s s' a' w'->Q (.panic [{v:=u,recovered:=false}]) a' w':=fun u s' a' w' hk hgo=>by
    obtain⟨st2,g2,R2,hg2,A⟩:=hgo;exact hQ (.pan u) _ _ _ hk ⟨E',hE',st2,g2,R2,hg2,B.rq A⟩
   cases drawn with
   |false=>
     simp only[vc,E6,hs] at h;exact Md hF (hY E' hE') R hg G B h hK hX
   |true=>simp[px] at hs0
 |seq x y ihx ihy=>
   intro hs s a w K Q hgo h hQ;simp only[px,zza] at hs;refine wpIn_seq (ihx hs.1 s a w _ _ hgo h fun ex s' a' w' hk hgo'=>?_);cases ex with
   |norm=>exact ihy hs.2 s' a' w' K Q hgo' hk hQ
   |exit id=>exact hQ (.exit id) _ _ _ hk hgo'
   |ret=>exact hQ .ret _ _ _ hk hgo'
   |goto j=>exact hQ (.goto j) _ _ _ hk hgo'
   |pan u=>exact hQ (.pan u) _ _ _ hk hgo'
 |cond c x y ihx ihy=>
   intro hs s a w K Q hgo h hQ;simp only[px,zza] at hs;simp only[vc] at h;split at h
   . rename_i b hb;have hgo':=hgo;obtain⟨E',hE',st',g',R,hg,B⟩:=hgo';have hv:=aR (C:=C) R hg c;rw[hb] at hv;simp only[VR] at hv;cases b with
     |true=>
       have h:si s c true fun s=>vc C n x s K:=h;obtain⟨s',h1,h2⟩:=zJ h hb hgo;exact wpIn_cond_true hv (ihx hs.1 s' a w K Q h2 h1 hQ)
     |false=>
       have h:si s c false fun s=>vc C n y s K:=h;obtain⟨s',h1,h2⟩:=zJ h hb hgo;exact wpIn_cond_false hv (ihy hs.2 s' a w K Q h2 h1 hQ)
   . exact h.elim
 |block id c ih=>
   intro hs s a w K Q hgo h hQ;refine wpIn_block (ih hs s a w _ _ hgo h fun ex s' a' w' hk hgo'=>?_);cases ex with
   |norm=>exact hQ .norm _ _ _ hk hgo'
   |exit j=>
     simp only[rS,Exit.inBlock];by_cases hj:j=id
     . subst hj;rw[if_pos rfl];simp only[vL,show Nat.beq j j=true from Nat.beq_refl j] at hk;exact hQ .norm _ _ _ hk hgo'
     . rw[if_neg hj];have:Nat.beq j id=false:=by
        cases hb:Nat.beq j id with
        |false=>rfl
        |true=>exact absurd (aB hb) hj
       simp only[vL,this] at hk;exact hQ (.exit j) _ _ _ hk hgo'
   |ret=>exact hQ .ret _ _ _ hk hgo'
   |goto j=>exact hQ (.goto j) _ _ _ hk hgo'
   |pan u=>exact hQ (.pan u) _ _ _ hk hgo'
 |loop c ih=>
   intro hs s a w K Q hgo h hQ;simp only[px] at hs;have h:aZ n s (vc C n c) K:=h;obtain⟨X,inv,I,μ,ps,x0,h0,hs0,hr⟩:=h;refine wpIn_loop_ghost (fun m a w=>∃x,inv x/\μ x=m/\eD C E n st0 g0 (I x) a w) (μ x0) ⟨x0,h0,rfl,(hgo.dq ps).sub hs0⟩ fun m a w ⟨x,hi,hm,hgo⟩=>?_;have hw:oK (I x).tm []/\iz (I x).sg:=by
    obtain⟨E',hE',st',g',R,hg,B⟩:=hgo;exact⟨xW _ _ _ fun t _=>R.tm t,R.wr.wf⟩
   refine ih hs (I x) a w _ _ hgo (hr x hi hw.1 hw.2) fun ex s' a' w' hk hgo'=>?_;cases ex with
   |norm=>
     obtain⟨qs,x',hi',h1,h2⟩:=hk;exact⟨μ x',by omega,x',hi',rfl,(hgo'.dq qs).sub h1⟩
   |exit id=>exact hQ (.exit id) _ _ _ hk hgo'
   |ret=>exact hQ .ret _ _ _ hk hgo'
   |goto j=>exact hQ (.goto j) _ _ _ hk hgo'
   |pan u=>exact hQ (.pan u) _ _ _ hk hgo'
 |exit id=>intro _ s a w K Q hgo h hQ;exact wpIn_exit (hQ (.exit id) _ _ _ h hgo)
 |ret=>intro _ s a w K Q hgo h hQ;exact wpIn_ret (hQ .ret _ _ _ h hgo)
 |goto l=>intro _ s a w K Q hgo h hQ;exact wpIn_goto (hQ (.goto l) _ _ _ h hgo)
 |_=>intro hs;simp[px] at hs
theorem Zq(G:cq C) {n:Nat} {st0:St} {g0:au} (hY:∀E',jo E E'->iD C E' n st0 g0):∀(k:Nat) (c:Code),SizeOf.sizeOf c<=k->Sound C E n st0 g0 c:=by
 intro k
 induction k with
 |zero=>intro c hc;cases c<;>simp at hc
 |succ k IH=>
 intro c hc;cases c with
 |skip=>intro s a w K Q hgo h hQ;exact wp_skip (hQ .norm _ _ _ h hgo)
 |label l=>intro s a w K Q hgo h hQ;exact wp_label (hQ .norm _ _ _ h hgo)
 |region id ops drawn=>
   intro s0 a w K Q hgo0 h hQ;have hgo:=hgo0.dq (C.hint id);generalize hs:s0.dq (C.hint id) =s at hgo;obtain⟨E',hE',st',g',R,hg,B⟩:=hgo;have hK:∀s' a' w',K .norm s'->Go C E' st' g' s s' a' w'->Q .normal a' w':=fun s' a' w' hk hgo=>by
    obtain⟨st2,g2,R2,hg2,A⟩:=hgo;exact hQ .norm _ _ _ hk ⟨E',hE',st2,g2,R2,hg2,B.rq A⟩
   have hX:∀u s' a' w',K (.pan u) s'->Go C E' st' g' s s' a' w'->Q (.panic [{v:=u,recovered:=false}]) a' w':=fun u s' a' w' hk hgo=>by
    obtain⟨st2,g2,R2,hg2,A⟩:=hgo;exact hQ (.pan u) _ _ _ hk ⟨E',hE',st2,g2,R2,hg2,B.rq A⟩
   cases drawn with
   |false=>
     simp only[vc,E6,hs] at h;exact El (hY E' hE') R hg G B h hK hX
   |true=>
     simp only[vc,E6,hs] at h;cases hp:C.pdr id with
     |false=>rw[hp] at h;exact P7 R hg G h hK
     |true=>rw[hp] at h;exact P8 R hg G h hK hX
 |seq x y=>
   have ihx:=IH x (by simp at hc;omega);have ihy:=IH y (by simp at hc;omega);intro s a w K Q hgo h hQ;refine wp_seq (ihx s a w _ _ hgo h fun ex s' a' w' hk hgo'=>?_);cases ex with
   |norm=>exact ihy s' a' w' K Q hgo' hk hQ
   |exit id=>exact hQ (.exit id) _ _ _ hk hgo'
   |ret=>exact hQ .ret _ _ _ hk hgo'
   |goto j=>exact hQ (.goto j) _ _ _ hk hgo'
   |pan u=>exact hQ (.pan u) _ _ _ hk hgo'
 |cond c x y=>
   have ihx:=IH x (by simp at hc;omega);have ihy:=IH y (by simp at hc;omega);intro s a w K Q hgo h hQ;simp only[vc] at h;split at h
   . rename_i b hb;have hgo':=hgo;obtain⟨E',hE',st',g',R,hg,B⟩:=hgo';have hv:=aR (C:=C) R hg c;rw[hb] at hv;simp only[VR] at hv;cases b with
     |true=>
       have h:si s c true fun s=>vc C n x s K:=h;obtain⟨s',h1,h2⟩:=zJ h hb hgo;exact wp_cond_true hv (ihx s' a w K Q h2 h1 hQ)
     |false=>
       have h:si s c false fun s=>vc C n y s K:=h;obtain⟨s',h1,h2⟩:=zJ h hb hgo;exact wp_cond_false hv (ihy s' a w K Q h2 h1 hQ)
   . exact h.elim
 |block id c=>
   have ih:=IH c (by simp at hc;omega);intro s a w K Q hgo h hQ;refine wp_block (ih s a w _ _ hgo h fun ex s' a' w' hk hgo'=>?_);cases ex with
   |norm=>exact hQ .norm _ _ _ hk hgo'
   |exit j=>
     simp only[rS,Exit.inBlock];by_cases hj:j=id
     . subst hj;rw[if_pos rfl];simp only[vL,show Nat.beq j j=true from Nat.beq_refl j] at hk;exact hQ .norm _ _ _ hk hgo'
     . rw[if_neg hj];have:Nat.beq j id=false:=by
        cases hb:Nat.beq j id with
        |false=>rfl
        |true=>exact absurd (aB hb) hj
       simp only[vL,this] at hk;exact hQ (.exit j) _ _ _ hk hgo'
   |ret=>exact hQ .ret _ _ _ hk hgo'
   |goto j=>exact hQ (.goto j) _ _ _ hk hgo'
   |pan u=>exact hQ (.pan u) _ _ _ hk hgo'
 |loop c=>
   have ih:=IH c (by simp at hc;omega);intro s a w K Q hgo h hQ;have h:aZ n s (vc C n c) K:=h;obtain⟨X,inv,I,μ,ps,x0,h0,hs,hr⟩:=h;refine wp_loop_ghost (fun m a w=>∃x,inv x/\μ x=m/\eD C E n st0 g0 (I x) a w) (μ x0) ⟨x0,h0,rfl,(hgo.dq ps).sub hs⟩ fun m a w ⟨x,hi,hm,hgo⟩=>?_;have hw:oK (I x).tm []/\iz (I x).sg:=by
    obtain⟨E',hE',st',g',R,hg,B⟩:=hgo;exact⟨xW _ _ _ fun t _=>R.tm t,R.wr.wf⟩
   refine ih (I x) a w _ _ hgo (hr x hi hw.1 hw.2) fun ex s' a' w' hk hgo'=>?_;cases ex with
   |norm=>
     obtain⟨qs,x',hi',h1,h2⟩:=hk;exact⟨μ x',by omega,x',hi',rfl,(hgo'.dq qs).sub h1⟩
   |exit id=>exact hQ (.exit id) _ _ _ hk hgo'
   |ret=>exact hQ .ret _ _ _ hk hgo'
   |goto j=>exact hQ (.goto j) _ _ _ hk hgo'
   |pan u=>exact hQ (.pan u) _ _ _ hk hgo'
 |scope c=>
   have ih:=IH c (by simp at hc;omega);intro s a w K Q hgo h hQ;have straight:vc C n c s (qI K)->(Code.scope c).wp C.P Q a w:=fun h=>by
    refine wp_scope_straight (ih s a w (qI K) _ hgo h fun ex s' a' w' hk hgo'=>?_);cases ex with
    |goto j=>exact False.elim hk
    |pan u=>exact hQ (.pan u) _ _ _ hk hgo'
    |norm=>exact hQ .norm _ _ _ hk hgo'
    |exit id=>exact hQ (.exit id) _ _ _ hk hgo'
    |ret=>exact hQ .ret _ _ _ hk hgo'
   rcases Zp h with ⟨x,l,b,rfl,hf,h⟩|h
   . exact Yq (IH x (by simp at hc;omega)) (IH b (by simp at hc;omega)) s a w K Q hgo hf h hQ
   . exact straight h
 |exit id=>intro s a w K Q hgo h hQ;exact wp_exit (hQ (.exit id) _ _ _ h hgo)
 |ret=>intro s a w K Q hgo h hQ;exact wp_ret (hQ .ret _ _ _ h hgo)
 |goto l=>intro s a w K Q hgo h hQ;exact wp_goto (hQ (.goto l) _ _ _ h hgo)
 |_=>intro s a w K Q hgo h hQ;exact h.elim
theorem pH(G:cq C) {n:Nat} {st0:St} {g0:au} (hY:∀E',jo E E'->iD C E' n st0 g0) (c:Code):Sound C E n st0 g0 c:=Zq G hY _ c (cb _)

def Bu:Nat->Code->Code
 |k+2,.seq a b=>.seq a (Bu (k+1) b)
 |1,.seq a _=>a
 |_,c=>c
def Cr:Nat->Code->Code
 |k+2,.seq _ b=>Cr (k+1) b
 |1,.seq _ b=>b
 |_,_=>.skip
def okC:Nat->Code->Bool
 |k+2,.seq _ b=>okC (k+1) b
 |1,.seq _ _=>true
 |_,_=>false
inductive ld (C:Ctx) (n:Nat) (K:Ex->AS->Prop):Code->AS->Prop
 |vc {c:Code} {s:AS} (h:vc C n c s K):ld C n K c s
 |cut {c:Code} {s:AS} (k:Nat) (X:Type) (inv:X->Prop) (I:X->AS) (hk:okC k c=true) (h1:VG.vc C n (Bu k c) s (nC (fun s'=>∃(qs:List gz) (x:X),inv x/\Sub n (s'.dq qs) (I x)) K))
  (h2:∀x,inv x->ld C n K (Cr k c) (I x)):ld C n K c s
theorem HI(G:cq C) {n:Nat} {st0:St} {g0:au} (hY:∀E',jo E E'->iD C E' n st0 g0) {K:Ex->AS->Prop} {f:AS->Prop} {Q:Exit->Act->World->Prop}:
   ∀(k:Nat) (c:Code) (s:AS) (a:Act) (w:World),okC k c=true->eD C E n st0 g0 s a w->vc C n (Bu k c) s (nC f K)->(∀s' a' w',f s'->eD C E n st0 g0 s' a' w'->(Cr k c).wp C.P Q a' w')->
   (∀ex s' a' w',K ex s'->eD C E n st0 g0 s' a' w'->Q (rS ex) a' w')->c.wp C.P Q a w
 |0,c,_,_,_,hk,_,_,_,_=>by cases c<;>cases hk
 |1,c,s,a,w,hk,hg,h,hf,hQ=>by
   cases c with
   |seq x y=>
     refine wp_seq (pH G hY x s a w _ _ hg h fun ex s' a' w' h1 h2=>?_);cases ex with
     |norm=>exact hf s' a' w' h1 h2
     |ret=>exact hQ _ _ _ _ h1 h2
     |exit id=>exact hQ _ _ _ _ h1 h2
     |goto l=>exact hQ _ _ _ _ h1 h2
     |pan v=>exact hQ _ _ _ _ h1 h2
   |_=>cases hk
 |k+2,c,s,a,w,hk,hg,h,hf,hQ=>by
   cases c with
   |seq x y=>
     have h:vc C n (.seq x (Bu (k+1) y)) s (nC f K):=h;rw[vc] at h;refine wp_seq (pH G hY x s a w _ _ hg h fun ex s' a' w' h1 h2=>?_);cases ex with
     |norm=>exact HI G hY (k+1) y s' a' w' hk h2 h1 hf hQ
     |ret=>exact hQ _ _ _ _ h1 h2
     |exit id=>exact hQ _ _ _ _ h1 h2
     |goto l=>exact hQ _ _ _ _ h1 h2
     |pan v=>exact hQ _ _ _ _ h1 h2
   |_=>cases hk
theorem Zs(G:cq C) {n:Nat} {st0:St} {g0:au} (hY:∀E',jo E E'->iD C E' n st0 g0) {K:Ex->AS->Prop} {Q:Exit->Act->World->Prop} (hQ:∀ex s' a' w',K ex s'->eD C E n st0 g0 s' a' w'->Q (rS ex) a' w') {c:Code} {s:AS} (h:ld C n K c s):
   ∀(a:Act) (w:World),eD C E n st0 g0 s a w->c.wp C.P Q a w:=by
 induction h with
 |vc h=>exact fun a w hg=>pH G hY _ _ a w _ _ hg h hQ
 |cut k X inv I hk h1 h2 ih=>
   intro a w hg;refine HI G hY k _ _ a w hk hg h1 (fun s' a' w' ⟨qs,x,hx,hs⟩ hg'=>?_) hQ;exact ih x hx a' w' ((hg'.dq qs).sub hs)
theorem WV{agg:Bool} {size off:Nat} {cs:List V} {v:V} (h:DZ agg size cs off=some v) (K:V->Prop) (hk:K v):kN agg size cs off K:=by
 unfold DZ at h;unfold kN;cases agg with
 |true=>
   simp only at h⊢;cases hr:jO (ly cs off) size with
   |none=>rw[hr] at h;cases h
   |some r=>rw[hr] at h;cases h;exact hk
 |false=>
   simp only at h⊢;rw[h];exact hk

theorem En(G:Good C) (R:Rel E st g s a w):∀{rs:List ResultVar} {xs:List V},qQ C.ti s rs=some xs->∃vs:List Value,(rs.mapM fun|.tmp t=>pure (a.tmps.getD t undef)|.cell b t=>do loadVar t (<-asAddr (a.tmps.getD b undef)):Sem (List Value)).run C.P w=.ok vs w/\aC st g xs s.sg.length vs
  |[],xs,h=>by
    simp only[qQ,Option.some.injEq] at h;subst h;exact⟨[],by simp,by simp[aC]⟩
  |.tmp t::r,xs,h=>by
    simp only[qQ] at h;split at h
    . rename_i ys hy;cases h;obtain⟨vs,h1,h2⟩:=En G R hy;refine⟨a.tmps.getD t undef::vs,?_,cy (R.tm t) h2⟩;rw[List.mapM_cons];simp only[Sem.run_bind,Sem.run_pure,Result.andThen_ok];rw[h1];simp
    . cases h
  |.cell b t::r,xs,h=>by
    simp only[qQ] at h;split at h
    . rename_i i off hlk;split at h
      . rename_i cs hob;split at h
        . cases h
        . rename_i hk;have hk:(C.ti t).k≠.other:=fun h=>hk h;split at h
          . rename_i x ys hx hy;cases h;obtain⟨vs,h1,h2⟩:=En G R hy;have hv:=R.tm b;rw[hlk] at hv;simp only[VR] at hv;obtain⟨hi,bb,hbb,hv⟩:=hv;obtain⟨hs1,_⟩:=eY hob (by simp);obtain⟨b',c,el,fr,k1,k2,k3,k4,k5,k6⟩:=yx R.wr hs1;rw[hbb] at k1;cases k1;have hcell:∀j,j<c.toList.length->w.cell? ⟨bb,0+j,none⟩=c.toList[j]?:=fun j hj=>by rw[gZ k3];simp
            obtain⟨u,h5,h6⟩:=Ao (w:=w) (b:=bb) (o:=0) G hk k4 hcell (WV hx);rw[Nat.zero_add] at h5;refine⟨u::vs,?_,cy h6 h2⟩;rw[List.mapM_cons];have ha:(asAddr (a.tmps.getD b undef)).run C.P w=.ok ⟨bb,off,none⟩ w:=by rw[hv];rfl
            simp only[Sem.run_bind,Sem.run_pure,Result.andThen_ok,ha,h5];rw[h1];simp
          . cases h
      . cases h
    . cases h

theorem Ak(G:Good C) (R:Rel E st g s a w) {fn:Func} {x:V} (h:pw C.ti s fn.results.toList=some x):∃v,(results fn a.tmps).run C.P w=.ok v w/\VR st g x s.sg.length v:=by
 unfold pw at h;have key:∀xs,qQ C.ti s fn.results.toList=some xs->∃vs:List Value,aC st g xs s.sg.length vs/\(results fn a.tmps).run C.P w=.ok (if h:vs.toArray.size=1 then vs.toArray[0] else .tuple vs.toArray) w:=fun xs hx=>by
  obtain⟨vs,h1,h2⟩:=En G R hx;refine⟨vs,h2,?_⟩;unfold results;rw[Array.mapM_eq_mapM_toList];simp only[map_eq_pure_bind,bind_assoc,pure_bind];rw[Sem.run_bind]
  erw [h1]
  rfl
 split at h
 . rename_i x' hx;cases h;obtain⟨vs,h2,h3⟩:=key _ hx;refine⟨_,h3,?_⟩;simp only[aC] at h2;obtain⟨u,us,rfl,h5,rfl⟩:=h2;simpa using h5
 . rename_i xs hne hx;cases h;obtain⟨vs,h2,h3⟩:=key _ hx;refine⟨_,h3,?_⟩;have hl:=eN h2;rw[dif_neg (by
    intro h4;simp only[List.size_toArray] at h4;rw[h4] at hl
    match xs,hl with
    |[x],_=>exact hne x rfl)]
   simp only[VR];exact⟨_,rfl,by simpa using h2⟩
 . cases h

theorem we:∀(xs:List V) (i t:Nat),lk (hP xs i) t=if i<=t then xs.getD (t-i) .undef else .undef
 |[],i,t=>by simp[hP,lk]
 |x::xs,i,t=>by
   simp only[hP,lk];rw[we xs (i+1) t];cases hb:Nat.beq i t with
   |true=>
     have:=aB hb;subst this;simp
   |false=>
     have hne:i≠t:=fun e=>by subst e;rw[show Nat.beq i i=true from Nat.beq_refl i] at hb;cases hb
     simp only[cond_false];by_cases h:i<=t
     . rw[if_pos h,if_pos (by omega)];rw[show t-i=(t-(i+1))+1 by omega];simp
     . rw[if_neg h,if_neg (by omega)]

theorem xb{sg:List O} {aO:Bool}:∀{kl:List Nat},nx sg aO kl=true->∀i o,sg[i]?=some o->(aO=true\/o.gJ=false)->aH i kl=false
 |[],_,i,o,_,_=>rfl
 |k::kl,h,i,o,ho,hk=>by
   simp only[nx,zza] at h;simp only[aH,Bool.or_eq_false_iff];refine⟨?_,xb h.2 i o ho hk⟩;cases hb:Nat.beq i k with
   |false=>rfl
   |true=>
     exfalso;have:=aB hb;subst this;have hil:i<sg.length:=by
      rcases d7 i sg.length with h'|h'
      . exact h'
      . simp[ci h'] at ho
     have hg:aD sg i=o:=by rw[wG,ac,ho];rfl
     have h1:=h.1;rw[hg] at h1;split at h1
     . rcases hk with hk|hk
       . rw[hk] at h1;cases h1
       . simp[O.gJ] at hk
     . have:=d6 h1;omega

def shut(w:World):List Nat->World
 |[]=>w
 |D::Ds=>shut (w.putObj D (.deferred none)) Ds
theorem Aw:∀(Ds:List Nat) (w:World) (b:Nat),b∉Ds->(shut w Ds).heap[b]?=w.heap[b]?
 |[],_,_,_=>rfl
 |D::Ds,w,b,h=>by
   rw[shut,Aw Ds _ b (fun q=>h (d5 _ q))];exact World.putObj_heap_other (fun e=>h (by rw[e];exact List.mem_cons_self))
theorem Ax:∀(Ds:List Nat) (w:World),(shut w Ds).heap.size=w.heap.size/\(shut w Ds).os=w.os/\(shut w Ds).tape=w.tape/\(shut w Ds).output=w.output
 |[],_=>⟨rfl,rfl,rfl,rfl⟩
 |D::Ds,w=>by
   obtain⟨h1,h2,h3,h4⟩:=Ax Ds (w.putObj D (.deferred none));exact⟨h1.trans World.putObj_size,h2,h3,h4⟩
theorem KK{P:Program} {fn:Func} {tmps:Array Value} {R:Ending->World->Prop}:∀(Ds:List Nat) (w:World),Ds.Nodup->(∀D∈Ds,w.heap[D]?=some (.deferred (some [])))->
   (∃v,(results fn tmps).run P (shut w Ds) =.ok v (shut w Ds)/\R (.returned v) (shut w Ds))->LeavesInM Fence.wide 0 P fn tmps R (Ds.map fun D=>{target:=.collected D,args:=#[]}) .returning w
 |[],w,_,_,h=>h
 |D::Ds,w,hn,hD,h=>by
   refine⟨by simp,.inl ⟨D,w.putObj D (.deferred none),rfl,run_takeDeferred (hD D List.mem_cons_self),?_⟩⟩;have hn:=List.nodup_cons.1 hn;refine KK Ds _ hn.2 (fun D' h'=>?_) h;rw[World.putObj_heap_other (fun e=>hn.1 (by rw[<-e];exact h'))];exact hD D' (d5 _ h')
theorem OB(G:cq C) {f:FuncId} {fn:Func} {c:Code} {args:List V} {σ:List O} {x:V} {r:Option (List O)} (hf:C.P.funcs[f]?=some fn) (hb:fn.body=some c) (hn:(fn.name== "runtime.NumGoroutine") =false)
   (hnt:Nat.ble args.length fn.ntmps=true) (h:V.eK args->iz σ->ld C σ.length (Ends C.ti fn.results.toList σ x r) c ⟨fn.ntmps,hP args 0,σ,[]⟩) {E:Env} (hds:E.ds=[]) (st:St) (g:au) (hY:∀E',jo E E'->iD C E' σ.length st g) (w:World) (vs:List Value) (W:aF E st g σ w) (hg:aL C.gl st) (hv:aC st g args σ.length vs):
   Calls C.P f vs.toArray w fun e w'=>∃v st' g',e=.returned v/\aF E st' g' (r.getD σ) w'/\VR st' g' x (r.getD σ).length v/\(∀b o v,st b o=some v->st' b o=some v)/\
    σ.length<=(r.getD σ).length/\∀i o,σ[i]?=some o->(r=none\/fg (r.getD []) =true\/o.gJ=false)->g' i=g i:=by
 have hlen:=eN hv;have hnt':=d6 hnt;have hvc:=h (pQ hv) W.wf;have R:Rel E st g ⟨fn.ntmps,hP args 0,σ,[]⟩ {tmps:=vs.toArray++Array.replicate (fn.ntmps-vs.toArray.size) undef,defers:=[]} w:=by
  refine⟨by simp;omega,hds.symm,fun t=>?_,W⟩;show VR st g (lk (hP args 0) t) σ.length _;rw[we,if_pos (bu _),Nat.sub_zero];rcases d7 t args.length with h1|h1
  . have h2:args[t]?=some args[t]:=am h1;obtain⟨v,h3,h4⟩:=jQ hv h2;have h5:(vs.toArray++Array.replicate (fn.ntmps-vs.toArray.size) undef).getD t undef=v:=by
     rw[Array.getD_eq_getD_getElem?,Array.getElem?_append_left (by simp;omega)];simp[h3]
    rw[ac,h2];show VR st g args[t] σ.length ((vs.toArray++Array.replicate (fn.ntmps-vs.toArray.size) undef).getD t undef);rw[h5];exact h4
  . rw[ac,ci h1];simp[VR]
 refine callsIn_wide.1 (callsIn_of_wp_marks (F:=Fence.wide) (n:=0) hf hb trivial (wpIn_wide.2 (Zs G hY (fun ex s' a' w0' hk hgo=>?_) hvc _ w ⟨E,jo.refl W.gnew,st,g,R,hg,⟨fun _ _ _ h=>h,fun _ _ _=>rfl,cb _⟩⟩)));have hex0:ex=.norm\/ex=.ret:=by
  cases ex with
  |norm=>exact .inl rfl
  |ret=>exact .inr rfl
  |exit id=>exact hk.elim
  |goto l=>exact hk.elim
  |pan u=>exact hk.elim
 have hk0:ab C.ti fn.results.toList σ x r s':=by rcases hex0 with rfl|rfl<;>exact hk
 obtain⟨ps,hk1⟩:=hk0;replace hgo:=hgo.dq ps;clear hk;generalize s'.dq ps=s' at hgo hk1;obtain⟨E',hE',st',g',R0',hg',B⟩:=hgo;obtain⟨Ds,hDs,hnd,hDall⟩:=hE'.ds;have hdf:a'.defers=Ds.map fun D=>{target:=.collected D,args:=#[]}:=by rw[R0'.df,hDs,hds,List.append_nil]
 have hDh:∀D∈Ds,w0'.heap[D]?=some (.deferred (some [])):=fun D hD=>(R0'.wr.fr D (hDall D hD).2.1).trans (hDall D hD).2.2;obtain⟨w',hw'⟩:∃w',w'=shut w0' Ds:=⟨_,rfl⟩
 obtain⟨q1,q2,q3,q4⟩:=Ax Ds w0';rw[<-hw'] at q1 q2 q3 q4;have hheap:∀b,b∉Ds->w'.heap[b]?=w0'.heap[b]?:=fun b hb=>by rw[hw'];exact Aw Ds w0' b hb
 have RW:aF E st' g' s'.sg w':=by
  have R1:=hE'.whole R0'.wr;refine R1.env (q2.trans R1.os) (q3.trans R1.tape) (q4.trans R1.output) (by rw[q1];exact R1.size) R1.gnew R1.sub R1.stG (fun i b hi hb=>(R1.cH hi hb).2) (fun b hb=>hheap b fun hD=>?_) (by rw[q1];exact cb _) (fun b hb=>?_)
  . rcases hb with ⟨i,hi,hb⟩|⟨o,v,hv⟩
    . exact(hDall b hD).2.1 (R0'.wr.cH hi hb).2
    . obtain⟨c,el,fr,hc⟩:=R0'.wr.Bo hv;rw[hDh b hD] at hc;cases hc
  . rw[hheap b fun hD=>hb (hDall b hD).1];exact R1.fr b hb
 have R':Rel {E with ds:=a'.defers} st' g' s' a' w':=⟨R0'.nt,rfl,R0'.tm,RW.ds _⟩
 have hend:∀(x':V) (σ':List O),pw C.ti s' fn.results.toList=some x'->x'.il σ'.length=true->gm s'.sg σ' σ'.length->∃v,(results fn a'.tmps).run C.P w'=.ok v w'/\aF E st' g' σ' w'/\VR st' g' x' σ'.length v:=fun x' σ' h1 h2 h3=>by
  obtain⟨v,h4,h5⟩:=Ak G.toGood R' h1;exact⟨v,h4,RW.sK h3,gC (fun _ _ _ h=>h) (fun i hi _=>⟨rY h2 hi,rfl⟩) h5⟩
 unfold y0 at hk1;cases hres:pw C.ti s' fn.results.toList with
 |none=>rw[hres] at hk1;exact hk1.elim
 |some y=>
 rw[hres] at hk1;simp only[iu] at hk1;have hfin:(∃v,(results fn a'.tmps).run C.P w'=.ok v w'/\aF E st' g' (r.getD σ) w'/\VR st' g' x (r.getD σ).length v/\(∀b o v,st b o=some v->st' b o=some v)/\σ.length<=(r.getD σ).length/\∀i o,σ[i]?=some o->(r=none\/fg (r.getD []) =true\/o.gJ=false)->g' i=g i)/\(ex=.norm\/ex=.ret):=by
  have hex:=hex0;have hk':=hk1;refine⟨?_,hex⟩;have hkeep:∀aO,nx σ aO s'.kl=true->∀i o,σ[i]?=some o->(aO=true\/o.gJ=false)->g' i=g i:=fun aO hkl i o ho hor=>by
   refine B.aO i ?_ (xb hkl i o ho hor);rcases d7 i σ.length with h'|h'
   . exact h'
   . simp[ci h'] at ho
  cases r with
  |none=>
    obtain⟨h1,h2,h3,h4⟩:=hk';subst h1;obtain⟨v,q1,q2,q3⟩:=hend y σ hres h2 h3;exact⟨v,q1,q2,q3,B.mono,cb _,fun i o ho _=>hkeep true h4 i o ho (.inl rfl)⟩
  |some σ'=>
    obtain⟨h1,h2,h3,h4,h5⟩:=hk';subst h1;obtain⟨v,q1,q2,q3⟩:=hend y σ' hres h2 h3;exact⟨v,q1,q2,q3,B.mono,d6 h5,fun i o ho hor=>hkeep (fg σ') h4 i o ho (hor.resolve_left (by simp))⟩
 obtain⟨⟨v,h1,h2,h3,h4,h5,h6⟩,hex⟩:=hfin;have hfinal:LeavesInM Fence.wide 0 C.P fn a'.tmps (fun e w'=>∃v st' g',e=.returned v/\aF E st' g' (r.getD σ) w'/\VR st' g' x (r.getD σ).length v/\(∀b o v,st b o=some v->st' b o=some v)/\
    σ.length<=(r.getD σ).length/\∀i o,σ[i]?=some o->(r=none\/fg (r.getD []) =true\/o.gJ=false)->g' i=g i) a'.defers .returning w0':=by
  rw[hdf];refine KK Ds w0' hnd hDh ?_;rw[<-hw'];exact⟨v,h1,v,st',g',rfl,h2,h3,h4,h5,h6⟩
 rcases hex with rfl|rfl
 . exact hfinal
 . exact hfinal
theorem yX(G:cq C) {f:FuncId} {fn:Func} {c:Code} {args:List V} {σ:List O} {x:V} {r:Option (List O)} (hf:C.P.funcs[f]?=some fn) (hb:fn.body=some c) (hn:(fn.name== "runtime.NumGoroutine") =false)
   (hnt:Nat.ble args.length fn.ntmps=true) (h:V.eK args->iz σ->ld C σ.length (Ends C.ti fn.results.toList σ x r) c ⟨fn.ntmps,hP args 0,σ,[]⟩) (hy:C.yd=fun _ _ _ _=>none:=by rfl):eU C.P C.gl f args σ x r:=by
 refine⟨⟨fn,hf,hn,by rw[hb];rfl⟩,fun E st g w vs W hg hv=>?_⟩;refine Calls.mono (OB G hf hb hn hnt h (E:={E with ds:=[]}) rfl st g (fun _ _=>iD.none hy) w vs (W.ds []) hg hv) ?_;rintro e w' ⟨v,st',g',h1,h2,h3,h4,h5,h6⟩;exact⟨v,st',g',h1,h2.sP,h3,h4,h5,h6⟩
theorem SW(G:cq C) {f:FuncId} {fn:Func} {c:Code} {args:List V} {σ:List O} {x:V} {r:Option (List O)} (hf:C.P.funcs[f]?=some fn) (hb:fn.body=some c) (hn:(fn.name== "runtime.NumGoroutine") =false)
   (hnt:Nat.ble args.length fn.ntmps=true) (h:V.eK args->iz σ->vc C σ.length c ⟨fn.ntmps,hP args 0,σ,[]⟩ (Ends C.ti fn.results.toList σ x r)) (hy:C.yd=fun _ _ _ _=>none:=by rfl):eU C.P C.gl f args σ x r:=
 yX G hf hb hn hnt (fun h1 h2=>.vc (h h1 h2)) hy
theorem aq(G:cq C) {f:FuncId} {fn:Func} {c:Code} {args:List V} {σ:List O} {x:V} {r:Option (List O)} (h:V.eK args->iz σ->vc C σ.length c ⟨fn.ntmps,hP args 0,σ,[]⟩ (Ends C.ti fn.results.toList σ x r)) (hf:C.P.funcs[f]?=some fn:=by rfl) (hb:fn.body=some c:=by rfl)
 (hn:(fn.name== "runtime.NumGoroutine") =false:=by rfl) (hnt:Nat.ble args.length fn.ntmps=true:=by rfl) (hy:C.yd=fun _ _ _ _=>none:=by rfl):eU C.P C.gl f args σ x r:=SW G hf hb hn hnt h hy
theorem KL{P:Program} {fn:Func} {tmps:Array Value} {R:Ending->World->Prop} {ch:List PanicEntry}:∀(Ds:List Nat) (w:World),Ds.Nodup->(∀D∈Ds,w.heap[D]?=some (.deferred (some [])))->
   R (.panicked ch) (shut w Ds)->LeavesInM Fence.wide 0 P fn tmps R (Ds.map fun D=>{target:=.collected D,args:=#[]}) (.panicking ch) w
 |[],w,_,_,h=>h
 |D::Ds,w,hn,hD,h=>by
   refine⟨by simp,.inl ⟨D,w.putObj D (.deferred none),rfl,run_takeDeferred (hD D List.mem_cons_self),?_⟩⟩;have hn:=List.nodup_cons.1 hn;refine KL Ds _ hn.2 (fun D' h'=>?_) h;rw[World.putObj_heap_other (fun e=>hn.1 (by rw[<-e];exact h'))];exact hD D' (d5 _ h')
theorem OA(G:cq C) {f:FuncId} {fn:Func} {c:Code} {args:List V} {σ:List O} {u:Value} {r:Option (List O)} (hf:C.P.funcs[f]?=some fn) (hb:fn.body=some c) (hn:(fn.name== "runtime.NumGoroutine") =false)
   (hnt:Nat.ble args.length fn.ntmps=true) (h:V.eK args->iz σ->vc C σ.length c ⟨fn.ntmps,hP args 0,σ,[]⟩ (GV u σ r)) {E:Env} (hds:E.ds=[]) (st:St) (g:au) (hY:∀E',jo E E'->iD C E' σ.length st g) (w:World) (vs:List Value) (W:aF E st g σ w) (hg:aL C.gl st) (hv:aC st g args σ.length vs):
   Calls C.P f vs.toArray w fun e w'=>∃st' g',e=.panicked [{v:=u,recovered:=false}]/\aF E st' g' (r.getD σ) w'/\(∀b o v,st b o=some v->st' b o=some v)/\
    σ.length<=(r.getD σ).length/\∀i o,σ[i]?=some o->(r=none\/fg (r.getD []) =true\/o.gJ=false)->g' i=g i:=by
 have hlen:=eN hv;have hnt':=d6 hnt;have hvc:=h (pQ hv) W.wf;have R:Rel E st g ⟨fn.ntmps,hP args 0,σ,[]⟩ {tmps:=vs.toArray++Array.replicate (fn.ntmps-vs.toArray.size) undef,defers:=[]} w:=by
  refine⟨by simp;omega,hds.symm,fun t=>?_,W⟩;show VR st g (lk (hP args 0) t) σ.length _;rw[we,if_pos (bu _),Nat.sub_zero];rcases d7 t args.length with h1|h1
  . have h2:args[t]?=some args[t]:=am h1;obtain⟨v,h3,h4⟩:=jQ hv h2;have h5:(vs.toArray++Array.replicate (fn.ntmps-vs.toArray.size) undef).getD t undef=v:=by
     rw[Array.getD_eq_getD_getElem?,Array.getElem?_append_left (by simp;omega)];simp[h3]
    rw[ac,h2];show VR st g args[t] σ.length ((vs.toArray++Array.replicate (fn.ntmps-vs.toArray.size) undef).getD t undef);rw[h5];exact h4
  . rw[ac,ci h1];simp[VR]
 refine callsIn_wide.1 (callsIn_of_wp_marks (F:=Fence.wide) (n:=0) hf hb trivial (wpIn_wide.2 (pH G hY c _ _ w _ _ ⟨E,jo.refl W.gnew,st,g,R,hg,⟨fun _ _ _ h=>h,fun _ _ _=>rfl,cb _⟩⟩ hvc fun ex s' a' w0' hk hgo=>?_)));have hex0:ex=.pan u/\bC σ r s':=by
  cases ex with
  |norm=>exact hk.elim
  |ret=>exact hk.elim
  |exit id=>exact hk.elim
  |goto l=>exact hk.elim
  |pan v=>exact⟨by rw[hk.1],hk.2⟩
 obtain⟨rfl,ps,hk1⟩:=hex0;replace hgo:=hgo.dq ps;clear hk;generalize s'.dq ps=s' at hgo hk1;obtain⟨E',hE',st',g',R0',hg',B⟩:=hgo;obtain⟨Ds,hDs,hnd,hDall⟩:=hE'.ds;have hdf:a'.defers=Ds.map fun D=>{target:=.collected D,args:=#[]}:=by rw[R0'.df,hDs,hds,List.append_nil]
 have hDh:∀D∈Ds,w0'.heap[D]?=some (.deferred (some [])):=fun D hD=>(R0'.wr.fr D (hDall D hD).2.1).trans (hDall D hD).2.2;obtain⟨w',hw'⟩:∃w',w'=shut w0' Ds:=⟨_,rfl⟩
 obtain⟨q1,q2,q3,q4⟩:=Ax Ds w0';rw[<-hw'] at q1 q2 q3 q4;have hheap:∀b,b∉Ds->w'.heap[b]?=w0'.heap[b]?:=fun b hb=>by rw[hw'];exact Aw Ds w0' b hb
 have RW:aF E st' g' s'.sg w':=by
  have R1:=hE'.whole R0'.wr;refine R1.env (q2.trans R1.os) (q3.trans R1.tape) (q4.trans R1.output) (by rw[q1];exact R1.size) R1.gnew R1.sub R1.stG (fun i b hi hb=>(R1.cH hi hb).2) (fun b hb=>hheap b fun hD=>?_) (by rw[q1];exact cb _) (fun b hb=>?_)
  . rcases hb with ⟨i,hi,hb⟩|⟨o,v,hv⟩
    . exact(hDall b hD).2.1 (R0'.wr.cH hi hb).2
    . obtain⟨c,el,fr,hc⟩:=R0'.wr.Bo hv;rw[hDh b hD] at hc;cases hc
  . rw[hheap b fun hD=>hb (hDall b hD).1];exact R1.fr b hb
 have R':Rel {E with ds:=a'.defers} st' g' s' a' w':=⟨R0'.nt,rfl,R0'.tm,RW.ds _⟩
 have hfin:aF E st' g' (r.getD σ) w'/\(∀b o v,st b o=some v->st' b o=some v)/\σ.length<=(r.getD σ).length/\∀i o,σ[i]?=some o->(r=none\/fg (r.getD []) =true\/o.gJ=false)->g' i=g i:=by
  have hkeep:∀aO,nx σ aO s'.kl=true->∀i o,σ[i]?=some o->(aO=true\/o.gJ=false)->g' i=g i:=fun aO hkl i o ho hor=>by
   refine B.aO i ?_ (xb hkl i o ho hor);rcases d7 i σ.length with h'|h'
   . exact h'
   . simp[ci h'] at ho
  cases r with
  |none=>
    obtain⟨h3,h4⟩:=hk1;exact⟨RW.sK h3,B.mono,cb _,fun i o ho _=>hkeep true h4 i o ho (.inl rfl)⟩
  |some σ'=>
    obtain⟨h3,h4,h5⟩:=hk1;exact⟨RW.sK h3,B.mono,d6 h5,fun i o ho hor=>hkeep (fg σ') h4 i o ho (hor.resolve_left (by simp))⟩
 obtain⟨h2,h4,h5,h6⟩:=hfin;show LeavesInM Fence.wide 0 C.P fn a'.tmps _ a'.defers (.panicking [{v:=u,recovered:=false}]) w0';rw[hdf];refine KL Ds w0' hnd hDh ?_;rw[<-hw'];exact⟨st',g',rfl,h2,h4,h5,h6⟩
theorem jA(G:cq C) {f:FuncId} {fn:Func} {c:Code} {args:List V} {σ:List O} {u:Value} {r:Option (List O)} (hf:C.P.funcs[f]?=some fn) (hb:fn.body=some c) (hn:(fn.name== "runtime.NumGoroutine") =false)
   (hnt:Nat.ble args.length fn.ntmps=true) (h:V.eK args->iz σ->vc C σ.length c ⟨fn.ntmps,hP args 0,σ,[]⟩ (GV u σ r)) (hy:C.yd=fun _ _ _ _=>none:=by rfl):sX C.P C.gl f args σ u r:=by
 refine⟨⟨fn,hf,hn,by rw[hb];rfl⟩,fun E st g w vs W hg hv=>?_⟩;refine Calls.mono (OA G hf hb hn hnt h (E:={E with ds:=[]}) rfl st g (fun _ _=>iD.none hy) w vs (W.ds []) hg hv) ?_;rintro e w' ⟨st',g',h1,h2,h4,h5,h6⟩;exact⟨st',g',h1,h2.sP,h4,h5,h6⟩
end
end Go.VG
