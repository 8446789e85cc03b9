/-
  A part of the proof.
-/
import Derived.Test.YtchllohbglebiaaGreatDoorVgR
set_option linter.unusedSimpArgs false
set_option linter.unusedVariables false
namespace Go.VG
open Go

def pr:Rc:=⟨none,[],[],pe .undef,0,[],[],(0,[])⟩

theorem H5:∀(bn:List Rc) (j:Nat),pS bn j=(bn.getD j pr).anc
 |[],j=>by simp[pS,pr]
 |r::rs,0=>by simp[pS]
 |r::rs,j+1=>by simp[pS,H5 rs j]
theorem C2{bn:List Rc} {j:Nat}:∀{es:List Edge} {acc:List Nat},j∈tc bn es acc->j∈acc\/∃e∈es,fU e.ground=true/\(j=e.on\/j∈pS bn e.on)
 |[],_,h=>.inl h
 |⟨on,gr⟩::es,acc,h=>by
   simp only[tc] at h;cases hb:fU gr with
   |false=>
     rw[hb] at h;rcases C2 (es:=es) h with h|⟨e,h1,h2⟩
     . exact .inl h
     . exact .inr ⟨e,d5 _ h1,h2⟩
   |true=>
     rw[hb,cond_true,qj] at h;rcases C2 (es:=es) h with h|⟨e,h1,h2⟩
     . rcases lU.1 (ny.2 h) with h|h
       . exact .inr ⟨⟨on,gr⟩,by simp,hb,by simpa using h⟩
       . exact .inl (ny.1 h)
     . exact .inr ⟨e,d5 _ h1,h2⟩
theorem Oi{bn:List Rc} {j:Nat} {es:List Edge} (h:j∈tc bn es []):∃e∈es,fU e.ground=true/\(j=e.on\/j∈pS bn e.on):=by
 rcases C2 h with h|h
 . simp at h
 . exact h
theorem tK{i:Nat}:∀{es:List Edge},oQ i es=true->∀e∈es,fU e.ground=true->e.on<i
 |[],_,e,h=>by simp at h
 |⟨on,gr⟩::es,h,e,he=>by
   simp only[oQ,zza,Bool.or_eq_true,Bool.not_eq_true'] at h;rcases List.mem_cons.1 he with rfl|he
   . intro hb;rcases h.1 with h|h
     . exact d6 h
     . rw[h] at hb;cases hb
   . exact tK h.2 e he
theorem Jw{r:Rc}:∀{bn:List Rc} {k:Nat},s8 r bn k=true->∀j,j<bn.length->aH (k+j) r.anc=true\/indep (bn.getD j pr) r=true
 |[],_,_,j,h=>by simp at h
 |q::bn,k,h,j,hj=>by
   simp only[s8,zza,Bool.or_eq_true] at h;cases j with
   |zero=>simpa using h.1
   |succ j=>
     have:=Jw h.2 j (by simpa using hj);simpa[Nat.add_assoc,Nat.add_comm 1 j] using this

section
variable {C:Ctx} {E:Env} {st:St} {g:au} {s:AS} {a:Act} {w:World}

def Fact(ops:List Oper) (f:Nat->Rc) (k:Nat):Prop:=∃o,ops[k]?=some o/\oQ k o.after.toList=true/\
 (∀j∈(f k).anc,∃e∈o.after.toList,fU e.ground=true/\(j=e.on\/j∈(f e.on).anc))/\∀j,j<k->j∈(f k).anc\/indep (f j) (f k) =true

theorem yl{ops:List Oper} {K:AS->Prop}:∀(rest:List Oper) (i:Nat) (bn:List Rc) (s:AS),tM C ops rest i bn s K->bn.length=i->(∀k,rest[k]?=ops[i+k]?)->
   ∃new sN,K sN/\new.length=rest.length/\ko C ops (fun k=>(bn++new).getD k pr) sN (List.range' i rest.length) s/\∀k,i<=k->k<i+rest.length->Fact ops (fun k=>(bn++new).getD k pr) k
 |[],i,bn,s,h,hl,_=>⟨[],s,h,rfl,iU.refl s,fun k h1 h2=>by simp at h2;omega⟩
 |o::rest,i,bn,s,h,hl,hr=>by
   simp only[tM] at h;obtain⟨hd,h⟩:=sQ.1 h;simp only[zza] at hd;have hfn:aj (stepT C ops s o):=by
    unfold stepT;split
    . exact tS _ _ _
    . split
      . exact aj.fail
      . split
        . have hc:∀(c:Bool) (t u:Tr Ef),aj t->aj u->aj (cond c t u):=fun c t u ht hu=>by cases c<;>assumption
          exact hc _ _ _ (aj.dY (tS _ _ _) (aj.ret _)) (aj.dY (aj.ret _) (tS _ _ _))
        . exact aj.ret _
        . exact aj.fail
   obtain⟨e,h1,h2⟩:=hfn _ h;rw[lD,CQ] at h1;obtain⟨hi,h1⟩:=sQ.1 h1;rw[wD,gX] at h1;have ho:ops[i]?=some o:=by simpa using(hr 0).symm
   obtain⟨new,sN,k1,k2,k3,k4⟩:=yl rest (i+1) (bn++[kU C ops bn s o e]) (s.app o.dst e) h1 (by simp[hl]) (fun k=>by
    have:=hr (k+1);rw[List.getElem?_cons_succ] at this;rw[this];congr 1;omega)
   have hlist:bn++[kU C ops bn s o e]++new=bn++(kU C ops bn s o e::new):=by simp
   rw[hlist] at k3 k4;have hfi:(bn++(kU C ops bn s o e::new)).getD i pr=kU C ops bn s o e:=by
    rw[ac,dt (by omega)];simp[hl]
   have hfj:∀j,j<i->(bn++(kU C ops bn s o e::new)).getD j pr=bn.getD j pr:=fun j hj=>by
    rw[ac,dl (by omega),ac]
   refine⟨kU C ops bn s o e::new,sN,k1,by simp[k2],?_,fun k hk1 hk2=>?_⟩
   . rw[List.length_cons,List.range'_succ];simp only[ko];refine⟨o,ho,?_,?_⟩
     . rw[hfi];exact⟨h2 _ rfl,rfl,rfl,rfl,.inr rfl,rfl,fun _=>rfl,hd.1⟩
     . rw[hfi];exact k3
   . rcases d7 i k with hlt|hge
     . exact k4 k (by omega) (by rw[List.length_cons] at hk2;omega)
     . have:k=i:=by omega
       subst this;refine⟨o,ho,hd.2,fun j hj=>?_,fun j hj=>?_⟩
       . simp only at hj;rw[hfi] at hj;obtain⟨ed,q1,q2,q3⟩:=Oi hj;refine⟨ed,q1,q2,?_⟩;rcases q3 with q3|q3
         . exact .inl q3
         . right;simp only;rw[H5] at q3;rw[hfj _ (tK hd.2 ed q1 q2)];exact q3
       . simp only;rw[hfi,hfj j hj];rcases Jw hi j (by omega) with h|h
         . left;simpa using ny.1 h
         . exact .inr h

theorem Go.eqv{s':AS} (e:iU s s') (R:Rel E st g s a w) (hg:aL C.gl st):Go C E st g s s' a w:=
 ⟨st,g,⟨R.nt.trans e.nt,R.df,fun t=>by rw[<-e.tm,<-e.sg];exact R.tm t,by rw[<-e.sg];exact R.wr⟩,hg,⟨fun _ _ _ h=>h,fun _ _ _=>rfl,by rw[e.sg];exact cb _,fun i hi=>(e.kl i).1 hi⟩⟩

theorem G3{ops:Array Oper} {o:Oper} {i:Nat} {e:Ef} (G:cq C) (R:Rel E st g s a w) (hg:aL C.gl st) (ho:ops[i]?=some o) (hd:e9 s o.dst=true) (h:stepT C ops.toList s o (fun b=>b=e))
   {next:Act->World->Prop} {Q:Exit->Act->World->Prop} (hn:∀a' w',Go C E st g s (s.app o.dst e) a' w'->next a' w'):wpOp C.P ops Q i next a w:=by
 have hrun:cL C s o (fun b=>b=e)->o.wp C.P a w next Q:=fun h=>oX R hg hd (s_op R hg G e h) hn
 have hskip:e=pe (.tuple [])->next (a.put o.dst undef) w:=fun he=>by
  subst he;exact hn _ _ ⟨st,g,xz R hd,hg,cm.pe⟩
 unfold wpOp;rw[ho];simp only;unfold stepT at h;cases hgd:o.guard with
 |none=>
   rw[hgd] at h;rw[if_pos (by simp[Region.wanted,hgd])];exact .inl (hrun h)
 |some p=>
   obtain⟨j,want⟩:=p;rw[hgd] at h;simp only at h;cases ht:cO ops.toList j with
   |none=>rw[ht] at h;exact h.elim
   |some t=>
     rw[ht] at h;simp only at h;cases hb:lk s.tm t<;>rw[hb] at h<;>try exact h.elim
     rotate_left
     . rename_i l;cases l with
       |cons _ _=>exact h.elim
       |nil=>
         have hy:=Gn R ht hb;rw[if_neg (by simp[Region.wanted,hgd,hy])];exact hskip h.symm
     rename_i b;have hy:=Gm R ht hb;cases b<;>cases want<;>simp only[cond_true,cond_false,nh,dY] at h
     . rw[if_pos (by simp[Region.wanted,hgd,hy])];exact .inl (hrun h)
     . rw[if_neg (by simp[Region.wanted,hgd,hy])];exact hskip h.symm
     . rw[if_neg (by simp[Region.wanted,hgd,hy])];exact hskip h.symm
     . rw[if_pos (by simp[Region.wanted,hgd,hy])];exact .inl (hrun h)

def left(n:Nat) (listed:Array Bool):List Nat:=(List.range n).filter fun i=>!listed.getD i true
theorem xd(n:Nat) (listed:Array Bool):(left n listed).Pairwise (·<·):=List.Pairwise.filter _ List.pairwise_lt_range
theorem j5{n:Nat} {listed:Array Bool} {i:Nat}:i∈left n listed↔i<n/\listed.getD i true=false:=by
 simp[left]
theorem Bm{i:Nat}:∀{L:List Nat},L.Pairwise (·<·)->i∈L->∃l1 l2,L=l1++i::l2/\(∀j∈l1,j<i)/\L.filter (fun k=>k !=i) =l1++l2
 |[],_,h=>by simp at h
 |x::L,hp,h=>by
   rw[List.pairwise_cons] at hp;by_cases e:x=i
   . subst e;refine⟨[],L,rfl,by simp,?_⟩;rw[List.filter_cons_of_neg (by simp),List.nil_append,List.filter_eq_self];intro k hk;have:=hp.1 k hk;simp;omega
   . have h':i∈L:=by
       rcases List.mem_cons.1 h with h|h
       . exact absurd h.symm e
       . exact h
     obtain⟨l1,l2,h1,h2,h3⟩:=Bm hp.2 h';refine⟨x::l1,l2,by rw[h1];rfl,fun j hj=>?_,?_⟩
     . rcases List.mem_cons.1 hj with rfl|hj
       . exact hp.1 i h'
       . exact h2 j hj
     . rw[List.filter_cons_of_pos (by simpa using e),h3];rfl
theorem qm{listed:Array Bool} {i k:Nat} (hi:i<listed.size):(listed.setIfInBounds i true).getD k true=if k=i then true else listed.getD k true:=by
 by_cases h:k=i
 . subst h;simp[Array.getD,hi]
 . rw[if_neg h];simp only[Array.getD,Array.size_setIfInBounds];split
   . rename_i hk;exact Array.getElem_setIfInBounds_ne (by simpa using hk) (Ne.symm h)
   . rfl
theorem Du{n:Nat} {listed:Array Bool} {i:Nat} (hi:i<listed.size):left n (listed.setIfInBounds i true) =(left n listed).filter (fun k=>k !=i):=by
 unfold left;rw[List.filter_filter]
 congr 1
 funext k
 rw[qm hi];by_cases h:k=i
 . subst h;simp
 . simp[h]

theorem Ol(G:cq C) {ops:Array Oper} {f:Nat->Rc} {sN:AS} {Q:Exit->Act->World->Prop} (hf:∀k,k<ops.size->Fact ops.toList f k):
    ∀(fuel:Nat) (listed:Array Bool) (s:AS) (st:St) (g:au) (a:Act) (w:World),listed.size=ops.size->(left ops.size listed).length=fuel->ko C ops.toList f sN (left ops.size listed) s->
     (∀k,k<ops.size->listed.getD k true=true->∀j∈(f k).anc,j<ops.size->listed.getD j true=true)->Rel E st g s a w->aL C.gl st->(∀a' w',Go C E st g s sN a' w'->Q .normal a' w')->
     wpAny C.P .any ops Q fuel listed a w:=by
  --who is ready
  have hready:∀(listed:Array Bool) (i:Nat),listed.size=ops.size->i∈Region.ready .any ops listed->i∈left ops.size listed/\∀o,ops[i]?=some o->∀e∈o.after.toList,fU e.ground=true->listed.getD e.on false=true:=fun listed i _ hi=>by
   unfold Region.ready at hi;rw[List.mem_filter] at hi;obtain⟨h1,h2⟩:=hi;simp only[zza,Bool.not_eq_true',List.mem_range] at h1 h2;refine⟨j5.2 ⟨h1,h2.1⟩,fun o ho e he hb=>?_⟩;have h3:=h2.2;rw[ho] at h3;simp only[Option.map_some,Option.getD_some] at h3;have h4:=Array.all_eq_true'.1 h3 e (by simpa using he);have h5:Region.binds .any e=true:=by
    unfold Region.binds;obtain⟨on,gr⟩:=e;cases gr<;>simp only[fU] at hb⊢<;>cases hb
   simpa[h5] using h4
  have hready2:∀(listed:Array Bool),listed.size=ops.size->Region.ready .any ops listed=[]->left ops.size listed=[]:=fun listed hsz h=>by
   cases hL:left ops.size listed with
   |nil=>rfl
   |cons i L=>
     exfalso;have hi:i∈left ops.size listed:=by rw[hL];simp
     obtain⟨hi1,hi2⟩:=j5.1 hi;obtain⟨o,ho,hlt,_⟩:=hf i hi1;have ho':ops[i]?=some o:=by rw[<-Array.getElem?_toList];exact ho
     have hmem:i∈Region.ready .any ops listed:=by
      unfold Region.ready;rw[List.mem_filter];refine⟨List.mem_range.2 hi1,?_⟩;simp only[hi2,ho',Option.map_some,Option.getD_some,Bool.not_false,Bool.true_and];refine Array.all_eq_true'.2 fun e he=>?_;cases hb:Region.binds .any e with
      |false=>simp
      |true=>
        have hb':fU e.ground=true:=by
         unfold Region.binds at hb;obtain⟨on,gr⟩:=e;cases gr<;>simp only[fU] at hb⊢<;>first|rfl|cases hb
        have h1:=tK hlt e (by simpa using he) hb';have h2:e.on∉left ops.size listed:=fun hm=>by
         have:=xd ops.size listed;rw[hL,List.pairwise_cons] at this;rw[hL] at hm;rcases List.mem_cons.1 hm with rfl|hm
         . omega
         . have:=this.1 _ hm;omega
        have h3:listed.getD e.on true=true:=by
         cases h4:listed.getD e.on true with
         |true=>rfl
         |false=>exact absurd (j5.2 ⟨by omega,h4⟩) h2
        have h5:listed.getD e.on false=true:=by
         have h6:e.on<listed.size:=by omega
         simpa[Array.getD,h6] using h3
        simp[h5]
     rw[h] at hmem;simp at hmem
  intro fuel
  induction fuel with
  |zero=>
    intro listed s st g a w hsz hlen hch hup R hg hQ;have hL:left ops.size listed=[]:=co hlen;rw[hL] at hch;refine⟨?_,hQ _ _ (Go.eqv hch R hg)⟩;cases hr:Region.ready .any ops listed with
    |nil=>rfl
    |cons i r=>
      have:=(hready listed i hsz (by rw[hr];simp)).1;rw[hL] at this;simp at this
  |succ fuel ih=>
    intro listed s st g a w hsz hlen hch hup R hg hQ;refine⟨fun hr=>?_,fun i hi=>?_⟩
    . have hL:=hready2 listed hsz hr;rw[hL] at hch;exact hQ _ _ (Go.eqv hch R hg)
    . obtain⟨hi1,hi2⟩:=hready listed i hsz hi;obtain⟨hi3,hi4⟩:=j5.1 hi1;obtain⟨l1,l2,q1,q2,q3⟩:=Bm (xd _ _) hi1;obtain⟨o,ho,hlt,hanc,hind⟩:=hf i hi3;have ho':ops[i]?=some o:=by rw[<-Array.getElem?_toList];exact ho
      --none of who is behind i is left
      have hno:∀j∈(f i).anc,j<ops.size->listed.getD j true=true:=fun j hj hjs=>by
       obtain⟨e,he,hb,hor⟩:=hanc j hj;have h5:=hi2 o ho' e he hb;have h6:e.on<listed.size:=by
        rcases d7 e.on listed.size with h|h
        . exact h
        . have:¬e.on<listed.size:=by omega
          simp[Array.getD,this] at h5
       have h7:listed.getD e.on true=true:=by simpa[Array.getD,h6] using h5
       rcases hor with rfl|hor
       . exact h7
       . exact hup e.on (by omega) h7 j hor hjs
      rw[q1] at hch;obtain⟨o₂,h1,h2,h3⟩:=hch.front fun j hj=>by
       rcases hind j (q2 j hj) with h|h
       . have hjl:j∈left ops.size listed:=by rw[q1];exact List.mem_append_left _ hj
         obtain⟨hj1,hj2⟩:=j5.1 hjl;rw[hno j h hj1] at hj2;cases hj2
       . exact h
      rw[ho] at h1;cases h1;refine G3 G R hg ho' h2.dok h2.ef fun a' w' hgo=>?_;obtain⟨st',g',R',hg',A⟩:=hgo;have hls:left ops.size (listed.setIfInBounds i true) =l1++l2:=by rw[Du (by omega),q3]
      refine ih (listed.setIfInBounds i true) _ st' g' a' w' (by simpa using hsz) ?_ ?_ (fun k hk hkl j hj hjs=>?_) R' hg' fun a'' w'' hgo'=>hQ _ _ (hgo'.trans A)
      . rw[hls];have:=congrArg List.length q1;simp only[an,List.length_cons] at this⊢;omega
      . rw[hls];exact h3
      . rw[qm (by omega)] at hkl⊢;by_cases e1:j=i
        . rw[if_pos e1]
        . rw[if_neg e1];by_cases e2:k=i
          . subst e2;exact hno j hj hjs
          . rw[if_neg e2] at hkl;exact hup k hk hkl j hj hjs

theorem Pb{id:Nat} {ops:Array Oper} (R:Rel E st g s a w) (hg:aL C.gl st) (G:cq C) {Q:Exit->Act->World->Prop} {K:AS->Prop} (h:tM C ops.toList ops.toList 0 [] s K)
   (hK:∀s' a' w',K s'->Go C E st g s s' a' w'->Q .normal a' w'):(Code.region id ops true).wp C.P Q a w:=by
 obtain⟨new,sN,h1,h2,h3,h4⟩:=yl ops.toList 0 [] s h rfl (fun k=>by rw[Nat.zero_add]);have hl:left ops.size (Array.replicate ops.size false) =List.range' 0 ops.toList.length:=by
  unfold left;rw[<-List.range_eq_range',Array.length_toList,List.filter_eq_self];intro i hi;have:i<ops.size:=List.mem_range.1 hi;simp[Array.getD,this]
 refine wp_region_any G.hm ?_;refine Ol (sN:=sN) G (fun k hk=>h4 k (bu _) (by simpa using hk)) ops.size (Array.replicate ops.size false) s st g a _ (by simp) ?_ ?_ (fun k hk hkl=>?_) ⟨R.nt,R.df,R.tm,R.wr.same ⟨rfl,rfl,rfl,rfl⟩⟩ hg fun a' w' hgo=>hK _ _ _ h1 hgo
 . rw[hl];simp
 . rw[hl];exact h3
 . simp[Array.getD,hk] at hkl
end
end Go.VG
namespace Go.VG
open Go

structure gR(s t:AS):Prop where
 nt:s.nt=t.nt
 tm:∀u,lk s.tm u=lk t.tm u
 sg:s.sg=t.sg
 kl:s.kl=t.kl

section
variable {C:Ctx} {E:Env} {st:St} {g:au} {s t:AS} {a:Act} {w:World} {o:Oper} {e:Ef}
theorem gR.refl(s:AS):gR s s:=⟨rfl,fun _=>rfl,rfl,rfl⟩
theorem gR.ev(h:gR s t) (x:Operand):s.ev C x=t.ev C x:=by
 cases x with
 |tmp u=>exact h.tm u
 |_=>rfl
theorem gR.app(h:gR s t) (d:Option Nat) (e:Ef):gR (s.app d e) (t.app d e):=by
 refine⟨h.nt,fun u=>?_,?_,?_⟩
 . cases d with
   |none=>simp only[AS.app,pf,h.tm]
   |some d=>
     simp only[AS.app,lk];cases Nat.beq d u with
     |true=>rfl
     |false=>simp only[cond_false,pf,h.tm]
 . simp only[AS.app,h.sg]
 . simp only[AS.app,h.kl]
theorem gR.lit(h:gR s t) {u:Nat} {b:Bool} (hb:lk s.tm u=.bool b):gR ⟨s.nt,(u,.bool b)::s.tm,s.sg,s.kl⟩ t:=by
 refine⟨h.nt,fun v=>?_,h.sg,h.kl⟩;simp only[lk];cases hv:Nat.beq u v with
 |true=>
   have:=aB hv;subst this;rw[<-h.tm,hb];rfl
 |false=>exact h.tm v
theorem gR.bn(h:gR s t) (ops:List Oper) (bn:List Rc) (o:Oper) (e:Ef):kU C ops bn s o e=kU C ops bn t o e:=by
 unfold kU;rw[h.sg,o8 (fun x _=>h.ev x)]

theorem YJ{ops:List Oper} {K1:Ef->AS->Prop} {K2:Ef->Prop} (h:Bp C ops s o K1) (hs:gR s t) (hk:∀e s',gR s' t->K1 e s'->K2 e):stepT C ops t o K2:=by
 have key:∀s',gR s' t->(cL C s' o fun e=>K1 e s')->cL C t o K2:=fun s' hl h1=>by
  rw[CB (s:=t) (s':=s') (fun x _=>hl.ev x) hl.sg] at h1;obtain⟨a,h2,h3⟩:=tS C t o _ h1;exact h3 _ (hk a s' hl h2)
 unfold Bp at h;unfold stepT;cases hg:o.guard with
 |none=>rw[hg] at h;exact key s hs h
 |some p=>
   obtain⟨j,want⟩:=p;rw[hg] at h;simp only at h⊢;cases hd:cO ops j with
   |none=>rw[hd] at h;exact h.elim
   |some u=>
     rw[hd] at h;simp only at h⊢;cases hl:lk s.tm u<;>rw[hl] at h<;>(try simp only at h)<;>try(exact h.elim)
     rotate_left
     . rename_i l;cases l with
       |cons _ _=>exact h.elim
       |nil=>
         rw[<-hs.tm u,hl];exact hk _ _ hs h
     rename_i b;rw[<-hs.tm u,hl];simp only;obtain⟨nt,tm,sg,kl⟩:=s;cases want<;>cases b<;>simp only[cond_true,cond_false,dY,xf] at h<;>simp only[cond_true,cond_false,nh,dY]
     . exact key _ (hs.lit hl) h
     . exact hk _ _ (hs.lit hl) h
     . exact hk _ _ (hs.lit hl) h
     . exact key _ (hs.lit hl) h

theorem yP{ops:List Oper} {K:AS->Prop}:∀(rest:List Oper) (i:Nat) (bn:List Rc) (s t:AS),gR s t->o7 C ops rest i bn s K->tM C ops rest i bn t fun x=>∃y,gR y x/\K y
 |[],_,_,s,t,hs,h=>⟨s,hs,h⟩
 |o::rest,i,bn,s,t,hs,h=>by
   simp only[o7,lD,CQ,wD,gX] at h;simp only[tM,lD,CQ,wD,gX];have hd:e9 s o.dst=e9 t o.dst:=by unfold e9;rw[hs.nt]
   rw[hd] at h;cases hw:(e9 t o.dst&&oQ i o.after.toList) with
   |false=>rw[hw] at h;exact h.elim
   |true=>
     rw[hw] at h;have h:Bp C ops s o (fun e s=>mh (s8 (kU C ops bn s o e) bn 0) (o7 C ops rest (i+1) (bn++[kU C ops bn s o e]) (s.app o.dst e) K)):=h;refine YJ h hs fun e s' hl hk=>?_;rw[hl.bn] at hk;cases hi:s8 (kU C ops bn t o e) bn 0 with
     |false=>rw[hi] at hk;exact hk.elim
     |true=>
       rw[hi] at hk;exact yP rest (i+1) _ _ _ (hl.app o.dst e) hk

theorem Rel.leq(R:Rel E st g t a w) (h:gR s t):Rel E st g s a w where
 nt:=by rw[h.nt];exact R.nt
 df:=R.df
 tm:=fun u=>by rw[h.tm,h.sg];exact R.tm u
 wr:=by rw[h.sg];exact R.wr

theorem P7{id:Nat} {ops:Array Oper} (R:Rel E st g s a w) (hg:aL C.gl st) (G:cq C) {Q:Exit->Act->World->Prop} {K:AS->Prop} (h:o7 C ops.toList ops.toList 0 [] s K)
   (hK:∀s' a' w',K s'->Go C E st g s s' a' w'->Q .normal a' w'):(Code.region id ops true).wp C.P Q a w:=
 Pb R hg G (yP _ _ _ _ _ (gR.refl s) h) fun s' a' w' ⟨y,hy,hk⟩ ⟨st',g',R',hg',A⟩=>hK y a' w' hk ⟨st',g',R'.leq hy,hg',{mono:=A.mono,aO:=fun i hi hm=>A.aO i hi (by rw[<-hy.kl];exact hm),len:=by rw[hy.sg];exact A.len,kl:=fun i hi=>by rw[hy.kl];exact A.kl i hi}⟩
end
end Go.VG
namespace Go.VG
open Go

theorem xp{j:Nat}:∀{es:List Edge},j∈lK es↔∃e∈es,fU e.ground=true/\e.on=j
 |[]=>by simp[lK]
 |⟨on,gr⟩::es=>by
   simp only[lK];cases hb:fU gr with
   |true=>
     simp only[cond_true,List.mem_cons,xp (es:=es)];constructor
     . rintro(rfl|⟨e,h1,h2⟩)
       . exact⟨_,.inl rfl,hb,rfl⟩
       . exact⟨e,.inr h1,h2⟩
     . rintro⟨e,rfl|h1,h2,h3⟩
       . exact .inl h3.symm
       . exact .inr ⟨e,h1,h2,h3⟩
   |false=>
     simp only[cond_false,xp (es:=es)];constructor
     . rintro⟨e,h1,h2⟩;exact⟨e,d5 _ h1,h2⟩
     . rintro⟨e,h1,h2,h3⟩;rcases List.mem_cons.1 h1 with rfl|h1
       . rw[hb] at h2;cases h2
       . exact⟨e,h1,h2,h3⟩
theorem H4{l:List Nat}:∀{n k:Nat},vH l n=true->k<n->k∈l
 |0,_,_,h=>absurd h (Nat.not_lt_zero _)
 |n+1,k,h,hk=>by
   simp only[vH,zza] at h;rcases d7 k n with h'|h'
   . exact H4 h.2 h'
   . have:k=n:=by omega
     subst this;exact ny.1 h.1
theorem vO{ops:List Oper} {P:Nat->Prop} (hcl:∀k o,ops[k]?=some o->P k->∀j∈lK o.after.toList,P j):∀(n:Nat) (cl:List Nat),(∀j∈cl,P j)->∀j∈ry ops n cl,P j
 |0,cl,h=>h
 |n+1,cl,h=>by
   simp only[ry];cases hb:aH n cl with
   |false=>exact vO hcl n cl h
   |true=>
     simp only[cond_true];cases ho:ops[n]? with
     |none=>exact vO hcl n cl h
     |some o=>
       refine vO hcl n _ fun j hj=>?_;rcases List.mem_append.1 hj with hj|hj
       . exact hcl n o ho (h n (ny.1 hb)) j hj
       . exact h j hj

section
variable {C:Ctx} {E:Env} {st:St} {g:au} {s:AS} {a:Act} {w:World}
theorem YK{L ops:List Oper} {o:Oper} {K:Ef->Prop} (hd:∀j t,cO L j=some t->cO ops j=some t) (h:stepT C L s o K):stepT C ops s o K:=by
 unfold stepT at h⊢;cases hg:o.guard with
 |none=>rw[hg] at h;exact h
 |some p=>
   obtain⟨j,want⟩:=p;rw[hg] at h;simp only at h⊢;cases ht:cO L j with
   |none=>rw[ht] at h;exact h.elim
   |some t=>rw[ht] at h;rw[hd j t ht];exact h
def yc(ops:Array Oper) (listed:Array Bool):Prop:=∀k o,ops.toList[k]?=some o->listed.getD k true=true->∀j∈lK o.after.toList,j<ops.size->listed.getD j true=true

theorem H7(G:cq C) {ops:Array Oper} {L:List Oper} {n:Nat} (hn:L.length=n) (hnle:n<=ops.size) {f:Nat->Rc} {sN:AS} {Q:Exit->Act->World->Prop} (pi:Nat) (Inv:AS->St->au->Prop)
    (hLo:∀k o,L[k]?=some o->∃o',ops.toList[k]?=some o'/\o'.after=o.after/\(k≠pi->o'=o))
    (hdst:∀j t,cO L j=some t->cO ops.toList j=some t) (hf:∀k,k<n->Fact L f k)
    (hinv:∀k s d st g st' g',k<n->k≠pi->Inv s st g->cm st g s st' g' (s.app d (f k).e)->Inv (s.app d (f k).e) st' g')
    (hpi:∀(s:AS) (st:St) (g:au) (a:Act) (w:World) (next:Act->World->Prop) (l:List Nat) (o:Oper),Inv s st g->Rel E st g s a w->aL C.gl st->L[pi]?=some o->fy C L o s (f pi)->ko C L f sN l (s.app o.dst (f pi).e)->pi∉l->
     (∀j∈l,j<n)->wpOp C.P ops Q pi next a w)
    (htail:∀listed k,listed.size=ops.size->yc ops listed->n<=k->k<ops.size->k∈Region.ready .any ops listed->(pi<n->listed.getD pi true=false)->left n listed=[]):
    ∀(fuel:Nat) (listed:Array Bool) (s:AS) (st:St) (g:au) (a:Act) (w:World),listed.size=ops.size->(left ops.size listed).length=fuel->ko C L f sN (left n listed) s->
     (∀k,k<n->listed.getD k true=true->∀j∈(f k).anc,j<n->listed.getD j true=true)->yc ops listed->(pi<n->listed.getD pi true=false)->(∀k,n<=k->k<ops.size->listed.getD k true=false)->Inv s st g->Rel E st g s a w->aL C.gl st->
     (∀fuel listed a' w',listed.size=ops.size->(left ops.size listed).length=fuel->left n listed=[]->yc ops listed->(pi<n->listed.getD pi true=false)->(∀k,n<=k->k<ops.size->listed.getD k true=false)->Go C E st g s sN a' w'->wpAny C.P .any ops Q fuel listed a' w')->
     wpAny C.P .any ops Q fuel listed a w:=by
  have hready:∀(listed:Array Bool) (i:Nat),listed.size=ops.size->i∈Region.ready .any ops listed->i∈left ops.size listed/\∀o,ops[i]?=some o->∀e∈o.after.toList,fU e.ground=true->listed.getD e.on false=true:=fun listed i _ hi=>by
   unfold Region.ready at hi;rw[List.mem_filter] at hi;obtain⟨h1,h2⟩:=hi;simp only[zza,Bool.not_eq_true',List.mem_range] at h1 h2;refine⟨j5.2 ⟨h1,h2.1⟩,fun o ho e he hb=>?_⟩;have h3:=h2.2;rw[ho] at h3;simp only[Option.map_some,Option.getD_some] at h3;have h4:=Array.all_eq_true'.1 h3 e (by simpa using he);have h5:Region.binds .any e=true:=by
    unfold Region.binds;obtain⟨on,gr⟩:=e;cases gr<;>simp only[fU] at hb⊢<;>cases hb
   simpa[h5] using h4
  have hdn:∀(listed:Array Bool) (k:Nat),listed.getD k false=true->listed.getD k true=true:=fun listed k h=>by
   simp only[Array.getD] at h⊢;split
   . rename_i hk;rw[dif_pos hk] at h;exact h
   . rfl
  have hready2:∀(listed:Array Bool),listed.size=ops.size->Region.ready .any ops listed=[]->left n listed=[]:=fun listed hsz h=>by
   cases hL:left n listed with
   |nil=>rfl
   |cons i L'=>
     exfalso;have hi:i∈left n listed:=by rw[hL];simp
     obtain⟨hi1,hi2⟩:=j5.1 hi;obtain⟨o,ho,hlt,_⟩:=hf i hi1;obtain⟨o',ho1,ho2,_⟩:=hLo i o ho;have ho':ops[i]?=some o':=by rw[<-Array.getElem?_toList];exact ho1
     have hmem:i∈Region.ready .any ops listed:=by
      unfold Region.ready;rw[List.mem_filter];refine⟨List.mem_range.2 (by omega),?_⟩;simp only[hi2,ho',Option.map_some,Option.getD_some,Bool.not_false,Bool.true_and];refine Array.all_eq_true'.2 fun e he=>?_;cases hb:Region.binds .any e with
      |false=>simp
      |true=>
        have hb':fU e.ground=true:=by
         unfold Region.binds at hb;obtain⟨on,gr⟩:=e;cases gr<;>simp only[fU] at hb⊢<;>first|rfl|cases hb
        have h1:=tK hlt e (by rw[<-ho2];simpa using he) hb';have h2:e.on∉left n listed:=fun hm=>by
         have:=xd n listed;rw[hL,List.pairwise_cons] at this;rw[hL] at hm;rcases List.mem_cons.1 hm with rfl|hm
         . omega
         . have:=this.1 _ hm;omega
        have h3:listed.getD e.on true=true:=by
         cases h4:listed.getD e.on true with
         |true=>rfl
         |false=>exact absurd (j5.2 ⟨by omega,h4⟩) h2
        have h5:listed.getD e.on false=true:=by
         have h6:e.on<listed.size:=by omega
         simpa[Array.getD,h6] using h3
        simp[h5]
     rw[h] at hmem;simp at hmem
  intro fuel
  induction fuel with
  |zero=>
    intro listed s st g a w hsz hlen hch hup hsh hpl hrs hI R hg hE;have hL:left ops.size listed=[]:=co hlen;have hL2:left n listed=[]:=by
     cases h:left n listed with
     |nil=>rfl
     |cons i l=>
       have hi:i∈left n listed:=by rw[h];simp
       obtain⟨h1,h2⟩:=j5.1 hi;have:i∈left ops.size listed:=j5.2 ⟨by omega,h2⟩;rw[hL] at this;simp at this
    rw[hL2] at hch;exact hE 0 listed a w hsz hlen hL2 hsh hpl hrs (Go.eqv hch R hg)
  |succ fuel ih=>
    intro listed s st g a w hsz hlen hch hup hsh hpl hrs hI R hg hE;by_cases hL2:left n listed=[]
    . rw[hL2] at hch;exact hE _ listed a w hsz hlen hL2 hsh hpl hrs (Go.eqv hch R hg)
    refine⟨fun hr=>absurd (hready2 listed hsz hr) hL2,fun i hi=>?_⟩;obtain⟨hi1,hi2⟩:=hready listed i hsz hi;obtain⟨hi3,hi4⟩:=j5.1 hi1;rcases d7 i n with hin|hin
    rotate_left
    . exact absurd (htail listed i hsz hsh hin hi3 hi hpl) hL2
    have hi1':i∈left n listed:=j5.2 ⟨hin,hi4⟩;obtain⟨l1,l2,q1,q2,q3⟩:=Bm (xd _ _) hi1';obtain⟨o,ho,hlt,hanc,hind⟩:=hf i hin;obtain⟨o',ho1,ho2,ho3⟩:=hLo i o ho;have ho':ops[i]?=some o':=by rw[<-Array.getElem?_toList];exact ho1
    have hno:∀j∈(f i).anc,j<n->listed.getD j true=true:=fun j hj hjs=>by
     obtain⟨e,he,hb,hor⟩:=hanc j hj;have h5:=hi2 o' ho' e (by rw[ho2];exact he) hb;have h6:e.on<n:=by
      have:=tK hlt e he hb;omega
     have h7:listed.getD e.on true=true:=hdn listed _ h5;rcases hor with rfl|hor
     . exact h7
     . exact hup e.on h6 h7 j hor hjs
    rw[q1] at hch;obtain⟨o₂,h1,h2,h3⟩:=hch.front fun j hj=>by
     rcases hind j (q2 j hj) with h|h
     . have hjl:j∈left n listed:=by rw[q1];exact List.mem_append_left _ hj
       obtain⟨hj1,hj2⟩:=j5.1 hjl;rw[hno j h hj1] at hj2;cases hj2
     . exact h
    rw[ho] at h1;cases h1;have hls:left n (listed.setIfInBounds i true) =l1++l2:=by
     have e1:left n (listed.setIfInBounds i true) =(left n listed).filter (fun k=>k !=i):=by
      unfold left;rw[List.filter_filter]
      congr 1
      funext k
      rw[qm (by omega)];by_cases h:k=i
      . subst h;simp
      . simp[h]
     rw[e1,q3]
    by_cases hip:i=pi
    . subst hip;refine hpi s st g a w _ (l1++l2) o hI R hg ho h2 h3 ?_ ?_
      . rw[<-hls];intro hm;have:=(j5.1 hm).2;rw[qm (by omega),if_pos rfl] at this;cases this
      . rw[<-hls];exact fun j hj=>(j5.1 hj).1
    have hoo:=ho3 hip;subst hoo;refine G3 G R hg ho' h2.dok (YK hdst h2.ef) fun a' w' hgo=>?_;obtain⟨st',g',R',hg',A⟩:=hgo;refine ih (listed.setIfInBounds i true) _ st' g' a' w' (by simpa using hsz) ?_ ?_ (fun k hk hkl j hj hjs=>?_) (fun k o hk hkl j hj hjs=>?_) (fun hp=>?_) (fun k hk1 hk2=>?_) (hinv i s _ st g st' g' hin hip hI A) R' hg' fun fl ls a'' w'' x1 x2 x3 x4 x5 x6 hgo'=>hE fl ls a'' w'' x1 x2 x3 x4 x5 x6 (hgo'.trans A)
    . rw[Du (by omega)];obtain⟨m1,m2,r1,r2,r3⟩:=Bm (xd _ _) hi1;have:=congrArg List.length r1;rw[r3];simp only[an,List.length_cons] at this⊢;omega
    . rw[hls];exact h3
    . rw[qm (by omega)] at hkl⊢;by_cases e1:j=i
      . rw[if_pos e1]
      . rw[if_neg e1];by_cases e2:k=i
        . subst e2;exact hno j hj hjs
        . rw[if_neg e2] at hkl;exact hup k hk hkl j hj hjs
    . rw[qm (by omega)] at hkl⊢;by_cases e1:j=i
      . rw[if_pos e1]
      . rw[if_neg e1];by_cases e2:k=i
        . subst e2;rw[ho1] at hk;cases hk;obtain⟨e,he1,he2,rfl⟩:=xp.1 hj;exact hdn listed _ (hi2 _ ho' e he1 he2)
        . rw[if_neg e2] at hkl;exact hsh k o hk hkl j hj hjs
    . rw[qm (by omega),if_neg (Ne.symm hip)];exact hpl hp
    . rw[qm (by omega),if_neg (by omega)];exact hrs k hk1 hk2
theorem cq.both(G:cq C):cq C.both where
 toGood:=⟨G.ti,G.mt,G.hm⟩
 gam:=fun f args sg pre x r h hp=>by
  have h:(match C.Γ f args sg with|some r=>some r|none=>C.mR.Γ f args sg) =some (pre,x,r):=h;split at h
  . rename_i hr;cases h;exact G.gam _ _ _ _ _ _ hr hp
  . exact G.mR.gam _ _ _ _ _ _ h hp
 del:=G.del
theorem Ai{ops:Array Oper} {listed:Array Bool} {i:Nat} (hi:i∈Region.ready .any ops listed):i∈left ops.size listed/\∀o,ops[i]?=some o->∀e∈o.after.toList,fU e.ground=true->listed.getD e.on true=true:=by
 unfold Region.ready at hi;rw[List.mem_filter] at hi;obtain⟨h1,h2⟩:=hi;simp only[zza,Bool.not_eq_true',List.mem_range] at h1 h2;refine⟨j5.2 ⟨h1,h2.1⟩,fun o ho e he hb=>?_⟩;have h3:=h2.2;rw[ho] at h3;simp only[Option.map_some,Option.getD_some] at h3;have h4:=Array.all_eq_true'.1 h3 e (by simpa using he);have h5:Region.binds .any e=true:=by
  unfold Region.binds;obtain⟨on,gr⟩:=e;cases gr<;>simp only[fU] at hb⊢<;>cases hb
 have h6:listed.getD e.on false=true:=by simpa[h5] using h4
 simp only[Array.getD] at h6⊢;split
 . rename_i hk;rw[dif_pos hk] at h6;exact h6
 . rfl
theorem Xv{ops:Array Oper} {listed:Array Bool} {i:Nat} {o:Oper} (hsz:listed.size=ops.size) (hi:i∈left ops.size listed) (ho:ops[i]?=some o) (h:∀e∈o.after.toList,fU e.ground=true->e.on<ops.size/\listed.getD e.on true=true):
   i∈Region.ready .any ops listed:=by
 obtain⟨hi1,hi2⟩:=j5.1 hi;unfold Region.ready;rw[List.mem_filter];refine⟨List.mem_range.2 hi1,?_⟩;simp only[hi2,ho,Option.map_some,Option.getD_some,Bool.not_false,Bool.true_and];refine Array.all_eq_true'.2 fun e he=>?_;cases hb:Region.binds .any e with
 |false=>simp
 |true=>
   have hb':fU e.ground=true:=by
    unfold Region.binds at hb;obtain⟨on,gr⟩:=e;cases gr<;>simp only[fU] at hb⊢<;>first|rfl|cases hb
   obtain⟨h1,h3⟩:=h e (by simpa using he) hb';have h5:listed.getD e.on false=true:=by
    have h6:e.on<listed.size:=by omega
    simpa[Array.getD,h6] using h3
   simp[h5]
theorem zI{n m:Nat} (h:n<=m):left n (Array.replicate m false) =List.range' 0 n:=by
 unfold left;rw[<-List.range_eq_range',List.filter_eq_self];intro i hi;have:i<n:=List.mem_range.1 hi;simp[Array.getD,show i<m by omega]
theorem Mx{ops:Array Oper}:yc ops (Array.replicate ops.size false):=fun k o hk hl=>by
 have:k<ops.size:=by
  have:=(gt.1 hk).1;simpa using this
 simp[Array.getD,this] at hl
theorem cm.leq{st':St} {g':au} {x y:AS} (A:cm st g s st' g' x) (h:gR y x):cm st g s st' g' y:=
 ⟨A.mono,fun i hi hm=>A.aO i hi (by rw[<-h.kl];exact hm),by rw[h.sg];exact A.len,fun i hi=>by rw[h.kl];exact A.kl i hi⟩
theorem HR{L M:List Oper} {j t:Nat} (h:cO L j=some t):cO (L++M) j=some t:=by
 induction L generalizing j with
 |nil=>cases h
 |cons o L ih=>
   cases j with
   |zero=>exact h
   |succ j=>exact ih h
theorem YS{c:Call} {f:FuncId} {args:List V} (ht:target C s c=some (f,args)):∃x first captured,c.callee=.value x/\s.ev C x=.func (.func f) first captured/\args=first++s.evs C c.args.toList++captured:=by
 unfold target at ht;split at ht
 . rename_i x hx;split at ht
   . rename_i g' first captured hf
     cases ht;exact⟨x,first,captured,hx,hf,rfl⟩
   . cases ht
 . cases ht
theorem P9{ops:Array Oper} {id:Nat} (R:Rel E st g s a w) (hg:aL C.gl st) (G:cq C) {Q:Exit->Act->World->Prop} {K:Ex->AS->Prop} {L:List Oper} {o:Oper} {c:Call} (hops:ops.toList=L++[o]) (hc:o.op=.call c) (hgd:o.guard=none)
   (hed:oQ L.length o.after.toList=true) (hb:vH (ry ops.toList L.length (lK o.after.toList)) L.length=true) (h:o7 C.both L L 0 [] s (Dp C o c K))
   (hK:∀s' a' w',K .norm s'->Go C E st g s s' a' w'->Q .normal a' w') (hX:∀u s' a' w',K (.pan u) s'->Go C E st g s s' a' w'->Q (.panic [{v:=u,recovered:=false}]) a' w'):(Code.region id ops true).wp C.P Q a w:=by
 have hsz:ops.size=L.length+1:=by rw[<-Array.length_toList,hops];simp
 have hn:ops[L.length]?=some o:=by rw[<-Array.getElem?_toList,hops,dt (cb _)];simp
 obtain⟨new,sN,⟨y,hy,hk⟩,_,hch,hfact⟩:=yl (C:=C.both) L 0 [] s (yP (C:=C.both) L 0 [] s s (gR.refl s) h) rfl (fun k=>by rw[Nat.zero_add]);refine wp_region_any G.hm ?_;refine H7 (C:=C.both) G.both (ops:=ops) (L:=L) (n:=L.length) rfl (by omega) L.length (fun _ _ _=>True) (fun k o' ho=>⟨o',by rw[hops,dl (gt.1 ho).1];exact ho,rfl,fun _=>rfl⟩)
  (fun j t ht=>by rw[hops];exact HR ht) (fun k hk2=>hfact k (bu _) (by simpa using hk2)) (fun _ _ _ _ _ _ _ _ _ _ _=>trivial) (fun _ _ _ _ _ _ _ o' _ _ _ ho=>?_) (fun listed k hls hsh hk1 hk2 hr _=>?_)
  ops.size (Array.replicate ops.size false) s st g a _ (by simp) (by rw[zI (cb _)];simp) (by rw[zI (by omega)];exact hch) (fun k hk2 hkl=>?_) Mx (fun q=>absurd q (Nat.lt_irrefl _)) (fun k hk1 hk2=>?_) trivial ⟨R.nt,R.df,R.tm,R.wr.same ⟨rfl,rfl,rfl,rfl⟩⟩ hg
  (fun fuel listed a' w' hls hlen hL2 hsh _ hrs hgo=>?_)
 . rw[ci (cb _)] at ho;cases ho
 . have:k=L.length:=by omega
   subst this;have hd:=(Ai hr).2 o hn;have hcl:=vO (ops:=ops.toList) (P:=fun j=>j<ops.size->listed.getD j true=true) (fun k o ho hkl j hj hjs=>hsh k o ho (hkl (by
    have:=(gt.1 ho).1;simpa using this)) j hj hjs) L.length (lK o.after.toList) fun j hj _=>by
     obtain⟨e,he1,he2,rfl⟩:=xp.1 hj;exact hd e he1 he2
   cases hl:left L.length listed with
   |nil=>rfl
   |cons i l=>
     exfalso;have hi:i∈left L.length listed:=by rw[hl];simp
     obtain⟨hi1,hi2⟩:=j5.1 hi;have:=hcl i (H4 hb hi1) (by omega);rw[this] at hi2;cases hi2
 . have hlt:k<ops.size:=by omega
   simp[Array.getD,hlt] at hkl
 . simp[Array.getD,hk2]
 . obtain⟨st',g',R0,hg',A0⟩:=hgo;have Ry:=R0.leq hy;have Ay:=A0.leq hy;have hnl:listed.getD L.length true=false:=hrs _ (cb _) (by omega);have hleft:left ops.size listed=[L.length]:=by
    rw[hsz];unfold left at hL2⊢;rw[List.range_succ,List.filter_append,hL2];simp only[List.nil_append,List.filter_cons,List.filter_nil,hnl];rfl
   rw[hleft] at hlen;obtain rfl:fuel=1:=by simpa using hlen.symm
   have hall:∀e∈o.after.toList,fU e.ground=true->e.on<ops.size/\listed.getD e.on true=true:=fun e he hb=>by
    have h1:=tK hed e he hb;refine⟨by omega,?_⟩;cases h4:listed.getD e.on true with
    |true=>rfl
    |false=>
      have:e.on∈left L.length listed:=j5.2 ⟨h1,h4⟩;rw[hL2] at this;simp at this
   have hrd:=Xv (i:=L.length) hls (by rw[hleft];simp) hn hall;refine⟨fun hr=>by rw[hr] at hrd;simp at hrd,fun i hi=>?_⟩;have hi1:=(Ai hi).1;rw[hleft,List.mem_singleton] at hi1;subst hi1;show wpOp C.P ops Q L.length (wpAny C.P .any ops Q 0 (listed.setIfInBounds L.length true)) a' w';unfold wpOp;rw[hn];simp only;rw[if_pos (by simp[Region.wanted,hgd])];left;unfold Dp at hk;cases ht:target C y c with
   |none=>rw[ht] at hk;exact hk.elim
   |some p=>
     obtain⟨f,args⟩:=p;rw[ht] at hk;obtain⟨x,first,captured,hx1,hx2,rfl⟩:=YS ht;obtain⟨vs,hv1,hv2⟩:=Au (C:=C) (c:=c) Ry hg' hx1 hx2;simp only at hk;split at hk
     . rename_i p e1 q e2 hp1 hp2;obtain⟨hd,hpq,h1,h2⟩:=sQ.1 hk;by_cases hp:p
       . have h1:=h1 hp;unfold su at h1;rw[lD] at h1;refine Eu (C:=C.kO) Ry hg' G.kO (hv2 o hc) hv1 hp1 hp fun u st2 g2 w2 hu A2 W2=>?_;rw[hu] at h1;simp only[iu,gX] at h1;refine hX u _ a' w2 h1 ⟨st2,g2,?_,hg'.mono A2.mono,Ay.trans (cm.app (d:=none) (e:=⟨.undef,e1.ks,e1.up,e1.nw,e1.rd⟩) A2)⟩;exact Ry.app (d:=none) (e:=⟨.undef,e1.ks,e1.up,e1.nw,e1.rd⟩) (v:=undef) rfl A2 W2 (by simp[VR])
       . have hq:=hpq.resolve_left hp;have h2:=h2 hq;rw[lD,gX] at h2;have h3:=xG (C:=C.mR) (o:=o) Ry hg' G.mR (hv2 o hc) hv1 hp2 hq;refine oX (C:=C) Ry hg' hd h3 fun a2 w2 hgo2=>?_;refine⟨?_,hK _ a2 w2 h2 (hgo2.trans Ay)⟩;cases hr:Region.ready .any ops (listed.setIfInBounds L.length true) with
         |nil=>rfl
         |cons j l=>
           exfalso;have hj:=(Ai (by rw[hr];simp:j∈Region.ready .any ops (listed.setIfInBounds L.length true))).1;rw[Du (by omega),hleft] at hj;simp at hj
     . exact hk.elim
theorem Mt{o:Oper}:∀{L:List Oper} {i k:Nat},(lO L i o)[k]?=if k=i/\i<L.length then some o else L[k]?
 |[],i,k=>by simp[lO]
 |p::L,0,0=>by simp[lO]
 |p::L,0,k+1=>by simp[lO]
 |p::L,i+1,0=>by simp[lO]
 |p::L,i+1,k+1=>by
   simp only[lO,List.getElem?_cons_succ,Mt (L:=L),List.length_cons];by_cases h:k=i/\i<L.length
   . rw[if_pos h,if_pos ⟨by omega,by omega⟩]
   . rw[if_neg h,if_neg (fun q=>h ⟨by omega,by omega⟩)]
theorem Mu{o:Oper}:∀{L:List Oper} {i:Nat},(lO L i o).length=L.length
 |[],_=>rfl
 |_::_,0=>rfl
 |_::L,i+1=>by simp only[lO,List.length_cons];rw[Mu (L:=L)]
theorem LZ{i:Nat}:∀{L:List Oper} {m k:Nat} {o:Oper},uG i L m=true->L[k]?=some o->m+k≠i->qOp o.op=true
 |[],_,_,_,_,h,_=>by simp at h
 |p::L,m,0,o,h,ho,hk=>by
   simp at ho;subst ho;simp only[uG,zza,Bool.or_eq_true] at h;rcases h.1 with h|h
   . exact absurd (aB h) hk
   . exact h
 |p::L,m,k+1,o,h,ho,hk=>by
   simp only[uG,zza] at h;exact LZ h.2 (by simpa using ho) (by omega)
theorem HT{i d:Nat}:∀{L:List Oper} {m k:Nat} {o:Oper},tH i d L m=true->L[k]?=some o->m+k≠i->o.dst≠some d
 |[],_,_,_,_,h,_=>by simp at h
 |p::L,m,0,o,h,ho,hk=>by
   simp at ho;subst ho;simp only[tH,zza,Bool.or_eq_true] at h;rcases h.1 with h|h
   . exact absurd (aB h) hk
   . intro q;rw[q] at h;simp at h
 |p::L,m,k+1,o,h,ho,hk=>by
   simp only[tH,zza] at h;exact HT h.2 (by simpa using ho) (by omega)
theorem MY{ops:List Oper} {i:Nat}:∀{T:List Oper} {n k:Nat} {o:Oper},vf ops i T n=true->T[k]?=some o->i∈ry ops (n+k) (lK o.after.toList)
 |[],_,_,_,_,h=>by simp at h
 |p::T,n,0,o,h,ho=>by
   simp at ho;subst ho;simp only[vf,zza] at h;exact ny.1 h.1
 |p::T,n,k+1,o,h,ho=>by
   simp only[vf,zza] at h;have:=MY h.2 (by simpa using ho:T[k]?=some o)
   rwa [show n+1+k=n+(k+1) by omega] at this
def Qt(t:Tr Ef):Prop:=∀K:Ef->Prop,t K->∃b,K b/\quiet b=true
theorem Qt.fail:Qt fail:=fun _ h=>h.elim
theorem Qt.ret{e:Ef} (h:quiet e=true):Qt (ret e):=fun _ hk=>⟨e,hk,h⟩
theorem Qt.when{b:Bool} {t:Tr Ef} (h:Qt t):Qt (bp b t):=fun K hk=>h K (sQ.1 hk).2
theorem Qt.opt{α:Type} {o:Option α} {f:α->Tr Ef} (h:∀a,Qt (f a)):Qt (eH o f):=fun K hk=>by
 have hk:iu o fun a=>f a K:=hk;cases o with
 |none=>exact hk.elim
 |some a=>exact h a K hk
theorem Qt.idx{α:Type} {l:List α} {n:Nat} {f:α->Tr Ef} (h:∀a,Qt (f a)):Qt (qw l n f):=by rw[nq];exact Qt.opt h
theorem Qt.force{x:V} {f:V->Tr Ef} (h:∀x,Qt (f x)):Qt (force x f):=by rw[force_eq];exact h x
theorem Qt.cY{n:Nat} {f:Nat->Tr Ef} (h:∀x,Qt (f x)):Qt (cY n f):=by rw[dN];exact h n
theorem Qt.part{agg:Bool} {size off:Nat} {cs:List V} {f:V->Tr Ef} (h:∀v,Qt (f v)):Qt (fA (kN agg size cs off) f):=fun K hk=>by
 unfold kN fA at hk;cases agg with
 |true=>
   have hk:iu (jO (ly cs off) size) fun r=>f (.agg r) K:=hk;cases hx:jO (ly cs off) size with
   |none=>rw[hx] at hk;exact hk.elim
   |some r=>rw[hx] at hk;exact h _ K hk
 |false=>
   have hk:iu (mJ cs off) fun r=>f r K:=hk;cases hx:mJ cs off with
   |none=>rw[hx] at hk;exact hk.elim
   |some r=>rw[hx] at hk;exact h _ K hk
theorem Xi{t:TypeId} {x:Operand}:Qt (qc C s t x):=by
 unfold qc;repeat' split
 all_goals first
  |exact Qt.fail
  |exact Qt.part fun v=>Qt.force fun v=>Qt.ret rfl
  |exact Qt.idx fun x=>Qt.when (Qt.part fun v=>Qt.force fun v=>Qt.ret rfl)
theorem Xj{x:Operand}:Qt (rQ C s x):=by
 unfold rQ;repeat' split
 all_goals first
  |exact Qt.fail
  |exact Qt.ret rfl
theorem qt_fa{t:TypeId} {x:Operand} {f:Nat}:Qt (rJ C s t x f):=by
 unfold rJ;split
 . refine Qt.opt fun ft=>?_;split
   . exact Qt.fail
   . refine Qt.when ?_;split<;>first
      |exact Qt.fail
      |exact Qt.cY fun a=>Qt.ret rfl
 . exact Qt.fail
theorem Xh{t:TypeId} {x:Operand} {f:Nat}:Qt (rI C s t x f):=by
 unfold rI;split
 . refine Qt.opt fun ft=>?_;split
   . exact Qt.fail
   . exact Qt.part fun v=>Qt.force fun v=>Qt.ret rfl
 . exact Qt.fail
theorem LY{o:Oper} (h:qOp o.op=true):Qt (cL C s o):=by
 unfold cL;cases hop:o.op<;>rw[hop] at h<;>try(cases h;done)
 all_goals simp only
 . exact Qt.force fun x=>Qt.ret rfl
 . exact Xi
 . exact Xj
 . exact qt_fa
 . exact Xh
theorem Xk{L:List Oper} {o:Oper} (h:qOp o.op=true):Qt (stepT C L s o):=by
 unfold stepT;split
 . exact LY h
 . split
   . exact Qt.fail
   . split
     . have hb:∀(c b:Bool) (t u:Tr Ef),Qt t->Qt u->Qt (cond c (nh b t u) (nh b u t)):=fun c b t u ht hu=>by
         cases c<;>cases b<;>first|exact ht|exact hu
       exact hb _ _ _ _ (LY h) (Qt.ret rfl)
     . exact Qt.ret rfl
     . exact Qt.fail
theorem YM{L:List Oper} {o:Oper} {r:Rc} (h:qOp o.op=true) (hs:fy C L o s r):quiet r.e=true:=by
 obtain⟨b,hb,hq⟩:=Xk h _ hs.ef;rw[<-hb];exact hq
theorem HB{L:List Oper} {f:Nat->Rc} {sN:AS}:∀{l:List Nat} {s:AS},ko C L f sN l s->∀k∈l,∃o s',L[k]?=some o/\fy C L o s' (f k)
 |[],_,_,k,hk=>by simp at hk
 |i::l,s,⟨o,h1,h2,h3⟩,k,hk=>by
   rcases List.mem_cons.1 hk with rfl|hk
   . exact⟨o,s,h1,h2⟩
   . exact HB h3 k hk
theorem HA{L:List Oper} {f:Nat->Rc} {sN:AS} {d:Nat}:∀{l:List Nat} {s:AS},ko C L f sN l s->(∀k∈l,quiet (f k).e=true/\∀o,L[k]?=some o->o.dst≠some d)->lk sN.tm d=lk s.tm d
 |[],s,h,_=>(iU.tm h d).symm
 |i::l,s,⟨o,h1,h2,h3⟩,hq=>by
   rw[HA h3 fun k hk=>hq k (d5 _ hk),ka,if_neg ((hq i (by simp)).2 o h1),(qP.1 (hq i (by simp)).1).1];exact jh _
theorem Pa{ops:Array Oper} {id:Nat} (R:Rel E st g s a w) (hg:aL C.gl st) (G:cq C) {Q:Exit->Act->World->Prop} {K:Ex->AS->Prop} {L T:List Oper} {i:Nat} {o:Oper} {x:Operand} {d:Tmp} {f:FuncId} {c:Call}
   (hops:ops.toList=L++T) (hi:L[i]?=some o) (hc:o.op=.call c) (hcv:c.callee=.value (.func f)) (hca:c.args=#[x]) (hgd:o.guard=none) (hd:o.dst=some d) (hq:uG i L 0=true) (hu:tH i d L 0=true) (ht:vf ops.toList i T L.length=true)
   (h:o7 C.both (lO L i {o with op:=.move x}) (lO L i {o with op:=.move x}) 0 [] s (DY C f d s K))
   (hX:∀u s' a' w',K (.pan u) s'->Go C E st g s s' a' w'->Q (.panic [{v:=u,recovered:=false}]) a' w'):(Code.region id ops true).wp C.P Q a w:=by
 have hsz:ops.size=L.length+T.length:=by rw[<-Array.length_toList,hops];simp
 have hil:i<L.length:=(gt.1 hi).1;have hoi:ops[i]?=some o:=by rw[<-Array.getElem?_toList,hops,dl hil];exact hi
 generalize hL':lO L i {o with op:=.move x}=L' at h;have hlen':L'.length=L.length:=by rw[<-hL',Mu]
 have hget:∀k,L'[k]?=if k=i then some {o with op:=.move x} else L[k]?:=fun k=>by
  rw[<-hL',Mt];by_cases e:k=i
  . rw[if_pos ⟨e,hil⟩,if_pos e]
  . rw[if_neg (fun q=>e q.1),if_neg e]
 obtain⟨new,sN,⟨y,hy,hk⟩,_,hch,hfact⟩:=yl (C:=C.both) L' 0 [] s (yP (C:=C.both) L' 0 [] s s (gR.refl s) h) rfl (fun k=>by rw[Nat.zero_add]);rw[hlen'] at hch hfact;generalize hf:(fun k=>([]++new).getD k pr) =f0 at hch;have hquiet:∀k,k<L.length->k≠i->quiet (f0 k).e=true:=fun k hk1 hk2=>by
  obtain⟨o',s',h1,h2⟩:=HB hch k (by rw[List.mem_range'];exact⟨k,hk1,by omega⟩);rw[hget,if_neg hk2] at h1;exact YM (LZ hq h1 (by omega)) h2
 have hdst:∀j t,cO L' j=some t->cO ops.toList j=some t:=fun j t hj=>by
  have dstAt_get:∀(M:List Oper) (j:Nat),cO M j=(M[j]?).bind (·.dst):=fun M=>by
   induction M with
   |nil=>intro j;simp[cO]
   |cons p M ih=>intro j;cases j with
     |zero=>simp[cO]
     |succ j=>simp[cO,ih]
  rw[dstAt_get] at hj;have hj2:cO L j=some t:=by
   rw[dstAt_get];rw[hget] at hj;by_cases e:j=i
   . rw[if_pos e] at hj;subst e;rw[hi];exact hj
   . rw[if_neg e] at hj;exact hj
  rw[hops];exact HR hj2
 refine wp_region_any G.hm ?_;refine H7 (C:=C.both) G.both (ops:=ops) (L:=L') (n:=L.length) hlen' (by omega) (f:=f0) (sN:=sN) i
  (fun s' st' g'=>s'.sg=s.sg/\s'.nt=s.nt/\(∀k,aH k s'.kl=true↔aH k s.kl=true)/\cm st g s st' g' s')
  (fun k o' ho=>?_) hdst (fun k hk2=>by rw[<-hf];exact hfact k (bu _) (by simpa using hk2)) (fun k s' d' st1 g1 st2 g2 hk1 hk2 hI A=>?_) (fun s' st1 g1 a1 w1 next l o' hI R1 hg1 ho hs1 hch1 hil1 hjl=>?_) (fun listed k hls hsh hk1 hk2 hr hpl=>?_)
  ops.size (Array.replicate ops.size false) s st g a _ (by simp) (by rw[zI (cb _)];simp) (by rw[zI (by omega)];exact hch) (fun k hk2 hkl=>?_) Mx (fun _=>by simp[Array.getD,show i<ops.size by omega]) (fun k hk1 hk2=>by simp[Array.getD,hk2]) ⟨rfl,rfl,fun _=>Iff.rfl,cm.refl⟩
  ⟨R.nt,R.df,R.tm,R.wr.same ⟨rfl,rfl,rfl,rfl⟩⟩ hg (fun fuel listed a' w' hls hlen hL2 hsh hpl hrs hgo=>?_)
 . rw[hget] at ho;by_cases e:k=i
   . rw[if_pos e] at ho;cases ho;subst e;exact⟨o,by rw[hops,dl hil];exact hi,rfl,fun q=>absurd rfl q⟩
   . rw[if_neg e] at ho;exact⟨o',by rw[hops,dl (gt.1 ho).1];exact ho,rfl,fun _=>rfl⟩
 . have hqk:=hquiet k hk1 hk2;refine⟨by rw[jt hqk];exact hI.1,hI.2.1,fun j=>?_,hI.2.2.2.trans A⟩;rw[<-hI.2.2.1 j];show aH j (gW (f0 k).e.ks s'.kl) =true↔_;rw[(qP.1 hqk).1];rfl
 . rw[hget,if_pos rfl] at ho;cases ho;have he:(f0 i).e=pe (s'.ev C x):=by
    have:=hs1.ef;unfold stepT at this;simp only[hgd] at this;unfold cL at this;simp only[force_eq] at this;exact this.symm
   have hlk:lk sN.tm d=s'.ev C x:=by
    rw[HA (d:=d) hch1 fun k hk=>⟨hquiet k (hjl k hk) (fun e=>hil1 (e▸hk)),fun o2 ho2=>by
     have e:k≠i:=fun e=>hil1 (e▸hk);rw[hget,if_neg e] at ho2;exact HT hu ho2 (by omega)⟩]
    rw[ka,if_pos hd,he];rfl
   unfold DY at hk;rw[show lk y.tm d=s'.ev C x by rw[hy.tm,hlk],show i9 C.kO s.sg f [s'.ev C x]=i9 C.kO s'.sg f [s'.ev C x] by rw[hI.1]] at hk;unfold wpOp;rw[hoi];simp only;rw[if_pos (by simp[Region.wanted,hgd])];left;obtain⟨vs,hv1,hv2⟩:=Au (C:=C) (c:=c) (f:=f) (first:=[]) (captured:=[]) (R:=R1) hg1 hcv rfl;have hargs:([]:List V)++s'.evs C c.args.toList++[]=[s'.ev C x]:=by rw[hca];simp[AS.evs]
   rw[hargs] at hv1;cases hp1:i9 C.kO s'.sg f [s'.ev C x] with
   |none=>rw[hp1] at hk;exact hk.elim
   |some p1=>
     obtain⟨p,e1⟩:=p1;rw[hp1] at hk;obtain⟨hp,hk⟩:=hk;unfold su at hk;rw[lD] at hk;refine Eu (C:=C.kO) R1 hg1 G.kO (hv2 o hc) hv1 hp1 hp fun u st2 g2 w2 hu A2 W2=>?_;rw[hu] at hk;simp only[iu,gX] at hk;have hsg:(AS.app ⟨s.nt,[],s.sg,s.kl⟩ none ⟨.undef,e1.ks,e1.up,e1.nw,e1.rd⟩).sg=(s'.app none e1).sg:=by rw[lh,lh,hI.1]
     have A3:=hI.2.2.2.trans (cm.app (d:=none) (e:=⟨.undef,e1.ks,e1.up,e1.nw,e1.rd⟩) A2);have hkl:∀j,aH j (AS.app ⟨s.nt,[],s.sg,s.kl⟩ none ⟨.undef,e1.ks,e1.up,e1.nw,e1.rd⟩).kl=true↔aH j (s'.app none ⟨.undef,e1.ks,e1.up,e1.nw,e1.rd⟩).kl=true:=fun j=>by
      show aH j (gW e1.ks s.kl) =true↔aH j (gW e1.ks s'.kl) =true;rw[lU,lU,hI.2.2.1 j]
     refine hX u _ a1 w2 hk ⟨st2,g2,⟨by rw[R1.nt,hI.2.1];rfl,R1.df,fun t=>?_,by rw[hsg];exact W2⟩,hg1.mono A2.mono,⟨A3.mono,fun j hj hm=>A3.aO j hj ?_,by rw[hsg];exact A3.len,fun j hj=>(hkl j).2 (A3.kl j hj)⟩⟩
     . show VR st2 g2 (lk (kK e1.ks []) t) _ _;rw[pf];simp[lk,V.kill,VR]
     . cases hb:aH j (s'.app none ⟨.undef,e1.ks,e1.up,e1.nw,e1.rd⟩).kl with
       |false=>rfl
       |true=>rw[(hkl j).2 hb] at hm;cases hm
 . exfalso;have hot:∃o',ops[k]?=some o':=⟨_,Array.getElem?_eq_getElem hk2⟩
   obtain⟨o',ho'⟩:=hot;have hok:ops.toList[k]?=some o':=by rw[Array.getElem?_toList];exact ho'
   have hT:T[k-L.length]?=some o':=by rw[hops,dt hk1] at hok;exact hok
   have hm:=MY ht hT;rw[show L.length+(k-L.length) =k by omega] at hm;have hd2:=(Ai hr).2 o' ho';have hcl:=vO (ops:=ops.toList) (P:=fun j=>j<ops.size->listed.getD j true=true) (fun k o ho hkl j hj hjs=>hsh k o ho (hkl (by
    have:=(gt.1 ho).1;simpa using this)) j hj hjs) k (lK o'.after.toList) (fun j hj _=>by
     obtain⟨e,he1,he2,rfl⟩:=xp.1 hj;exact hd2 e he1 he2) i hm (by omega)
   rw[hpl hil] at hcl;cases hcl
 . have hlt:k<ops.size:=by omega
   simp[Array.getD,hlt] at hkl
 . exfalso;have:i∈left L.length listed:=j5.2 ⟨hil,hpl hil⟩;rw[hL2] at this;simp at this
theorem P8{ops:Array Oper} {id:Nat} (R:Rel E st g s a w) (hg:aL C.gl st) (G:cq C) {Q:Exit->Act->World->Prop} {K:Ex->AS->Prop} (h:vz C ops.toList s K)
   (hK:∀s' a' w',K .norm s'->Go C E st g s s' a' w'->Q .normal a' w') (hX:∀u s' a' w',K (.pan u) s'->Go C E st g s s' a' w'->Q (.panic [{v:=u,recovered:=false}]) a' w'):(Code.region id ops true).wp C.P Q a w:=by
 cases h with
 |last L o c hops hc hgd hed hb h=>exact P9 R hg G hops hc hgd hed hb h hK hX
 |pan L T i o x d f c hops hi hc hcv hca hgd hd hq hu ht h=>exact Pa R hg G hops hi hc hcv hca hgd hd hq hu ht h hX
end
end Go.VG
