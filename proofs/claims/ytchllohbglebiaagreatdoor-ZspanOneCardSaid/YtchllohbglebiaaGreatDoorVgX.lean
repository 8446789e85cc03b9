/-
  A part of the proof.
-/
import Derived.Test.YtchllohbglebiaaGreatDoorVgW
import GoSem.ClaimChange
import Derived.Deep.DeepHandedRow
import Derived.LaidLaws
import Derived.Below
import Derived.Carry
import Derived.ChangeSame
import Derived.ProofKit
set_option linter.unusedSimpArgs false
set_option linter.unusedVariables false
namespace Go.VG
open Go

def jU(agg:Bool) (cs:List V):Option V:=match agg,cs with
 |true,cs=>some (.agg cs)
 |false,[x]=>some x
 |false,_=>none

def cD{H:Type} (ti:TypeId->TI):Nat->TypeId->DataW H->Option (List V)
 |0,_,_=>none
 |f+1,t,d=>match (ti t).k,d with
   |.bool,.lit (.bool b) =>some [.bool b]
   |.int k,.lit (.int _ n) =>some [.int k n]
   |.string,.lit (.string s) =>some [.str s]
   |.slice e,.nil=>some [.list true (ti e).size []]
   |.slice e,.slice elems _=>(elems.mapM fun x=>(cD ti f e x).bind (jU (ti e).k.isAgg)).map fun l=>[.list false (ti e).size l]
   |.ptr _,.nil=>some [.nilptr]
   |.ptr e,.ptr x=>(cD ti f e x).map fun cs=>[.box cs 0]
   |.struct fs,.agg parts=>cond (Nat.beq fs.length parts.length) (((fs.zip parts).mapM fun p=>cD ti f p.1.2 p.2).map List.flatten) none
   |.array n e,.agg parts=>cond (Nat.beq n parts.length) ((parts.mapM fun x=>cD ti f e x).map List.flatten) none
   |.iface,.nil=>some [.nilIface]
   |_,_=>none

def wT(S:TypeId->Bool):TK->Bool
 |.bool|.int _|.string=>true
 |.slice e=>S e
 |.struct fs=>fs.all fun f=>S f.2
 |.array _ e=>S e
 |_=>false

theorem H9{agg:Bool} {cs:List V} {n:Nat} {st:St} {g:au} {vs:List Value} {x:V} (h:jU agg cs=some x) (hv:aC st g cs n vs) (ho:eG cs=true):∃u,VR st g x n u/\u.cells.toList=vs:=by
 cases agg with
 |true=>
   simp only[jU,Option.some.injEq] at h;subst h;exact⟨.agg vs.toArray,by simp only[VR];exact⟨_,rfl,by simpa using hv⟩,by simp[Value.cells]⟩
 |false=>
   match cs,h with
   |[y],h=>
     simp only[jU,Option.some.injEq] at h;subst h;have hvs:=hv;simp only[aC] at hv;obtain⟨u,us,rfl,h1,rfl⟩:=hv;refine⟨u,h1,?_⟩;have hone:=uA hvs ho u (by simp);cases u<;>first
      |rfl
      |(simp[Value.oneCell'] at hone)

theorem L7{α β γ:Type} {f:α->Option β} {k:β->Option γ} {p:α->β->γ->Prop}:∀{l:List α} {r:List β},l.mapM f=some r->(∀a∈l,∀b,f a=some b->∃c,k b=some c/\p a b c)->
   ∃cs,r.mapM k=some cs/\cs.length=l.length/\∀(i:Nat) a b c,l[i]?=some a->r[i]?=some b->cs[i]?=some c->p a b c
 |[],r,h,_=>by
   simp at h;subst h;exact⟨[],by simp,rfl,fun i a b c h=>by simp at h⟩
 |x::l,r,h,hk=>by
   rw[List.mapM_cons] at h;cases hx:f x with
   |none=>rw[hx] at h;simp at h
   |some y=>
     rw[hx] at h;cases hl:l.mapM f with
     |none=>rw[hl] at h;simp at h
     |some ys=>
       rw[hl] at h;simp at h;subst h;obtain⟨c,h1,h2⟩:=hk x (by simp) y hx;obtain⟨cs,h3,h4,h5⟩:=L7 hl fun a ha=>hk a (d5 _ ha);refine⟨c::cs,by rw[List.mapM_cons,h1,h3];rfl,by simp[h4],fun i a b c' ha hb hc=>?_⟩;cases i with
       |zero=>simp at ha hb hc;subst ha;subst hb;subst hc;exact h2
       |succ i=>simp at ha hb hc;exact h5 i a b c' ha hb hc

theorem Ge{H:Type} {enc:TypeId×Value->H} {P:Program} {w:World} {ti:TypeId->TI} (hti:∀t,lS P t (ti t)) {fuel:Nat} {t:TypeId} {cs:List Value} {d:DataW H} {ps:List MemPlace} {st:St} {g:au}
   {held:Bool} (hk:(ti t).k=.bool\/(∃k,(ti t).k=.int k)\/(ti t).k=.string) (h:DataW.trod enc P w 0 (fun _=>true) held (fuel+1) t cs=some (d,ps)):
   ∃xs,cD ti (fuel+1) t d=some xs/\aC st g xs 0 cs/\eG xs=true:=by
 unfold DataW.trod at h;rcases hk with hk|⟨k,hk⟩|hk
 . have hu:=((hti t).of (by rw[hk];simp)).1;rw[hk] at hu;rw[show P.underlying t=some .bool from hu] at h;simp only at h;split at h<;>simp_all;obtain⟨rfl,_⟩:=h;rename_i b _;exact⟨[.bool b],by simp only[cD,hk],cy (by simp[VR]) dM,rfl⟩
 . have hu:=((hti t).of (by rw[hk];simp)).1;rw[hk] at hu;rw[show P.underlying t=some (.int k) from hu] at h;simp only at h;split at h<;>simp_all;obtain⟨⟨rfl,hwf⟩,rfl,_⟩:=h;rename_i k' n _ _;refine⟨[.int k' n],by simp only[cD,hk],cy ?_ dM,rfl⟩;simp only[Lit.wf,zza,decide_eq_true_eq] at hwf;simp only[VR];exact⟨trivial,hwf⟩
 . have hu:=((hti t).of (by rw[hk];simp)).1;rw[hk] at hu;rw[show P.underlying t=some .string from hu] at h;simp only at h;split at h<;>simp_all;obtain⟨hl,rfl,_⟩:=h;rename_i s _;refine⟨[.str s.data.toList],by simp only[cD,hk],cy ?_ dM,rfl⟩;simp only[VR];exact⟨trivial,by simpa using hl⟩

theorem LG{xs ys:List V} (h:eG xs=true) (k:eG ys=true):eG (xs++ys) =true:=by
 induction xs with
 |nil=>exact k
 |cons x xs ih=>
   simp only[eG,zza,List.cons_append] at h⊢;exact⟨h.1,ih h.2⟩

theorem Za{w:World} {a:Addr} {len cap sz:Nat} {l:List V} {st:St} {g:au} (hst:∀b o,st b o=w.cell? ⟨b,o,none⟩) (hl:l.length=len) (hcap:len<=cap) (hmax:cap<=maxLen) (hsz:0<sz)
   (h:∀(i:Nat) x,l[i]?=some x->∃u,VR st g x 0 u/\u.cells.size=sz/\(∀v∈u.cells.toList,v.oneCell'=true)/\∀j,j<sz->w.cell? ((a.add (i*sz)).add j) =u.cells[j]?):
   VR st g (.list false sz l) 0 (.slice (some a) len cap):=by
 simp only[VR];refine⟨some a,cap,by rw[hl],by omega,by omega,by simp,?_⟩;cases hl0:l with
 |nil=>exact .inl rfl
 |cons x l'=>
   right;have h0:=h 0 x (by rw[hl0];rfl);obtain⟨u,_,h2,_,h4⟩:=h0;have h5:=h4 0 hsz;rw[Nat.zero_mul] at h5;have ha0:(a.add 0).add 0=a:=by simp[Addr.add]
   rw[ha0] at h5;have hspot:a.spot=none:=by
    have h6:u.cells[0]?=some u.cells[0]:=Array.getElem?_eq_getElem (by omega);rw[h6] at h5;unfold World.cell? at h5;split at h5
    . cases hs:a.spot with
      |none=>rfl
      |some k=>rw[hs] at h5;simp at h5
    . cases h5
   obtain⟨b,o,sp⟩:=a;simp only at hspot;subst hspot;refine⟨b,o,rfl,hsz,?_⟩;rw[<-hl0,gV];intro i y hy;obtain⟨u,q1,q2,q3,q4⟩:=h i y hy;refine⟨u,q1,q2,q3,fun j hj=>?_⟩;rw[<-q4 j hj,hst]
   congr 1
   simp only[Addr.add];by_cases e1:i*sz=0<;>by_cases e2:j=0<;>simp[e1,e2,Nat.add_assoc]

theorem H8{agg:Bool} {cs:List V} (h:agg=false->cs.length=1):∃x,jU agg cs=some x:=by
 cases agg with
 |true=>exact⟨_,rfl⟩
 |false=>
   match cs,h rfl with
   |[y],_=>exact⟨y,rfl⟩
theorem Hz{H:Type} {ti:TypeId->TI} {f:Nat} {t:TypeId} {d:DataW H} {xs:List V} (hna:(ti t).k.isAgg=false) (h:cD ti f t d=some xs):xs.length=1:=by
 cases f with
 |zero=>simp[cD] at h
 |succ f=>
   simp only[cD] at h;split at h<;>simp_all[TK.isAgg];all_goals (first|(subst h;rfl)|(obtain⟨_,_,rfl⟩:=h;rfl))
theorem mapM_congr{α β:Type} {f g:α->Option β}:∀{l:List α},(∀a∈l,f a=g a)->l.mapM f=l.mapM g
 |[],_=>rfl
 |x::l,h=>by
   rw[List.mapM_cons,List.mapM_cons,h x (by simp),mapM_congr fun a ha=>h a (d5 _ ha)]
theorem Nk{H:Type} {tr:List Value->Option (DataW H×List MemPlace)} {cd:DataW H->Option (List V)} {st:St} {g:au} {cs:List Value} {sz:Nat}
   (hone:∀vs d ps,tr vs=some (d,ps)->∃xs,cd d=some xs/\aC st g xs 0 vs/\eG xs=true):∀(m k:Nat) (r:List (DataW H×List MemPlace)),(k+m)*sz<=cs.length->
   ((List.range' k m).mapM fun i=>tr ((cs.drop (i*sz)).take sz)) =some r->∃xss,(r.mapM fun p=>cd p.1) =some xss/\aC st g xss.flatten 0 ((cs.drop (k*sz)).take (m*sz))/\eG xss.flatten=true
 |0,k,r,_,h=>by
   simp at h;subst h;exact⟨[],by simp,by simp[aC],by simp[eG]⟩
 |m+1,k,r,hl,h=>by
   rw[List.range'_succ,List.mapM_cons] at h;cases hx:tr ((cs.drop (k*sz)).take sz) with
   |none=>simp only[hx] at h;simp at h
   |some y=>
     simp only[hx] at h;cases hl':((List.range' (k+1) m).mapM fun i=>tr ((cs.drop (i*sz)).take sz)) with
     |none=>rw[hl'] at h;simp at h
     |some ys=>
       rw[hl'] at h;simp at h;subst h;obtain⟨d,ps⟩:=y;obtain⟨xs,h1,h2,h3⟩:=hone _ _ _ hx;obtain⟨xss,k1,k2,k3⟩:=Nk hone m (k+1) ys (by rw[show k+1+m=k+(m+1) by omega];exact hl) hl';refine⟨xs::xss,?_,?_,?_⟩
       . rw[List.mapM_cons];simp only[h1,k1];rfl
       . rw[List.flatten_cons];have hsplit:(cs.drop (k*sz)).take ((m+1)*sz) =(cs.drop (k*sz)).take sz++(cs.drop ((k+1)*sz)).take (m*sz):=by
          rw[show(k+1)*sz=k*sz+sz by rw[Nat.succ_mul],<-List.drop_drop,show(m+1)*sz=sz+m*sz by rw[Nat.succ_mul,Nat.add_comm],List.take_add]
         rw[hsplit];exact tb h2 k2
       . rw[List.flatten_cons];exact LG h3 k3

def pW(ti:TypeId->TI):List (Nat×TypeId)->Nat->Option Nat
 |[],o=>some o
 |(p,t)::r,o=>match Nat.beq p o with
   |true=>pW ti r (o+(ti t).size)
   |false=>none

theorem Nl{H:Type} {ti:TypeId->TI} {tr:TypeId->List Value->Option (DataW H×List MemPlace)} {cd:TypeId->DataW H->Option (List V)} {st:St} {g:au} {cs:List Value}
   (hone:∀t vs d ps,tr t vs=some (d,ps)->∃xs,cd t d=some xs/\aC st g xs 0 vs/\eG xs=true):∀(fs:List (Nat×TypeId)) (o n:Nat) (r:List (DataW H×List MemPlace)),pW ti fs o=some n->o<=cs.length->n<=cs.length->
   (fs.mapM fun f=>tr f.2 ((cs.drop f.1).take (ti f.2).size)) =some r->∃xss,((fs.zip (r.map (·.1))).mapM fun p=>cd p.1.2 p.2) =some xss/\aC st g xss.flatten 0 ((cs.drop o).take (n-o))/\eG xss.flatten=true/\o<=n
 |[],o,n,r,hc,_,_,h=>by
   simp[pW] at hc;simp at h;subst h;subst hc;exact⟨[],by simp,by simp[aC],by simp[eG],cb _⟩
 |(p,t)::fs,o,n,r,hc,hol,hnl,h=>by
   simp only[pW] at hc;cases hb:Nat.beq p o with
   |false=>rw[hb] at hc;cases hc
   |true=>
     rw[hb] at hc;have:=aB hb;subst this;rw[List.mapM_cons] at h;cases hx:tr t ((cs.drop p).take (ti t).size) with
     |none=>simp only[hx] at h;simp at h
     |some y=>
       simp only[hx] at h;cases hl:(fs.mapM fun f=>tr f.2 ((cs.drop f.1).take (ti f.2).size)) with
       |none=>rw[hl] at h;simp at h
       |some ys=>
         rw[hl] at h;simp at h;subst h;obtain⟨d,ps⟩:=y;obtain⟨xs,h1,h2,h3⟩:=hone _ _ _ _ hx;have hle:p+(ti t).size<=n:=by
          have:∀(l:List (Nat×TypeId)) o n,pW ti l o=some n->o<=n:=by
           intro l
           induction l with
           |nil=>intro o n h;simp[pW] at h;omega
           |cons f l ih=>
             intro o n h;obtain⟨q,u⟩:=f;simp only[pW] at h;split at h
             . have:=ih _ _ h;omega
             . cases h
          exact this _ _ _ hc
         obtain⟨xss,k1,k2,k3,k4⟩:=Nl hone fs (p+(ti t).size) n ys hc (by omega) hnl hl;refine⟨xs::xss,?_,?_,?_,by omega⟩
         . rw[List.map_cons,List.zip_cons_cons,List.mapM_cons];simp only[h1,k1];rfl
         . rw[List.flatten_cons];have hsplit:(cs.drop p).take (n-p) =(cs.drop p).take (ti t).size++(cs.drop (p+(ti t).size)).take (n-(p+(ti t).size)):=by
            rw[<-List.drop_drop,show n-p=(ti t).size+(n-(p+(ti t).size)) by omega,List.take_add]
           rw[hsplit];exact tb h2 k2
         . rw[List.flatten_cons];exact LG h3 k3

structure sV(P:Program) (ti:TypeId->TI) (S:TypeId->Bool):Prop where
 tys:∀t,lS P t (ti t)
 kids:∀t,S t=true->wT S (ti t).k=true
 pos:∀t,S t=true->(∃e,(ti t).k=.slice e/\0<(ti e).size)\/(∃e,(ti t).k=.ptr e/\0<(ti e).size)\/((∀e,(ti t).k≠.slice e)/\∀e,(ti t).k≠.ptr e)
 fields:∀t fs,S t=true->(ti t).k=.struct fs->pW ti fs 0=some (ti t).size
 array:∀t m e,S t=true->(ti t).k=.array m e->(ti t).size=m*(ti e).size

theorem Dl{S:TypeId->Bool} {k:TK} (h:wT S k=true):k≠.other:=by
 intro e;subst e;simp[wT] at h

theorem Nj{H:Type} {enc:TypeId×Value->H} {P:Program} {w:World} {ti:TypeId->TI} {S:TypeId->Bool} (D:sV P ti S) {st:St} {g:au} {held:Bool} (hst:∀b o,st b o=w.cell? ⟨b,o,none⟩):
   ∀(fuel:Nat) (t:TypeId) (cs:List Value) (d:DataW H) (ps:List MemPlace),S t=true->DataW.trod enc P w 0 (fun _=>true) held fuel t cs=some (d,ps)->∃xs,cD ti fuel t d=some xs/\aC st g xs 0 cs/\eG xs=true:=by
 intro fuel
 induction fuel with
 |zero=>intro t cs d ps _ h;simp[DataW.trod] at h
 |succ fuel ih=>
   intro t cs d ps hSt h;have hkid:=D.kids t hSt;have hu:=((D.tys t).of (Dl hkid)).1;have hsize:∀e,S e=true->P.cellsOf e=(ti e).size:=fun e he=>Ce (D.tys e) (Dl (D.kids e he));cases hk:(ti t).k<;>rw[hk] at hkid hu<;>simp only[wT] at hkid<;>try(cases hkid;done)
   case bool=>exact Ge D.tys (.inl hk) h
   case int k=>exact Ge D.tys (.inr (.inl ⟨k,hk⟩)) h
   case string=>exact Ge D.tys (.inr (.inr hk)) h
   case slice e=>
    have hpos:0<(ti e).size:=by
     rcases D.pos t hSt with ⟨e',h1,h2⟩|⟨e',h1,_⟩|⟨h1,_⟩
     . rw[hk] at h1;cases h1;exact h2
     . rw[hk] at h1;cases h1
     . exact absurd hk (h1 e)
    unfold DataW.trod at h;rw[show P.underlying t=some (.slice e) from hu] at h;simp only at h;rcases cs with _|⟨v,_|⟨v2,rest⟩⟩
    . simp at h
    . have hsl:∃base len cap,v=.slice base len cap:=by
        cases v<;>first
         |exact⟨_,_,_,rfl⟩
         |(simp at h;done)
      obtain⟨base,len,cap,rfl⟩:=hsl;cases base with
      |none=>
        have hz:len=0/\cap=0:=by
         cases len<;>cases cap<;>first
          |exact⟨rfl,rfl⟩
          |(simp at h;done)
        obtain⟨rfl,rfl⟩:=hz;simp only[Option.some.injEq,Prod.mk.injEq] at h;obtain⟨rfl,_⟩:=h;refine⟨[.list true (ti e).size []],by simp only[cD,hk],cy ?_ dM,rfl⟩;simp only[VR];exact⟨none,0,rfl,by simp,by simp,by simp,.inl trivial⟩
      |some a=>
        simp only[hsize e hkid] at h;split at h
        . rename_i hcond;obtain⟨_,hlc,hcm⟩:=hcond;cases hm:(List.range len).mapM (fun i=>(w.cells? 0 (a.add (i*(ti e).size)) (ti e).size).bind (DataW.trod enc P w 0 (fun _=>true) held fuel e)) with
          |none=>rw[hm] at h;simp at h
          |some elems=>
            rw[hm] at h;simp only[Option.bind_some,Option.map_eq_some_iff,Prod.mk.injEq] at h;obtain⟨rest,_,rfl,_⟩:=h;obtain⟨l,h1,h2,h3⟩:=L7 (k:=fun x=>(cD ti fuel e x.1).bind (jU (ti e).k.isAgg))
             (p:=fun i _ c=>∃u,VR st g c 0 u/\u.cells.size=(ti e).size/\(∀v∈u.cells.toList,v.oneCell'=true)/\∀j,j<(ti e).size->w.cell? ((a.add (i*(ti e).size)).add j) =u.cells[j]?) hm (fun i _ b hb=>by
              simp only[Option.bind_eq_some_iff] at hb;obtain⟨ecs,hb1,hb2⟩:=hb;obtain⟨_,hb3,hb4⟩:=World.cells?_some hb1;obtain⟨xs,q1,q2,q3⟩:=ih e ecs b.1 b.2 hkid hb2;have hxl:xs.length=(ti e).size:=by rw[eN q2,hb3]
              obtain⟨x,hx⟩:=H8 (agg:=(ti e).k.isAgg) (fun hna=>Hz hna q1);obtain⟨u,k1,k2⟩:=H9 hx q2 q3;refine⟨x,by rw[q1];exact hx,u,k1,?_,?_,fun j hj=>?_⟩
              . rw[<-Array.length_toList,k2,hb3]
              . rw[k2];exact uA q2 q3
              . rw[hb4 j hj,<-k2,Array.getElem?_toList])
            have hlen:l.length=len:=by simpa using h2
            refine⟨[.list false (ti e).size l],?_,cy (Za hst hlen hlc hcm hpos fun i x hx=>?_) dM,rfl⟩
            . simp only[cD,hk,List.mapM_map];rw[show((fun x=>(cD ti fuel e x).bind (jU (ti e).k.isAgg))∘fun x=>x.1) =(fun x:DataW H×List MemPlace=>(cD ti fuel e x.1).bind (jU (ti e).k.isAgg)) from rfl,h1];rfl
            . have hi:i<len:=by
                rw[<-hlen];rcases d7 i l.length with h'|h'
                . exact h'
                . simp[ci h'] at hx
              have hel:elems.length=len:=by simpa using mapM_some_length hm
              exact h3 i i _ x (by simp[hi]) (am (by omega)) hx
        . cases h
    . simp at h
   case array m e=>
    unfold DataW.trod at h;rw[show P.underlying t=some (.array m e) from hu] at h;simp only[hsize e hkid,hsize t hSt] at h;split at h
    . rename_i hcl;simp only[Option.map_eq_some_iff,Prod.mk.injEq] at h;obtain⟨r,hm,rfl,_⟩:=h;obtain⟨xss,h1,h2,h3⟩:=Nk (cs:=cs) (sz:=(ti e).size) (fun vs d ps hh=>ih e vs d ps hkid hh) m 0 r (by have:=D.array t m e hSt hk;rw[Nat.zero_add];omega) (by rw[<-List.range_eq_range'];exact hm);refine⟨xss.flatten,?_,?_,h3⟩
      . simp only[cD,hk,List.mapM_map];have hlen:Nat.beq m (r.map (·.1)).length=true:=by
         have:=mapM_some_length hm;rw[aA,this,List.length_range];exact Nat.beq_refl _
        rw[hlen,cond_true,show(fun x=>cD ti fuel e x)∘(fun x:DataW H×List MemPlace=>x.1) =fun x=>cD ti fuel e x.1 from rfl,h1];rfl
      . have hh:=D.array t m e hSt hk;have:(cs.drop (0*(ti e).size)).take (m*(ti e).size) =cs:=by rw[Nat.zero_mul,List.drop_zero];exact eo (by omega)
        rw[this] at h2;exact h2
    . cases h
   case struct fs=>
    obtain⟨fields,hu1,hu2,_⟩:=hu;unfold DataW.trod at h;rw[hu1] at h;simp only[hsize t hSt] at h;split at h
    . rename_i hcl;simp only[Option.map_eq_some_iff,Prod.mk.injEq] at h;obtain⟨r,hm,rfl,_⟩:=h;have hfs:∀f∈fs,S f.2=true:=by simpa[List.all_eq_true] using hkid
      have hm':fs.mapM (fun f=>if S f.2=true then DataW.trod enc P w 0 (fun _=>true) held fuel f.2 ((cs.drop f.1).take (ti f.2).size) else none) =some r:=by
       rw[<-hm,<-hu2,List.mapM_map];refine mapM_congr fun f hf=>?_;have hs:S f.type=true:=hfs (f.offset,f.type) (by rw[<-hu2];exact List.mem_map.2 ⟨f,hf,rfl⟩);simp[hs,hsize _ hs]
      obtain⟨xss,h1,h2,h3,_⟩:=Nl (ti:=ti) (tr:=fun t vs=>if S t=true then DataW.trod enc P w 0 (fun _=>true) held fuel t vs else none) (cd:=cD ti fuel) (st:=st) (g:=g) (cs:=cs)
       (fun t vs d ps hh=>by
        split at hh
        . rename_i hs;exact ih t vs d ps hs hh
        . cases hh) fs 0 (ti t).size r (D.fields t fs hSt hk) (bu _) (by omega) hm'
      refine⟨xss.flatten,?_,?_,h3⟩
      . simp only[cD,hk];have hlen:Nat.beq fs.length (r.map (·.1)).length=true:=by
         have:=mapM_some_length hm';rw[aA,this];exact Nat.beq_refl _
        rw[hlen,cond_true,h1];rfl
      . have:(cs.drop 0).take ((ti t).size-0) =cs:=by rw[List.drop_zero];exact eo (by omega)
        rw[this] at h2;exact h2
    . cases h
end Go.VG
namespace Go.VG
open Go Go.RowKit Go.WideShapes Go.ChangeShapes

theorem zInt{k:IntKind} (st:St) (g:au) (n:Nat):VR st g (.int k 0) n (.int k 0):=by
 simp only[VR];refine⟨trivial,?_⟩;cases k<;>decide
theorem zStr(st:St) (g:au) (n:Nat):VR st g (.str []) n (.string ⟨#[]⟩):=by simp[VR]
theorem zBool{b:Bool} (st:St) (g:au) (n:Nat):VR st g (.bool b) n (.bool b):=by simp[VR]
theorem zPtr(st:St) (g:au) (n:Nat):VR st g .nilptr n (.pointer none):=by simp[VR]
theorem zMap(st:St) (g:au) (n:Nat):VR st g .nilmap n (.map none):=by simp[VR]
theorem ZG(st:St) (g:au) (n:Nat):VR st g .nilIface n .nilIface:=by simp[VR]
theorem zFunc(st:St) (g:au) (n:Nat):VR st g .nilFunc n .nilFunc:=by simp[VR]
theorem zList(st:St) (g:au) (n:Nat):VR st g (.list true 0 []) n (.slice none 0 0):=by simp[VR]
section
variable {H:Type} {ti:TypeId->TI}

theorem OQ:∀{f:Nat} {t:TypeId} {d:DataW H} {xs:List V},cD ti f t d=some xs->cD ti (f+1) t d=some xs:=by
 intro f
 induction f with
 |zero=>intro t d xs h;simp[cD] at h
 |succ f ih=>
   intro t d xs h;have hm:∀{α:Type} {l:List α} {r:List (List V)} (k:α->TypeId×DataW H),l.mapM (fun x=>cD ti f (k x).1 (k x).2)=some r->l.mapM (fun x=>cD ti (f+1) (k x).1 (k x).2)=some r:=by
    intro α l
    induction l with
    |nil=>intro r k h;simpa using h
    |cons x l ihl=>
      intro r k h;rw[List.mapM_cons] at h⊢;cases hx:cD ti f (k x).1 (k x).2 with
      |none=>rw[hx] at h;simp at h
      |some y=>
        rw[hx] at h;cases hl:l.mapM (fun x=>cD ti f (k x).1 (k x).2) with
        |none=>rw[hl] at h;simp at h
        |some ys=>
          rw[hl] at h;rw[ih hx,ihl k hl];exact h
   have hm':∀{e:TypeId} {b:Bool} {l:List (DataW H)} {r:List V},l.mapM (fun x=>(cD ti f e x).bind (jU b))=some r->l.mapM (fun x=>(cD ti (f+1) e x).bind (jU b))=some r:=by
    intro e b l
    induction l with
    |nil=>intro r h;simpa using h
    |cons x l ihl=>
      intro r h;rw[List.mapM_cons] at h⊢;cases hx:cD ti f e x with
      |none=>rw[hx] at h;simp at h
      |some y=>
        rw[hx] at h;simp only[Option.bind_some] at h;cases hy:jU b y with
        |none=>rw[hy] at h;simp at h
        |some z=>
          rw[hy] at h;cases hl:l.mapM (fun x=>(cD ti f e x).bind (jU b)) with
          |none=>rw[hl] at h;simp at h
          |some ys=>
            rw[hl] at h;rw[ih hx,Option.bind_some,hy,ihl hl];exact h
   unfold cD at h;unfold cD;split at h<;>try simp_all only[]
   all_goals (first
    |exact h
    |(cases hb:Nat.beq _ _ with
       |false=>rw[hb] at h;cases h
       |true=>
         rw[hb] at h;simp only[cond_true,Option.map_eq_some_iff] at h⊢;obtain⟨l,h1,h2⟩:=h;first
          |exact⟨l,hm (fun x:DataW H=>(_,x)) h1,h2⟩
          |exact⟨l,hm (fun x:(Nat×TypeId)×DataW H=>(x.1.2,x.2)) h1,h2⟩)
    | (simp only [Option.map_eq_some_iff] at h ⊢
       obtain⟨l,h1,h2⟩:=h;first
        |exact⟨l,hm' h1,h2⟩
        |exact⟨l,hm (fun x:DataW H=>(_,x)) h1,h2⟩
        |exact⟨l,hm (fun x:(Nat×TypeId)×DataW H=>(x.1.2,x.2)) h1,h2⟩
        |exact⟨l,ih h1,h2⟩)
    |cases h)
theorem Hy{f f':Nat} (h:f<=f') {t:TypeId} {d:DataW H} {xs:List V} (hx:cD ti f t d=some xs):cD ti f' t d=some xs:=by
 induction h with
 |refl=>exact hx
 |step _ ih=>exact OQ ih
theorem OO{f f':Nat} {t:TypeId} {d:DataW H} {xs ys:List V} (hx:cD ti f t d=some xs) (hy:cD ti f' t d=some ys):xs=ys:=by
 have h1:=Hy (Nat.le_max_left f f') hx;have h2:=Hy (Nat.le_max_right f f') hy;rw[h1] at h2;exact Option.some.inj h2

def IsD(ti:TypeId->TI) (t:TypeId) (d:DataW H) (x:V):Prop:=∃f,(cD ti f t d).bind (jU (ti t).k.isAgg) =some x
def nM(ti:TypeId->TI):List TypeId->List (DataW H)->List V->Prop
 |[],[],[]=>True
 |t::ts,d::ds,x::xs=>IsD ti t d x/\nM ti ts ds xs
 |_,_,_=>False

variable {P:Program} {S:TypeId->Bool} {enc:TypeId×Value->H} {st:St} {g:au} {w:World}
theorem Z9(D:sV P ti S) (hst:∀b o,st b o=w.cell? ⟨b,o,none⟩) {t:TypeId} {v:Value} {d:DataW H} {ps:List MemPlace} {base:Nat} (hS:S t=true) (hok:Value.okWide P w .any base t v)
   (h:DataW.Trod enc P w 0 (fun _=>true) true t v d ps):∃x,IsD ti t d x/\VR st g x 0 v:=by
 obtain⟨fuel,h⟩:=h;obtain⟨xs,h1,h2,h3⟩:=Nj (g:=g) D hst fuel t _ d ps hS h;have hk:=Dl (D.kids t hS);have hu:=((D.tys t).of hk).1;have hkid:=D.kids t hS;obtain⟨x,hx⟩:=H8 (agg:=(ti t).k.isAgg) (fun hna=>Hz hna h1);refine⟨x,⟨fuel,by rw[h1];exact hx⟩,?_⟩;obtain⟨u,k1,k2⟩:=H9 hx h2 h3;cases hkk:(ti t).k<;>rw[hkk] at hu hkid hx<;>simp only[wT] at hkid<;>try(cases hkid;done)
 case struct fs=>
  obtain⟨fields,hu,_⟩:=hu;simp only[Value.okWide,hu] at hok;obtain⟨cs,rfl,_⟩:=hok;simp only[jU,TK.isAgg,Option.some.injEq] at hx;subst hx;simp only[VR];exact⟨cs,rfl,by simpa[Value.cells] using h2⟩
 case array n e=>
  simp only[Value.okWide,show P.underlying t=_ from hu] at hok;obtain⟨cs,rfl,_⟩:=hok;simp only[jU,TK.isAgg,Option.some.injEq] at hx;subst hx;simp only[VR];exact⟨cs,rfl,by simpa[Value.cells] using h2⟩
 all_goals
  simp only[Value.okWide,show P.underlying t=_ from hu,Cell.okWide,Cell.ok] at hok
  match xs,hx,h2 with
  |[y],hx,h2=>
    simp only[jU,TK.isAgg,Option.some.injEq] at hx;subst hx;cases v<;>first
     |(simp[Value.cells,aC] at h2;exact h2)
     |(simp at hok;done)

theorem Nh(D:sV P ti S) (hst:∀b o,st b o=w.cell? ⟨b,o,none⟩) {base:Nat}:∀(ts:List TypeId) (vs:List Value) (ds:List (DataW H)) (ps:List MemPlace),(∀t∈ts,S t=true)->
   (∀(j:Nat) t v,ts[j]?=some t->vs[j]?=some v->Value.okWide P w .any base t v)->
   DataW.TrodAll enc P w 0 (fun _=>true) true ts vs ds ps->∃xs,nM ti ts ds xs/\aC st g xs 0 vs
 |[],[],[],_,_,_,_=>⟨[],trivial,dM⟩
 |t::ts,v::vs,d::ds,ps,hS,hok,h=>by
   obtain⟨p,q,h1,h2,_⟩:=h;obtain⟨x,h3,h4⟩:=Z9 (g:=g) D hst (hS t (by simp)) (hok 0 t v rfl rfl) h1;obtain⟨xs,h5,h6⟩:=Nh D hst ts vs ds q (fun t ht=>hS t (by simp[ht])) (fun j t v a b=>hok (j+1) t v (by simpa using a) (by simpa using b)) h2;exact⟨x::xs,⟨h3,h5⟩,cy h4 h6⟩
 |[],[],_::_,_,_,_,h=>h.elim
 |[],_::_,_,_,_,_,h=>by simp[DataW.TrodAll] at h
 |_::_,[],_,_,_,_,h=>by simp[DataW.TrodAll] at h
 |_::_,_::_,[],_,_,_,h=>by simp[DataW.TrodAll] at h

theorem Ni(hl:laidOutB P=true) {W W':World} (hb:Below W.heap.size W W') {sp:Nat->Bool}:∀(ts:List TypeId) (vs:List Value) (ds:List (DataW H)) (ps:List MemPlace),
   (∀t∈ts,P.readableRec t=true/\t<P.types.size)->(∀p∈ps,p.block<W.heap.size)->(∀p∈ps,sp p.block=true)->
   DataW.TrodAll enc P W 0 (fun _=>true) true ts vs ds ps->DataW.TrodAll enc P W' 0 sp true ts vs ds ps
 |[],[],[],_,_,_,_,h=>h
 |t::ts,v::vs,d::ds,ps,hr,hlt,hs,h=>by
   obtain⟨p,q,h1,h2,rfl⟩:=h;refine⟨p,q,WideElems.Trod_stays hl (hr t (by simp)).1 (hr t (by simp)).2 h1 (fun x hx=>hb.same (hlt x (by simp[hx]))) (fun x hx=>hs x (by simp[hx])),
    Ni hl hb ts vs ds q (fun t ht=>hr t (by simp[ht])) (fun p hp=>hlt p (by simp[hp])) (fun p hp=>hs p (by simp[hp])) h2,rfl⟩
 |[],[],_::_,_,_,_,_,h=>h.elim
 |[],_::_,_,_,_,_,_,h=>by simp[DataW.TrodAll] at h
 |_::_,[],_,_,_,_,_,h=>by simp[DataW.TrodAll] at h
 |_::_,_::_,[],_,_,_,_,h=>by simp[DataW.TrodAll] at h

theorem X5{f:Func} {s:ChangeSpec} {apart fresh handsOn again:Bool} {W W':World} {args:Array Value} {v:Value} {ds gs:List (DataW H)} {before pa pv:List MemPlace}
   (hW:DataW.Whole enc P f.params.toList s.vars apart W args.toList ds gs before)
   (hres:∀(b:Nat) (sp:Nat->Bool) (hd:Bool),DataW.TrodAll enc P W' b sp hd f.resultTypes.toList (v.resultList f.resultTypes.size) (s.fn H (ds++gs)).results [])
   (hargs:∀sp:Nat->Bool,(∀p∈before,sp p.block=true)->DataW.TrodAll enc P W' 0 sp true f.params.toList args.toList (s.fn H (ds++gs)).args pa)
   (hvars:∀sp:Nat->Bool,(∀p∈before,sp p.block=true)->DataW.TrodVars enc P W' sp s.vars (s.fn H (ds++gs)).vars pv)
   (hps:before=pa++pv) (hb:Below W.heap.size W W')
   (hok:∀(j:Nat) (t:TypeId) (r:Value),f.resultTypes[j]?=some t->(v.resultList f.resultTypes.size)[j]?=some r->Value.okWide P W' .any 0 t r):
   s.post enc P f apart fresh handsOn again W args v W':=by
 have hlt:∀p∈before,p.block<W.heap.size:=fun p hp=>hW.lt p hp;have hold:∀p∈before,(fun b=>decide (b<W.heap.size)) p.block=true:=fun p hp=>by simpa using hlt p hp
 refine⟨ds,gs,before,[],pa,pv,hW,hres _ _ _,hargs _ hold,hvars _ hold,World.keptBut_mono (fun p hp=>⟨hp,?_⟩) (hb.frame (·∈before)),fun _=>?_⟩
 . rw[hps,List.mem_append] at hp;exact Or.inr hp
 . obtain⟨_,_,_,_,_,hz,hn⟩:=hW;refine⟨hok,_,_,([]++pa)++pv,⟨[]++pa,pv,trodAll_append (hargs _ (fun _ _=>rfl)) (hres _ _ _),hvars _ (fun _ _=>rfl),rfl,?_,?_⟩,?_⟩
   . intro b off hp;have hin:MemPlace.cell b off∈before:=by rw[hps];simpa using hp
     rw[hb.frozen (hlt _ hin)];exact hz b off hin
   . intro ha;have:=hn ha;rw[hps] at this;simpa using this
   . intro p hp _;rw[hps];simpa using hp

def BW(P:Program) (ti:TypeId->TI) (S:TypeId->Bool) (laid:List (String×DataW Unit)) (gl:Nat->Option (List V)):Prop:=
 ∀b cs,gl b=some cs->∃n d t f,(n,d)∈laid/\d.handleName?=none/\P.globalNamed n=some b/\(P.globals[b]?).map (·.type) =some t/\S t=true/\cD ti f t d=some cs

theorem Kx{n:String} {d:DataW Unit}:∀{laid:List (String×DataW Unit)} {ps:List MemPlace},DataW.LaidVars P w laid ps->(n,d)∈laid->
   ∃g t cs fuel p,P.globalNamed n=some g/\(P.globals[g]?).map (·.type) =some t/\w.var? P n=some cs/\DataW.trod (fun _=>()) P w 0 (fun _=>true) false fuel t cs.toList=some (d,p)
 |(n',d')::r,ps,h,hm=>by
   obtain⟨g,t,cs,fuel,p,q,h1,h2,h3,h4,h5,_⟩:=h;rcases List.mem_cons.1 hm with e|hm
   . cases e;exact⟨g,t,cs,fuel,p,h1,h2,h3,h4⟩
   . exact Kx h5 hm

theorem T6(D:sV P ti S) {laid:List (String×DataW Unit)} {gl:Nat->Option (List V)} (hgl:BW P ti S laid gl) (hst:∀b o,st b o=w.cell? ⟨b,o,none⟩) (h:laidMetH P laid w):aL gl st:=by
 intro b cs hb g;obtain⟨n,d,t,f,h1,h2,h3,h4,h5,h6⟩:=hgl b cs hb;have:∃laid' ps,DataW.LaidVars P w laid' ps/\(n,d)∈laid':=by
  unfold laidMetH at h;split at h
  . obtain⟨ps,h,_⟩:=h;exact⟨_,ps,h,h1⟩
  . obtain⟨⟨ps,h,_⟩,_⟩:=h;exact⟨_,ps,h,by simp[h1,h2]⟩
 obtain⟨laid',ps,h7,h8⟩:=this;obtain⟨g',t',vs,fuel,p,k1,k2,k3,k4⟩:=Kx h7 h8;obtain rfl:=Option.some.inj (k1.symm.trans h3);obtain rfl:=Option.some.inj (k2.symm.trans h4);obtain⟨xs,q1,q2,_⟩:=Nj (g:=g) D hst fuel _ _ d p h5 k4;obtain rfl:=OO q1 h6;refine⟨vs.toList,q2,fun j hj=>?_⟩;rw[hst,World.var?_cell h3 k3];simp

theorem Vd{f:FuncId} {fn:Func} {s:ChangeSpec} {apart fresh handsOn again:Bool} {laid:List (String×DataW Unit)} {gl:Nat->Option (List V)} {bt:TypeId} (D:sV P ti S) (hl:laidOutB P=true)
    (hts:∀t∈fn.params.toList,S t=true/\P.readableRec t=true/\t<P.types.size) (hvars:s.vars=[]) (hrt:fn.resultTypes=#[bt]) (hbt:P.underlying bt=some .bool) (hgl:BW P ti S laid gl)
    {W:World} {base:Nat} {args:Array Value} {ds gs:List (DataW H)} {before:List MemPlace}
    (hval:∀(j:Nat) t v,fn.params[j]?=some t->args[j]?=some v->Value.okWide P W .any base t v)
    (hW:DataW.Whole enc P fn.params.toList s.vars apart W args.toList ds gs before) (hL:laidMetH P laid W)
    (hfn:ds.length=fn.params.size->s.fn H ds={results:=[.lit (.bool true)],args:=ds})
    (hfun:∀xs,nM ti fn.params.toList ds xs->eU P gl f xs [] (.bool true) none):
    Calls P f args W fun e W'=>∃v,e=.returned v/\s.post enc P fn apart fresh handsOn again W args v W':=by
  have hW':=hW;obtain⟨p,q,hA,hV,rfl,hfz,hnd⟩:=hW';rw[hvars] at hV;obtain⟨rfl,rfl⟩:=trodVars_none hV;obtain⟨xs,h1,h2⟩:=Nh (st:=fun b o=>W.cell? ⟨b,o,none⟩) (g:=fun _=>⟨none,none,0,0,0⟩) D (fun _ _=>rfl) fn.params.toList args.toList ds p (fun t ht=>(hts t ht).1)
    (fun j t v a b=>hval j t v (by simpa using a) (by simpa using b)) hA
  have hlen:ds.length=fn.params.size:=by
    have:∀(ts:List TypeId) (ds:List (DataW H)) (xs:List V),nM ti ts ds xs->ds.length=ts.length:=by
      intro ts
      induction ts with
      |nil=>intro ds xs h;cases ds<;>cases xs<;>simp_all[nM]
      |cons t ts ih=>intro ds xs h;cases ds<;>cases xs<;>simp_all[nM];exact ih _ _ h.2
    simpa using this _ _ _ h1
  obtain⟨_,hc⟩:=hfun xs h1;have wr:aF ⟨fun b=>W.heap.size<=b,W,fun b o=>W.cell? ⟨b,o,none⟩,[]⟩ (fun b o=>W.cell? ⟨b,o,none⟩) (fun _=>(⟨none,none,0,0,0⟩:Gh)) [] W:=
    {os:=rfl,tape:=rfl,output:=rfl,size:=cb _,gnew:=fun _ h=>h,sub:=fun _ _ _ h=>h,stG:=fun _ _ _ h=>.inl h,stw:=fun _ _ _ h=>h,fr:=fun _ _=>rfl,
      ob:=fun i o h=>by simp at h,inj:=fun i j b h=>by simp at h}
  have:=hc _ _ _ W args.toList wr (T6 D hgl (fun _ _=>rfl) hL) (by simpa using h2);rw[show args.toList.toArray=args from rfl] at this;refine this.mono fun e W' hk=>?_;obtain⟨v,st',g',rfl,wr',hv,_⟩:=hk;simp only[VR] at hv;subst hv;have hb:Below W.heap.size W W':=⟨wr'.os,wr'.tape,wr'.output,wr'.size,fun k hk=>wr'.fr k (by show¬W.heap.size<=k;omega)⟩
  have hlt:∀x∈p++[],x.block<W.heap.size:=fun x hx=>hW.lt x hx;refine⟨_,rfl,X5 (pa:=p) (pv:=[]) hW ?_ (fun sp hs=>?_) (fun sp hs=>?_) rfl hb (ok_one hrt rfl (okWide_bool_mk hbt _))⟩
  . intro b sp hd;rw[List.append_nil,hfn hlen,hrt];exact⟨[],[],⟨1,by simp[DataW.trod,hbt,Value.cells]⟩,rfl,rfl⟩
  . rw[List.append_nil,hfn hlen];exact Ni hl hb _ _ _ _ (fun t ht=>(hts t ht).2) (fun x hx=>hlt x (by simpa using hx)) (fun x hx=>hs x (by simpa using hx)) hA
  . rw[List.append_nil,hfn hlen,hvars];rfl
end
end Go.VG
