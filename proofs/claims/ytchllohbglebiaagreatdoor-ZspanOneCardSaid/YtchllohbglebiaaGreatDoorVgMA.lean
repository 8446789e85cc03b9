/-
  A part of the proof.
-/
import Derived.Test.YtchllohbglebiaaGreatDoorVgK
import Derived.MapKept
import Derived.Maps.RangeRun
import Derived.DeepKeys
import Derived.DeepKeys4
import Derived.StringKeys
set_option linter.unusedSimpArgs false
set_option linter.unusedVariables false
namespace Go.VG
open Go

theorem Di{k k':IntKind} (h:fZ k k'=true):k=k':=by cases k<;>cases k'<;>first|rfl|cases h
theorem Yp{a b:Sc} (h:EA a b=true):a=b:=by
 cases a<;>cases b<;>first
  |rfl
  |(cases h;done)
  |(simp only[EA] at h;rw[Di h])
theorem Mw:∀{a b:List Sc},uM a b=true->a=b
 |[],[],_=>rfl
 |x::xs,y::ys,h=>by
   simp only[uM,zza] at h;rw[Yp h.1,Mw h.2]
 |[],_::_,h=>by cases h
 |_::_,[],h=>by cases h
theorem Ot{a b:Bool} (h:yn a b=true):a=b:=by cases a<;>cases b<;>first|rfl|cases h
theorem VR_1{st:St} {g:au} {n:Nat} {k:Sc} {x:V} {v:Value} (hf:kC k x=true) (h:VR st g x n v):v=jF x/\uy x:=by
 cases k<;>cases x<;>first
  |(cases hf;done)
  |(simp only[VR] at h;first|exact⟨h,trivial⟩|exact⟨h.1,h.2⟩)
theorem H0{st:St} {g:au} {n:Nat}:∀{sh:List Sc} {cs:List V} {vs:List Value},cP sh cs=true->aC st g cs n vs->vs=cs.map jF/\∀c∈cs,uy c
 |_,[],vs,_,h=>by simp only[aC] at h;subst h;exact⟨rfl,by simp⟩
 |[],_::_,_,hf,_=>by cases hf
 |k::ks,c::cs,vs,hf,h=>by
   simp only[aC] at h;obtain⟨u,us,rfl,h1,h2⟩:=h;simp only[cP,zza] at hf;obtain⟨rfl,o1⟩:=VR_1 hf.1 h1;obtain⟨rfl,o2⟩:=H0 hf.2 h2;refine⟨rfl,fun d hd=>?_⟩;rcases List.mem_cons.1 hd with rfl|hd
   . exact o1
   . exact o2 d hd
theorem SR{sh:List Sc} {x:V} (h:cP sh [x]=true):∃k,sh=[k]/\kC k x=true:=by
 match sh,h with
 |[k],h=>simp only[cP,Bool.and_true] at h;exact⟨k,rfl,h⟩
 |[],h=>cases h
 |_::_::_,h=>simp[cP] at h
theorem tY{ag:Bool} {sh:List Sc} {x:V} (h:lB ag sh x=true):(∃cs,x=.agg cs/\ag=true/\cP sh cs=true)\/(∃k,ag=false/\sh=[k]/\kC k x=true/\du x=jF x/\(sq x↔uy x)):=by
 cases x with
 |agg cs=>
   left;cases ag with
   |true=>exact⟨cs,rfl,rfl,h⟩
   |false=>cases h
 |_=>
   right;cases ag with
   |true=>cases h
   |false=>
     obtain⟨k,h1,h2⟩:=SR (show cP sh [_]=true from h);exact⟨k,rfl,h1,h2,rfl,Iff.rfl⟩
theorem yf{st:St} {g:au} {n:Nat} {ag:Bool} {sh:List Sc} {x:V} {v:Value} (hf:lB ag sh x=true) (h:VR st g x n v):v=du x/\sq x:=by
 rcases tY hf with ⟨cs,rfl,_,h1⟩|⟨k,_,_,h1,h2,h3⟩
 . simp only[VR] at h;obtain⟨vs,rfl,h⟩:=h;obtain⟨h2,h3⟩:=H0 h1 h;refine⟨?_,h3⟩;show Value.agg vs=.agg (cs.map jF).toArray;rw[<-h2]
 . obtain⟨rfl,h5⟩:=VR_1 h1 h;exact⟨h2.symm,h3.2 h5⟩
theorem Oo{a b:gA} (h:(⟨a.toArray⟩:ByteArray) =⟨b.toArray⟩):a=b:=by
 have:=congrArg (fun x:ByteArray=>x.data.toList) h;simpa using this
theorem Nw{k:Sc} {x y:V} (hx:kC k x=true) (hy:kC k y=true):jF x=jF y↔sa x y=true:=by
 cases k<;>cases x<;>simp only[kC,Bool.false_eq_true] at hx<;>cases y<;>simp only[kC,Bool.false_eq_true] at hy
 . simp[jF,sa]
 . have hx:=Di hx;have hy:=Di hy;subst hx;subst hy;simp[jF,sa]
 . simp only[jF,sa,beq_iff_eq];constructor
   . intro h;injection h with h;exact Oo h
   . intro h;rw[h]
theorem NA:∀{sh:List Sc} {cs ds:List V},cP sh cs=true->cP sh ds=true->(cs.map jF=ds.map jF↔wQ cs ds=true)
 |_,[],[],_,_=>by simp[wQ]
 |[],_::_,_,h,_=>by cases h
 |[],_,_::_,_,h=>by cases h
 |_::_,[],_,h,_=>by cases h
 |_::_,_,[],_,h=>by cases h
 |k::ks,c::cs,d::ds,h1,h2=>by
   simp only[cP,zza] at h1 h2;simp only[List.map_cons,List.cons.injEq,wQ,zza,Nw h1.1 h2.1,NA h1.2 h2.2]
theorem key_inj{ag:Bool} {sh:List Sc} {x y:V} (hx:lB ag sh x=true) (hy:lB ag sh y=true):du x=du y↔lI x y=true:=by
 rcases tY hx with ⟨cs,rfl,h0,h1⟩|⟨k,h0,e1,h1,h2,_⟩
 . rcases tY hy with ⟨ds,rfl,_,k1⟩|⟨_,k0,_⟩
   . simp only[du,lI,Value.agg.injEq];rw[<-NA h1 k1];constructor
     . intro h;simpa using congrArg Array.toList h
     . intro h;rw[h]
   . rw[h0] at k0;cases k0
 . rcases tY hy with ⟨_,_,k0,_⟩|⟨k',_,e2,k1,k2,_⟩
   . rw[h0] at k0;cases k0
   . rw[e1] at e2;cases e2;rw[h2,k2,Nw h1 k1];cases x<;>first
      |(cases k<;>cases h1;done)
      |(cases y<;>first
       |(cases k<;>cases k1;done)
       |exact Iff.rfl)
theorem tL{ag:Bool} {sh:List Sc}:∀{es:List (V×Int)} {bs:List Nat} {l:List MapEntry},gy ag sh es bs l->es.length=l.length/\bs.length=l.length
 |[],[],[],_=>⟨rfl,rfl⟩
 |(x,q)::es,s::bs,e::l,h=>by
   simp only[gy] at h;have:=tL h.2;simp[this.1,this.2]
 |[],[],_::_,h|[],_::_,[],h|[],_::_,_::_,h|_::_,[],[],h|_::_,[],_::_,h|_::_,_::_,[],h=>by simp[gy] at h
abbrev y3(ag:Bool) (sh:List Sc) (x:V) (q:Int) (s:Nat) (e:MapEntry):Prop:=
 lB ag sh x=true/\sq x/\e.key=du x/\e.val=.int .i64 q/\(IntKind.i64.min<=q/\q<=IntKind.i64.max)/\e.born=s
theorem oR{ag:Bool} {sh:List Sc}:∀{es:List (V×Int)} {bs:List Nat} {l:List MapEntry},gy ag sh es bs l↔es.length=l.length/\bs.length=l.length/\
   ∀(j:Nat) (x:V) (q:Int) (s:Nat) (e:MapEntry),es[j]?=some (x,q)->bs[j]?=some s->l[j]?=some e->y3 ag sh x q s e
 |[],[],[]=>by simp[gy]
 |(x,q)::es,s::bs,e::l=>by
   simp only[gy,oR (es:=es),List.length_cons];constructor
   . rintro⟨h1,h2,h3,h4⟩;refine⟨by omega,by omega,fun j x' q' s' e' a b c=>?_⟩;cases j with
     |zero=>simp at a b c;obtain⟨rfl,rfl⟩:=a;subst b;subst c;exact h1
     |succ j=>exact h4 j x' q' s' e' (by simpa using a) (by simpa using b) (by simpa using c)
   . rintro⟨h2,h3,h4⟩;exact⟨h4 0 x q s e rfl rfl rfl,by omega,by omega,fun j x' q' s' e' a b c=>h4 (j+1) x' q' s' e' (by simpa using a) (by simpa using b) (by simpa using c)⟩
 |[],[],_::_|[],_::_,[]|[],_::_,_::_|_::_,[],[]|_::_,[],_::_|_::_,_::_,[]=>by simp[gy]
theorem yM{ag:Bool} {sh:List Sc} {es:List (V×Int)} {bs:List Nat} {l:List MapEntry} (h:gy ag sh es bs l) {j:Nat} {x:V} {q:Int} (hj:es[j]?=some (x,q)):
   ∃s e,bs[j]?=some s/\l[j]?=some e/\y3 ag sh x q s e:=by
 obtain⟨h1,h2,h3⟩:=oR.1 h;obtain⟨hlt,_⟩:=gt.1 hj;have a:bs[j]?=some (bs[j]'(by omega)):=am (by omega);have b:l[j]?=some (l[j]'(by omega)):=am (by omega);exact⟨_,_,a,b,h3 j x q _ _ hj a b⟩
theorem wc{ag:Bool} {sh:List Sc} {es:List (V×Int)} {bs:List Nat} {l:List MapEntry} (h:gy ag sh es bs l) {j:Nat} {e:MapEntry} (hj:l[j]?=some e):
   ∃x q s,es[j]?=some (x,q)/\bs[j]?=some s/\y3 ag sh x q s e:=by
 obtain⟨h1,h2,h3⟩:=oR.1 h;obtain⟨hlt,_⟩:=gt.1 hj;have a:bs[j]?=some (bs[j]'(by omega)):=am (by omega);have b:es[j]?=some (es[j]'(by omega)):=am (by omega);exact⟨_,_,_,b,a,h3 j _ _ _ _ b a hj⟩
theorem CM:∀{es:List (V×Int)} {x:V} {j:Nat} {q:Int},bF es x=some (j,q)->∃y,es[j]?=some (y,q)/\lI y x=true
 |[],_,_,_,h=>by simp[bF] at h
 |(y,q')::es,x,j,q,h=>by
   simp only[bF] at h;cases hk:lI y x with
   |true=>rw[hk] at h;simp at h;obtain⟨rfl,rfl⟩:=h;exact⟨y,rfl,hk⟩
   |false=>
     rw[hk] at h;simp only[cond_false] at h;split at h
     . rename_i j' q2 hf;simp at h;obtain⟨rfl,rfl⟩:=h;obtain⟨z,h1,h2⟩:=CM hf;exact⟨z,by simpa using h1,h2⟩
     . cases h
theorem II:∀{es:List (V×Int)} {x:V},bF es x=none->∀e∈es,lI e.1 x=false
 |[],_,_=>by simp
 |(y,q')::es,x,h=>by
   simp only[bF] at h;cases hk:lI y x with
   |true=>rw[hk] at h;simp at h
   |false=>
     rw[hk] at h;simp only[cond_false] at h;split at h
     . cases h
     . rename_i hf;intro e he;rcases List.mem_cons.1 he with rfl|he
       . exact hk
       . exact II hf e he
theorem Mq:∀(es:List (V×Int)) (j:Nat) (q:Int) (i:Nat),(jk es j q)[i]?=if i=j then(es[i]?).map (fun e=>(e.1,q)) else es[i]?
 |[],j,q,i=>by cases j<;>simp[jk]
 |(y,q0)::es,0,q,i=>by cases i<;>simp[jk]
 |e::es,j+1,q,i=>by
   cases i with
   |zero=>simp[jk]
   |succ i=>simp[jk,Mq es j q i]
theorem EC:∀(es:List (V×Int)) (j:Nat) (q:Int),(jk es j q).length=es.length
 |[],j,q=>by cases j<;>rfl
 |(y,q0)::es,0,q=>rfl
 |e::es,j+1,q=>by simp[jk,EC es j q]
theorem EB:∀(es:List (V×Int)) (j:Nat) (q:Int),((jk es j q).map fun e=>du e.1) =es.map fun e=>du e.1
 |[],j,q=>by cases j<;>rfl
 |(y,q0)::es,0,q=>rfl
 |e::es,j+1,q=>by simp[jk,EB es j q]
theorem I0{ag:Bool} {sh:List Sc} {es:List (V×Int)} {bs:List Nat} {l:List MapEntry} (h:gy ag sh es bs l) (j:Nat) {q:Int} (hq:IntKind.i64.min<=q/\q<=IntKind.i64.max) {f:MapEntry->MapEntry}
   (hf:∀e,l[j]?=some e->(f e).key=e.key/\(f e).val=.int .i64 q/\(f e).born=e.born):gy ag sh (jk es j q) bs (l.modify j f):=by
 obtain⟨h1,h2,h3⟩:=oR.1 h;refine oR.2 ⟨by rw[EC,List.length_modify];exact h1,by rw[List.length_modify];exact h2,fun i x q' s e a b c=>?_⟩;rw[Mq] at a;rw[List.getElem?_modify] at c;by_cases hij:i=j
 . subst hij;rw[if_pos rfl] at a;cases he:es[i]? with
   |none=>rw[he] at a;cases a
   |some p=>
     cases hl:l[i]? with
     |none=>rw[hl] at c;cases c
     |some e0=>
       rw[he] at a;rw[hl] at c;simp at a c;obtain⟨rfl,rfl⟩:=a;subst c;obtain⟨r1,r2,r3,r4,r5,r6⟩:=h3 i _ _ _ _ he b hl;obtain⟨f1,f2,f3⟩:=hf e0 hl;exact⟨r1,r2,f1.trans r3,f2,hq,f3.trans r6⟩
 . rw[if_neg hij] at a;have hji:¬j=i:=fun q=>hij q.symm;simp[hji] at c;exact h3 i x q' s e a b c
theorem HZ{ag:Bool} {sh:List Sc} {es:List (V×Int)} {bs:List Nat} {l:List MapEntry} (h:gy ag sh es bs l) {x:V} {q:Int} {s:Nat} {e:MapEntry} (he:y3 ag sh x q s e):
   gy ag sh (es++[(x,q)]) (bs++[s]) (l++[e]):=by
 obtain⟨h1,h2,h3⟩:=oR.1 h;refine oR.2 ⟨by simp[h1],by simp[h2],fun i x' q' s' e' a b c=>?_⟩;by_cases hi:i<l.length
 . rw[dl (by omega)] at a b c;exact h3 i _ _ _ _ a b c
 . rw[dt (by omega)] at a b c;have e1:i-es.length=i-l.length:=by omega
   have e2:i-bs.length=i-l.length:=by omega
   rw[e1] at a;rw[e2] at b;cases hk:i-l.length with
   |zero=>rw[hk] at a b c;simp at a b c;obtain⟨rfl,rfl⟩:=a;subst b;subst c;exact he
   |succ m=>rw[hk] at a;simp at a
theorem Pg{ag:Bool} {sh:List Sc} {es:List (V×Int)} {bs:List Nat} {l:List MapEntry} (h:gy ag sh es bs l) (j:Nat):gy ag sh (es.eraseIdx j) (bs.eraseIdx j) (l.eraseIdx j):=by
 obtain⟨h1,h2,h3⟩:=oR.1 h;refine oR.2 ⟨by simp only[List.length_eraseIdx];rw[h1],by simp only[List.length_eraseIdx];rw[h2],fun i x q s e a b c=>?_⟩;rw[List.getElem?_eraseIdx] at a b c;split at a
 . rename_i hij;rw[if_pos hij] at b c;exact h3 _ _ _ _ _ a b c
 . rename_i hij;rw[if_neg hij] at b c;exact h3 _ _ _ _ _ a b c
theorem ML{bs:List Nat} {ck:Nat} (h:sY bs ck):sY (bs++[ck]) (ck+1):=by
 refine⟨List.nodup_append.2 ⟨h.1,by simp,fun a ha b hb e=>?_⟩,fun s hs=>?_⟩
 . simp at hb;subst hb;have:=h.2 a ha;omega
 . rcases List.mem_append.1 hs with hs|hs
   . have:=h.2 s hs;omega
   . simp at hs;omega
theorem Lt{es:List (V×Int)} {x:V} {q:Int} (h:(es.map fun e=>du e.1).Nodup) (hx:∀e∈es,du e.1≠du x):((es++[(x,q)]).map fun e=>du e.1).Nodup:=by
 rw[fo];refine List.nodup_append.2 ⟨h,by simp,fun a ha b hb e=>?_⟩;simp at hb;obtain⟨p,hp,rfl⟩:=List.mem_map.1 ha;exact hx p hp (e.trans hb)
section
variable {P:Program} {k:TypeId} {ag:Bool} {sh:List Sc} {es:List (V×Int)} {bs:List Nat} {arr:Array MapEntry}
theorem An(K:sW P k sh) (ha:ag=oN P k) (h:gy ag sh es bs arr.toList) (hn:(es.map fun e=>du e.1).Nodup) {x:V} (fx:lB ag sh x=true) (ox:sq x) (w:World):
   (bF es x=none/\(Instr.findKey k (du x) arr.toList).run P w=.ok none w/\∀e∈es,du e.1≠du x)\/
   (∃j q e s,bF es x=some (j,q)/\(Instr.findKey k (du x) arr.toList).run P w=.ok (some (j,.int .i64 q)) w/\arr[j]?=some e/\bs[j]?=some s/\e.key=du x/\e.val=.int .i64 q/\e.born=s/\
    (IntKind.i64.min<=q/\q<=IntKind.i64.max)):=by
 subst ha;obtain⟨lx,hx⟩:=K.2 x fx ox;have hall:∀e∈arr.toList,∃l,keyOf P k e.key=some l:=fun e he=>by
  obtain⟨j,hj⟩:=List.getElem?_of_mem he;obtain⟨y,q,s,_,_,r1,r2,r3,_⟩:=wc h hj;rw[r3];exact K.2 y r1 r2
 rcases K.1.find w hx arr.toList hall with ⟨h1,h2⟩|⟨j,e,h1,h2,h3⟩
 . left;have hno:∀e∈es,du e.1≠du x:=fun p hp q=>by
    obtain⟨j,hj⟩:=List.getElem?_of_mem hp;obtain⟨s,e,_,c,_,_,r3,_⟩:=yM h (x:=p.1) (q:=p.2) hj;exact h2 e (List.mem_of_getElem? c) (r3.trans q)
   refine⟨?_,h1,hno⟩;cases hf:bF es x with
   |none=>rfl
   |some p=>
     obtain⟨y,hy,hk⟩:=CM (show bF es x=some (p.1,p.2) from hf);obtain⟨_,_,_,_,r1,_⟩:=yM h hy;exact absurd ((key_inj r1 fx).2 hk) (hno _ (List.mem_of_getElem? hy))
 . right;obtain⟨y,q,s,a,b,r1,r2,r3,r4,r5,r6⟩:=wc h h2;have hyx:du y=du x:=r3.symm.trans h3;have hf:bF es x=some (j,q):=by
    cases hf:bF es x with
    |none=>
      have:=II hf _ (List.mem_of_getElem? a);rw[(key_inj r1 fx).1 hyx] at this;cases this
    |some p=>
      obtain⟨z,hz,hk⟩:=CM (show bF es x=some (p.1,p.2) from hf);obtain⟨_,_,_,_,z1,_⟩:=yM h hz;have hzx:=(key_inj z1 fx).2 hk;obtain⟨l1,e1⟩:=gt.1 a;obtain⟨l2,e2⟩:=gt.1 hz;have hij:p.1=j:=by
       refine(List.getElem_inj (h₀:=by simpa using l2) (h₁:=by simpa using l1) hn).1 ?_;simp only[List.getElem_map,e1,e2];exact hzx.trans hyx.symm
      have:p.2=q:=by
       rw[hij,a] at hz;injection hz with e3
       injection e3 with _ e4
       exact e4.symm
      rw[<-hij,<-this]
   exact⟨j,q,e,s,hf,by rw[h1,r4],by simpa using h2,b,h3,r4,r6,r5⟩
end
section
variable {C:Ctx} {E:Env} {st:St} {g:au} {s:AS} {a:Act} {w:World} {o:Oper} {e:Ef}
structure GW(C:Ctx) (E:Env) (g:au) (s:AS) (w:World) (t:TypeId) (mv:Value) (i:Nat) (ag:Bool) (sh:List Sc) (es:List (V×Int)) (bs:List Nat) (ck:Nat) (k e:TypeId) (b:Nat) (arr:Array MapEntry):Prop where
 und:C.P.underlying t=some (.map k e)
 zero:∀w:World,(zeroValue e).run C.P w=.ok (.int .i64 0) w
 key:sW C.P k sh
 agg:ag=oN C.P k
 lt:i<s.sg.length
 sg:s.sg[i]?=some (.map ag sh es bs ck)
 blk:(g i).blk=some b
 own:E.G b
 mv:mv=.map (some b)
 hp:w.heap[b]?=some (.map arr ck)
 ent:gy ag sh es bs arr.toList
 stamp:sY bs ck
 nodup:(es.map fun e=>du e.1).Nodup
theorem VI(G:Good C) {t:TypeId} {ag:Bool} {sh:List Sc} (h:zN C t=some (ag,sh)):
   ∃k e,C.P.underlying t=some (.map k e)/\(∀w:World,(zeroValue e).run C.P w=.ok (.int .i64 0) w)/\sW C.P k sh/\ag=oN C.P k:=by
 unfold zN at h;split at h
 . rename_i k e hk;have h3:=(G.ti t).of (by rw[hk];simp);rw[hk] at h3;split at h
   . cases h
   . cases h
   . rename_i he hno hne;split at h
     . rename_i hz;cases h;refine⟨k,e,h3.1,fun w=>?_,h3.2.2 (fun q=>hne q),?_⟩
       . obtain⟨z,h1,h2⟩:=Ap (P:=C.P) (i:=C.ti e) w (G.ti e) (by rw[he];simp);have:=h2 (fun _ _=>none) (fun _=>⟨none,none,0,0,0⟩) 0;rw[hz] at this;simp only[VR] at this;rw[h1,this.1];rfl
       . have hk2:=((G.ti k).of hno).1;unfold oN;cases hkk:(C.ti k).k with
         |bool|int _|string|slice _|ptr _|map _ _=>rw[hkk] at hk2;simp only[TK.ok] at hk2;rw[hk2];rfl
         |array _ _=>rw[hkk] at hk2;simp only[TK.ok] at hk2;rw[hk2];rfl
         |struct _=>rw[hkk] at hk2;simp only[TK.ok] at hk2;obtain⟨_,hk2,_⟩:=hk2;rw[hk2];rfl
         |iface=>rw[hkk] at hk2;simp only[TK.ok] at hk2;obtain⟨_,hk2⟩:=hk2;rw[hk2];rfl
         |func=>rw[hkk] at hk2;simp only[TK.ok] at hk2;obtain⟨_,_,_,hk2⟩:=hk2;rw[hk2];rfl
         |other=>exact absurd hkk hno
     . cases h
   . cases h
 . cases h
theorem uz{p:Ef->Prop} {t:TypeId} {m:V} {mv:Value} {F:Nat->Bool->List Sc->List (V×Int)->List Nat->Nat->Tr Ef} (R:Rel E st g s a w) (G:Good C) (hm:VR st g m s.sg.length mv)
   (h:∀i ag sh es bs ck k e b arr,m=.map i->GW C E g s w t mv i ag sh es bs ck k e b arr->aa p (F i ag sh es bs ck)):aa p (gL C s t m F):=by
 unfold gL;refine aa.opt fun q hq=>?_;obtain⟨k,e,h1,h2,h3,h4⟩:=VI G hq;split
 . rename_i i;simp only[VR] at hm;obtain⟨hil,b,hb,rfl⟩:=hm;split
   . rename_i ag sh es bs ck hs;obtain⟨hs1,_⟩:=eY hs (by simp);obtain⟨b',arr,q1,q2,q3,q4,q5,q6⟩:=R.wr.ob i _ hs1;rw[hb] at q1;cases q1;refine aa.when fun hw=>?_;simp only[zza] at hw;have e1:=Ot hw.1;have e2:=Mw hw.2;exact h i ag sh es bs ck k e b arr rfl ⟨h1,h2,by rw[e2];exact h3,e1.trans h4,hil,hs1,hb,q2,rfl,q3,q4,q5,q6⟩
   . exact aa.fail
 . exact aa.fail
theorem Nu(g:au) (i:Nat):aX g i (g i) =g:=by funext j;by_cases e:j=i<;>simp[aX,e]
theorem az.sk{t k e0:TypeId} {mv:Value} {i ck ck':Nat} {ag:Bool} {sh:List Sc} {es es':List (V×Int)} {bs bs':List Nat} {b:Nat} {arr arr':Array MapEntry} {x:V} {rd:List Nat} (R:Rel E st g s a w)
   (M:GW C E g s w t mv i ag sh es bs ck k e0 b arr) (v:Value)
   (hr:(execOp a.eval o).run C.P w=.ok (.value v) (bR w b (.map arr' ck'))\/((execOp a.eval o).run C.P w=.ok .skip (bR w b (.map arr' ck'))/\v=undef))
   (h1:gy ag sh es' bs' arr'.toList) (h2:sY bs' ck') (h3:(es'.map fun e=>du e.1).Nodup) (hv:VR st g x s.sg.length v):
   az C E st g s a w o ⟨x,[],[(i,.map ag sh es' bs' ck')],[],rd⟩:=by
 refine az.j9 R M.lt v (bR w b (.map arr' ck')) (g i) hr (dg.bR M.own _ (fun b''=>by rw[M.blk];simp[eq_comm]) (fun k v hv=>?_)) (.inl rfl) (fun b hb=>.inl hb) ?_ (by rw[Nu];exact hv)
 . have:=R.wr.stw _ _ _ hv;simp only[World.cell?,M.hp] at this;cases this
 . exact⟨b,arr',M.blk,M.own,lN M.hp,h1,h2,h3⟩
theorem s9{q:Int} (h:IntKind.i64.min<=q/\q<=IntKind.i64.max) {n:Nat}:VR st g (.int .i64 q) n (.int .i64 q):=gU h
theorem Lg{n m:Nat} (h:n<=9223372036854775807):VR st g (.int .i64 (n:Int)) m (goInt n):=by
 refine gU ⟨?_,?_⟩
 . simp[IntKind.min,IntKind.signed,IntKind.bits]
 . rw[IntKind.max_i64];omega
theorem BP:IntKind.i64.min<=(0:Int)/\(0:Int)<=IntKind.i64.max:=by decide
theorem Y8{t:TypeId} (R:Rel E st g s a w) (G:Good C) (ho:o.op=.makeMap t none):cw C E st g s a w o (rM C s t):=by
 unfold rM;refine aa.opt fun q hq=>?_;rw[dN];refine aa.ret (az.new R (.map (some w.heap.size)) w (aQ.refl w) ⟨some w.heap.size,none,0,0,0⟩ (.map #[] 0) ?_ (by simp) ?_ ?_)
 . simp[execOp,ho,Instr.makeMap,newObj,Sem.run,Result.andThen]
 . exact⟨w.heap.size,#[],rfl,R.wr.gnew _ R.wr.size,heap_alloc_new,by simp[gy],⟨List.nodup_nil,by simp⟩,List.nodup_nil⟩
 . simp only[VR,dU];exact⟨by omega,w.heap.size,rfl,rfl⟩
theorem Y5{t:TypeId} {m x:Operand} {ok:Bool} (R:Rel E st g s a w) (hg:aL C.gl st) (G:Good C) (ho:o.op=.lookup t m x ok):cw C E st g s a w o (np C s t m x ok):=by
 unfold np;refine uz R G (aR (C:=C) R hg m) fun i ag sh es bs ck k e b arr he M=>?_;rw[force_eq];refine aa.when fun fx=>?_;obtain⟨hx,ox⟩:=yf fx (aR (C:=C) R hg x);obtain⟨lx,hlx⟩:=M.key.2 _ (by rw[<-M.agg];exact fx) ox;have hck:=M.key.1.check w arr.isEmpty hlx;have hcommon:∀r:Option (Nat×Value),(Instr.findKey k (du (s.ev C x)) arr.toList).run C.P w=.ok r w->(Instr.lookup t (a.eval m) (a.eval x) ok).run C.P w=
    (match r with
     |some (_,v) =>.ok (if ok then .tuple #[v,.bool true] else v) w
     |none=>.ok (if ok then .tuple #[.int .i64 0,.bool false] else .int .i64 0) w):=fun r hr=>by
  rw[M.mv,hx];unfold Instr.lookup;simp only[Sem.run_bind,run_underlying M.und,Result.andThen_ok,Sem.run_pure,MapKept.run_getObj_map M.hp,hck,hr];cases r with
  |none=>simp[M.zero]
  |some p=>simp
 rcases An M.key M.agg M.ent M.nodup fx ox w with ⟨f1,f2,_⟩|⟨j,q,e1,s1,f1,f2,_,_,_,_,_,f8⟩
 . have hL:=hcommon _ f2;split
   . refine aa.gb (fun y hy=>by rw[f1] at hy;cases hy) (fun _=>aa.ret (az.pure R _ w (by simp only[execOp,ho,Sem.run_bind,hL,Result.andThen_ok];rfl) (aQ.refl w) ?_));simp only[VR];exact⟨_,rfl,cy (s9 BP) (cy fz dM)⟩
   . refine aa.ret (az.pure R _ w (by simp only[execOp,ho,Sem.run_bind,hL,Result.andThen_ok];rfl) (aQ.refl w) ?_);unfold getM;rw[f1];exact s9 BP
 . have hL:=hcommon _ f2;split
   . refine aa.gb (fun y hy=>?_) (fun hy=>by rw[f1] at hy;cases hy);rw[f1] at hy;cases hy;refine aa.ret (az.pure R _ w (by simp only[execOp,ho,Sem.run_bind,hL,Result.andThen_ok];rfl) (aQ.refl w) ?_);simp only[VR];exact⟨_,rfl,cy (s9 f8) (cy fz dM)⟩
   . refine aa.ret (az.pure R _ w (by simp only[execOp,ho,Sem.run_bind,hL,Result.andThen_ok];rfl) (aQ.refl w) ?_);unfold getM;rw[f1];exact s9 f8
theorem Yo{arr:Array MapEntry} {j:Nat} {e:MapEntry} {kv:Value} (h:arr[j]?=some e) (hk:e.key=kv):arr.modify j (fun e=>{e with key:=kv}) =arr:=by
 apply Array.ext';rw[Array.toList_modify];apply List.ext_getElem?;intro i;rw[List.getElem?_modify];by_cases hi:j=i
 . subst hi;have h':arr.toList[j]?=some e:=by simpa using h
   rw[h'];subst hk;simp
 . simp[hi]
theorem Yb{t:TypeId} {m x y:Operand} (R:Rel E st g s a w) (hg:aL C.gl st) (G:Good C) (ho:o.op=.mapUpdate t m x y):cw C E st g s a w o (rO C s t m x y):=by
 unfold rO;refine uz R G (aR (C:=C) R hg m) fun i ag sh es bs ck k e b arr he M=>?_;rw[force_eq];refine aa.when fun fx=>?_;obtain⟨hx,ox⟩:=yf fx (aR (C:=C) R hg x);obtain⟨lx,hlx⟩:=M.key.2 _ (by rw[<-M.agg];exact fx) ox;have hck:=M.key.1.check w false hlx;have hst:=M.key.1.stays w hlx;have hy:=aR (C:=C) R hg y;split
 . rename_i q hq;rw[hq] at hy;simp only[VR] at hy;rcases An M.key M.agg M.ent M.nodup fx ox w with ⟨f1,f2,f3⟩|⟨j,q0,e1,s1,f1,f2,f3,f4,f5,f6,f7,f8⟩
   . refine aa.gb (fun y hy=>by rw[f1] at hy;cases hy) (fun _=>aa.ret ?_);refine az.sk R M undef (arr':=arr.push ⟨du (s.ev C x),.int .i64 q,ck⟩) (.inr ⟨?_,rfl⟩) ?_ (ML M.stamp) (Lt M.nodup f3) (by simp[VR])
     . simp[execOp,ho,Instr.mapUpdate,run_underlying M.und,M.mv,hx,hy.1,MapKept.run_getObj_map M.hp,hck,f2,MapKept.run_setObj_map _ M.hp,Result.andThen,bR]
     . rw[Array.toList_push];exact HZ M.ent ⟨fx,ox,rfl,rfl,hy.2,rfl⟩
   . refine aa.gb (fun y hy=>?_) (fun hy=>by rw[f1] at hy;cases hy);rw[f1] at hy;cases hy;refine aa.ret ?_;refine az.sk R M undef (arr':=arr.modify j fun e=>{e with key:=du (s.ev C x),val:=.int .i64 q}) (.inr ⟨?_,rfl⟩) ?_ M.stamp (by rw[EB];exact M.nodup) (by simp[VR])
     . simp[execOp,ho,Instr.mapUpdate,run_underlying M.und,M.mv,hx,hy.1,MapKept.run_getObj_map M.hp,hck,f2,f3,f5,hst,MapKept.run_setObj_map _ M.hp,Result.andThen,bR]
     . rw[Array.toList_modify];refine I0 M.ent j hy.2 fun e' he'=>?_;have:arr.toList[j]?=some e1:=by simpa using f3
       rw[this] at he';cases he';exact⟨f5.symm,rfl,rfl⟩
 . exact aa.fail
theorem Ya{t:TypeId} {m x:Operand} (R:Rel E st g s a w) (hg:aL C.gl st) (G:Good C) (ho:o.op=.mapEntry t m x):cw C E st g s a w o (oU C s t m x):=by
 unfold oU;refine uz R G (aR (C:=C) R hg m) fun i ag sh es bs ck k e b arr he M=>?_;rw[force_eq];refine aa.when fun fx=>aa.aI fun hb=>?_;obtain⟨hx,ox⟩:=yf fx (aR (C:=C) R hg x);obtain⟨lx,hlx⟩:=M.key.2 _ (by rw[<-M.agg];exact fx) ox;have hck:=M.key.1.check w false hlx;have hst:=M.key.1.stays w hlx;rcases An M.key M.agg M.ent M.nodup fx ox w with ⟨f1,f2,f3⟩|⟨j,q0,e1,s1,f1,f2,f3,f4,f5,f6,f7,f8⟩
 . refine aa.gb (fun y hy=>by rw[f1] at hy;cases hy) (fun _=>aa.ret ?_);refine az.sk R M (.tuple #[.int .i64 0,goInt ck]) (arr':=arr.push ⟨du (s.ev C x),.int .i64 0,ck⟩) (.inl ?_) ?_ (ML M.stamp) (Lt M.nodup f3) ?_
   . simp[execOp,ho,Instr.mapEntry,run_underlying M.und,M.mv,hx,M.zero,MapKept.run_getObj_map M.hp,hck,f2,MapKept.run_setObj_map _ M.hp,Result.andThen,bR]
   . rw[Array.toList_push];exact HZ M.ent ⟨fx,ox,rfl,rfl,BP,rfl⟩
   . simp only[VR];exact⟨_,rfl,cy (s9 BP) (cy (Lg hb) dM)⟩
 . refine aa.gb (fun y hy=>?_) (fun hy=>by rw[f1] at hy;cases hy);rw[f1] at hy;cases hy;refine aa.ret ?_;have hgd:bs.getD j 0=e1.born:=by rw[ac,f4,f7];rfl
   refine az.sk R M (.tuple #[.int .i64 q0,goInt e1.born]) (arr':=arr) (.inl ?_) M.ent M.stamp M.nodup ?_
   . simp[execOp,ho,Instr.mapEntry,run_underlying M.und,M.mv,hx,MapKept.run_getObj_map M.hp,hck,f2,f3,f5,hst,Yo f3 f5,MapKept.run_setObj_map _ M.hp,Result.andThen,bR]
   . simp only[VR];rw[hgd];have:=M.stamp.2 s1 (List.mem_of_getElem? f4);exact⟨_,rfl,cy (s9 f8) (cy (Lg (by rw[f7];omega)) dM)⟩
theorem XW{t:TypeId} {m b0 y:Operand} (R:Rel E st g s a w) (hg:aL C.gl st) (G:Good C) (ho:o.op=.entryStore t m b0 y):cw C E st g s a w o (rH C s t m b0 y):=by
 unfold rH;refine uz R G (aR (C:=C) R hg m) fun i ag sh es bs ck k e b arr he M=>?_;have h1:=aR (C:=C) R hg b0;have h2:=aR (C:=C) R hg y;split
 . rename_i z q e1 e2;rw[e1] at h1;rw[e2] at h2;simp only[VR] at h1 h2;refine aa.ex fun j=>aa.aI fun hj=>aa.ret ?_;obtain⟨hl1,hl2⟩:=tL M.ent;obtain⟨hjl,hjb⟩:=gt.1 hj.2;have hz:z=((z.toNat:Nat):Int):=by omega
   obtain⟨en,hen⟩:∃en,arr.toList[j]?=some en:=⟨_,am (by omega)⟩
   obtain⟨x',q',s',a1,a2,a3⟩:=wc M.ent hen;have hborn:en.born=z.toNat:=by
    rw[hj.2] at a2;cases a2;exact a3.2.2.2.2.2
   have hbs:arr.toList.map (·.born) =bs:=by
    apply List.ext_getElem?;intro i;rw[List.getElem?_map];cases hi:arr.toList[i]? with
    |none=>
      have:bs[i]?=none:=by rw[List.getElem?_eq_none_iff] at hi⊢;omega
      rw[this];rfl
    |some e'=>
      obtain⟨_,_,_,_,c2,c3⟩:=wc M.ent hi;rw[c2];simp[c3.2.2.2.2.2]
   have hidx:arr.findIdx? (fun e=>((e.born:Nat):Int) ==z) =some j:=by
    rw[WideElems.findIdx_arr,hz,<-hborn];exact WideElems.findIdx_born (by rw[hbs];exact M.stamp.1) hen
   refine az.sk R M undef (arr':=arr.modify j fun e=>{e with val:=.int .i64 q}) (.inr ⟨?_,rfl⟩) ?_ M.stamp (by rw[EB];exact M.nodup) (by simp[VR])
   . simp[execOp,ho,Instr.entryStore,M.mv,h1.1,h2.1,asInt,asIntOf,hidx,MapKept.run_getObj_map M.hp,MapKept.run_setObj_map _ M.hp,Result.andThen,bR]
   . rw[Array.toList_modify];exact I0 M.ent j h2.2 fun e' _=>⟨rfl,rfl,rfl⟩
 . exact aa.fail
theorem Pj(arr:Array MapEntry) (j:Nat):(arr.eraseIdxIfInBounds j).toList=arr.toList.eraseIdx j:=by
 unfold Array.eraseIdxIfInBounds;split
 . simp
 . rename_i h;rw[List.eraseIdx_of_length_le (by simpa using h)]
theorem P4{t:TypeId} {m x:V} {mv xv:Value} {ats:Array TypeId} {ty:TypeId} (R:Rel E st g s a w) (G:Good C) (hm:VR st g m s.sg.length mv) (hxv:VR st g x s.sg.length xv) (hts:ats[0]?=some t)
   (hr:∀w',(Builtin.delete_ ats ty #[mv,xv]).run C.P w=.ok (.tuple #[]) w'->(execOp a.eval o).run C.P w=.ok (.value (.tuple #[])) w'):cw C E st g s a w o (rG C s t m x):=by
 unfold rG;refine uz R G hm fun i ag sh es bs ck k e b arr he M=>?_;rw[force_eq];refine aa.when fun fx=>?_;obtain⟨hx,ox⟩:=yf fx hxv;obtain⟨lx,hlx⟩:=M.key.2 _ (by rw[<-M.agg];exact fx) ox;have hck:=M.key.1.check w arr.isEmpty hlx;rcases An M.key M.agg M.ent M.nodup fx ox w with ⟨f1,f2,f3⟩|⟨j,q0,e1,s1,f1,f2,f3,f4,f5,f6,f7,f8⟩
 . refine aa.gb (fun y hy=>by rw[f1] at hy;cases hy) (fun _=>aa.ret ?_);refine az.sk R M (.tuple #[]) (arr':=arr) (.inl (hr _ ?_)) M.ent M.stamp M.nodup (by simp[VR,aC]);simp[Builtin.delete_,hts,run_underlying M.und,M.mv,hx,MapKept.run_getObj_map M.hp,hck,f2,MapKept.run_setObj_map _ M.hp,Result.andThen,bR]
 . refine aa.gb (fun y hy=>?_) (fun hy=>by rw[f1] at hy;cases hy);rw[f1] at hy;cases hy;refine aa.ret ?_;refine az.sk R M (.tuple #[]) (arr':=arr.eraseIdxIfInBounds j) (.inl (hr _ ?_)) ?_ ?_ ?_ (by simp[VR,aC])
   . simp[Builtin.delete_,hts,run_underlying M.und,M.mv,hx,MapKept.run_getObj_map M.hp,hck,f2,MapKept.run_setObj_map _ M.hp,Result.andThen,bR]
   . rw[Pj];exact Pg M.ent j
   . exact⟨M.stamp.1.sublist (List.eraseIdx_sublist _ _),fun s hs=>M.stamp.2 s ((List.eraseIdx_sublist _ _).subset hs)⟩
   . exact M.nodup.sublist ((List.eraseIdx_sublist _ _).map _)
theorem Vi(bs:List Nat):ot bs #[]=List.range bs.length:=by
 unfold ot;rw[List.filter_eq_self];intro j _;simp
theorem Y3{t:TypeId} {x:Operand} (R:Rel E st g s a w) (hg:aL C.gl st) (G:Good C) (ho:o.op=.range t x):cw C E st g s a w o (rL C s t (s.ev C x)):=by
 unfold rL;refine uz R G (aR (C:=C) R hg x) fun i ag sh es bs ck k e b arr he M=>?_;rw[dN];refine aa.ret (az.new R (.pointer (some ⟨w.heap.size,0,none⟩)) w (aQ.refl w) ⟨some w.heap.size,none,0,0,0⟩ (.mapIter (some b) ck #[] ck) ?_ (by simp) ?_ ?_)
 . simp[execOp,ho,Instr.range,run_underlying M.und,M.mv,MapKept.run_getObj_map M.hp,Result.andThen,newObj,Sem.run]
 . refine⟨w.heap.size,b,#[],rfl,R.wr.gnew _ R.wr.size,heap_alloc_new,?_,(Vi bs).symm,.inl ⟨rfl,cb _⟩⟩;simp only[VR];refine⟨by have:=M.lt;omega,b,?_,rfl⟩;rw[cK (Nat.ne_of_lt M.lt)];exact M.blk
 . simp only[VR,dU];exact⟨by omega,w.heap.size,rfl,rfl⟩
theorem dg.after{st':St} {w1 w2:World} {B:Nat->Prop} (c:dg E st st' w w1 B) (h:aQ w1 w2):dg E st st' w w2 B where
 os:=h.os.trans c.os
 tape:=h.tape.trans c.tape
 output:=h.output.trans c.output
 size:=by rw[h.heap];exact c.size
 aO:=fun b hb hB=>by rw[h.heap];exact c.aO b hb hB
 own:=c.own
 mono:=c.mono
 newst:=fun b o v hv=>by rw[rv (w:=w1) (w':=w2) (by rw[h.heap])];exact c.newst b o v hv
 oldst:=fun b o v hB hv=>by rw[rv (w:=w1) (w':=w2) (by rw[h.heap])];exact c.oldst b o v hB hv
theorem I1{ag:Bool} {sh:List Sc} {es:List (V×Int)} {bs:List Nat} {l:List MapEntry} (h:gy ag sh es bs l):l.map (·.born) =bs:=by
 obtain⟨hl1,hl2⟩:=tL h;apply List.ext_getElem?;intro i;rw[List.getElem?_map];cases hi:l[i]? with
 |none=>
   have:bs[i]?=none:=by rw[List.getElem?_eq_none_iff] at hi⊢;omega
   rw[this];rfl
 |some e'=>
   obtain⟨_,_,_,_,c2,c3⟩:=wc h hi;rw[c2];simp[c3.2.2.2.2.2]
theorem JA(R:Rel E st g s a w) {k i ck ck':Nat} {ag:Bool} {sh:List Sc} {es:List (V×Int)} {bs bs' left:List Nat} {last:Nat} (hk:aD s.sg k=.miter (.map i) bs ck left last) (hi:aD s.sg i=.map ag sh es bs' ck'):
   ∃b b' seen arr,k<s.sg.length/\(g k).blk=some b/\E.G b/\w.heap[b]?=some (.mapIter (some b') ck seen ck)/\(g i).blk=some b'/\i<s.sg.length/\w.heap[b']?=some (.map arr ck')/\gy ag sh es bs' arr.toList/\sY bs' ck'/\
    left=ot bs seen/\((seen=#[]/\bs.length<=last)\/(seen.back?=some (bs.getD last 0)/\last<bs.length)):=by
 obtain⟨hs1,hkl⟩:=eY hk (by simp);obtain⟨hs2,hil⟩:=eY hi (by simp);obtain⟨b,b',seen,h1,h2,h3,h4,h5,h6⟩:=R.wr.ob k _ hs1;obtain⟨b2,arr,q1,q2,q3,q4,q5,q6⟩:=R.wr.ob i _ hs2;simp only[VR] at h4;obtain⟨_,b3,h7,h8⟩:=h4;rw[q1] at h7;cases h7;injection h8 with h8
 injection h8 with h8
 subst h8;exact⟨b,b',seen,arr,hkl,h1,h2,h3,q1,hil,q3,q4,q5,h5,h6⟩
theorem XV{x:Operand} (R:Rel E st g s a w) (hg:aL C.gl st) (ho:o.op=.entry x):cw C E st g s a w o (tO C s x):=by
 unfold tO;have hx:=aR (C:=C) R hg x;split
 . rename_i k he;rw[he] at hx;simp only[VR] at hx;obtain⟨hkl,b,hb,hx⟩:=hx;split
   . rename_i i bs ck left last hs;split
     . rename_i ag sh es bs' ck' hs2;obtain⟨b1,b',seen,arr,_,h1,h2,h3,h4,h5,h6,h7,h8,h9,h10⟩:=JA R hs hs2;rw[hb] at h1;cases h1;refine aa.aI fun hq=>?_;obtain⟨rfl,rfl⟩:=hq;rw[nq];refine aa.opt fun p hp=>aa.ret ?_;obtain⟨s1,e1,c1,c2,c3⟩:=yM h7 (x:=p.1) (q:=p.2) hp;obtain⟨hl1,hl2⟩:=tL h7;obtain⟨hlt,_⟩:=gt.1 c1;rcases h10 with ⟨_,h10⟩|⟨h10,_⟩
       . omega
       . have hs1:bs'.getD last 0=s1:=by rw[ac,c1];rfl
         rw[hs1] at h10;have hpop:seen=seen.pop.push s1:=by
          apply Array.ext';rw[Array.toList_push,Array.toList_pop];have hl:seen.toList.getLast?=some s1:=by rw[Array.getLast?_toList];exact h10
          obtain⟨ys,hys⟩:=List.getLast?_eq_some_iff.1 hl;rw[hys];simp
         have hs1e:s1=e1.born:=c3.2.2.2.2.2.symm;have hrun:=run_entry_at (P:=C.P) w b b' ck' seen.pop arr ck' e1 (by rw[<-hs1e,<-hpop];exact h3) h6 (List.mem_of_getElem? c2) (by rw[I1 h7];exact h8.1);refine az.pure R (.tuple #[e1.key,e1.val]) w ?_ (aQ.refl w) ?_
         . simp only[execOp,ho,hx,Sem.run_bind,hrun,Result.andThen_ok];rfl
         . simp only[VR];refine⟨_,rfl,cy ?_ (cy ?_ dM)⟩
           . rw[c3.2.2.1];have hok:=c3.2.1;clear hp c3;generalize p.1=y at hok⊢;cases y with
             |str s=>exact⟨rfl,hok⟩
             |_=>trivial
           . rw[c3.2.2.2.1];exact s9 c3.2.2.2.2.1
     . exact aa.fail
   . exact aa.fail
 . exact aa.fail
theorem Vj{bs:List Nat} {seen:Array Nat} {j:Nat} (hn:bs.Nodup) (hj:j<bs.length):ot bs (seen.push (bs.getD j 0)) =(ot bs seen).erase j:=by
 have hnd:(ot bs seen).Nodup:=List.Nodup.sublist List.filter_sublist List.nodup_range;rw[hnd.erase_eq_filter];unfold ot;rw[List.filter_filter];refine List.filter_congr fun i hi=>?_;have hi:=List.mem_range.1 hi;have hij:(bs.getD i 0=bs.getD j 0)↔i=j:=by
  rw[ac,ac,am hi,am hj];exact List.getElem_inj hn
 simp only[Array.toList_push,List.contains_append];by_cases e:i=j
 . subst e;simp
 . have:¬bs.getD i 0=bs.getD j 0:=fun q=>e (hij.1 q);have h2:(i !=j) =true:=by simpa using e
   simp[h2,e];intro _;simpa using this
theorem Ye{x:Operand} (R:Rel E st g s a w) (hg:aL C.gl st) (ho:o.op=.next x false) {K:Ef->AS->Prop} (h:zR C s x o.dst K):∃e,K e (s.app o.dst e)/\az C E st g s a w o e:=by
 unfold zR at h;have hx:=aR (C:=C) R hg x;split at h
 . rename_i k he;rw[he] at hx;simp only[VR] at hx;obtain⟨hkl,b,hb,hx⟩:=hx;split at h
   . rename_i i bs ck left last hs;split at h
     . rename_i ag sh es bs' ck' hs2;obtain⟨b1,b',seen,arr,_,h1,h2,h3,h4,h5,h6,h7,h8,h9,h10⟩:=JA R hs hs2;rw[hb] at h1;cases h1;obtain⟨⟨rfl,rfl⟩,k1,k2⟩:=h;simp only[gX] at k1 k2;have hborn:=I1 h7;have hold:∀y∈arr.toList,y.born<ck':=fun y hy=>h8.2 _ (by rw[<-hborn];exact List.mem_map.2 ⟨y,hy,rfl⟩);obtain⟨hl1,hl2⟩:=tL h7;rcases run_next_at (P:=C.P) w o.type b b' ck' ck' seen arr ck' h3 h6 hold (cb _) with ⟨n1,n2⟩|⟨en,n1,w1,n2,n3⟩
       . have hl:left=[]:=by
           rw[h9];unfold ot;rw[List.filter_eq_nil_iff];intro j hj;have hj:=List.mem_range.1 hj;obtain⟨en,hen⟩:∃en,arr.toList[j]?=some en:=⟨_,am (by omega)⟩
           have hbj:bs'.getD j 0=en.born:=by
            rw[<-hborn,ac,List.getElem?_map,hen];rfl
           rw[hbj];intro q;have hmem:en∈(Go.leftOf arr seen).toList:=by
            unfold Go.leftOf;simp only[Array.mem_toList_iff,Array.mem_filter];refine⟨by simpa using List.mem_of_getElem? hen,?_⟩;simpa using q
           rw[Array.eq_empty_of_size_eq_zero n1] at hmem;simp at hmem
         refine⟨_,k1 hl,az.pure R (.tuple #[.bool false]) w ?_ (aQ.refl w) ?_⟩
         . simp only[execOp,ho,hx,Sem.run_bind,n2,Result.andThen_ok];rfl
         . simp only[VR];exact⟨_,rfl,cy fz dM⟩
       . unfold Go.leftOf at n1;simp only[Array.mem_toList_iff,Array.mem_filter] at n1;obtain⟨m1,m2⟩:=n1;obtain⟨j,hj⟩:=List.getElem?_of_mem (show en∈arr.toList by simpa using m1);obtain⟨hjl,_⟩:=gt.1 hj;have hbj:bs'.getD j 0=en.born:=by
          rw[<-hborn,ac,List.getElem?_map,hj];rfl
         have hjm:j∈left:=by
          rw[h9];unfold ot;refine List.mem_filter.2 ⟨List.mem_range.2 (by omega),?_⟩;rw[hbj];simpa using m2
         refine⟨_,k2 j hjm,?_⟩;have hw1:aQ (bR w b (.mapIter (some b') ck' (seen.push en.born) ck')) (Go.ChangeMaps.setBlock w1 b (.mapIter (some b') ck' (seen.push en.born) ck')):=by
          rcases n2 with rfl|rfl<;>exact⟨rfl,rfl,rfl,rfl⟩
         refine az.j9 R hkl (.tuple #[.bool true,en.key,en.val]) _ (g k) (.inl ?_) ((dg.bR h2 _ (fun b''=>by rw[hb];simp[eq_comm]) (fun k v hv=>?_)).after hw1) (.inl rfl) (fun b hb=>.inl hb) ?_ ?_
         . simp only[execOp,ho,hx,Sem.run_bind,n3,Result.andThen_ok];rfl
         . have:=R.wr.stw _ _ _ hv;simp only[World.cell?,h3] at this;cases this
         . rw[Nu];refine dK.same ?_ hw1;refine⟨b,b',seen.push en.born,hb,h2,lN h3,?_,?_,.inr ⟨?_,by omega⟩⟩
           . simp only[VR];exact⟨h5,b',h4,rfl⟩
           . rw[<-hbj,Vj h8.1 (by omega),h9]
           . rw[Array.back?_push,hbj]
         . simp only[VR];exact⟨_,rfl,cy fz (cy (by simp[VR]) (cy (by simp[VR]) dM))⟩
     . exact h.elim
   . exact h.elim
 . exact h.elim
end
end Go.VG
namespace Go.VG
open Go
def xH(f:TypeId->Option (List Sc)):List Field->Nat->Option (List Sc)
 |[],_=>some []
 |x::xs,off=>match Nat.beq x.offset off,f x.type with
   |true,some sh=>match xH f xs (off+sh.length) with
     |some r=>some (sh++r)
     |none=>none
   |_,_=>none
def xB:Nat->List Sc->List Sc
 |0,_=>[]
 |n+1,l=>l++xB n l
def shapeOf(P:Program):Nat->TypeId->Option (List Sc)
 |0,_=>none
 |d+1,t=>match P.underlying t with
   |some .bool=>cond (Nat.beq 1 (P.cellsOf t)) (some [.kB]) none
   |some (.int q) =>cond (Nat.beq 1 (P.cellsOf t)) (some [.kI q]) none
   |some .string=>cond (Nat.beq 1 (P.cellsOf t)) (some [.kS]) none
   |some (.array n e) =>match shapeOf P d e with
     |some se=>match Nat.beq (xB n se).length (P.cellsOf t) with
       |true=>some (xB n se)
       |false=>none
     |none=>none
   |some (.struct fs) =>match fs.all (·.name != "_"),xH (shapeOf P d) fs.toList 0 with
     |true,some sh=>match Nat.beq sh.length (P.cellsOf t) with
       |true=>some sh
       |false=>none
     |_,_=>none
   |_=>none
def jy:V->Lit
 |.int k n=>.int k n
 |.bool b=>.bool b
 |.str s=>.string s
 |_=>.bool false
theorem lC:∀{sh:List Sc} {cs:List V},cP sh cs=true->sh.length=cs.length
 |[],[],_=>rfl
 |k::ks,x::xs,h=>by
   simp only[cP,zza] at h;simp[lC h.2]
 |[],_::_,h=>by cases h
 |_::_,[],h=>by cases h
theorem CH:∀{s1 s2:List Sc} {cs:List V},cP (s1++s2) cs=true->cP s1 (cs.take s1.length) =true/\cP s2 (cs.drop s1.length) =true
 |[],_,cs,h=>⟨by cases cs<;>rfl,by simpa using h⟩
 |k::ks,s2,[],h=>by simp[cP] at h
 |k::ks,s2,x::xs,h=>by
   simp only[List.cons_append,cP,zza] at h;obtain⟨a,b⟩:=CH h.2;exact⟨by simp[cP,h.1,a],by simpa using b⟩
variable {P:Program}
theorem Dk{k k':IntKind} (h:fZ k k'=true):k=k':=by cases k<;>cases k'<;>first|rfl|cases h
theorem Zu{k:IntKind} {n:Int} (h:k.min<=n/\n<=k.max):(Lit.int k n).wf=true:=by
 simp only[Lit.wf,zza,decide_eq_true_eq];exact h
theorem Iw(D:Nat) (f:TypeId->Option (List Sc)) (hf:∀t sh,f t=some sh->sh.length=P.cellsOf t/\∀(st:St) (g:au) (n:Nat) (cs:List V) (vs:List Value),cP sh cs=true->aC st g cs n vs->P.keyLits D t vs=some (cs.map jy)):
   ∀(fs:List Field) (off:Nat) (sh:List Sc),xH f fs off=some sh->∀(st:St) (g:au) (n:Nat) (cs:List V) (vs:List Value),cP sh (cs.drop off) =true->aC st g cs n vs->off<=cs.length->
   ∃xs,fs.mapM (fun f=>P.keyLits D f.type ((vs.drop f.offset).take (P.cellsOf f.type))) =some xs/\xs.flatten=(cs.drop off).map jy
 |[],off,sh,h,st,g,n,cs,vs,hfit,hv,ho=>by
   simp only[xH] at h;cases h;have:=lC hfit;simp at this;refine⟨[],by simp,?_⟩;rw[List.drop_eq_nil_of_le (by omega)];rfl
 |x::xs,off,sh,h,st,g,n,cs,vs,hfit,hv,ho=>by
   simp only[xH] at h;split at h
   . rename_i s1 e1 e2;split at h
     . rename_i r e3;cases h;have e1:=aB e1;obtain⟨q1,q2⟩:=hf _ _ e2;obtain⟨f1,f2⟩:=CH hfit;have hl:=lC hfit;rw[an,d9] at hl;have hv1:aC st g ((cs.drop off).take s1.length) n ((vs.drop off).take s1.length):=vG (vD hv);have k1:=q2 st g n _ _ f1 hv1;have f2':cP r (cs.drop (off+s1.length)) =true:=by rw[<-List.drop_drop];exact f2
       obtain⟨ys,y1,y2⟩:=Iw D f hf xs (off+s1.length) r e3 st g n cs vs f2' hv (by omega);refine⟨((cs.drop off).take s1.length).map jy::ys,?_,?_⟩
       . rw[List.mapM_cons,e1,<-q1,k1,y1];rfl
       . rw[List.flatten_cons,y2,<-fo,<-List.drop_drop,List.take_append_drop]
     . cases h
   . cases h
theorem HX(D:Nat) (e:TypeId) (se:List Sc) (hc:se.length=P.cellsOf e) (hk:∀(st:St) (g:au) (n:Nat) (cs:List V) (vs:List Value),cP se cs=true->aC st g cs n vs->P.keyLits D e vs=some (cs.map jy)):
   ∀(m k:Nat) (st:St) (g:au) (n:Nat) (cs:List V) (vs:List Value),cP (xB m se) (cs.drop (k*se.length)) =true->aC st g cs n vs->
   ∃xs,(List.range' k m).mapM (fun i=>P.keyLits D e ((vs.drop (i*P.cellsOf e)).take (P.cellsOf e))) =some xs/\xs.flatten=(cs.drop (k*se.length)).map jy
 |0,k,st,g,n,cs,vs,hfit,hv=>by
   have:=lC hfit;refine⟨[],by simp,?_⟩;rw[co this.symm];rfl
 |m+1,k,st,g,n,cs,vs,hfit,hv=>by
   obtain⟨f1,f2⟩:=CH hfit;have hv1:aC st g ((cs.drop (k*se.length)).take se.length) n ((vs.drop (k*se.length)).take se.length):=vG (vD hv);have k1:=hk st g n _ _ f1 hv1;have hm:k*se.length+se.length=(k+1)*se.length:=by rw[Nat.add_mul,Nat.one_mul]
   have f2':cP (xB m se) (cs.drop ((k+1)*se.length)) =true:=by rw[<-hm,<-List.drop_drop];exact f2
   obtain⟨ys,y1,y2⟩:=HX D e se hc hk m (k+1) st g n cs vs f2' hv;refine⟨((cs.drop (k*se.length)).take se.length).map jy::ys,?_,?_⟩
   . rw[List.range'_succ,List.mapM_cons,y1,<-hc,k1];rfl
   . rw[List.flatten_cons,y2,<-fo,<-hm,<-List.drop_drop,List.take_append_drop]
theorem yD{b:Bool} {α:Type} {x y:α} (h:cond b (some x) none=some y):b=true/\x=y:=by cases b<;>simp_all
theorem Av:∀(d:Nat) (t:TypeId) (sh:List Sc),shapeOf P d t=some sh->sh.length=P.cellsOf t/\∀(st:St) (g:au) (n:Nat) (cs:List V) (vs:List Value),cP sh cs=true->aC st g cs n vs->P.keyLits d t vs=some (cs.map jy)
 |0,_,_,h=>by simp[shapeOf] at h
 |d+1,t,sh,h=>by
   have one:∀{k:Sc} {cs:List V},cP [k] cs=true->∃x,cs=[x]/\kC k x=true:=fun{k cs} hf=>by
    match cs,hf with
    |[x],hf=>simp only[cP,Bool.and_true] at hf;exact⟨x,rfl,hf⟩
    |[],hf=>cases hf
    |x::y::r,hf=>simp[cP] at hf
   have onev:∀{st:St} {g:au} {n:Nat} {x:V} {vs:List Value},aC st g [x] n vs->∃v,vs=[v]/\VR st g x n v:=fun{st g n x vs} hv=>by
    simp only[aC] at hv;obtain⟨u,us,rfl,h1,rfl⟩:=hv;exact⟨u,rfl,h1⟩
   simp only[shapeOf] at h;split at h
   . rename_i hu;obtain⟨hb,rfl⟩:=yD h;refine⟨aB hb,fun st g n cs vs hf hv=>?_⟩;obtain⟨x,rfl,hx⟩:=one hf;obtain⟨v,rfl,hw⟩:=onev hv;clear hv hf;cases x<;>try(cases hx;done)
     simp only[VR] at hw;subst hw;simp[Program.keyLits,hu,jy]
   . rename_i q hu;obtain⟨hb,rfl⟩:=yD h;refine⟨aB hb,fun st g n cs vs hf hv=>?_⟩;obtain⟨x,rfl,hx⟩:=one hf;obtain⟨v,rfl,hw⟩:=onev hv;clear hv hf;cases x<;>try(cases hx;done)
     have hx:=Dk hx;subst hx;simp only[VR] at hw;obtain⟨rfl,hw⟩:=hw;simp[Program.keyLits,hu,jy,Zu hw]
   . rename_i hu;obtain⟨hb,rfl⟩:=yD h;refine⟨aB hb,fun st g n cs vs hf hv=>?_⟩;obtain⟨x,rfl,hx⟩:=one hf;obtain⟨v,rfl,hw⟩:=onev hv;clear hv hf;cases x<;>try(cases hx;done)
     simp only[VR] at hw;obtain⟨rfl,hw⟩:=hw;rename_i s;have hsz:(⟨s.toArray⟩:ByteArray).size=s.length:=by show s.toArray.size=_;simp
     simp[Program.keyLits,hu,jy,hsz,hw]
   . rename_i m e hu;split at h
     . rename_i se hse;split at h
       . rename_i hb;cases h;obtain⟨q1,q2⟩:=Av d e se hse;refine⟨aB hb,fun st g n cs vs hf hv=>?_⟩;obtain⟨xs,x1,x2⟩:=HX d e se q1 q2 m 0 st g n cs vs (by simpa using hf) hv;have hlen:vs.length=P.cellsOf t:=by rw[<-eN hv,<-lC hf];exact aB hb
         unfold Program.keyLits;simp only[hu];rw[if_pos hlen,List.range_eq_range',x1];simp[x2]
       . cases h
     . cases h
   . rename_i fs hu;split at h
     . rename_i sh' ha hsf;split at h
       . rename_i hb;cases h;refine⟨aB hb,fun st g n cs vs hf hv=>?_⟩;obtain⟨xs,x1,x2⟩:=Iw d (shapeOf P d) (fun t sh h=>Av d t sh h) fs.toList 0 sh hsf st g n cs vs (by simpa using hf) hv (bu _);have hlen:vs.length=P.cellsOf t:=by rw[<-eN hv,<-lC hf];exact aB hb
         unfold Program.keyLits;simp only[hu];rw[if_pos ⟨hlen,ha⟩,x1];simp[x2]
       . cases h
     . cases h
   . cases h
theorem Ph:∀{sh:List Sc} {cs ds:List V} {r:Bool},sh≠[]->cP sh cs=true->cP sh ds=true->eqs cs ds=some r->(r=true↔cs.map jy=ds.map jy):=by
 have e1:∀{k:Sc} {x y:V} {r:Bool},kC k x=true->kC k y=true->rD x y=some r->(r=true↔jy x=jy y):=fun{k x y r} hx hy h=>by
  cases k<;>cases x<;>simp only[kC,Bool.false_eq_true] at hx<;>cases y<;>simp only[kC,Bool.false_eq_true] at hy
  . simp only[rD,Option.some.injEq] at h;subst h;simp[jy]
  . have hx:=Dk hx;have hy:=Dk hy;subst hx;subst hy;simp only[rD] at h;obtain⟨_,rfl⟩:=yD h;simp[jy]
  . simp only[rD,Option.some.injEq] at h;subst h;simp[jy]
 intro sh
 induction sh with
 |nil=>intro cs ds r h;exact absurd rfl h
 |cons k ks ih=>
   intro cs ds r _ hc hd h
   match cs,ds,hc,hd with
   |[],_,hc,_=>cases hc
   |_::_,[],_,hd=>cases hd
   |x::xs,y::ys,hc,hd=>
     simp only[cP,zza] at hc hd;by_cases hk:ks=[]
     . subst hk;have l1:=lC hc.2;have l2:=lC hd.2;obtain rfl:xs=[]:=co l1.symm;obtain rfl:ys=[]:=co l2.symm;simp only[eqs] at h;rw[e1 hc.1 hd.1 h];simp
     . have hxs:xs≠[]:=fun e=>hk (by subst e;exact co (lC hc.2));have h:(match rD x y,eqs xs ys with
        |some a,some b=>some (a&&b)
        |_,_=>none) =some r:=by
        cases xs with
        |nil=>exact absurd rfl hxs
        |cons x2 xr=>
          cases ys with
          |nil=>have:=lC hd.2;have:=lC hc.2;simp_all
          |cons y2 yr=>exact h
       split at h
       . rename_i a b ha hb;cases h;rw[zza,e1 hc.1 hd.1 ha,ih hk hc.2 hd.2 hb];simp
       . cases h
theorem SQ{t:TypeId} {sh:List Sc} (hne:sh≠[]) (h1:shapeOf P 8 t=some sh) (h2:P.keyTypeAt 8 t=true) (h3:P.eqGuardType P.depth t=false) (h4:(match P.underlying t with|some (.struct _) =>true|some (.array _ _) =>true|_=>false) =true):BV P t sh:=by
 intro st g n cs ds r a b w hc hd he hl ha hb;obtain⟨q1,q2⟩:=Av 8 t sh h1;have k1:=q2 st g n cs _ hc ha;have k2:=q2 st g n ds _ hd hb;have fm:∀(x:Array Value),x.toList.length=P.cellsOf t->(Value.agg x).formed P t=true:=fun x hx=>by
  split at h4
  . rename_i fs hu;simp at hx;simp[Value.formed,hu,hx]
  . rename_i m e hu;simp at hx;simp[Value.formed,hu,hx]
  . cases h4
 obtain⟨r',e1,e2⟩:=run_equalIn_deep (P:=P) 9992 8 t h2 w 8 8 (.agg a) (.agg b) _ _ (fm a (by rw[<-eN ha,<-lC hc];exact q1)) (fm b (by rw[<-eN hb,<-lC hd];exact q1)) k1 k2;have e3:=Ph hne hc hd he;have:r'=r:=by
  cases r<;>cases r'<;>simp_all
 subst this;exact⟨e1,h3⟩
theorem H2{st:St} {g:au} {n:Nat}:∀{sh:List Sc} {cs:List V},cP sh cs=true->(∀c∈cs,uy c)->aC st g cs n (cs.map jF)
 |_,[],_,_=>dM
 |[],_::_,h,_=>by cases h
 |k::ks,c::cs,h,ho=>by
   simp only[cP,zza] at h;refine cy ?_ (H2 h.2 fun d hd=>ho d (d5 _ hd));have h1:=ho c (List.mem_cons_self ..);have h0:=h.1;cases k<;>cases c<;>simp only[kC,Bool.false_eq_true] at h0
   . simp[VR,jF]
   . simp only[VR,jF];exact⟨trivial,h1⟩
   . simp only[VR,jF];exact⟨trivial,h1⟩
theorem UP{P:Program} {k:TypeId} (h:P.underlying k=some .string):sW P k [.kS]:=by
 refine⟨WideMaps.string_law h,fun x hx ho=>?_⟩;have ha:oN P k=false:=by unfold oN;rw[h]
 rw[ha] at hx;rcases tY hx with ⟨_,_,h0,_⟩|⟨k',_,e,h1,h2,h3⟩
 . cases h0
 . cases e;cases x<;>simp only[kC,Bool.false_eq_true] at h1;rename_i s;have hl:s.length<=maxLen:=h3.1 ho;rw[h2];exact⟨_,WideMaps.keyOf_string_mk h (s:=⟨s.toArray⟩) (by show s.toArray.size<=_;simpa using hl)⟩
theorem UQ{P:Program} {k:TypeId} {sh:List Sc} (h1:shapeOf P (P.types.size+1) k=some sh) (m:Nat) (hm:m+1<=10000) (hk:P.keyTypeAt m k=true) (ht:P.tiled m k=true) (hkt:P.keyType k=true)
   (h4:(match P.underlying k with|some (.struct _) =>true|_=>false) =true):sW P k sh:=by
 have hw:(match P.underlying k with|some (.array _ _)|some (.struct _) =>true|_=>false) =true:=by
  split at h4
  . rename_i fs hu;rw[hu]
  . cases h4
 refine⟨deep_law hm hk ht hw,fun x hx ho=>?_⟩;have ha:oN P k=true:=by
  unfold oN;split at h4
  . rename_i fs hu;rw[hu]
  . cases h4
 rw[ha] at hx;rcases tY hx with ⟨cs,rfl,_,hf⟩|⟨_,h0,_⟩
 . obtain⟨q1,q2⟩:=Av _ k sh h1;have hv:=H2 (st:=fun _ _=>none) (g:=fun _=>⟨none,none,0,0,0⟩) (n:=0) hf ho;have k1:=q2 _ _ _ cs _ hf hv;have fm:(du (.agg cs)).formed P k=true:=by
    have hl:cs.length=P.cellsOf k:=by rw[<-lC hf];exact q1
    split at h4
    . rename_i fs hu;simp[du,Value.formed,hu,hl]
    . cases h4
   have hc:(du (.agg cs)).cells.toList=cs.map jF:=by simp[du,Value.cells]
   refine⟨.string (keyBytes (cs.map jy)),?_⟩;unfold keyOf;split at h4
   . rename_i fs hu;rw[hu];simp only[hkt,fm,Bool.and_self,if_true,hc,k1];rfl
   . cases h4
 . cases h0
end Go.VG
namespace Go.VG
open Go

section
variable {C:Ctx} {E:Env} {st:St} {g:au} {s:AS} {a:Act} {w:World} {o:Oper} {e:Ef}

theorem qD{n m:Nat} (h:n<=maxLen):VR st g (.int .i64 (n:Int)) m (goInt n):=by
 refine gU ⟨?_,?_⟩
 . simp[IntKind.min,IntKind.signed,IntKind.bits]
 . rw[IntKind.max_i64];unfold maxLen at h;omega

theorem XS{t t2 e:TypeId} {x y:Operand} {i:Nat} {l:List V} {sz:Nat} {ys:List V} {rd:List Nat} {args:Array Operand} (R:Rel E st g s a w) (hg:aL C.gl st) (G:Good C) (hargs:args.toList=[x,y])
   (ho:o.op=.call {callee:=.builtin .copy,args:=args,argTypes:=#[t,t2]}) (hk:(C.ti t).k=.slice e) (hk2:(C.ti e).k≠.other) (hx0:s.ev C x=.buf i) (hs:aD s.sg i=.buf (C.ti e).size 0 l)
   (hy:pL E st g w (a.eval y) sz ys) (hsz:jN sz (C.ti e).size ys=true):
   az C E st g s a w o ⟨.int .i64 (min ys.length l.length:Nat),[],[(i,.buf (C.ti e).size 0 (ys.take l.length++l.drop ys.length))],[],i::rd⟩:=by
 have hx:=aR (C:=C) R hg x;rw[hx0] at hx;simp only[VR] at hx;obtain⟨hil,hx⟩:=hx;obtain⟨hs1,_⟩:=eY hs (by simp);obtain⟨q1,q2,q3,q4,q5,q6,q7⟩:=R.wr.ob i _ hs1;have ht:C.P.underlying t=some (.slice e):=by
  have h3:=((G.ti t).of (by rw[hk];simp)).1;rw[hk] at h3;exact h3
 obtain⟨cs,c1,c2,c3,c4⟩:=hy.cells hsz q1;have hargs':args=#[x,y]:=by cases args;simp_all
 subst hargs';have hn:min ys.length l.length<=ys.length:=Nat.min_le_left _ _;have hn2:min ys.length l.length<=l.length:=Nat.min_le_right _ _;have hnm:min ys.length l.length<=maxLen:=Nat.le_trans hn2 q4;have hl1:(ys.take l.length++l.drop ys.length).length=l.length:=by simp;omega
 have hc:=(c4 C.P w rfl).1;have hc2:=(c4 C.P w rfl).2 _ hn;have hmin:Nat.min ys.length l.length=min ys.length l.length:=rfl;generalize hN:min ys.length l.length=N at*;have hV:VR st (aX g i (g i)) (.int .i64 (N:Nat)) s.sg.length (goInt N):=qD hnm;rcases q7 with ⟨q7,q8⟩|⟨b',c,el,fr,k1,k2,k3,k4,k5,k6,k7,k8⟩
 . have hl0:l=[]:=co (by omega);subst hl0;have hN0:N=0:=by simp only[List.length_nil] at hn2;omega
   subst hN0;have hr:(Builtin.copy_ #[t,t2] o.type #[a.eval x,a.eval y]).run C.P w=.ok (goInt 0) w:=by
    unfold Builtin.copy_;simp only[List.getElem?_toArray,List.getElem?_cons_zero,List.getElem?_cons_succ,run_underlying ht,Sem.run_bind,Sem.run_pure,Result.andThen_ok,hx,hc,q5,gj w (G.ti e) hk2,hmin,hc2];cases(g i).base<;>simp only[Nat.zero_mul,List.take_zero]<;>rfl
   refine az.j9 R hil _ w (g i) (.inl (by simp only[execOp,ho,resolve,invoke,builtin];simp[hr])) ⟨rfl,rfl,rfl,cb _,fun _ _ _=>rfl,fun b hb=>(R.wr.cH hil hb).2,fun _ _ _ h=>h,fun _ _ _ h=>.inl h,fun b o v _ h=>R.wr.stw _ _ _ h⟩
    (.inl rfl) (fun b hb=>.inl hb) ?_ hV
   exact⟨q1,q2,by simp,by simp,by simpa using q5,by simp,.inl ⟨q7,q8⟩⟩
 . have hin:N*(C.ti e).size<=l.length*(C.ti e).size:=gg _ hn2;have hin2:l.length*(C.ti e).size<=c.size:=by rw[k5];exact gg _ q6
   have hin3:N*(C.ti e).size<=cs.length:=by rw[c1];exact gg _ hn
   have htl:(cs.take (N*(C.ti e).size)).length=N*(C.ti e).size:=by simp;omega
   have hlen:cs.take (N*(C.ti e).size) =[]\/0+(cs.take (N*(C.ti e).size)).length<=c.toList.length:=by right;rw[htl];simp;omega
   have hst:=uJ (P:=C.P) (b:=b') (o:=0) (cs.take (N*(C.ti e).size)) 0 c w k4 k7 (by simpa using hlen) (fun v hv=>c2 v (List.mem_of_mem_take hv));rw[Nat.add_zero] at hst;have hcell:=uC (xs:=c.toList) (ys:=cs.take (N*(C.ti e).size)) (o:=0) hlen;have hr:(Builtin.copy_ #[t,t2] o.type #[a.eval x,a.eval y]).run C.P w=.ok (goInt N) (bR w b' (.cells (over c.toList 0 (cs.take (N*(C.ti e).size))).toArray el fr)):=by
    unfold Builtin.copy_;simp only[List.getElem?_toArray,List.getElem?_cons_zero,List.getElem?_cons_succ,run_underlying ht,Sem.run_bind,Sem.run_pure,Result.andThen_ok,hx,hc,q5,gj w (G.ti e) hk2,hmin,hc2,k2,hst]
   have hug:aX g i (g i) =g:=by funext j;by_cases e:j=i<;>simp[aX,e]
   refine az.j9 R hil _ _ (g i) (.inl (by simp only[execOp,ho,resolve,invoke,builtin];simp[hr];rfl)) (dg.bR k3 _ (fun b''=>by rw[k1];simp[eq_comm]) (fun k v hv=>?_))
    (.inl rfl) (fun b hb=>.inl hb) ?_ hV
   . have h9:=k8 k v hv;omega
   . rw[hug];refine⟨q1,q2,by simp,by rw[hl1];exact q4,by rw[hl1];exact q5,by rw[hl1];exact q6,.inr ⟨b',_,el,fr,k1,k2,k3,lN k4,?_,?_,?_,k8⟩⟩
     . simp only[List.size_toArray,mc hlen,Array.length_toList];exact k5
     . have hrow1:=c3 (fun k=>cs[k]?) 0 (fun k u hu=>by rw[Nat.zero_add];exact hu);rw[gV] at hrow1 k6⊢;intro j z hz;have hmul:j<N->j*(C.ti e).size+(C.ti e).size<=N*(C.ti e).size:=fun h=>by
        have:=gg (C.ti e).size (show j+1<=N by omega);rw[Nat.add_mul,Nat.one_mul] at this;exact this
       rcases d7 j N with hj|hj
       . rw[dl (by simp;omega),List.getElem?_take,if_pos (by omega)] at hz;obtain⟨u,u1,u2,u3,u4⟩:=hrow1 j z hz;refine⟨u,u1,u2,u3,fun k hk=>?_⟩;have:=hmul hj;rw[List.getElem?_toArray,hcell,if_pos (by rw[htl];omega),List.getElem?_take,if_pos (by omega),<-u4 k hk]
         congr 1
       . have hz':l[j]?=some z:=by
           rw[dt (by simp;omega),List.getElem?_drop] at hz;rcases d7 l.length ys.length with hll|hll
           . rw[ci (by omega)] at hz;cases hz
           . rw[<-hz,d8];congr 1;omega
         obtain⟨u,u1,u2,u3,u4⟩:=k6 j z hz';refine⟨u,u1,u2,u3,fun k hk=>?_⟩;have:N*(C.ti e).size<=j*(C.ti e).size:=gg _ hj;have h5:=u4 k hk;rw[List.getElem?_toArray,hcell,if_neg (by rw[htl];omega),<-h5];simp
     . refine⟨k7.1,fun k hk=>?_⟩;refine k7.2 k ?_;simp only[List.size_toArray,mc hlen,Array.length_toList] at hk;exact hk

theorem XT{t t2 e:TypeId} {x y:Operand} {i off n:Nat} {cs cs':List V} {sz:Nat} {ys:List V} {rd:List Nat} {args:Array Operand} (R:Rel E st g s a w) (hg:aL C.gl st) (G:Good C) (hargs:args.toList=[x,y])
   (ho:o.op=.call {callee:=.builtin .copy,args:=args,argTypes:=#[t,t2]}) (hk:(C.ti t).k=.slice e) (hk2:(C.ti e).k≠.other) (hx0:s.ev C x=.view i off n) (hs:aD s.sg i=.cells cs) (he1:(C.ti e).size=1)
   (hy:pL E st g w (a.eval y) sz ys) (hsz:jN sz 1 ys=true) (hone:eG ys=true) (hset:jM cs off (ys.take n) =some cs'):
   az C E st g s a w o ⟨.int .i64 (min ys.length n:Nat),[],[(i,.cells cs')],[],i::rd⟩:=by
 have hx:=aR (C:=C) R hg x;rw[hx0] at hx;simp only[VR] at hx;obtain⟨hil,b,hb,of,cap,hof,hx⟩:=hx;obtain⟨hs1,_⟩:=eY hs (by simp);obtain⟨b',c,el,fr,k1,k2,k3,k4,k5,k6⟩:=yx R.wr hs1;rw[hb] at k1;cases k1;obtain⟨of,hx,hofN⟩:∃o',a.eval x=.slice (some ⟨b,o',none⟩) n cap/\(min ys.length n=0\/o'=off):=⟨of,hx,hof.imp (fun h=>by rw[h,Nat.min_zero]) id⟩
 have ht:C.P.underlying t=some (.slice e):=by
  have h3:=((G.ti t).of (by rw[hk];simp)).1;rw[hk] at h3;exact h3
 obtain⟨us,c1,c2,c3,c4⟩:=hy.cells hsz (Nat.lt_succ_self 0);rw[Nat.mul_one] at c1;have hargs':args=#[x,y]:=by cases args;simp_all
 subst hargs';have hn:min ys.length n<=ys.length:=Nat.min_le_left _ _;have hc:=(c4 C.P w rfl).1;have hc2:=(c4 C.P w rfl).2 _ hn;have hmin:Nat.min ys.length n=min ys.length n:=rfl;have hyl:ys.length<=maxLen:=hy.max;have hnm:min ys.length n<=maxLen:=Nat.le_trans hn hyl;obtain⟨r1,r2⟩:=uL hset;subst r1;have htk:ys.take n=ys.take (min ys.length n):=by
  rw[Nat.min_comm,<-List.take_take,List.take_length]
 rw[htk] at r2⊢;generalize hN:min ys.length n=N at*;have hV:VR st (aX g i (g i)) (.int .i64 (N:Nat)) s.sg.length (goInt N):=qD hnm;have hcl:=eN k4;have htl:(us.take N).length=N:=by simp;omega
 have htl2:(ys.take N).length=N:=by simp;omega
 have hus0:N=0->us.take N=[]:=fun h=>co (by rw[htl,h]);have hlen:us.take N=[]\/off+(us.take N).length<=c.size:=by
  rcases r2 with r2|r2
  . left;apply co;rw[htl,<-htl2,r2];rfl
  . right;rw[htl];rw[htl2] at r2;simp only[Array.length_toList] at hcl;omega
 have hlen':us.take N=[]\/of+(us.take N).length<=c.size:=by
  rcases hofN with h|h
  . exact .inl (hus0 h)
  . rw[h];exact hlen
 have hov:over c.toList of (us.take N) =over c.toList off (us.take N):=by
  rcases hofN with h|h
  . rw[hus0 h];simp[over]
  . rw[h]
 have hst:=uJ (P:=C.P) (b:=b) (o:=of) (us.take N) 0 c w k3 k5 (by simpa using hlen') (fun v hv=>c2 v (List.mem_of_mem_take hv));rw[Nat.add_zero,hov] at hst;have hr:(Builtin.copy_ #[t,t2] o.type #[a.eval x,a.eval y]).run C.P w=.ok (goInt N) (bR w b (.cells (over c.toList off (us.take N)).toArray el fr)):=by
  unfold Builtin.copy_;simp only[Nat.mul_one] at hc2;simp only[List.getElem?_toArray,List.getElem?_cons_zero,List.getElem?_cons_succ,run_underlying ht,Sem.run_bind,Sem.run_pure,Result.andThen_ok,hx,hc,gj w (G.ti e) hk2,he1,hmin,hN,Nat.mul_one,hc2,hst]
 have hug:∀j,aX g i (g i) j=g j:=fun j=>by by_cases e:j=i<;>simp[aX,e]
 have hrow:=c3 (fun k=>us[k]?) 0 (fun k u hu=>by rw[Nat.zero_add];exact hu);rw[gV] at hrow;have hus:aC st g (ys.take N) s.sg.length (us.take N):=by
  refine jR.2 ⟨by rw[htl,htl2],fun j z v hz hv=>?_⟩;rw[List.getElem?_take] at hz hv;split at hz
  . rename_i hj;rw[if_pos hj] at hv;obtain⟨u,u1,u2,u3,u4⟩:=hrow j z hz;have h1:=DU hone hz;have h2:=A5 u1 h1;have h4:=u4 0 (by omega);simp only[Nat.mul_one,Nat.zero_add,Nat.add_zero] at h4;rw[hv] at h4;have hcu:u.cells=#[u]:=by cases u<;>first|rfl|(simp[Value.oneCell'] at h2)
    rw[hcu] at h4;have:v=u:=by simpa using h4
    subst this;exact gC (fun _ _ _ h=>h) (fun j _ hj=>absurd hj (Nat.not_lt_zero _)) u1
  . cases hz
 refine az.j9 R hil _ _ (g i) (.inl (by simp only[execOp,ho,resolve,invoke,builtin];simp[hr];rfl))
  (dg.bR k2 _ (fun b'=>by rw[hb];simp[eq_comm]) (fun k v hv=>by rw[k6 k] at hv;cases hv)) (.inl rfl) (fun b hb=>.inl hb) ?_ hV
 refine⟨b,_,el,fr,hb,k2,lN k3,?_,?_,k6⟩
 . exact la (fun _ _ _ h=>h) (fun j _ hj=>⟨hj,hug j⟩) (yi k4 hus)
 . refine⟨k5.1,fun k hk=>?_⟩;refine k5.2 k ?_;have:=mc (xs:=c.toList) (ys:=us.take N) (o:=off) (by rw[Array.length_toList];exact hlen);simp only[List.size_toArray,this,Array.length_toList] at hk;exact hk
theorem XU{t t2 e:TypeId} {x y:Operand} {i off n k:Nat} {l:List V} {sz:Nat} {ys:List V} {rd:List Nat} {args:Array Operand} (R:Rel E st g s a w) (hg:aL C.gl st) (G:Good C) (hargs:args.toList=[x,y])
   (ho:o.op=.call {callee:=.builtin .copy,args:=args,argTypes:=#[t,t2]}) (hk:(C.ti t).k=.slice e) (hk2:(C.ti e).k≠.other) (hx0:s.ev C x=.view i off n) (hs:aD s.sg i=.buf (C.ti e).size 0 l)
   (hy:pL E st g w (a.eval y) sz ys) (hsz:jN sz (C.ti e).size ys=true) (hoff:off=k*(C.ti e).size) (hkn:k+n=l.length):
   az C E st g s a w o ⟨.int .i64 (min ys.length n:Nat),[],[(i,.buf (C.ti e).size 0 (l.take k++(ys.take n++l.drop (k+ys.length))))],[],i::rd⟩:=by
 have hx:=aR (C:=C) R hg x;rw[hx0] at hx;simp only[VR] at hx;obtain⟨hil,b',hb,of,cap,hof,hx⟩:=hx;obtain⟨hs1,_⟩:=eY hs (by simp);obtain⟨q1,q2,q3,q4,q5,q6,q7⟩:=R.wr.ob i _ hs1;have ht:C.P.underlying t=some (.slice e):=by
  have h3:=((G.ti t).of (by rw[hk];simp)).1;rw[hk] at h3;exact h3
 obtain⟨cs,c1,c2,c3,c4⟩:=hy.cells hsz q1;have hargs':args=#[x,y]:=by cases args;simp_all
 subst hargs';have hn:min ys.length n<=ys.length:=Nat.min_le_left _ _;have hn2:min ys.length n<=n:=Nat.min_le_right _ _;have hnm:min ys.length n<=maxLen:=by omega
 have htk:ys.take n=ys.take (min ys.length n):=by
  rw[Nat.min_comm,<-List.take_take,List.take_length]
 have hdr:l.drop (k+ys.length) =l.drop (k+min ys.length n):=by
  rcases Nat.le_total ys.length n with h|h
  . rw[Nat.min_eq_left h]
  . rw[Nat.min_eq_right h,List.drop_eq_nil_of_le (by omega),List.drop_eq_nil_of_le (by omega)]
 rw[htk,hdr];have hN0:min ys.length n=0\/of=k*(C.ti e).size:=by
  rcases hof with h|h
  . left;rw[h,Nat.min_zero]
  . right;rw[h,hoff]
 have hc:=(c4 C.P w rfl).1;have hc2:=(c4 C.P w rfl).2 _ hn;have hmin:Nat.min ys.length n=min ys.length n:=rfl;generalize hN:min ys.length n=N at*;have hV:VR st (aX g i (g i)) (.int .i64 (N:Nat)) s.sg.length (goInt N):=qD hnm;have hl1:(l.take k++(ys.take N++l.drop (k+N))).length=l.length:=by simp;omega
 rcases q7 with ⟨_,q8⟩|⟨b,c,el,fr,k1,k2,k3,k4,k5,k6,k7,k8⟩
 . rw[hb] at q8;cases q8
 rw[hb] at k1;cases k1;have hin:(k+N)*(C.ti e).size<=l.length*(C.ti e).size:=gg _ (by omega);rw[Nat.add_mul] at hin;have hin2:l.length*(C.ti e).size<=c.size:=by rw[k5];exact gg _ q6
 have hin3:N*(C.ti e).size<=cs.length:=by rw[c1];exact gg _ hn
 have htl:(cs.take (N*(C.ti e).size)).length=N*(C.ti e).size:=by simp;omega
 have hz:N=0->cs.take (N*(C.ti e).size) =[]:=fun h=>by rw[h,Nat.zero_mul];rfl
 have hlen:cs.take (N*(C.ti e).size) =[]\/of+(cs.take (N*(C.ti e).size)).length<=c.toList.length:=by
  rcases hN0 with h|h
  . exact .inl (hz h)
  . right;rw[htl,h];simp;omega
 have hst:=uJ (P:=C.P) (b:=b') (o:=of) (cs.take (N*(C.ti e).size)) 0 c w k4 k7 (by simpa using hlen) (fun v hv=>c2 v (List.mem_of_mem_take hv));rw[Nat.add_zero] at hst;have hcell:=uC (xs:=c.toList) (ys:=cs.take (N*(C.ti e).size)) (o:=of) hlen;have hr:(Builtin.copy_ #[t,t2] o.type #[a.eval x,a.eval y]).run C.P w=.ok (goInt N) (bR w b' (.cells (over c.toList of (cs.take (N*(C.ti e).size))).toArray el fr)):=by
  unfold Builtin.copy_;simp only[List.getElem?_toArray,List.getElem?_cons_zero,List.getElem?_cons_succ,run_underlying ht,Sem.run_bind,Sem.run_pure,Result.andThen_ok,hx,hc,gj w (G.ti e) hk2,hmin,hN,hc2,hst]
 have hug:aX g i (g i) =g:=by funext j;by_cases e:j=i<;>simp[aX,e]
 refine az.j9 R hil _ _ (g i) (.inl (by simp only[execOp,ho,resolve,invoke,builtin];simp[hr];rfl)) (dg.bR k3 _ (fun b''=>by rw[hb];simp[eq_comm]) (fun k v hv=>?_))
  (.inl rfl) (fun b hb=>.inl hb) ?_ hV
 . have h9:=k8 k v hv;omega
 . rw[hug];refine⟨q1,q2,by simp,by rw[hl1];exact q4,by rw[hl1];exact q5,by rw[hl1];exact q6,.inr ⟨b',_,el,fr,hb,k2,k3,lN k4,?_,?_,?_,k8⟩⟩
   . simp only[List.size_toArray,mc hlen,Array.length_toList];exact k5
   . have hrow1:=c3 (fun k=>cs[k]?) 0 (fun k u hu=>by rw[Nat.zero_add];exact hu);rw[gV] at hrow1 k6⊢;have hlk:(l.take k).length=k:=by simp;omega
     have hyN:(ys.take N).length=N:=by simp;omega
     intro j z hz';rcases d7 j k with hj|hj
     . rw[dl (by omega),List.getElem?_take,if_pos hj] at hz';obtain⟨u,u1,u2,u3,u4⟩:=k6 j z hz';refine⟨u,u1,u2,u3,fun q hq=>?_⟩;have hm:(j+1)*(C.ti e).size<=k*(C.ti e).size:=gg _ hj;rw[Nat.add_mul,Nat.one_mul] at hm;have h5:=u4 q hq;rw[List.getElem?_toArray,hcell,if_neg (by rw[htl];rcases hN0 with h|h<;>subst h<;>omega),<-h5];simp
     . rcases d7 j (k+N) with hj2|hj2
       . have hof:of=k*(C.ti e).size:=hN0.resolve_left (by omega);rw[dt (by omega),hlk,dl (by omega),List.getElem?_take,if_pos (by omega)] at hz';obtain⟨u,u1,u2,u3,u4⟩:=hrow1 (j-k) z hz';refine⟨u,u1,u2,u3,fun q hq=>?_⟩;have hm:(j-k+1)*(C.ti e).size<=N*(C.ti e).size:=gg _ (by omega);rw[Nat.add_mul,Nat.one_mul] at hm;have hjk:j*(C.ti e).size=k*(C.ti e).size+(j-k)*(C.ti e).size:=by rw[<-Nat.add_mul];congr 1;omega
         rw[List.getElem?_toArray,hcell,if_pos (by rw[htl];omega),List.getElem?_take,if_pos (by omega),<-u4 q hq]
         congr 1
         omega
       . rw[dt (by omega),hlk,dt (by omega),hyN,List.getElem?_drop,show k+N+(j-k-N) =j by omega] at hz';obtain⟨u,u1,u2,u3,u4⟩:=k6 j z hz';refine⟨u,u1,u2,u3,fun q hq=>?_⟩;have hm:(k+N)*(C.ti e).size<=j*(C.ti e).size:=gg _ hj2;rw[Nat.add_mul] at hm;have h5:=u4 q hq;rw[List.getElem?_toArray,hcell,if_neg (by rw[htl];rcases hN0 with h|h<;>subst h<;>omega),<-h5];simp
   . refine⟨k7.1,fun q hq=>?_⟩;refine k7.2 q ?_;simp only[List.size_toArray,mc hlen,Array.length_toList] at hq;exact hq
theorem wx{x y:V} {l:List Operand} (h:s.evs C l=[x,y]):∃p q,l=[p,q]/\x=s.ev C p/\y=s.ev C q:=by
 match l,h with
 |[p,q],h=>simp only[AS.evs,List.cons.injEq,and_true] at h;exact⟨p,q,rfl,h.1.symm,h.2.symm⟩
 |[],h=>simp[AS.evs] at h
 |[_],h=>simp[AS.evs] at h
 |_::_::_::_,h=>simp[AS.evs] at h
theorem Px{x:V} {l:List Operand} (h:s.evs C l=[x]):∃p,l=[p]/\x=s.ev C p:=by
 match l,h with
 |[p],h=>simp only[AS.evs,List.cons.injEq,and_true] at h;exact⟨p,rfl,h.symm⟩
 |[],h=>simp[AS.evs] at h
 |_::_::_,h=>simp[AS.evs] at h

theorem XP{b:Builtin} {args:Array Operand} {ts:Array TypeId} (R:Rel E st g s a w) (hg:aL C.gl st) (G:Good C) (ho:o.op=.call {callee:=.builtin b,args:=args,argTypes:=ts}):
   cw C E st g s a w o (nk C s b ts.toList (s.evs C args.toList)):=by
 generalize hts:ts.toList=tl;generalize hxs:s.evs C args.toList=xs;have hts':ts=tl.toArray:=by rw[<-hts]
 subst hts';have hbi:∀v:Value,(builtin b tl.toArray o.type (args.map fun|.const _=>true|_=>false) (args.toList.map a.eval).toArray).run C.P w=.ok (.value v) w->(execOp a.eval o).run C.P w=.ok (.value v) w:=fun v h=>by
  have he:args.map a.eval=(args.toList.map a.eval).toArray:=by cases args;simp
  simp only[execOp,ho,resolve,invoke,Sem.run_bind,Sem.run_pure,Result.andThen_ok,he];exact h
 unfold nk;split
 . --len
   rename_i t x;obtain⟨p,hp,rfl⟩:=Px hxs;have hx:=aR (C:=C) R hg p;rw[hp] at hbi;split
   . rename_i n e hk;have h3:=((G.ti t).of (by rw[hk];simp)).1;rw[hk] at h3;refine aa.when fun hn=>aa.ret (az.pure R (goInt n) w (hbi _ ?_) (aQ.refl w) (qD (Nat.le_trans (d6 hn) xe)));simp[builtin,Builtin.len_,run_underlying h3]
   . rename_i hk;have h3:=((G.ti t).of (by rw[hk];simp)).1;rw[hk] at h3;split
     . rename_i p' he;rw[he] at hx;simp only[VR] at hx;refine aa.ret (az.pure R (goInt p'.length) w (hbi _ ?_) (aQ.refl w) (qD hx.2));have hpsz:(⟨p'.toArray⟩:ByteArray).size=p'.length:=by show p'.toArray.size=_;simp
       simp[builtin,Builtin.len_,run_underlying h3,hx.1,hpsz]
     . exact aa.fail
   . rename_i e hk;have h3:=((G.ti t).of (by rw[hk];simp)).1;rw[hk] at h3;split
     . rename_i c z l he;rw[he] at hx;simp only[VR] at hx;obtain⟨base,cap,hx,h1,h2,_⟩:=hx;refine aa.ret (az.pure R (goInt l.length) w (hbi _ ?_) (aQ.refl w) (qD h2));simp[builtin,Builtin.len_,run_underlying h3,hx]
     . rename_i i he;rw[he] at hx;simp only[VR] at hx;split
       . rename_i sz pre l hs;obtain⟨hs1,_⟩:=eY hs (by simp);obtain⟨q1,q2,q3,q4,q5,q6,q7⟩:=R.wr.ob i _ hs1;refine aa.ret (az.pure R (goInt l.length) w (hbi _ ?_) (aQ.refl w) (qD q4));simp[builtin,Builtin.len_,run_underlying h3,hx,q5]
       . exact aa.fail
     . exact aa.fail
   . exact aa.fail
 . --append
   rename_i t t2 x y;obtain⟨p,q,hp,rfl,rfl⟩:=wx hxs;split
   . exact aa.fail
   . exact aa.fail
   . rename_i e hk hk2 hk3;split
     . exact aa.fail
     . rename_i hk4;refine aa.when fun hw=>?_;simp only[zza,Bool.not_eq_true'] at hw;obtain⟨⟨⟨hw1,hw2⟩,hw3⟩,hw4⟩:=hw;refine aa.bind (lz _ _) fun r hr=>?_;have hr:=w9 (C:=C) (x:=q) R hg r (hr _ rfl);obtain⟨sz,ys,rd⟩:=r;refine aa.when fun hsz=>?_;have h3:=((G.ti t).of (by rw[hk];simp)).1;rw[hk] at h3;exact XK R hg G hp ho h3 (VX G (fun k h=>hk2 k h) (fun h=>hk3 h)) (fun h=>hk4 h) (d6 hw1) (d6 hw2) hr.1 hsz hw3 (aB hw4)
   . exact aa.fail
 . --copy
   rename_i t t2 x y;obtain⟨p,q,hp,rfl,rfl⟩:=wx hxs;split
   . rename_i e i hk he;split
     . exact aa.fail
     . rename_i hk4;split
       . rename_i sz0 l hs;refine aa.bind (lz _ _) fun r hr=>?_;have hr:=w9 (C:=C) (x:=q) R hg r (hr _ rfl);obtain⟨sz,ys,rd⟩:=r;refine aa.when fun hw=>aa.ret ?_;simp only[zza] at hw;have h1:=aB hw.1.2;subst h1;exact XS R hg G hp ho hk (fun h=>hk4 h) he hs hr.1 hw.1.1
       . exact aa.fail
   . rename_i e i off n hk he;split
     . exact aa.fail
     . rename_i hk4;split
       . rename_i cs hs;refine aa.bind (lz _ _) fun r hr=>?_;have hr:=w9 (C:=C) (x:=q) R hg r (hr _ rfl);obtain⟨sz,ys,rd⟩:=r;refine aa.when fun hw=>aa.opt fun cs' hcs=>aa.ret ?_;simp only[zza] at hw;exact XT R hg G hp ho hk (fun h=>hk4 h) he hs (aB hw.1.1.2) hr.1 hw.1.1.1 hw.2 hcs
       . rename_i sz0 l hs;refine aa.bind (lz _ _) fun r hr=>?_;have hr:=w9 (C:=C) (x:=q) R hg r (hr _ rfl);obtain⟨sz,ys,rd⟩:=r;refine aa.when fun hw=>aa.ex fun k=>aa.aI fun hkk=>aa.ret ?_;simp only[zza] at hw;have h1:=aB hw.1.2;subst h1;exact XU R hg G hp ho hk (fun h=>hk4 h) he hs hr.1 hw.1.1 hkk.1 hkk.2
       . exact aa.fail
   . exact aa.fail
 . --delete
   rename_i t tl' m x;obtain⟨p,q,hp,rfl,rfl⟩:=wx hxs;rw[hp] at hbi;refine P4 (ats:=(t::tl').toArray) (ty:=o.type) R G (aR (C:=C) R hg p) (aR (C:=C) R hg q) (by simp) fun w' hw'=>?_;have:=ho;simp only[execOp,ho,resolve,invoke,Sem.run_bind,Sem.run_pure,Result.andThen_ok];have he:args.map a.eval=#[a.eval p,a.eval q]:=by
    have:args=#[p,q]:=by apply Array.ext';simpa using hp
    rw[this];simp
   rw[he];simp only[builtin,Sem.run_bind,hw',Result.andThen_ok];rfl
 . rename_i k x k' y;obtain⟨p,q,hp,hx,hy⟩:=wx hxs;have h1:=aR (C:=C) R hg p;have h2:=aR (C:=C) R hg q;rw[<-hx] at h1;rw[<-hy] at h2;simp only[VR] at h1 h2;refine aa.when fun hk=>aa.ret ?_;have hk:=Dj.1 hk;subst hk;rw[hp] at hbi;refine az.pure R (.int k (if y>x then y else x)) w (hbi _ ?_) (aQ.refl w) (gU (by split<;>simp[h1,h2]));simp[builtin,Builtin.max_,Builtin.max2,h1.1,h2.1]
 . rename_i k x k' y;obtain⟨p,q,hp,hx,hy⟩:=wx hxs;have h1:=aR (C:=C) R hg p;have h2:=aR (C:=C) R hg q;rw[<-hx] at h1;rw[<-hy] at h2;simp only[VR] at h1 h2;refine aa.when fun hk=>aa.ret ?_;have hk:=Dj.1 hk;subst hk;rw[hp] at hbi;refine az.pure R (.int k (if y<x then y else x)) w (hbi _ ?_) (aQ.refl w) (gU (by split<;>simp[h1,h2]));simp[builtin,Builtin.min_,Builtin.min2,h1.1,h2.1]
 . exact aa.fail

theorem Y2{t:TypeId} {x:Operand} (R:Rel E st g s a w) (hg:aL C.gl st) (G:Good C) (ho:o.op=.range t x):cw C E st g s a w o (rK C s t x):=by
 unfold rK;have hx:=aR (C:=C) R hg x;split
 . rename_i p hk he;rw[he] at hx;simp only[VR] at hx;have h3:=((G.ti t).of (by rw[hk];simp)).1;rw[hk] at h3;rw[dN];refine aa.ret ?_;refine az.new R (.pointer (some ⟨w.heap.size,0,none⟩)) w (aQ.refl w) ⟨some w.heap.size,none,0,0,0⟩ (.stringIter ⟨p.toArray⟩ 0) ?_ (by simp) ?_ ?_
   . simp only[execOp,ho,hx.1];rw[Sem.run_bind,run_range_string w t _ h3];rfl
   . exact⟨hx.2,w.heap.size,rfl,R.wr.gnew _ R.wr.size,heap_alloc_new⟩
   . simp only[VR,dU];exact⟨by omega,w.heap.size,rfl,rfl⟩
 . exact Y3 R hg G ho
 . exact aa.fail

theorem Yd{x:Operand} {b:Bool} (R:Rel E st g s a w) (hg:aL C.gl st) (ho:o.op=.next x b):cw C E st g s a w o (tR C s x b):=by
 unfold tR;have hx:=aR (C:=C) R hg x;split
 . rename_i i he;rw[he] at hx;simp only[VR] at hx;obtain⟨hil,b,hb,hx⟩:=hx;split
   . rename_i p pos hs;obtain⟨hs1,_⟩:=eY hs (by simp);obtain⟨q1,b',q2,q3,q4⟩:=R.wr.ob i _ hs1;rw[hb] at q2;cases q2;have hpsz:(⟨p.toArray⟩:ByteArray).size=p.length:=by show p.toArray.size=_;simp
     refine aa.dY (fun hlt=>?_) (fun hge=>?_)
     . have hlt:pos<p.length:=by simpa using hlt
       refine aa.opt fun c hc=>aa.aI fun ha=>aa.ret ?_;have hcv:p[pos]=c:=by rw[am hlt] at hc;simpa using hc
       have hlt':pos<(⟨p.toArray⟩:ByteArray).size:=by rw[hpsz];exact hlt
       have hget:(⟨p.toArray⟩:ByteArray)[pos]'hlt'=c:=by rw[<-hcv];rfl
       have hdec:=decode_ascii ⟨p.toArray⟩ pos hlt' (by rw[hget];exact ha);rw[hget] at hdec;have hug:aX g i (g i) =g:=by funext j;by_cases e:j=i<;>simp[aX,e]
       refine az.j9 R hil (.tuple #[.bool true,goInt pos,.int .i32 c.toNat]) (bR w b (.stringIter ⟨p.toArray⟩ (pos+1))) (g i) (.inl ?_)
        (dg.bR q3 _ (fun b''=>by rw[hb];simp[eq_comm]) (fun k v hv=>?_)) (.inl rfl) (fun b hb=>.inl hb) ?_ ?_
       . simp only[execOp,ho,hx,Instr.next,getObj,setObj,Sem.run_bind,Sem.run,q4,Result.andThen,hlt',if_true,hdec];rfl
       . have:=R.wr.stw _ _ _ hv;simp only[World.cell?,q4] at this;cases this
       . exact⟨q1,b,hb,q3,lN q4⟩
       . simp only[VR];refine⟨_,rfl,cy (by simp[VR]) (cy (qD (n:=pos) (by omega)) (cy ?_ dM))⟩;have:=Ca c;refine gU ⟨?_,?_⟩<;>simp[IntKind.min,IntKind.max,IntKind.signed,IntKind.bits]<;>omega
     . have hge:¬pos<(⟨p.toArray⟩:ByteArray).size:=by rw[hpsz];simpa using hge
       refine aa.ret (az.pure R (.tuple #[.bool false]) w ?_ (aQ.refl w) ?_)
       . simp only[execOp,ho,hx,Instr.next,getObj,setObj,Sem.run_bind,Sem.run,q4,Result.andThen,hge,if_false];rfl
       . simp only[VR];exact⟨_,rfl,cy (by simp[VR]) dM⟩
   . exact aa.fail
 . exact aa.fail
end
end Go.VG
