/-
  A part of the proof.
-/
import Derived.Test.YtknljebcgcmaeaaGreatDoorVgK
import Derived.MapKept
import Derived.Maps.RangeRun
import Derived.DeepKeys
import Derived.DeepKeys4
import Derived.StringKeys
import Derived.Lib.SlBytesConst
import Derived.RangeFuncSeq
import Derived.RangeFuncLeaves
import Derived.TacticsIn
set_option linter.unusedSimpArgs false
set_option linter.unusedVariables false
namespace Go.VG
open Go

theorem CB{k k':IntKind} (h:fV k k'=true):k=k':=by cases k<;>cases k'<;>first|rfl|cases h
theorem XW{a b:Sc} (h:DI a b=true):a=b:=by
 cases a<;>cases b<;>first
  |rfl
  |(cases h;done)
  |(simp only[DI] at h;rw[CB h])
theorem Mp:∀{a b:List Sc},uf a b=true->a=b
 |[],[],_=>rfl
 |x::xs,y::ys,h=>by
   simp only[uf,aA] at h;rw[XW h.1,Mp h.2]
 |[],_::_,h=>by cases h
 |_::_,[],h=>by cases h
theorem O9{a b:Bool} (h:xF a b=true):a=b:=by cases a<;>cases b<;>first|rfl|cases h
theorem VR_1{st:St} {g:aw} {n:Nat} {k:Sc} {x:V} {v:Value} (hf:kb k x=true) (h:VR st g x n v):v=ji x/\tO x:=by
 cases k<;>cases x<;>first
  |(cases hf;done)
  |(simp only[VR] at h;first|exact⟨h,trivial⟩|exact⟨h.1,h.2⟩)
theorem H6{st:St} {g:aw} {n:Nat}:∀{sh:List Sc} {cs:List V} {vs:List Value},cQ sh cs=true->aE st g cs n vs->vs=cs.map ji/\∀c∈cs,tO c
 |_,[],vs,_,h=>by simp only[aE] at h;subst h;exact⟨rfl,by simp⟩
 |[],_::_,_,hf,_=>by cases hf
 |k::ks,c::cs,vs,hf,h=>by
   simp only[aE] at h;obtain⟨u,us,rfl,h1,h2⟩:=h;simp only[cQ,aA] at hf;obtain⟨rfl,o1⟩:=VR_1 hf.1 h1;obtain⟨rfl,o2⟩:=H6 hf.2 h2;refine⟨rfl,fun d hd=>?_⟩;rcases List.mem_cons.1 hd with rfl|hd
   . exact o1
   . exact o2 d hd
theorem RS{sh:List Sc} {x:V} (h:cQ sh [x]=true):∃k,sh=[k]/\kb k x=true:=by
 match sh,h with
 |[k],h=>simp only[cQ,Bool.and_true] at h;exact⟨k,rfl,h⟩
 |[],h=>cases h
 |_::_::_,h=>simp[cQ] at h
theorem tg{ag:Bool} {sh:List Sc} {x:V} (h:kU ag sh x=true):(∃cs,x=.agg cs/\ag=true/\cQ sh cs=true)\/(∃k,ag=false/\sh=[k]/\kb k x=true/\dB x=ji x/\(mR x↔tO x)):=by
 cases x with
 |agg cs=>
   left;cases ag with
   |true=>exact⟨cs,rfl,rfl,h⟩
   |false=>cases h
 |_=>
   right;cases ag with
   |true=>cases h
   |false=>
     obtain⟨k,h1,h2⟩:=RS (show cQ sh [_]=true from h);exact⟨k,rfl,h1,h2,rfl,Iff.rfl⟩
theorem xx{st:St} {g:aw} {n:Nat} {ag:Bool} {sh:List Sc} {x:V} {v:Value} (hf:kU ag sh x=true) (h:VR st g x n v):v=dB x/\mR x:=by
 rcases tg hf with ⟨cs,rfl,_,h1⟩|⟨k,_,_,h1,h2,h3⟩
 . simp only[VR] at h;obtain⟨vs,rfl,h⟩:=h;obtain⟨h2,h3⟩:=H6 h1 h;refine⟨?_,h3⟩;show Value.agg vs=.agg (cs.map ji).toArray;rw[<-h2]
 . obtain⟨rfl,h5⟩:=VR_1 h1 h;exact⟨h2.symm,h3.2 h5⟩
theorem O7{a b:g8} (h:(⟨a.toArray⟩:ByteArray) =⟨b.toArray⟩):a=b:=by
 have:=congrArg (fun x:ByteArray=>x.data.toList) h;simpa using this
theorem Nl{k:Sc} {x y:V} (hx:kb k x=true) (hy:kb k y=true):ji x=ji y↔ra x y=true:=by
 cases k<;>cases x<;>simp only[kb,Bool.false_eq_true] at hx<;>cases y<;>simp only[kb,Bool.false_eq_true] at hy
 . simp[ji,ra]
 . have hx:=CB hx;have hy:=CB hy;subst hx;subst hy;simp[ji,ra]
 . simp only[ji,ra,beq_iff_eq];constructor
   . intro h;injection h with h;exact O7 h
   . intro h;rw[h]
theorem Np:∀{sh:List Sc} {cs ds:List V},cQ sh cs=true->cQ sh ds=true->(cs.map ji=ds.map ji↔vP cs ds=true)
 |_,[],[],_,_=>by simp[vP]
 |[],_::_,_,h,_=>by cases h
 |[],_,_::_,_,h=>by cases h
 |_::_,[],_,h,_=>by cases h
 |_::_,_,[],_,h=>by cases h
 |k::ks,c::cs,d::ds,h1,h2=>by
   simp only[cQ,aA] at h1 h2;simp only[List.map_cons,List.cons.injEq,vP,aA,Nl h1.1 h2.1,Np h1.2 h2.2]
theorem key_inj{ag:Bool} {sh:List Sc} {x y:V} (hx:kU ag sh x=true) (hy:kU ag sh y=true):dB x=dB y↔kZ x y=true:=by
 rcases tg hx with ⟨cs,rfl,h0,h1⟩|⟨k,h0,e1,h1,h2,_⟩
 . rcases tg hy with ⟨ds,rfl,_,k1⟩|⟨_,k0,_⟩
   . simp only[dB,kZ,Value.agg.injEq];rw[<-Np h1 k1];constructor
     . intro h;simpa using congrArg Array.toList h
     . intro h;rw[h]
   . rw[h0] at k0;cases k0
 . rcases tg hy with ⟨_,_,k0,_⟩|⟨k',_,e2,k1,k2,_⟩
   . rw[h0] at k0;cases k0
   . rw[e1] at e2;cases e2;rw[h2,k2,Nl h1 k1];cases x<;>first
      |(cases k<;>cases h1;done)
      |(cases y<;>first
       |(cases k<;>cases k1;done)
       |exact Iff.rfl)
theorem sR{ag:Bool} {sh:List Sc}:∀{es:List (V×Int)} {bs:List Nat} {l:List MapEntry},gn ag sh es bs l->es.length=l.length/\bs.length=l.length
 |[],[],[],_=>⟨rfl,rfl⟩
 |(x,q)::es,s::bs,e::l,h=>by
   simp only[gn] at h;have:=sR h.2;simp[this.1,this.2]
 |[],[],_::_,h|[],_::_,[],h|[],_::_,_::_,h|_::_,[],[],h|_::_,[],_::_,h|_::_,_::_,[],h=>by simp[gn] at h
abbrev xp(ag:Bool) (sh:List Sc) (x:V) (q:Int) (s:Nat) (e:MapEntry):Prop:=
 kU ag sh x=true/\mR x/\e.key=dB x/\e.val=.int .i64 q/\(IntKind.i64.min<=q/\q<=IntKind.i64.max)/\e.born=s
theorem og{ag:Bool} {sh:List Sc}:∀{es:List (V×Int)} {bs:List Nat} {l:List MapEntry},gn ag sh es bs l↔es.length=l.length/\bs.length=l.length/\
   ∀(j:Nat) (x:V) (q:Int) (s:Nat) (e:MapEntry),es[j]?=some (x,q)->bs[j]?=some s->l[j]?=some e->xp ag sh x q s e
 |[],[],[]=>by simp[gn]
 |(x,q)::es,s::bs,e::l=>by
   simp only[gn,og (es:=es),List.length_cons];constructor
   . rintro⟨h1,h2,h3,h4⟩;refine⟨by omega,by omega,fun j x' q' s' e' a b c=>?_⟩;cases j with
     |zero=>simp at a b c;obtain⟨rfl,rfl⟩:=a;subst b;subst c;exact h1
     |succ j=>exact h4 j x' q' s' e' (by simpa using a) (by simpa using b) (by simpa using c)
   . rintro⟨h2,h3,h4⟩;exact⟨h4 0 x q s e rfl rfl rfl,by omega,by omega,fun j x' q' s' e' a b c=>h4 (j+1) x' q' s' e' (by simpa using a) (by simpa using b) (by simpa using c)⟩
 |[],[],_::_|[],_::_,[]|[],_::_,_::_|_::_,[],[]|_::_,[],_::_|_::_,_::_,[]=>by simp[gn]
theorem xS{ag:Bool} {sh:List Sc} {es:List (V×Int)} {bs:List Nat} {l:List MapEntry} (h:gn ag sh es bs l) {j:Nat} {x:V} {q:Int} (hj:es[j]?=some (x,q)):
   ∃s e,bs[j]?=some s/\l[j]?=some e/\xp ag sh x q s e:=by
 obtain⟨h1,h2,h3⟩:=og.1 h;obtain⟨hlt,_⟩:=gB.1 hj;have a:bs[j]?=some (bs[j]'(by omega)):=am (by omega);have b:l[j]?=some (l[j]'(by omega)):=am (by omega);exact⟨_,_,a,b,h3 j x q _ _ hj a b⟩
theorem vk{ag:Bool} {sh:List Sc} {es:List (V×Int)} {bs:List Nat} {l:List MapEntry} (h:gn ag sh es bs l) {j:Nat} {e:MapEntry} (hj:l[j]?=some e):
   ∃x q s,es[j]?=some (x,q)/\bs[j]?=some s/\xp ag sh x q s e:=by
 obtain⟨h1,h2,h3⟩:=og.1 h;obtain⟨hlt,_⟩:=gB.1 hj;have a:bs[j]?=some (bs[j]'(by omega)):=am (by omega);have b:es[j]?=some (es[j]'(by omega)):=am (by omega);exact⟨_,_,_,b,a,h3 j _ _ _ _ b a hj⟩
theorem C1:∀{es:List (V×Int)} {x:V} {j:Nat} {q:Int},bN es x=some (j,q)->∃y,es[j]?=some (y,q)/\kZ y x=true
 |[],_,_,_,h=>by simp[bN] at h
 |(y,q')::es,x,j,q,h=>by
   simp only[bN] at h;cases hk:kZ y x with
   |true=>rw[hk] at h;simp at h;obtain⟨rfl,rfl⟩:=h;exact⟨y,rfl,hk⟩
   |false=>
     rw[hk] at h;simp only[cond_false] at h;split at h
     . rename_i j' q2 hf;simp at h;obtain⟨rfl,rfl⟩:=h;obtain⟨z,h1,h2⟩:=C1 hf;exact⟨z,by simpa using h1,h2⟩
     . cases h
theorem II:∀{es:List (V×Int)} {x:V},bN es x=none->∀e∈es,kZ e.1 x=false
 |[],_,_=>by simp
 |(y,q')::es,x,h=>by
   simp only[bN] at h;cases hk:kZ y x with
   |true=>rw[hk] at h;simp at h
   |false=>
     rw[hk] at h;simp only[cond_false] at h;split at h
     . cases h
     . rename_i hf;intro e he;rcases List.mem_cons.1 he with rfl|he
       . exact hk
       . exact II hf e he
theorem Mj:∀(es:List (V×Int)) (j:Nat) (q:Int) (i:Nat),(iZ es j q)[i]?=if i=j then(es[i]?).map (fun e=>(e.1,q)) else es[i]?
 |[],j,q,i=>by cases j<;>simp[iZ]
 |(y,q0)::es,0,q,i=>by cases i<;>simp[iZ]
 |e::es,j+1,q,i=>by
   cases i with
   |zero=>simp[iZ]
   |succ i=>simp[iZ,Mj es j q i]
theorem DK:∀(es:List (V×Int)) (j:Nat) (q:Int),(iZ es j q).length=es.length
 |[],j,q=>by cases j<;>rfl
 |(y,q0)::es,0,q=>rfl
 |e::es,j+1,q=>by simp[iZ,DK es j q]
theorem DJ:∀(es:List (V×Int)) (j:Nat) (q:Int),((iZ es j q).map fun e=>dB e.1) =es.map fun e=>dB e.1
 |[],j,q=>by cases j<;>rfl
 |(y,q0)::es,0,q=>rfl
 |e::es,j+1,q=>by simp[iZ,DJ es j q]
theorem I8{ag:Bool} {sh:List Sc} {es:List (V×Int)} {bs:List Nat} {l:List MapEntry} (h:gn ag sh es bs l) (j:Nat) {q:Int} (hq:IntKind.i64.min<=q/\q<=IntKind.i64.max) {f:MapEntry->MapEntry}
   (hf:∀e,l[j]?=some e->(f e).key=e.key/\(f e).val=.int .i64 q/\(f e).born=e.born):gn ag sh (iZ es j q) bs (l.modify j f):=by
 obtain⟨h1,h2,h3⟩:=og.1 h;refine og.2 ⟨by rw[DK,List.length_modify];exact h1,by rw[List.length_modify];exact h2,fun i x q' s e a b c=>?_⟩;rw[Mj] at a;rw[List.getElem?_modify] at c;by_cases hij:i=j
 . subst hij;rw[if_pos rfl] at a;cases he:es[i]? with
   |none=>rw[he] at a;cases a
   |some p=>
     cases hl:l[i]? with
     |none=>rw[hl] at c;cases c
     |some e0=>
       rw[he] at a;rw[hl] at c;simp at a c;obtain⟨rfl,rfl⟩:=a;subst c;obtain⟨r1,r2,r3,r4,r5,r6⟩:=h3 i _ _ _ _ he b hl;obtain⟨f1,f2,f3⟩:=hf e0 hl;exact⟨r1,r2,f1.trans r3,f2,hq,f3.trans r6⟩
 . rw[if_neg hij] at a;have hji:¬j=i:=fun q=>hij q.symm;simp[hji] at c;exact h3 i x q' s e a b c
theorem I7{ag:Bool} {sh:List Sc} {es:List (V×Int)} {bs:List Nat} {l:List MapEntry} (h:gn ag sh es bs l) {x:V} {q:Int} {s:Nat} {e:MapEntry} (he:xp ag sh x q s e):
   gn ag sh (es++[(x,q)]) (bs++[s]) (l++[e]):=by
 obtain⟨h1,h2,h3⟩:=og.1 h;refine og.2 ⟨by simp[h1],by simp[h2],fun i x' q' s' e' a b c=>?_⟩;by_cases hi:i<l.length
 . rw[d6 (by omega)] at a b c;exact h3 i _ _ _ _ a b c
 . rw[d7 (by omega)] at a b c;have e1:i-es.length=i-l.length:=by omega
   have e2:i-bs.length=i-l.length:=by omega
   rw[e1] at a;rw[e2] at b;cases hk:i-l.length with
   |zero=>rw[hk] at a b c;simp at a b c;obtain⟨rfl,rfl⟩:=a;subst b;subst c;exact he
   |succ m=>rw[hk] at a;simp at a
theorem P0{ag:Bool} {sh:List Sc} {es:List (V×Int)} {bs:List Nat} {l:List MapEntry} (h:gn ag sh es bs l) (j:Nat):gn ag sh (es.eraseIdx j) (bs.eraseIdx j) (l.eraseIdx j):=by
 obtain⟨h1,h2,h3⟩:=og.1 h;refine og.2 ⟨by simp only[List.length_eraseIdx];rw[h1],by simp only[List.length_eraseIdx];rw[h2],fun i x q s e a b c=>?_⟩;rw[List.getElem?_eraseIdx] at a b c;split at a
 . rename_i hij;rw[if_pos hij] at b c;exact h3 _ _ _ _ _ a b c
 . rename_i hij;rw[if_neg hij] at b c;exact h3 _ _ _ _ _ a b c
theorem MH{bs:List Nat} {ck:Nat} (h:sc bs ck):sc (bs++[ck]) (ck+1):=by
 refine⟨List.nodup_append.2 ⟨h.1,by simp,fun a ha b hb e=>?_⟩,fun s hs=>?_⟩
 . simp at hb;subst hb;have:=h.2 a ha;omega
 . rcases List.mem_append.1 hs with hs|hs
   . have:=h.2 s hs;omega
   . simp at hs;omega
theorem Lr{es:List (V×Int)} {x:V} {q:Int} (h:(es.map fun e=>dB e.1).Nodup) (hx:∀e∈es,dB e.1≠dB x):((es++[(x,q)]).map fun e=>dB e.1).Nodup:=by
 rw[gq];refine List.nodup_append.2 ⟨h,by simp,fun a ha b hb e=>?_⟩;simp at hb;obtain⟨p,hp,rfl⟩:=List.mem_map.1 ha;exact hx p hp (e.trans hb)
section
variable {P:Program} {k:TypeId} {ag:Bool} {sh:List Sc} {es:List (V×Int)} {bs:List Nat} {arr:Array MapEntry}
theorem zq(K:s9 P k sh) (ha:ag=oc P k) (h:gn ag sh es bs arr.toList) (hn:(es.map fun e=>dB e.1).Nodup) {x:V} (fx:kU ag sh x=true) (ox:mR x) (w:World):
   (bN es x=none/\(Instr.findKey k (dB x) arr.toList).run P w=.ok none w/\∀e∈es,dB e.1≠dB x)\/
   (∃j q e s,bN es x=some (j,q)/\(Instr.findKey k (dB x) arr.toList).run P w=.ok (some (j,.int .i64 q)) w/\arr[j]?=some e/\bs[j]?=some s/\e.key=dB x/\e.val=.int .i64 q/\e.born=s/\
    (IntKind.i64.min<=q/\q<=IntKind.i64.max)):=by
 subst ha;obtain⟨lx,hx⟩:=K.2 x fx ox;have hall:∀e∈arr.toList,∃l,keyOf P k e.key=some l:=fun e he=>by
  obtain⟨j,hj⟩:=List.getElem?_of_mem he;obtain⟨y,q,s,_,_,r1,r2,r3,_⟩:=vk h hj;rw[r3];exact K.2 y r1 r2
 rcases K.1.find w hx arr.toList hall with ⟨h1,h2⟩|⟨j,e,h1,h2,h3⟩
 . left;have hno:∀e∈es,dB e.1≠dB x:=fun p hp q=>by
    obtain⟨j,hj⟩:=List.getElem?_of_mem hp;obtain⟨s,e,_,c,_,_,r3,_⟩:=xS h (x:=p.1) (q:=p.2) hj;exact h2 e (List.mem_of_getElem? c) (r3.trans q)
   refine⟨?_,h1,hno⟩;cases hf:bN es x with
   |none=>rfl
   |some p=>
     obtain⟨y,hy,hk⟩:=C1 (show bN es x=some (p.1,p.2) from hf);obtain⟨_,_,_,_,r1,_⟩:=xS h hy;exact absurd ((key_inj r1 fx).2 hk) (hno _ (List.mem_of_getElem? hy))
 . right;obtain⟨y,q,s,a,b,r1,r2,r3,r4,r5,r6⟩:=vk h h2;have hyx:dB y=dB x:=r3.symm.trans h3;have hf:bN es x=some (j,q):=by
    cases hf:bN es x with
    |none=>
      have:=II hf _ (List.mem_of_getElem? a);rw[(key_inj r1 fx).1 hyx] at this;cases this
    |some p=>
      obtain⟨z,hz,hk⟩:=C1 (show bN es x=some (p.1,p.2) from hf);obtain⟨_,_,_,_,z1,_⟩:=xS h hz;have hzx:=(key_inj z1 fx).2 hk;obtain⟨l1,e1⟩:=gB.1 a;obtain⟨l2,e2⟩:=gB.1 hz;have hij:p.1=j:=by
       refine(List.getElem_inj (h₀:=by simpa using l2) (h₁:=by simpa using l1) hn).1 ?_;simp only[List.getElem_map,e1,e2];exact hzx.trans hyx.symm
      have:p.2=q:=by
       rw[hij,a] at hz;injection hz with e3
       injection e3 with _ e4
       exact e4.symm
      rw[<-hij,<-this]
   exact⟨j,q,e,s,hf,by rw[h1,r4],by simpa using h2,b,h3,r4,r6,r5⟩
end
section
variable {C:Ctx} {E:Env} {st:St} {g:aw} {s:AS} {a:Act} {w:World} {o:Oper} {e:Ef}
structure H2(C:Ctx) (E:Env) (g:aw) (s:AS) (w:World) (t:TypeId) (mv:Value) (i:Nat) (ag:Bool) (sh:List Sc) (es:List (V×Int)) (bs:List Nat) (ck:Nat) (k e:TypeId) (b:Nat) (arr:Array MapEntry):Prop where
 und:C.P.underlying t=some (.map k e)
 zero:∀w:World,(zeroValue e).run C.P w=.ok (.int .i64 0) w
 key:s9 C.P k sh
 agg:ag=oc C.P k
 lt:i<s.sg.length
 sg:s.sg[i]?=some (.map ag sh es bs ck)
 blk:(g i).blk=some b
 own:E.G b
 mv:mv=.map (some b)
 hp:w.heap[b]?=some (.map arr ck)
 ent:gn ag sh es bs arr.toList
 stamp:sc bs ck
 nodup:(es.map fun e=>dB e.1).Nodup
theorem Vo(G:Good C) {t:TypeId} {ag:Bool} {sh:List Sc} (h:yQ C t=some (ag,sh)):
   ∃k e,C.P.underlying t=some (.map k e)/\(∀w:World,(zeroValue e).run C.P w=.ok (.int .i64 0) w)/\s9 C.P k sh/\ag=oc C.P k:=by
 unfold yQ at h;split at h
 . rename_i k e hk;have h3:=(G.ti t).of (by rw[hk];simp);rw[hk] at h3;split at h
   . cases h
   . cases h
   . rename_i he hno hne;split at h
     . rename_i hz;cases h;refine⟨k,e,h3.1,fun w=>?_,h3.2.2 (fun q=>hne q),?_⟩
       . obtain⟨z,h1,h2⟩:=zt (P:=C.P) (i:=C.ti e) w (G.ti e) (by rw[he];simp);have:=h2 (fun _ _=>none) (fun _=>⟨none,none,0,0,0⟩) 0;rw[hz] at this;simp only[VR] at this;rw[h1,this.1];rfl
       . have hk2:=((G.ti k).of hno).1;unfold oc;cases hkk:(C.ti k).k with
         |bool|int _|string|slice _|ptr _|map _ _=>rw[hkk] at hk2;simp only[TK.ok] at hk2;rw[hk2];rfl
         |array _ _=>rw[hkk] at hk2;simp only[TK.ok] at hk2;rw[hk2];rfl
         |struct _=>rw[hkk] at hk2;simp only[TK.ok] at hk2;obtain⟨_,hk2,_⟩:=hk2;rw[hk2];rfl
         |iface=>rw[hkk] at hk2;simp only[TK.ok] at hk2;obtain⟨_,hk2⟩:=hk2;rw[hk2];rfl
         |func=>rw[hkk] at hk2;simp only[TK.ok] at hk2;obtain⟨_,_,_,hk2⟩:=hk2;rw[hk2];rfl
         |other=>exact absurd hkk hno
     . cases h
   . cases h
 . cases h
theorem tQ{p:Ef->Prop} {t:TypeId} {m:V} {mv:Value} {F:Nat->Bool->List Sc->List (V×Int)->List Nat->Nat->Tr Ef} (R:Rel E st g s a w) (G:Good C) (hm:VR st g m s.sg.length mv)
   (h:∀i ag sh es bs ck k e b arr,m=.map i->H2 C E g s w t mv i ag sh es bs ck k e b arr->aa p (F i ag sh es bs ck)):aa p (gI C s t m F):=by
 unfold gI;refine aa.opt fun q hq=>?_;obtain⟨k,e,h1,h2,h3,h4⟩:=Vo G hq;split
 . rename_i i;simp only[VR] at hm;obtain⟨hil,b,hb,rfl⟩:=hm;split
   . rename_i ag sh es bs ck hs;obtain⟨hs1,_⟩:=eU hs (by simp);obtain⟨b',arr,q1,q2,q3,q4,q5,q6⟩:=R.wr.ob i _ hs1;rw[hb] at q1;cases q1;refine aa.when fun hw=>?_;simp only[aA] at hw;have e1:=O9 hw.1;have e2:=Mp hw.2;exact h i ag sh es bs ck k e b arr rfl ⟨h1,h2,by rw[e2];exact h3,e1.trans h4,hil,hs1,hb,q2,rfl,q3,q4,q5,q6⟩
   . exact aa.fail
 . exact aa.fail
theorem Ni(g:aw) (i:Nat):br g i (g i) =g:=by funext j;by_cases e:j=i<;>simp[br,e]
theorem aD.ru{t k e0:TypeId} {mv:Value} {i ck ck':Nat} {ag:Bool} {sh:List Sc} {es es':List (V×Int)} {bs bs':List Nat} {b:Nat} {arr arr':Array MapEntry} {x:V} {rd:List Nat} (R:Rel E st g s a w)
   (M:H2 C E g s w t mv i ag sh es bs ck k e0 b arr) (v:Value)
   (hr:(execOp a.eval o).run C.P w=.ok (.value v) (c9 w b (.map arr' ck'))\/((execOp a.eval o).run C.P w=.ok .skip (c9 w b (.map arr' ck'))/\v=undef))
   (h1:gn ag sh es' bs' arr'.toList) (h2:sc bs' ck') (h3:(es'.map fun e=>dB e.1).Nodup) (hv:VR st g x s.sg.length v):
   aD C E st g s a w o ⟨x,[],[(i,.map ag sh es' bs' ck')],[],rd⟩:=by
 refine aD.iM R M.lt v (c9 w b (.map arr' ck')) (g i) hr (dm.c9 M.own _ (fun b''=>by rw[M.blk];simp[eq_comm]) (fun k v hv=>?_)) (.inl rfl) (fun b hb=>.inl hb) ?_ (by rw[Ni];exact hv)
 . have:=R.wr.stw _ _ _ hv;simp only[World.cell?,M.hp] at this;cases this
 . exact⟨b,arr',M.blk,M.own,l8 M.hp,h1,h2,h3⟩
theorem r8{q:Int} (h:IntKind.i64.min<=q/\q<=IntKind.i64.max) {n:Nat}:VR st g (.int .i64 q) n (.int .i64 q):=gN h
theorem Le{n m:Nat} (h:n<=9223372036854775807):VR st g (.int .i64 (n:Int)) m (goInt n):=by
 refine gN ⟨?_,?_⟩
 . simp[IntKind.min,IntKind.signed,IntKind.bits]
 . rw[IntKind.max_i64];omega
theorem AN:IntKind.i64.min<=(0:Int)/\(0:Int)<=IntKind.i64.max:=by decide
theorem XF{t:TypeId} (R:Rel E st g s a w) (G:Good C) (ho:o.op=.makeMap t none):cz C E st g s a w o (qK C s t):=by
 unfold qK;refine aa.opt fun q hq=>?_;rw[dN];refine aa.ret (aD.new R (.map (some w.heap.size)) w (aY.refl w) ⟨some w.heap.size,none,0,0,0⟩ (.map #[] 0) ?_ (by simp) ?_ ?_)
 . simp[execOp,ho,Instr.makeMap,newObj,Sem.run,Result.andThen]
 . exact⟨w.heap.size,#[],rfl,R.wr.gnew _ R.wr.size,heap_alloc_new,by simp[gn],⟨List.nodup_nil,by simp⟩,List.nodup_nil⟩
 . simp only[VR,dP];exact⟨by omega,w.heap.size,rfl,rfl⟩
theorem XC{t:TypeId} {m x:Operand} {ok:Bool} (R:Rel E st g s a w) (hg:aV C.gl st) (G:Good C) (ho:o.op=.lookup t m x ok):cz C E st g s a w o (mI C s t m x ok):=by
 unfold mI;refine tQ R G (bn (C:=C) R hg m) fun i ag sh es bs ck k e b arr he M=>?_;rw[force_eq];refine aa.when fun fx=>?_;obtain⟨hx,ox⟩:=xx fx (bn (C:=C) R hg x);obtain⟨lx,hlx⟩:=M.key.2 _ (by rw[<-M.agg];exact fx) ox;have hck:=M.key.1.check w arr.isEmpty hlx;have hcommon:∀r:Option (Nat×Value),(Instr.findKey k (dB (s.ev C x)) arr.toList).run C.P w=.ok r w->(Instr.lookup t (a.eval m) (a.eval x) ok).run C.P w=
    (match r with
     |some (_,v) =>.ok (if ok then .tuple #[v,.bool true] else v) w
     |none=>.ok (if ok then .tuple #[.int .i64 0,.bool false] else .int .i64 0) w):=fun r hr=>by
  rw[M.mv,hx];unfold Instr.lookup;simp only[Sem.run_bind,run_underlying M.und,Result.andThen_ok,Sem.run_pure,MapKept.run_getObj_map M.hp,hck,hr];cases r with
  |none=>simp[M.zero]
  |some p=>simp
 rcases zq M.key M.agg M.ent M.nodup fx ox w with ⟨f1,f2,_⟩|⟨j,q,e1,s1,f1,f2,_,_,_,_,_,f8⟩
 . have hL:=hcommon _ f2;split
   . refine aa.fW (fun y hy=>by rw[f1] at hy;cases hy) (fun _=>aa.ret (aD.pure R _ w (by simp only[execOp,ho,Sem.run_bind,hL,Result.andThen_ok];rfl) (aY.refl w) ?_));simp only[VR];exact⟨_,rfl,cu (r8 AN) (cu fw dD)⟩
   . refine aa.ret (aD.pure R _ w (by simp only[execOp,ho,Sem.run_bind,hL,Result.andThen_ok];rfl) (aY.refl w) ?_);unfold getM;rw[f1];exact r8 AN
 . have hL:=hcommon _ f2;split
   . refine aa.fW (fun y hy=>?_) (fun hy=>by rw[f1] at hy;cases hy);rw[f1] at hy;cases hy;refine aa.ret (aD.pure R _ w (by simp only[execOp,ho,Sem.run_bind,hL,Result.andThen_ok];rfl) (aY.refl w) ?_);simp only[VR];exact⟨_,rfl,cu (r8 f8) (cu fw dD)⟩
   . refine aa.ret (aD.pure R _ w (by simp only[execOp,ho,Sem.run_bind,hL,Result.andThen_ok];rfl) (aY.refl w) ?_);unfold getM;rw[f1];exact r8 f8
theorem XV{arr:Array MapEntry} {j:Nat} {e:MapEntry} {kv:Value} (h:arr[j]?=some e) (hk:e.key=kv):arr.modify j (fun e=>{e with key:=kv}) =arr:=by
 apply Array.ext';rw[Array.toList_modify];apply List.ext_getElem?;intro i;rw[List.getElem?_modify];by_cases hi:j=i
 . subst hi;have h':arr.toList[j]?=some e:=by simpa using h
   rw[h'];subst hk;simp
 . simp[hi]
theorem XI{t:TypeId} {m x y:Operand} (R:Rel E st g s a w) (hg:aV C.gl st) (G:Good C) (ho:o.op=.mapUpdate t m x y):cz C E st g s a w o (qM C s t m x y):=by
 unfold qM;refine tQ R G (bn (C:=C) R hg m) fun i ag sh es bs ck k e b arr he M=>?_;rw[force_eq];refine aa.when fun fx=>?_;obtain⟨hx,ox⟩:=xx fx (bn (C:=C) R hg x);obtain⟨lx,hlx⟩:=M.key.2 _ (by rw[<-M.agg];exact fx) ox;have hck:=M.key.1.check w false hlx;have hst:=M.key.1.stays w hlx;have hy:=bn (C:=C) R hg y;split
 . rename_i q hq;rw[hq] at hy;simp only[VR] at hy;rcases zq M.key M.agg M.ent M.nodup fx ox w with ⟨f1,f2,f3⟩|⟨j,q0,e1,s1,f1,f2,f3,f4,f5,f6,f7,f8⟩
   . refine aa.fW (fun y hy=>by rw[f1] at hy;cases hy) (fun _=>aa.ret ?_);refine aD.ru R M undef (arr':=arr.push ⟨dB (s.ev C x),.int .i64 q,ck⟩) (.inr ⟨?_,rfl⟩) ?_ (MH M.stamp) (Lr M.nodup f3) (by simp[VR])
     . simp[execOp,ho,Instr.mapUpdate,run_underlying M.und,M.mv,hx,hy.1,MapKept.run_getObj_map M.hp,hck,f2,MapKept.run_setObj_map _ M.hp,Result.andThen,c9]
     . rw[Array.toList_push];exact I7 M.ent ⟨fx,ox,rfl,rfl,hy.2,rfl⟩
   . refine aa.fW (fun y hy=>?_) (fun hy=>by rw[f1] at hy;cases hy);rw[f1] at hy;cases hy;refine aa.ret ?_;refine aD.ru R M undef (arr':=arr.modify j fun e=>{e with key:=dB (s.ev C x),val:=.int .i64 q}) (.inr ⟨?_,rfl⟩) ?_ M.stamp (by rw[DJ];exact M.nodup) (by simp[VR])
     . simp[execOp,ho,Instr.mapUpdate,run_underlying M.und,M.mv,hx,hy.1,MapKept.run_getObj_map M.hp,hck,f2,f3,f5,hst,MapKept.run_setObj_map _ M.hp,Result.andThen,c9]
     . rw[Array.toList_modify];refine I8 M.ent j hy.2 fun e' he'=>?_;have:arr.toList[j]?=some e1:=by simpa using f3
       rw[this] at he';cases he';exact⟨f5.symm,rfl,rfl⟩
 . exact aa.fail
theorem XH{t:TypeId} {m x:Operand} (R:Rel E st g s a w) (hg:aV C.gl st) (G:Good C) (ho:o.op=.mapEntry t m x):cz C E st g s a w o (oq C s t m x):=by
 unfold oq;refine tQ R G (bn (C:=C) R hg m) fun i ag sh es bs ck k e b arr he M=>?_;rw[force_eq];refine aa.when fun fx=>aa.aR fun hb=>?_;obtain⟨hx,ox⟩:=xx fx (bn (C:=C) R hg x);obtain⟨lx,hlx⟩:=M.key.2 _ (by rw[<-M.agg];exact fx) ox;have hck:=M.key.1.check w false hlx;have hst:=M.key.1.stays w hlx;rcases zq M.key M.agg M.ent M.nodup fx ox w with ⟨f1,f2,f3⟩|⟨j,q0,e1,s1,f1,f2,f3,f4,f5,f6,f7,f8⟩
 . refine aa.fW (fun y hy=>by rw[f1] at hy;cases hy) (fun _=>aa.ret ?_);refine aD.ru R M (.tuple #[.int .i64 0,goInt ck]) (arr':=arr.push ⟨dB (s.ev C x),.int .i64 0,ck⟩) (.inl ?_) ?_ (MH M.stamp) (Lr M.nodup f3) ?_
   . simp[execOp,ho,Instr.mapEntry,run_underlying M.und,M.mv,hx,M.zero,MapKept.run_getObj_map M.hp,hck,f2,MapKept.run_setObj_map _ M.hp,Result.andThen,c9]
   . rw[Array.toList_push];exact I7 M.ent ⟨fx,ox,rfl,rfl,AN,rfl⟩
   . simp only[VR];exact⟨_,rfl,cu (r8 AN) (cu (Le hb) dD)⟩
 . refine aa.fW (fun y hy=>?_) (fun hy=>by rw[f1] at hy;cases hy);rw[f1] at hy;cases hy;refine aa.ret ?_;have hgd:bs.getD j 0=e1.born:=by rw[ac,f4,f7];rfl
   refine aD.ru R M (.tuple #[.int .i64 q0,goInt e1.born]) (arr':=arr) (.inl ?_) M.ent M.stamp M.nodup ?_
   . simp[execOp,ho,Instr.mapEntry,run_underlying M.und,M.mv,hx,MapKept.run_getObj_map M.hp,hck,f2,f3,f5,hst,XV f3 f5,MapKept.run_setObj_map _ M.hp,Result.andThen,c9]
   . simp only[VR];rw[hgd];have:=M.stamp.2 s1 (List.mem_of_getElem? f4);exact⟨_,rfl,cu (r8 f8) (cu (Le (by rw[f7];omega)) dD)⟩
theorem Xt{t:TypeId} {m b0 y:Operand} (R:Rel E st g s a w) (hg:aV C.gl st) (G:Good C) (ho:o.op=.entryStore t m b0 y):cz C E st g s a w o (qF C s t m b0 y):=by
 unfold qF;refine tQ R G (bn (C:=C) R hg m) fun i ag sh es bs ck k e b arr he M=>?_;have h1:=bn (C:=C) R hg b0;have h2:=bn (C:=C) R hg y;split
 . rename_i z q e1 e2;rw[e1] at h1;rw[e2] at h2;simp only[VR] at h1 h2;refine aa.ex fun j=>aa.aR fun hj=>aa.ret ?_;obtain⟨hl1,hl2⟩:=sR M.ent;obtain⟨hjl,hjb⟩:=gB.1 hj.2;have hz:z=((z.toNat:Nat):Int):=by omega
   obtain⟨en,hen⟩:∃en,arr.toList[j]?=some en:=⟨_,am (by omega)⟩
   obtain⟨x',q',s',a1,a2,a3⟩:=vk M.ent hen;have hborn:en.born=z.toNat:=by
    rw[hj.2] at a2;cases a2;exact a3.2.2.2.2.2
   have hbs:arr.toList.map (·.born) =bs:=by
    apply List.ext_getElem?;intro i;rw[List.getElem?_map];cases hi:arr.toList[i]? with
    |none=>
      have:bs[i]?=none:=by rw[List.getElem?_eq_none_iff] at hi⊢;omega
      rw[this];rfl
    |some e'=>
      obtain⟨_,_,_,_,c2,c3⟩:=vk M.ent hi;rw[c2];simp[c3.2.2.2.2.2]
   have hidx:arr.findIdx? (fun e=>((e.born:Nat):Int) ==z) =some j:=by
    rw[WideElems.findIdx_arr,hz,<-hborn];exact WideElems.findIdx_born (by rw[hbs];exact M.stamp.1) hen
   refine aD.ru R M undef (arr':=arr.modify j fun e=>{e with val:=.int .i64 q}) (.inr ⟨?_,rfl⟩) ?_ M.stamp (by rw[DJ];exact M.nodup) (by simp[VR])
   . simp[execOp,ho,Instr.entryStore,M.mv,h1.1,h2.1,asInt,asIntOf,hidx,MapKept.run_getObj_map M.hp,MapKept.run_setObj_map _ M.hp,Result.andThen,c9]
   . rw[Array.toList_modify];exact I8 M.ent j h2.2 fun e' _=>⟨rfl,rfl,rfl⟩
 . exact aa.fail
theorem P2(arr:Array MapEntry) (j:Nat):(arr.eraseIdxIfInBounds j).toList=arr.toList.eraseIdx j:=by
 unfold Array.eraseIdxIfInBounds;split
 . simp
 . rename_i h;rw[List.eraseIdx_of_length_le (by simpa using h)]
theorem OM{t:TypeId} {m x:V} {mv xv:Value} {ats:Array TypeId} {ty:TypeId} (R:Rel E st g s a w) (G:Good C) (hm:VR st g m s.sg.length mv) (hxv:VR st g x s.sg.length xv) (hts:ats[0]?=some t)
   (hr:∀w',(Builtin.delete_ ats ty #[mv,xv]).run C.P w=.ok (.tuple #[]) w'->(execOp a.eval o).run C.P w=.ok (.value (.tuple #[])) w'):cz C E st g s a w o (qE C s t m x):=by
 unfold qE;refine tQ R G hm fun i ag sh es bs ck k e b arr he M=>?_;rw[force_eq];refine aa.when fun fx=>?_;obtain⟨hx,ox⟩:=xx fx hxv;obtain⟨lx,hlx⟩:=M.key.2 _ (by rw[<-M.agg];exact fx) ox;have hck:=M.key.1.check w arr.isEmpty hlx;rcases zq M.key M.agg M.ent M.nodup fx ox w with ⟨f1,f2,f3⟩|⟨j,q0,e1,s1,f1,f2,f3,f4,f5,f6,f7,f8⟩
 . refine aa.fW (fun y hy=>by rw[f1] at hy;cases hy) (fun _=>aa.ret ?_);refine aD.ru R M (.tuple #[]) (arr':=arr) (.inl (hr _ ?_)) M.ent M.stamp M.nodup (by simp[VR,aE]);simp[Builtin.delete_,hts,run_underlying M.und,M.mv,hx,MapKept.run_getObj_map M.hp,hck,f2,MapKept.run_setObj_map _ M.hp,Result.andThen,c9]
 . refine aa.fW (fun y hy=>?_) (fun hy=>by rw[f1] at hy;cases hy);rw[f1] at hy;cases hy;refine aa.ret ?_;refine aD.ru R M (.tuple #[]) (arr':=arr.eraseIdxIfInBounds j) (.inl (hr _ ?_)) ?_ ?_ ?_ (by simp[VR,aE])
   . simp[Builtin.delete_,hts,run_underlying M.und,M.mv,hx,MapKept.run_getObj_map M.hp,hck,f2,MapKept.run_setObj_map _ M.hp,Result.andThen,c9]
   . rw[P2];exact P0 M.ent j
   . exact⟨M.stamp.1.sublist (List.eraseIdx_sublist _ _),fun s hs=>M.stamp.2 s ((List.eraseIdx_sublist _ _).subset hs)⟩
   . exact M.nodup.sublist ((List.eraseIdx_sublist _ _).map _)
theorem V4(bs:List Nat):nD bs #[]=List.range bs.length:=by
 unfold nD;rw[List.filter_eq_self];intro j _;simp
theorem XA{t:TypeId} {x:Operand} (R:Rel E st g s a w) (hg:aV C.gl st) (G:Good C) (ho:o.op=.range t x):cz C E st g s a w o (qJ C s t (s.ev C x)):=by
 unfold qJ;refine tQ R G (bn (C:=C) R hg x) fun i ag sh es bs ck k e b arr he M=>?_;rw[dN];refine aa.ret (aD.new R (.pointer (some ⟨w.heap.size,0,none⟩)) w (aY.refl w) ⟨some w.heap.size,none,0,0,0⟩ (.mapIter (some b) ck #[] ck) ?_ (by simp) ?_ ?_)
 . simp[execOp,ho,Instr.range,run_underlying M.und,M.mv,MapKept.run_getObj_map M.hp,Result.andThen,newObj,Sem.run]
 . refine⟨w.heap.size,b,#[],rfl,R.wr.gnew _ R.wr.size,heap_alloc_new,?_,(V4 bs).symm,.inl ⟨rfl,co _⟩⟩;simp only[VR];refine⟨by have:=M.lt;omega,b,?_,rfl⟩;rw[cI (Nat.ne_of_lt M.lt)];exact M.blk
 . simp only[VR,dP];exact⟨by omega,w.heap.size,rfl,rfl⟩
theorem dm.after{st':St} {w1 w2:World} {B:Nat->Prop} (c:dm E st st' w w1 B) (h:aY w1 w2):dm E st st' w w2 B where
 os:=h.os.trans c.os
 tape:=h.tape.trans c.tape
 output:=h.output.trans c.output
 size:=by rw[h.heap];exact c.size
 aX:=fun b hb hB=>by rw[h.heap];exact c.aX b hb hB
 own:=c.own
 mono:=c.mono
 newst:=fun b o v hv=>by rw[qq (w:=w1) (w':=w2) (by rw[h.heap])];exact c.newst b o v hv
 oldst:=fun b o v hB hv=>by rw[qq (w:=w1) (w':=w2) (by rw[h.heap])];exact c.oldst b o v hB hv
theorem I9{ag:Bool} {sh:List Sc} {es:List (V×Int)} {bs:List Nat} {l:List MapEntry} (h:gn ag sh es bs l):l.map (·.born) =bs:=by
 obtain⟨hl1,hl2⟩:=sR h;apply List.ext_getElem?;intro i;rw[List.getElem?_map];cases hi:l[i]? with
 |none=>
   have:bs[i]?=none:=by rw[List.getElem?_eq_none_iff] at hi⊢;omega
   rw[this];rfl
 |some e'=>
   obtain⟨_,_,_,_,c2,c3⟩:=vk h hi;rw[c2];simp[c3.2.2.2.2.2]
theorem JB(R:Rel E st g s a w) {k i ck ck':Nat} {ag:Bool} {sh:List Sc} {es:List (V×Int)} {bs bs' left:List Nat} {last:Nat} (hk:aH s.sg k=.miter (.map i) bs ck left last) (hi:aH s.sg i=.map ag sh es bs' ck'):
   ∃b b' seen arr,k<s.sg.length/\(g k).blk=some b/\E.G b/\w.heap[b]?=some (.mapIter (some b') ck seen ck)/\(g i).blk=some b'/\i<s.sg.length/\w.heap[b']?=some (.map arr ck')/\gn ag sh es bs' arr.toList/\sc bs' ck'/\
    left=nD bs seen/\((seen=#[]/\bs.length<=last)\/(seen.back?=some (bs.getD last 0)/\last<bs.length)):=by
 obtain⟨hs1,hkl⟩:=eU hk (by simp);obtain⟨hs2,hil⟩:=eU hi (by simp);obtain⟨b,b',seen,h1,h2,h3,h4,h5,h6⟩:=R.wr.ob k _ hs1;obtain⟨b2,arr,q1,q2,q3,q4,q5,q6⟩:=R.wr.ob i _ hs2;simp only[VR] at h4;obtain⟨_,b3,h7,h8⟩:=h4;rw[q1] at h7;cases h7;injection h8 with h8
 injection h8 with h8
 subst h8;exact⟨b,b',seen,arr,hkl,h1,h2,h3,q1,hil,q3,q4,q5,h5,h6⟩
theorem Xs{x:Operand} (R:Rel E st g s a w) (hg:aV C.gl st) (ho:o.op=.entry x):cz C E st g s a w o (sV C s x):=by
 unfold sV;have hx:=bn (C:=C) R hg x;split
 . rename_i k he;rw[he] at hx;simp only[VR] at hx;obtain⟨hkl,b,hb,hx⟩:=hx;split
   . rename_i i bs ck left last hs;split
     . rename_i ag sh es bs' ck' hs2;obtain⟨b1,b',seen,arr,_,h1,h2,h3,h4,h5,h6,h7,h8,h9,h10⟩:=JB R hs hs2;rw[hb] at h1;cases h1;refine aa.aR fun hq=>?_;obtain⟨rfl,rfl⟩:=hq;rw[mL];refine aa.opt fun p hp=>aa.ret ?_;obtain⟨s1,e1,c1,c2,c3⟩:=xS h7 (x:=p.1) (q:=p.2) hp;obtain⟨hl1,hl2⟩:=sR h7;obtain⟨hlt,_⟩:=gB.1 c1;rcases h10 with ⟨_,h10⟩|⟨h10,_⟩
       . omega
       . have hs1:bs'.getD last 0=s1:=by rw[ac,c1];rfl
         rw[hs1] at h10;have hpop:seen=seen.pop.push s1:=by
          apply Array.ext';rw[Array.toList_push,Array.toList_pop];have hl:seen.toList.getLast?=some s1:=by rw[Array.getLast?_toList];exact h10
          obtain⟨ys,hys⟩:=List.getLast?_eq_some_iff.1 hl;rw[hys];simp
         have hs1e:s1=e1.born:=c3.2.2.2.2.2.symm;have hrun:=run_entry_at (P:=C.P) w b b' ck' seen.pop arr ck' e1 (by rw[<-hs1e,<-hpop];exact h3) h6 (List.mem_of_getElem? c2) (by rw[I9 h7];exact h8.1);refine aD.pure R (.tuple #[e1.key,e1.val]) w ?_ (aY.refl w) ?_
         . simp only[execOp,ho,hx,Sem.run_bind,hrun,Result.andThen_ok];rfl
         . simp only[VR];refine⟨_,rfl,cu ?_ (cu ?_ dD)⟩
           . rw[c3.2.2.1];have hok:=c3.2.1;clear hp c3;generalize p.1=y at hok⊢;cases y with
             |str s=>exact⟨rfl,hok⟩
             |_=>trivial
           . rw[c3.2.2.2.1];exact r8 c3.2.2.2.2.1
     . exact aa.fail
   . exact aa.fail
 . exact aa.fail
theorem V5{bs:List Nat} {seen:Array Nat} {j:Nat} (hn:bs.Nodup) (hj:j<bs.length):nD bs (seen.push (bs.getD j 0)) =(nD bs seen).erase j:=by
 have hnd:(nD bs seen).Nodup:=List.Nodup.sublist List.filter_sublist List.nodup_range;rw[hnd.erase_eq_filter];unfold nD;rw[List.filter_filter];refine List.filter_congr fun i hi=>?_;have hi:=List.mem_range.1 hi;have hij:(bs.getD i 0=bs.getD j 0)↔i=j:=by
  rw[ac,ac,am hi,am hj];exact List.getElem_inj hn
 simp only[Array.toList_push,List.contains_append];by_cases e:i=j
 . subst e;simp
 . have:¬bs.getD i 0=bs.getD j 0:=fun q=>e (hij.1 q);have h2:(i !=j) =true:=by simpa using e
   simp[h2,e];intro _;simpa using this
theorem XL{x:Operand} (R:Rel E st g s a w) (hg:aV C.gl st) (ho:o.op=.next x false) {K:Ef->AS->Prop} (h:yW C s x o.dst K):∃e,K e (s.app o.dst e)/\aD C E st g s a w o e:=by
 unfold yW at h;have hx:=bn (C:=C) R hg x;split at h
 . rename_i k he;rw[he] at hx;simp only[VR] at hx;obtain⟨hkl,b,hb,hx⟩:=hx;split at h
   . rename_i i bs ck left last hs;split at h
     . rename_i ag sh es bs' ck' hs2;obtain⟨b1,b',seen,arr,_,h1,h2,h3,h4,h5,h6,h7,h8,h9,h10⟩:=JB R hs hs2;rw[hb] at h1;cases h1;obtain⟨⟨rfl,rfl⟩,k1,k2⟩:=h;simp only[gQ] at k1 k2;have hborn:=I9 h7;have hold:∀y∈arr.toList,y.born<ck':=fun y hy=>h8.2 _ (by rw[<-hborn];exact List.mem_map.2 ⟨y,hy,rfl⟩);obtain⟨hl1,hl2⟩:=sR h7;rcases run_next_at (P:=C.P) w o.type b b' ck' ck' seen arr ck' h3 h6 hold (co _) with ⟨n1,n2⟩|⟨en,n1,w1,n2,n3⟩
       . have hl:left=[]:=by
           rw[h9];unfold nD;rw[List.filter_eq_nil_iff];intro j hj;have hj:=List.mem_range.1 hj;obtain⟨en,hen⟩:∃en,arr.toList[j]?=some en:=⟨_,am (by omega)⟩
           have hbj:bs'.getD j 0=en.born:=by
            rw[<-hborn,ac,List.getElem?_map,hen];rfl
           rw[hbj];intro q;have hmem:en∈(Go.leftOf arr seen).toList:=by
            unfold Go.leftOf;simp only[Array.mem_toList_iff,Array.mem_filter];refine⟨by simpa using List.mem_of_getElem? hen,?_⟩;simpa using q
           rw[Array.eq_empty_of_size_eq_zero n1] at hmem;simp at hmem
         refine⟨_,k1 hl,aD.pure R (.tuple #[.bool false]) w ?_ (aY.refl w) ?_⟩
         . simp only[execOp,ho,hx,Sem.run_bind,n2,Result.andThen_ok];rfl
         . simp only[VR];exact⟨_,rfl,cu fw dD⟩
       . unfold Go.leftOf at n1;simp only[Array.mem_toList_iff,Array.mem_filter] at n1;obtain⟨m1,m2⟩:=n1;obtain⟨j,hj⟩:=List.getElem?_of_mem (show en∈arr.toList by simpa using m1);obtain⟨hjl,_⟩:=gB.1 hj;have hbj:bs'.getD j 0=en.born:=by
          rw[<-hborn,ac,List.getElem?_map,hj];rfl
         have hjm:j∈left:=by
          rw[h9];unfold nD;refine List.mem_filter.2 ⟨List.mem_range.2 (by omega),?_⟩;rw[hbj];simpa using m2
         refine⟨_,k2 j hjm,?_⟩;have hw1:aY (c9 w b (.mapIter (some b') ck' (seen.push en.born) ck')) (Go.ChangeMaps.setBlock w1 b (.mapIter (some b') ck' (seen.push en.born) ck')):=by
          rcases n2 with rfl|rfl<;>exact⟨rfl,rfl,rfl,rfl⟩
         refine aD.iM R hkl (.tuple #[.bool true,en.key,en.val]) _ (g k) (.inl ?_) ((dm.c9 h2 _ (fun b''=>by rw[hb];simp[eq_comm]) (fun k v hv=>?_)).after hw1) (.inl rfl) (fun b hb=>.inl hb) ?_ ?_
         . simp only[execOp,ho,hx,Sem.run_bind,n3,Result.andThen_ok];rfl
         . have:=R.wr.stw _ _ _ hv;simp only[World.cell?,h3] at this;cases this
         . rw[Ni];refine dK.same ?_ hw1;refine⟨b,b',seen.push en.born,hb,h2,l8 h3,?_,?_,.inr ⟨?_,by omega⟩⟩
           . simp only[VR];exact⟨h5,b',h4,rfl⟩
           . rw[<-hbj,V5 h8.1 (by omega),h9]
           . rw[Array.back?_push,hbj]
         . simp only[VR];exact⟨_,rfl,cu fw (cu (by simp[VR]) (cu (by simp[VR]) dD))⟩
     . exact h.elim
   . exact h.elim
 . exact h.elim
end
end Go.VG
namespace Go.VG
open Go
def wJ(f:TypeId->Option (List Sc)):List Field->Nat->Option (List Sc)
 |[],_=>some []
 |x::xs,off=>match Nat.beq x.offset off,f x.type with
   |true,some sh=>match wJ f xs (off+sh.length) with
     |some r=>some (sh++r)
     |none=>none
   |_,_=>none
def wE:Nat->List Sc->List Sc
 |0,_=>[]
 |n+1,l=>l++wE n l
def shapeOf(P:Program):Nat->TypeId->Option (List Sc)
 |0,_=>none
 |d+1,t=>match P.underlying t with
   |some .bool=>cond (Nat.beq 1 (P.cellsOf t)) (some [.kB]) none
   |some (.int q) =>cond (Nat.beq 1 (P.cellsOf t)) (some [.kI q]) none
   |some .string=>cond (Nat.beq 1 (P.cellsOf t)) (some [.kS]) none
   |some (.array n e) =>match shapeOf P d e with
     |some se=>match Nat.beq (wE n se).length (P.cellsOf t) with
       |true=>some (wE n se)
       |false=>none
     |none=>none
   |some (.struct fs) =>match fs.all (·.name != "_"),wJ (shapeOf P d) fs.toList 0 with
     |true,some sh=>match Nat.beq sh.length (P.cellsOf t) with
       |true=>some sh
       |false=>none
     |_,_=>none
   |_=>none
def jc:V->Lit
 |.int k n=>.int k n
 |.bool b=>.bool b
 |.str s=>.string s
 |_=>.bool false
theorem kV:∀{sh:List Sc} {cs:List V},cQ sh cs=true->sh.length=cs.length
 |[],[],_=>rfl
 |k::ks,x::xs,h=>by
   simp only[cQ,aA] at h;simp[kV h.2]
 |[],_::_,h=>by cases h
 |_::_,[],h=>by cases h
theorem BS:∀{s1 s2:List Sc} {cs:List V},cQ (s1++s2) cs=true->cQ s1 (cs.take s1.length) =true/\cQ s2 (cs.drop s1.length) =true
 |[],_,cs,h=>⟨by cases cs<;>rfl,by simpa using h⟩
 |k::ks,s2,[],h=>by simp[cQ] at h
 |k::ks,s2,x::xs,h=>by
   simp only[List.cons_append,cQ,aA] at h;obtain⟨a,b⟩:=BS h.2;exact⟨by simp[cQ,h.1,a],by simpa using b⟩
variable {P:Program}
theorem CD{k k':IntKind} (h:fV k k'=true):k=k':=by cases k<;>cases k'<;>first|rfl|cases h
theorem YY{k:IntKind} {n:Int} (h:k.min<=n/\n<=k.max):(Lit.int k n).wf=true:=by
 simp only[Lit.wf,aA,decide_eq_true_eq];exact h
theorem IC(D:Nat) (f:TypeId->Option (List Sc)) (hf:∀t sh,f t=some sh->sh.length=P.cellsOf t/\∀(st:St) (g:aw) (n:Nat) (cs:List V) (vs:List Value),cQ sh cs=true->aE st g cs n vs->P.keyLits D t vs=some (cs.map jc)):
   ∀(fs:List Field) (off:Nat) (sh:List Sc),wJ f fs off=some sh->∀(st:St) (g:aw) (n:Nat) (cs:List V) (vs:List Value),cQ sh (cs.drop off) =true->aE st g cs n vs->off<=cs.length->
   ∃xs,fs.mapM (fun f=>P.keyLits D f.type ((vs.drop f.offset).take (P.cellsOf f.type))) =some xs/\xs.flatten=(cs.drop off).map jc
 |[],off,sh,h,st,g,n,cs,vs,hfit,hv,ho=>by
   simp only[wJ] at h;cases h;have:=kV hfit;simp at this;refine⟨[],by simp,?_⟩;rw[List.drop_eq_nil_of_le (by omega)];rfl
 |x::xs,off,sh,h,st,g,n,cs,vs,hfit,hv,ho=>by
   simp only[wJ] at h;split at h
   . rename_i s1 e1 e2;split at h
     . rename_i r e3;cases h;have e1:=cb e1;obtain⟨q1,q2⟩:=hf _ _ e2;obtain⟨f1,f2⟩:=BS hfit;have hl:=kV hfit;rw[an,fo] at hl;have hv1:aE st g ((cs.drop off).take s1.length) n ((vs.drop off).take s1.length):=uS (uP hv);have k1:=q2 st g n _ _ f1 hv1;have f2':cQ r (cs.drop (off+s1.length)) =true:=by rw[<-List.drop_drop];exact f2
       obtain⟨ys,y1,y2⟩:=IC D f hf xs (off+s1.length) r e3 st g n cs vs f2' hv (by omega);refine⟨((cs.drop off).take s1.length).map jc::ys,?_,?_⟩
       . rw[List.mapM_cons,e1,<-q1,k1,y1];rfl
       . rw[List.flatten_cons,y2,<-gq,<-List.drop_drop,List.take_append_drop]
     . cases h
   . cases h
theorem I5(D:Nat) (e:TypeId) (se:List Sc) (hc:se.length=P.cellsOf e) (hk:∀(st:St) (g:aw) (n:Nat) (cs:List V) (vs:List Value),cQ se cs=true->aE st g cs n vs->P.keyLits D e vs=some (cs.map jc)):
   ∀(m k:Nat) (st:St) (g:aw) (n:Nat) (cs:List V) (vs:List Value),cQ (wE m se) (cs.drop (k*se.length)) =true->aE st g cs n vs->
   ∃xs,(List.range' k m).mapM (fun i=>P.keyLits D e ((vs.drop (i*P.cellsOf e)).take (P.cellsOf e))) =some xs/\xs.flatten=(cs.drop (k*se.length)).map jc
 |0,k,st,g,n,cs,vs,hfit,hv=>by
   have:=kV hfit;refine⟨[],by simp,?_⟩;rw[d5 this.symm];rfl
 |m+1,k,st,g,n,cs,vs,hfit,hv=>by
   obtain⟨f1,f2⟩:=BS hfit;have hv1:aE st g ((cs.drop (k*se.length)).take se.length) n ((vs.drop (k*se.length)).take se.length):=uS (uP hv);have k1:=hk st g n _ _ f1 hv1;have hm:k*se.length+se.length=(k+1)*se.length:=by rw[Nat.add_mul,Nat.one_mul]
   have f2':cQ (wE m se) (cs.drop ((k+1)*se.length)) =true:=by rw[<-hm,<-List.drop_drop];exact f2
   obtain⟨ys,y1,y2⟩:=I5 D e se hc hk m (k+1) st g n cs vs f2' hv;refine⟨((cs.drop (k*se.length)).take se.length).map jc::ys,?_,?_⟩
   . rw[List.range'_succ,List.mapM_cons,y1,<-hc,k1];rfl
   . rw[List.flatten_cons,y2,<-gq,<-hm,<-List.drop_drop,List.take_append_drop]
theorem xM{b:Bool} {α:Type} {x y:α} (h:cond b (some x) none=some y):b=true/\x=y:=by cases b<;>simp_all
theorem zv:∀(d:Nat) (t:TypeId) (sh:List Sc),shapeOf P d t=some sh->sh.length=P.cellsOf t/\∀(st:St) (g:aw) (n:Nat) (cs:List V) (vs:List Value),cQ sh cs=true->aE st g cs n vs->P.keyLits d t vs=some (cs.map jc)
 |0,_,_,h=>by simp[shapeOf] at h
 |d+1,t,sh,h=>by
   have one:∀{k:Sc} {cs:List V},cQ [k] cs=true->∃x,cs=[x]/\kb k x=true:=fun{k cs} hf=>by
    match cs,hf with
    |[x],hf=>simp only[cQ,Bool.and_true] at hf;exact⟨x,rfl,hf⟩
    |[],hf=>cases hf
    |x::y::r,hf=>simp[cQ] at hf
   have onev:∀{st:St} {g:aw} {n:Nat} {x:V} {vs:List Value},aE st g [x] n vs->∃v,vs=[v]/\VR st g x n v:=fun{st g n x vs} hv=>by
    simp only[aE] at hv;obtain⟨u,us,rfl,h1,rfl⟩:=hv;exact⟨u,rfl,h1⟩
   simp only[shapeOf] at h;split at h
   . rename_i hu;obtain⟨hb,rfl⟩:=xM h;refine⟨cb hb,fun st g n cs vs hf hv=>?_⟩;obtain⟨x,rfl,hx⟩:=one hf;obtain⟨v,rfl,hw⟩:=onev hv;clear hv hf;cases x<;>try(cases hx;done)
     simp only[VR] at hw;subst hw;simp[Program.keyLits,hu,jc]
   . rename_i q hu;obtain⟨hb,rfl⟩:=xM h;refine⟨cb hb,fun st g n cs vs hf hv=>?_⟩;obtain⟨x,rfl,hx⟩:=one hf;obtain⟨v,rfl,hw⟩:=onev hv;clear hv hf;cases x<;>try(cases hx;done)
     have hx:=CD hx;subst hx;simp only[VR] at hw;obtain⟨rfl,hw⟩:=hw;simp[Program.keyLits,hu,jc,YY hw]
   . rename_i hu;obtain⟨hb,rfl⟩:=xM h;refine⟨cb hb,fun st g n cs vs hf hv=>?_⟩;obtain⟨x,rfl,hx⟩:=one hf;obtain⟨v,rfl,hw⟩:=onev hv;clear hv hf;cases x<;>try(cases hx;done)
     simp only[VR] at hw;obtain⟨rfl,hw⟩:=hw;rename_i s;have hsz:(⟨s.toArray⟩:ByteArray).size=s.length:=by show s.toArray.size=_;simp
     simp[Program.keyLits,hu,jc,hsz,hw]
   . rename_i m e hu;split at h
     . rename_i se hse;split at h
       . rename_i hb;cases h;obtain⟨q1,q2⟩:=zv d e se hse;refine⟨cb hb,fun st g n cs vs hf hv=>?_⟩;obtain⟨xs,x1,x2⟩:=I5 d e se q1 q2 m 0 st g n cs vs (by simpa using hf) hv;have hlen:vs.length=P.cellsOf t:=by rw[<-eJ hv,<-kV hf];exact cb hb
         unfold Program.keyLits;simp only[hu];rw[if_pos hlen,List.range_eq_range',x1];simp[x2]
       . cases h
     . cases h
   . rename_i fs hu;split at h
     . rename_i sh' ha hsf;split at h
       . rename_i hb;cases h;refine⟨cb hb,fun st g n cs vs hf hv=>?_⟩;obtain⟨xs,x1,x2⟩:=IC d (shapeOf P d) (fun t sh h=>zv d t sh h) fs.toList 0 sh hsf st g n cs vs (by simpa using hf) hv (ci _);have hlen:vs.length=P.cellsOf t:=by rw[<-eJ hv,<-kV hf];exact cb hb
         unfold Program.keyLits;simp only[hu];rw[if_pos ⟨hlen,ha⟩,x1];simp[x2]
       . cases h
     . cases h
   . cases h
theorem P1:∀{sh:List Sc} {cs ds:List V} {r:Bool},sh≠[]->cQ sh cs=true->cQ sh ds=true->eqs cs ds=some r->(r=true↔cs.map jc=ds.map jc):=by
 have e1:∀{k:Sc} {x y:V} {r:Bool},kb k x=true->kb k y=true->qB x y=some r->(r=true↔jc x=jc y):=fun{k x y r} hx hy h=>by
  cases k<;>cases x<;>simp only[kb,Bool.false_eq_true] at hx<;>cases y<;>simp only[kb,Bool.false_eq_true] at hy
  . simp only[qB,Option.some.injEq] at h;subst h;simp[jc]
  . have hx:=CD hx;have hy:=CD hy;subst hx;subst hy;simp only[qB] at h;obtain⟨_,rfl⟩:=xM h;simp[jc]
  . simp only[qB,Option.some.injEq] at h;subst h;simp[jc]
 intro sh
 induction sh with
 |nil=>intro cs ds r h;exact absurd rfl h
 |cons k ks ih=>
   intro cs ds r _ hc hd h
   match cs,ds,hc,hd with
   |[],_,hc,_=>cases hc
   |_::_,[],_,hd=>cases hd
   |x::xs,y::ys,hc,hd=>
     simp only[cQ,aA] at hc hd;by_cases hk:ks=[]
     . subst hk;have l1:=kV hc.2;have l2:=kV hd.2;obtain rfl:xs=[]:=d5 l1.symm;obtain rfl:ys=[]:=d5 l2.symm;simp only[eqs] at h;rw[e1 hc.1 hd.1 h];simp
     . have hxs:xs≠[]:=fun e=>hk (by subst e;exact d5 (kV hc.2));have h:(match qB x y,eqs xs ys with
        |some a,some b=>some (a&&b)
        |_,_=>none) =some r:=by
        cases xs with
        |nil=>exact absurd rfl hxs
        |cons x2 xr=>
          cases ys with
          |nil=>have:=kV hd.2;have:=kV hc.2;simp_all
          |cons y2 yr=>exact h
       split at h
       . rename_i a b ha hb;cases h;rw[aA,e1 hc.1 hd.1 ha,ih hk hc.2 hd.2 hb];simp
       . cases h
theorem RR{t:TypeId} {sh:List Sc} (hne:sh≠[]) (h1:shapeOf P 8 t=some sh) (h2:P.keyTypeAt 8 t=true) (h3:P.eqGuardType P.depth t=false) (h4:(match P.underlying t with|some (.struct _) =>true|some (.array _ _) =>true|_=>false) =true):AW P t sh:=by
 intro st g n cs ds r a b w hc hd he hl ha hb;obtain⟨q1,q2⟩:=zv 8 t sh h1;have k1:=q2 st g n cs _ hc ha;have k2:=q2 st g n ds _ hd hb;have fm:∀(x:Array Value),x.toList.length=P.cellsOf t->(Value.agg x).formed P t=true:=fun x hx=>by
  split at h4
  . rename_i fs hu;simp at hx;simp[Value.formed,hu,hx]
  . rename_i m e hu;simp at hx;simp[Value.formed,hu,hx]
  . cases h4
 obtain⟨r',e1,e2⟩:=run_equalIn_deep (P:=P) 9992 8 t h2 w 8 8 (.agg a) (.agg b) _ _ (fm a (by rw[<-eJ ha,<-kV hc];exact q1)) (fm b (by rw[<-eJ hb,<-kV hd];exact q1)) k1 k2;have e3:=P1 hne hc hd he;have:r'=r:=by
  cases r<;>cases r'<;>simp_all
 subst this;exact⟨e1,h3⟩
theorem H7{st:St} {g:aw} {n:Nat}:∀{sh:List Sc} {cs:List V},cQ sh cs=true->(∀c∈cs,tO c)->aE st g cs n (cs.map ji)
 |_,[],_,_=>dD
 |[],_::_,h,_=>by cases h
 |k::ks,c::cs,h,ho=>by
   simp only[cQ,aA] at h;refine cu ?_ (H7 h.2 fun d hd=>ho d (d8 _ hd));have h1:=ho c (List.mem_cons_self ..);have h0:=h.1;cases k<;>cases c<;>simp only[kb,Bool.false_eq_true] at h0
   . simp[VR,ji]
   . simp only[VR,ji];exact⟨trivial,h1⟩
   . simp only[VR,ji];exact⟨trivial,h1⟩
theorem UC{P:Program} {k:TypeId} (h:P.underlying k=some .string):s9 P k [.kS]:=by
 refine⟨WideMaps.string_law h,fun x hx ho=>?_⟩;have ha:oc P k=false:=by unfold oc;rw[h]
 rw[ha] at hx;rcases tg hx with ⟨_,_,h0,_⟩|⟨k',_,e,h1,h2,h3⟩
 . cases h0
 . cases e;cases x<;>simp only[kb,Bool.false_eq_true] at h1;rename_i s;have hl:s.length<=maxLen:=h3.1 ho;rw[h2];exact⟨_,WideMaps.keyOf_string_mk h (s:=⟨s.toArray⟩) (by show s.toArray.size<=_;simpa using hl)⟩
theorem UD{P:Program} {k:TypeId} {sh:List Sc} (h1:shapeOf P (P.types.size+1) k=some sh) (m:Nat) (hm:m+1<=10000) (hk:P.keyTypeAt m k=true) (ht:P.tiled m k=true) (hkt:P.keyType k=true)
   (h4:(match P.underlying k with|some (.struct _) =>true|_=>false) =true):s9 P k sh:=by
 have hw:(match P.underlying k with|some (.array _ _)|some (.struct _) =>true|_=>false) =true:=by
  split at h4
  . rename_i fs hu;rw[hu]
  . cases h4
 refine⟨deep_law hm hk ht hw,fun x hx ho=>?_⟩;have ha:oc P k=true:=by
  unfold oc;split at h4
  . rename_i fs hu;rw[hu]
  . cases h4
 rw[ha] at hx;rcases tg hx with ⟨cs,rfl,_,hf⟩|⟨_,h0,_⟩
 . obtain⟨q1,q2⟩:=zv _ k sh h1;have hv:=H7 (st:=fun _ _=>none) (g:=fun _=>⟨none,none,0,0,0⟩) (n:=0) hf ho;have k1:=q2 _ _ _ cs _ hf hv;have fm:(dB (.agg cs)).formed P k=true:=by
    have hl:cs.length=P.cellsOf k:=by rw[<-kV hf];exact q1
    split at h4
    . rename_i fs hu;simp[dB,Value.formed,hu,hl]
    . cases h4
   have hc:(dB (.agg cs)).cells.toList=cs.map ji:=by simp[dB,Value.cells]
   refine⟨.string (keyBytes (cs.map jc)),?_⟩;unfold keyOf;split at h4
   . rename_i fs hu;rw[hu];simp only[hkt,fm,Bool.and_self,if_true,hc,k1];rfl
   . cases h4
 . cases h0
end Go.VG
namespace Go.VG
open Go

section
variable {C:Ctx} {E:Env} {st:St} {g:aw} {s:AS} {a:Act} {w:World} {o:Oper} {e:Ef}

theorem pN{n m:Nat} (h:n<=maxLen):VR st g (.int .i64 (n:Int)) m (goInt n):=by
 refine gN ⟨?_,?_⟩
 . simp[IntKind.min,IntKind.signed,IntKind.bits]
 . rw[IntKind.max_i64];unfold maxLen at h;omega

theorem Xp{t t2 e:TypeId} {x y:Operand} {i:Nat} {l:List V} {sz:Nat} {ys:List V} {rd:List Nat} {args:Array Operand} (R:Rel E st g s a w) (hg:aV C.gl st) (G:Good C) (hargs:args.toList=[x,y])
   (ho:o.op=.call {callee:=.builtin .copy,args:=args,argTypes:=#[t,t2]}) (hk:(C.ti t).k=.slice e) (hk2:(C.ti e).k≠.other) (hx0:s.ev C x=.buf i) (hs:aH s.sg i=.buf (C.ti e).size 0 l)
   (hy:oX E st g w (a.eval y) sz ys) (hsz:ju sz (C.ti e).size ys=true):
   aD C E st g s a w o ⟨.int .i64 (min ys.length l.length:Nat),[],[(i,.buf (C.ti e).size 0 (ys.take l.length++l.drop ys.length))],[],i::rd⟩:=by
 have hx:=bn (C:=C) R hg x;rw[hx0] at hx;simp only[VR] at hx;obtain⟨hil,hx⟩:=hx;obtain⟨hs1,_⟩:=eU hs (by simp);obtain⟨q1,q2,q3,q4,q5,q6,q7⟩:=R.wr.ob i _ hs1;have ht:C.P.underlying t=some (.slice e):=by
  have h3:=((G.ti t).of (by rw[hk];simp)).1;rw[hk] at h3;exact h3
 obtain⟨cs,c1,c2,c3,c4⟩:=hy.cells hsz q1;have hargs':args=#[x,y]:=by cases args;simp_all
 subst hargs';have hn:min ys.length l.length<=ys.length:=Nat.min_le_left _ _;have hn2:min ys.length l.length<=l.length:=Nat.min_le_right _ _;have hnm:min ys.length l.length<=maxLen:=Nat.le_trans hn2 q4;have hl1:(ys.take l.length++l.drop ys.length).length=l.length:=by simp;omega
 have hc:=(c4 C.P w rfl).1;have hc2:=(c4 C.P w rfl).2 _ hn;have hmin:Nat.min ys.length l.length=min ys.length l.length:=rfl;generalize hN:min ys.length l.length=N at*;have hV:VR st (br g i (g i)) (.int .i64 (N:Nat)) s.sg.length (goInt N):=pN hnm;rcases q7 with ⟨q7,q8⟩|⟨b',c,el,fr,k1,k2,k3,k4,k5,k6,k7,k8⟩
 . have hl0:l=[]:=d5 (by omega);subst hl0;have hN0:N=0:=by simp only[List.length_nil] at hn2;omega
   subst hN0;have hr:(Builtin.copy_ #[t,t2] o.type #[a.eval x,a.eval y]).run C.P w=.ok (goInt 0) w:=by
    unfold Builtin.copy_;simp only[List.getElem?_toArray,List.getElem?_cons_zero,List.getElem?_cons_succ,run_underlying ht,Sem.run_bind,Sem.run_pure,Result.andThen_ok,hx,hc,q5,fY w (G.ti e) hk2,hmin,hc2];cases(g i).base<;>simp only[Nat.zero_mul,List.take_zero]<;>rfl
   refine aD.iM R hil _ w (g i) (.inl (by simp only[execOp,ho,resolve,invoke,builtin];simp[hr])) ⟨rfl,rfl,rfl,co _,fun _ _ _=>rfl,fun b hb=>(R.wr.cF hil hb).2,fun _ _ _ h=>h,fun _ _ _ h=>.inl h,fun b o v _ h=>R.wr.stw _ _ _ h⟩
    (.inl rfl) (fun b hb=>.inl hb) ?_ hV
   exact⟨q1,q2,by simp,by simp,by simpa using q5,by simp,.inl ⟨q7,q8⟩⟩
 . have hin:N*(C.ti e).size<=l.length*(C.ti e).size:=gA _ hn2;have hin2:l.length*(C.ti e).size<=c.size:=by rw[k5];exact gA _ q6
   have hin3:N*(C.ti e).size<=cs.length:=by rw[c1];exact gA _ hn
   have htl:(cs.take (N*(C.ti e).size)).length=N*(C.ti e).size:=by simp;omega
   have hlen:cs.take (N*(C.ti e).size) =[]\/0+(cs.take (N*(C.ti e).size)).length<=c.toList.length:=by right;rw[htl];simp;omega
   have hst:=uc (P:=C.P) (b:=b') (o:=0) (cs.take (N*(C.ti e).size)) 0 c w k4 k7 (by simpa using hlen) (fun v hv=>c2 v (List.mem_of_mem_take hv));rw[Nat.add_zero] at hst;have hcell:=tU (xs:=c.toList) (ys:=cs.take (N*(C.ti e).size)) (o:=0) hlen;have hr:(Builtin.copy_ #[t,t2] o.type #[a.eval x,a.eval y]).run C.P w=.ok (goInt N) (c9 w b' (.cells (over c.toList 0 (cs.take (N*(C.ti e).size))).toArray el fr)):=by
    unfold Builtin.copy_;simp only[List.getElem?_toArray,List.getElem?_cons_zero,List.getElem?_cons_succ,run_underlying ht,Sem.run_bind,Sem.run_pure,Result.andThen_ok,hx,hc,q5,fY w (G.ti e) hk2,hmin,hc2,k2,hst]
   have hug:br g i (g i) =g:=by funext j;by_cases e:j=i<;>simp[br,e]
   refine aD.iM R hil _ _ (g i) (.inl (by simp only[execOp,ho,resolve,invoke,builtin];simp[hr];rfl)) (dm.c9 k3 _ (fun b''=>by rw[k1];simp[eq_comm]) (fun k v hv=>?_))
    (.inl rfl) (fun b hb=>.inl hb) ?_ hV
   . have h9:=k8 k v hv;omega
   . rw[hug];refine⟨q1,q2,by simp,by rw[hl1];exact q4,by rw[hl1];exact q5,by rw[hl1];exact q6,.inr ⟨b',_,el,fr,k1,k2,k3,l8 k4,?_,?_,?_,k8⟩⟩
     . simp only[List.size_toArray,lI hlen,Array.length_toList];exact k5
     . have hrow1:=c3 (fun k=>cs[k]?) 0 (fun k u hu=>by rw[Nat.zero_add];exact hu);rw[gO] at hrow1 k6⊢;intro j z hz;have hmul:j<N->j*(C.ti e).size+(C.ti e).size<=N*(C.ti e).size:=fun h=>by
        have:=gA (C.ti e).size (show j+1<=N by omega);rw[Nat.add_mul,Nat.one_mul] at this;exact this
       rcases eg j N with hj|hj
       . rw[d6 (by simp;omega),List.getElem?_take,if_pos (by omega)] at hz;obtain⟨u,u1,u2,u3,u4⟩:=hrow1 j z hz;refine⟨u,u1,u2,u3,fun k hk=>?_⟩;have:=hmul hj;rw[List.getElem?_toArray,hcell,if_pos (by rw[htl];omega),List.getElem?_take,if_pos (by omega),<-u4 k hk]
         congr 1
       . have hz':l[j]?=some z:=by
           rw[d7 (by simp;omega),List.getElem?_drop] at hz;rcases eg l.length ys.length with hll|hll
           . rw[dl (by omega)] at hz;cases hz
           . rw[<-hz,eo];congr 1;omega
         obtain⟨u,u1,u2,u3,u4⟩:=k6 j z hz';refine⟨u,u1,u2,u3,fun k hk=>?_⟩;have:N*(C.ti e).size<=j*(C.ti e).size:=gA _ hj;have h5:=u4 k hk;rw[List.getElem?_toArray,hcell,if_neg (by rw[htl];omega),<-h5];simp
     . refine⟨k7.1,fun k hk=>?_⟩;refine k7.2 k ?_;simp only[List.size_toArray,lI hlen,Array.length_toList] at hk;exact hk

theorem Xq{t t2 e:TypeId} {x y:Operand} {i off n:Nat} {cs cs':List V} {sz:Nat} {ys:List V} {rd:List Nat} {args:Array Operand} (R:Rel E st g s a w) (hg:aV C.gl st) (G:Good C) (hargs:args.toList=[x,y])
   (ho:o.op=.call {callee:=.builtin .copy,args:=args,argTypes:=#[t,t2]}) (hk:(C.ti t).k=.slice e) (hk2:(C.ti e).k≠.other) (hx0:s.ev C x=.view i off n) (hs:aH s.sg i=.cells cs) (he1:(C.ti e).size=1)
   (hy:oX E st g w (a.eval y) sz ys) (hsz:ju sz 1 ys=true) (hone:ew ys=true) (hset:jr cs off (ys.take n) =some cs'):
   aD C E st g s a w o ⟨.int .i64 (min ys.length n:Nat),[],[(i,.cells cs')],[],i::rd⟩:=by
 have hx:=bn (C:=C) R hg x;rw[hx0] at hx;simp only[VR] at hx;obtain⟨hil,b,hb,of,cap,hof,hx⟩:=hx;obtain⟨hs1,_⟩:=eU hs (by simp);obtain⟨b',c,el,fr,k1,k2,k3,k4,k5,k6⟩:=xL R.wr hs1;rw[hb] at k1;cases k1;obtain⟨of,hx,hofN⟩:∃o',a.eval x=.slice (some ⟨b,o',none⟩) n cap/\(min ys.length n=0\/o'=off):=⟨of,hx,hof.imp (fun h=>by rw[h,Nat.min_zero]) id⟩
 have ht:C.P.underlying t=some (.slice e):=by
  have h3:=((G.ti t).of (by rw[hk];simp)).1;rw[hk] at h3;exact h3
 obtain⟨us,c1,c2,c3,c4⟩:=hy.cells hsz (Nat.lt_succ_self 0);rw[Nat.mul_one] at c1;have hargs':args=#[x,y]:=by cases args;simp_all
 subst hargs';have hn:min ys.length n<=ys.length:=Nat.min_le_left _ _;have hc:=(c4 C.P w rfl).1;have hc2:=(c4 C.P w rfl).2 _ hn;have hmin:Nat.min ys.length n=min ys.length n:=rfl;have hyl:ys.length<=maxLen:=hy.max;have hnm:min ys.length n<=maxLen:=Nat.le_trans hn hyl;obtain⟨r1,r2⟩:=ue hset;subst r1;have htk:ys.take n=ys.take (min ys.length n):=by
  rw[Nat.min_comm,<-List.take_take,List.take_length]
 rw[htk] at r2⊢;generalize hN:min ys.length n=N at*;have hV:VR st (br g i (g i)) (.int .i64 (N:Nat)) s.sg.length (goInt N):=pN hnm;have hcl:=eJ k4;have htl:(us.take N).length=N:=by simp;omega
 have htl2:(ys.take N).length=N:=by simp;omega
 have hus0:N=0->us.take N=[]:=fun h=>d5 (by rw[htl,h]);have hlen:us.take N=[]\/off+(us.take N).length<=c.size:=by
  rcases r2 with r2|r2
  . left;apply d5;rw[htl,<-htl2,r2];rfl
  . right;rw[htl];rw[htl2] at r2;simp only[Array.length_toList] at hcl;omega
 have hlen':us.take N=[]\/of+(us.take N).length<=c.size:=by
  rcases hofN with h|h
  . exact .inl (hus0 h)
  . rw[h];exact hlen
 have hov:over c.toList of (us.take N) =over c.toList off (us.take N):=by
  rcases hofN with h|h
  . rw[hus0 h];simp[over]
  . rw[h]
 have hst:=uc (P:=C.P) (b:=b) (o:=of) (us.take N) 0 c w k3 k5 (by simpa using hlen') (fun v hv=>c2 v (List.mem_of_mem_take hv));rw[Nat.add_zero,hov] at hst;have hr:(Builtin.copy_ #[t,t2] o.type #[a.eval x,a.eval y]).run C.P w=.ok (goInt N) (c9 w b (.cells (over c.toList off (us.take N)).toArray el fr)):=by
  unfold Builtin.copy_;simp only[Nat.mul_one] at hc2;simp only[List.getElem?_toArray,List.getElem?_cons_zero,List.getElem?_cons_succ,run_underlying ht,Sem.run_bind,Sem.run_pure,Result.andThen_ok,hx,hc,fY w (G.ti e) hk2,he1,hmin,hN,Nat.mul_one,hc2,hst]
 have hug:∀j,br g i (g i) j=g j:=fun j=>by by_cases e:j=i<;>simp[br,e]
 have hrow:=c3 (fun k=>us[k]?) 0 (fun k u hu=>by rw[Nat.zero_add];exact hu);rw[gO] at hrow;have hus:aE st g (ys.take N) s.sg.length (us.take N):=by
  refine jB.2 ⟨by rw[htl,htl2],fun j z v hz hv=>?_⟩;rw[List.getElem?_take] at hz hv;split at hz
  . rename_i hj;rw[if_pos hj] at hv;obtain⟨u,u1,u2,u3,u4⟩:=hrow j z hz;have h1:=D6 hone hz;have h2:=za u1 h1;have h4:=u4 0 (by omega);simp only[Nat.mul_one,Nat.zero_add,Nat.add_zero] at h4;rw[hv] at h4;have hcu:u.cells=#[u]:=by cases u<;>first|rfl|(simp[Value.oneCell'] at h2)
    rw[hcu] at h4;have:v=u:=by simpa using h4
    subst this;exact gw (fun _ _ _ h=>h) (fun j _ hj=>absurd hj (Nat.not_lt_zero _)) u1
  . cases hz
 refine aD.iM R hil _ _ (g i) (.inl (by simp only[execOp,ho,resolve,invoke,builtin];simp[hr];rfl))
  (dm.c9 k2 _ (fun b'=>by rw[hb];simp[eq_comm]) (fun k v hv=>by rw[k6 k] at hv;cases hv)) (.inl rfl) (fun b hb=>.inl hb) ?_ hV
 refine⟨b,_,el,fr,hb,k2,l8 k3,?_,?_,k6⟩
 . exact kE (fun _ _ _ h=>h) (fun j _ hj=>⟨hj,hug j⟩) (xA k4 hus)
 . refine⟨k5.1,fun k hk=>?_⟩;refine k5.2 k ?_;have:=lI (xs:=c.toList) (ys:=us.take N) (o:=off) (by rw[Array.length_toList];exact hlen);simp only[List.size_toArray,this,Array.length_toList] at hk;exact hk
theorem Xr{t t2 e:TypeId} {x y:Operand} {i off n k:Nat} {l:List V} {sz:Nat} {ys:List V} {rd:List Nat} {args:Array Operand} (R:Rel E st g s a w) (hg:aV C.gl st) (G:Good C) (hargs:args.toList=[x,y])
   (ho:o.op=.call {callee:=.builtin .copy,args:=args,argTypes:=#[t,t2]}) (hk:(C.ti t).k=.slice e) (hk2:(C.ti e).k≠.other) (hx0:s.ev C x=.view i off n) (hs:aH s.sg i=.buf (C.ti e).size 0 l)
   (hy:oX E st g w (a.eval y) sz ys) (hsz:ju sz (C.ti e).size ys=true) (hoff:off=k*(C.ti e).size) (hkn:k+n=l.length):
   aD C E st g s a w o ⟨.int .i64 (min ys.length n:Nat),[],[(i,.buf (C.ti e).size 0 (l.take k++(ys.take n++l.drop (k+ys.length))))],[],i::rd⟩:=by
 have hx:=bn (C:=C) R hg x;rw[hx0] at hx;simp only[VR] at hx;obtain⟨hil,b',hb,of,cap,hof,hx⟩:=hx;obtain⟨hs1,_⟩:=eU hs (by simp);obtain⟨q1,q2,q3,q4,q5,q6,q7⟩:=R.wr.ob i _ hs1;have ht:C.P.underlying t=some (.slice e):=by
  have h3:=((G.ti t).of (by rw[hk];simp)).1;rw[hk] at h3;exact h3
 obtain⟨cs,c1,c2,c3,c4⟩:=hy.cells hsz q1;have hargs':args=#[x,y]:=by cases args;simp_all
 subst hargs';have hn:min ys.length n<=ys.length:=Nat.min_le_left _ _;have hn2:min ys.length n<=n:=Nat.min_le_right _ _;have hnm:min ys.length n<=maxLen:=by omega
 have htk:ys.take n=ys.take (min ys.length n):=by
  rw[Nat.min_comm,<-List.take_take,List.take_length]
 have hdr:l.drop (k+ys.length) =l.drop (k+min ys.length n):=by
  rcases Nat.le_total ys.length n with h|h
  . rw[Nat.min_eq_left h]
  . rw[Nat.min_eq_right h,List.drop_eq_nil_of_le (by omega),List.drop_eq_nil_of_le (by omega)]
 rw[htk,hdr];have hN0:min ys.length n=0\/of=k*(C.ti e).size:=by
  rcases hof with h|h
  . left;rw[h,Nat.min_zero]
  . right;rw[h,hoff]
 have hc:=(c4 C.P w rfl).1;have hc2:=(c4 C.P w rfl).2 _ hn;have hmin:Nat.min ys.length n=min ys.length n:=rfl;generalize hN:min ys.length n=N at*;have hV:VR st (br g i (g i)) (.int .i64 (N:Nat)) s.sg.length (goInt N):=pN hnm;have hl1:(l.take k++(ys.take N++l.drop (k+N))).length=l.length:=by simp;omega
 rcases q7 with ⟨_,q8⟩|⟨b,c,el,fr,k1,k2,k3,k4,k5,k6,k7,k8⟩
 . rw[hb] at q8;cases q8
 rw[hb] at k1;cases k1;have hin:(k+N)*(C.ti e).size<=l.length*(C.ti e).size:=gA _ (by omega);rw[Nat.add_mul] at hin;have hin2:l.length*(C.ti e).size<=c.size:=by rw[k5];exact gA _ q6
 have hin3:N*(C.ti e).size<=cs.length:=by rw[c1];exact gA _ hn
 have htl:(cs.take (N*(C.ti e).size)).length=N*(C.ti e).size:=by simp;omega
 have hz:N=0->cs.take (N*(C.ti e).size) =[]:=fun h=>by rw[h,Nat.zero_mul];rfl
 have hlen:cs.take (N*(C.ti e).size) =[]\/of+(cs.take (N*(C.ti e).size)).length<=c.toList.length:=by
  rcases hN0 with h|h
  . exact .inl (hz h)
  . right;rw[htl,h];simp;omega
 have hst:=uc (P:=C.P) (b:=b') (o:=of) (cs.take (N*(C.ti e).size)) 0 c w k4 k7 (by simpa using hlen) (fun v hv=>c2 v (List.mem_of_mem_take hv));rw[Nat.add_zero] at hst;have hcell:=tU (xs:=c.toList) (ys:=cs.take (N*(C.ti e).size)) (o:=of) hlen;have hr:(Builtin.copy_ #[t,t2] o.type #[a.eval x,a.eval y]).run C.P w=.ok (goInt N) (c9 w b' (.cells (over c.toList of (cs.take (N*(C.ti e).size))).toArray el fr)):=by
  unfold Builtin.copy_;simp only[List.getElem?_toArray,List.getElem?_cons_zero,List.getElem?_cons_succ,run_underlying ht,Sem.run_bind,Sem.run_pure,Result.andThen_ok,hx,hc,fY w (G.ti e) hk2,hmin,hN,hc2,hst]
 have hug:br g i (g i) =g:=by funext j;by_cases e:j=i<;>simp[br,e]
 refine aD.iM R hil _ _ (g i) (.inl (by simp only[execOp,ho,resolve,invoke,builtin];simp[hr];rfl)) (dm.c9 k3 _ (fun b''=>by rw[hb];simp[eq_comm]) (fun k v hv=>?_))
  (.inl rfl) (fun b hb=>.inl hb) ?_ hV
 . have h9:=k8 k v hv;omega
 . rw[hug];refine⟨q1,q2,by simp,by rw[hl1];exact q4,by rw[hl1];exact q5,by rw[hl1];exact q6,.inr ⟨b',_,el,fr,hb,k2,k3,l8 k4,?_,?_,?_,k8⟩⟩
   . simp only[List.size_toArray,lI hlen,Array.length_toList];exact k5
   . have hrow1:=c3 (fun k=>cs[k]?) 0 (fun k u hu=>by rw[Nat.zero_add];exact hu);rw[gO] at hrow1 k6⊢;have hlk:(l.take k).length=k:=by simp;omega
     have hyN:(ys.take N).length=N:=by simp;omega
     intro j z hz';rcases eg j k with hj|hj
     . rw[d6 (by omega),List.getElem?_take,if_pos hj] at hz';obtain⟨u,u1,u2,u3,u4⟩:=k6 j z hz';refine⟨u,u1,u2,u3,fun q hq=>?_⟩;have hm:(j+1)*(C.ti e).size<=k*(C.ti e).size:=gA _ hj;rw[Nat.add_mul,Nat.one_mul] at hm;have h5:=u4 q hq;rw[List.getElem?_toArray,hcell,if_neg (by rw[htl];rcases hN0 with h|h<;>subst h<;>omega),<-h5];simp
     . rcases eg j (k+N) with hj2|hj2
       . have hof:of=k*(C.ti e).size:=hN0.resolve_left (by omega);rw[d7 (by omega),hlk,d6 (by omega),List.getElem?_take,if_pos (by omega)] at hz';obtain⟨u,u1,u2,u3,u4⟩:=hrow1 (j-k) z hz';refine⟨u,u1,u2,u3,fun q hq=>?_⟩;have hm:(j-k+1)*(C.ti e).size<=N*(C.ti e).size:=gA _ (by omega);rw[Nat.add_mul,Nat.one_mul] at hm;have hjk:j*(C.ti e).size=k*(C.ti e).size+(j-k)*(C.ti e).size:=by rw[<-Nat.add_mul];congr 1;omega
         rw[List.getElem?_toArray,hcell,if_pos (by rw[htl];omega),List.getElem?_take,if_pos (by omega),<-u4 q hq]
         congr 1
         omega
       . rw[d7 (by omega),hlk,d7 (by omega),hyN,List.getElem?_drop,show k+N+(j-k-N) =j by omega] at hz';obtain⟨u,u1,u2,u3,u4⟩:=k6 j z hz';refine⟨u,u1,u2,u3,fun q hq=>?_⟩;have hm:(k+N)*(C.ti e).size<=j*(C.ti e).size:=gA _ hj2;rw[Nat.add_mul] at hm;have h5:=u4 q hq;rw[List.getElem?_toArray,hcell,if_neg (by rw[htl];rcases hN0 with h|h<;>subst h<;>omega),<-h5];simp
   . refine⟨k7.1,fun q hq=>?_⟩;refine k7.2 q ?_;simp only[List.size_toArray,lI hlen,Array.length_toList] at hq;exact hq
theorem vA{x y:V} {l:List Operand} (h:s.aG C l=[x,y]):∃p q,l=[p,q]/\x=s.ev C p/\y=s.ev C q:=by
 match l,h with
 |[p,q],h=>simp only[AS.aG,List.cons.injEq,and_true] at h;exact⟨p,q,rfl,h.1.symm,h.2.symm⟩
 |[],h=>simp[AS.aG] at h
 |[_],h=>simp[AS.aG] at h
 |_::_::_::_,h=>simp[AS.aG] at h
theorem Pg{x:V} {l:List Operand} (h:s.aG C l=[x]):∃p,l=[p]/\x=s.ev C p:=by
 match l,h with
 |[p],h=>simp only[AS.aG,List.cons.injEq,and_true] at h;exact⟨p,rfl,h.symm⟩
 |[],h=>simp[AS.aG] at h
 |_::_::_,h=>simp[AS.aG] at h

theorem Xm{b:Builtin} {args:Array Operand} {ts:Array TypeId} (R:Rel E st g s a w) (hg:aV C.gl st) (G:Good C) (ho:o.op=.call {callee:=.builtin b,args:=args,argTypes:=ts}):
   cz C E st g s a w o (mH C s b ts.toList (s.aG C args.toList)):=by
 generalize hts:ts.toList=tl;generalize hxs:s.aG C args.toList=xs;have hts':ts=tl.toArray:=by rw[<-hts]
 subst hts';have hbi:∀v:Value,(builtin b tl.toArray o.type (args.map fun|.const _=>true|_=>false) (args.toList.map a.eval).toArray).run C.P w=.ok (.value v) w->(execOp a.eval o).run C.P w=.ok (.value v) w:=fun v h=>by
  have he:args.map a.eval=(args.toList.map a.eval).toArray:=by cases args;simp
  simp only[execOp,ho,resolve,invoke,Sem.run_bind,Sem.run_pure,Result.andThen_ok,he];exact h
 unfold mH;split
 . --len
   rename_i t x;obtain⟨p,hp,rfl⟩:=Pg hxs;have hx:=bn (C:=C) R hg p;rw[hp] at hbi;split
   . rename_i n e hk;have h3:=((G.ti t).of (by rw[hk];simp)).1;rw[hk] at h3;refine aa.when fun hn=>aa.ret (aD.pure R (goInt n) w (hbi _ ?_) (aY.refl w) (pN (Nat.le_trans (d9 hn) w9)));simp[builtin,Builtin.len_,run_underlying h3]
   . rename_i hk;have h3:=((G.ti t).of (by rw[hk];simp)).1;rw[hk] at h3;split
     . rename_i p' he;rw[he] at hx;simp only[VR] at hx;refine aa.ret (aD.pure R (goInt p'.length) w (hbi _ ?_) (aY.refl w) (pN hx.2));have hpsz:(⟨p'.toArray⟩:ByteArray).size=p'.length:=by show p'.toArray.size=_;simp
       simp[builtin,Builtin.len_,run_underlying h3,hx.1,hpsz]
     . exact aa.fail
   . rename_i e hk;have h3:=((G.ti t).of (by rw[hk];simp)).1;rw[hk] at h3;split
     . rename_i c z l he;rw[he] at hx;simp only[VR] at hx;obtain⟨base,cap,hx,h1,h2,_⟩:=hx;refine aa.ret (aD.pure R (goInt l.length) w (hbi _ ?_) (aY.refl w) (pN h2));simp[builtin,Builtin.len_,run_underlying h3,hx]
     . rename_i i he;rw[he] at hx;simp only[VR] at hx;split
       . rename_i sz pre l hs;obtain⟨hs1,_⟩:=eU hs (by simp);obtain⟨q1,q2,q3,q4,q5,q6,q7⟩:=R.wr.ob i _ hs1;refine aa.ret (aD.pure R (goInt l.length) w (hbi _ ?_) (aY.refl w) (pN q4));simp[builtin,Builtin.len_,run_underlying h3,hx,q5]
       . exact aa.fail
     . exact aa.fail
   . exact aa.fail
 . --append
   rename_i t t2 x y;obtain⟨p,q,hp,rfl,rfl⟩:=vA hxs;split
   . exact aa.fail
   . exact aa.fail
   . rename_i e hk hk2 hk3;split
     . exact aa.fail
     . rename_i hk4;refine aa.when fun hw=>?_;simp only[aA,Bool.not_eq_true'] at hw;obtain⟨⟨⟨hw1,hw2⟩,hw3⟩,hw4⟩:=hw;refine aa.bind (kR _ _) fun r hr=>?_;have hr:=vh (C:=C) (x:=q) R hg r (hr _ rfl);obtain⟨sz,ys,rd⟩:=r;refine aa.when fun hsz=>?_;have h3:=((G.ti t).of (by rw[hk];simp)).1;rw[hk] at h3;exact Xh R hg G hp ho h3 (VB G (fun k h=>hk2 k h) (fun h=>hk3 h)) (fun h=>hk4 h) (d9 hw1) (d9 hw2) hr.1 hsz hw3 (cb hw4)
   . exact aa.fail
 . --copy
   rename_i t t2 x y;obtain⟨p,q,hp,rfl,rfl⟩:=vA hxs;split
   . rename_i e i hk he;split
     . exact aa.fail
     . rename_i hk4;split
       . rename_i sz0 l hs;refine aa.bind (kR _ _) fun r hr=>?_;have hr:=vh (C:=C) (x:=q) R hg r (hr _ rfl);obtain⟨sz,ys,rd⟩:=r;refine aa.when fun hw=>aa.ret ?_;simp only[aA] at hw;have h1:=cb hw.1.2;subst h1;exact Xp R hg G hp ho hk (fun h=>hk4 h) he hs hr.1 hw.1.1
       . exact aa.fail
   . rename_i e i off n hk he;split
     . exact aa.fail
     . rename_i hk4;split
       . rename_i cs hs;refine aa.bind (kR _ _) fun r hr=>?_;have hr:=vh (C:=C) (x:=q) R hg r (hr _ rfl);obtain⟨sz,ys,rd⟩:=r;refine aa.when fun hw=>aa.opt fun cs' hcs=>aa.ret ?_;simp only[aA] at hw;exact Xq R hg G hp ho hk (fun h=>hk4 h) he hs (cb hw.1.1.2) hr.1 hw.1.1.1 hw.2 hcs
       . rename_i sz0 l hs;refine aa.bind (kR _ _) fun r hr=>?_;have hr:=vh (C:=C) (x:=q) R hg r (hr _ rfl);obtain⟨sz,ys,rd⟩:=r;refine aa.when fun hw=>aa.ex fun k=>aa.aR fun hkk=>aa.ret ?_;simp only[aA] at hw;have h1:=cb hw.1.2;subst h1;exact Xr R hg G hp ho hk (fun h=>hk4 h) he hs hr.1 hw.1.1 hkk.1 hkk.2
       . exact aa.fail
   . exact aa.fail
 . --delete
   rename_i t tl' m x;obtain⟨p,q,hp,rfl,rfl⟩:=vA hxs;rw[hp] at hbi;refine OM (ats:=(t::tl').toArray) (ty:=o.type) R G (bn (C:=C) R hg p) (bn (C:=C) R hg q) (by simp) fun w' hw'=>?_;have:=ho;simp only[execOp,ho,resolve,invoke,Sem.run_bind,Sem.run_pure,Result.andThen_ok];have he:args.map a.eval=#[a.eval p,a.eval q]:=by
    have:args=#[p,q]:=by apply Array.ext';simpa using hp
    rw[this];simp
   rw[he];simp only[builtin,Sem.run_bind,hw',Result.andThen_ok];rfl
 . rename_i k x k' y;obtain⟨p,q,hp,hx,hy⟩:=vA hxs;have h1:=bn (C:=C) R hg p;have h2:=bn (C:=C) R hg q;rw[<-hx] at h1;rw[<-hy] at h2;simp only[VR] at h1 h2;refine aa.when fun hk=>aa.ret ?_;have hk:=CC.1 hk;subst hk;rw[hp] at hbi;refine aD.pure R (.int k (if y>x then y else x)) w (hbi _ ?_) (aY.refl w) (gN (by split<;>simp[h1,h2]));simp[builtin,Builtin.max_,Builtin.max2,h1.1,h2.1]
 . rename_i k x k' y;obtain⟨p,q,hp,hx,hy⟩:=vA hxs;have h1:=bn (C:=C) R hg p;have h2:=bn (C:=C) R hg q;rw[<-hx] at h1;rw[<-hy] at h2;simp only[VR] at h1 h2;refine aa.when fun hk=>aa.ret ?_;have hk:=CC.1 hk;subst hk;rw[hp] at hbi;refine aD.pure R (.int k (if y<x then y else x)) w (hbi _ ?_) (aY.refl w) (gN (by split<;>simp[h1,h2]));simp[builtin,Builtin.min_,Builtin.min2,h1.1,h2.1]
 . exact aa.fail

theorem Xz{t:TypeId} {x:Operand} (R:Rel E st g s a w) (hg:aV C.gl st) (G:Good C) (ho:o.op=.range t x):cz C E st g s a w o (qI C s t x):=by
 unfold qI;have hx:=bn (C:=C) R hg x;split
 . rename_i p hk he;rw[he] at hx;simp only[VR] at hx;have h3:=((G.ti t).of (by rw[hk];simp)).1;rw[hk] at h3;rw[dN];refine aa.ret ?_;refine aD.new R (.pointer (some ⟨w.heap.size,0,none⟩)) w (aY.refl w) ⟨some w.heap.size,none,0,0,0⟩ (.stringIter ⟨p.toArray⟩ 0) ?_ (by simp) ?_ ?_
   . simp only[execOp,ho,hx.1];rw[Sem.run_bind,run_range_string w t _ h3];rfl
   . exact⟨hx.2,w.heap.size,rfl,R.wr.gnew _ R.wr.size,heap_alloc_new⟩
   . simp only[VR,dP];exact⟨by omega,w.heap.size,rfl,rfl⟩
 . exact XA R hg G ho
 . exact aa.fail

theorem XK{x:Operand} {b:Bool} (R:Rel E st g s a w) (hg:aV C.gl st) (ho:o.op=.next x b):cz C E st g s a w o (sY C s x b):=by
 unfold sY;have hx:=bn (C:=C) R hg x;split
 . rename_i i he;rw[he] at hx;simp only[VR] at hx;obtain⟨hil,b,hb,hx⟩:=hx;split
   . rename_i p pos hs;obtain⟨hs1,_⟩:=eU hs (by simp);obtain⟨q1,b',q2,q3,q4⟩:=R.wr.ob i _ hs1;rw[hb] at q2;cases q2;have hpsz:(⟨p.toArray⟩:ByteArray).size=p.length:=by show p.toArray.size=_;simp
     refine aa.dS (fun hlt=>?_) (fun hge=>?_)
     . have hlt:pos<p.length:=by simpa using hlt
       refine aa.opt fun c hc=>aa.aR fun ha=>aa.ret ?_;have hcv:p[pos]=c:=by rw[am hlt] at hc;simpa using hc
       have hlt':pos<(⟨p.toArray⟩:ByteArray).size:=by rw[hpsz];exact hlt
       have hget:(⟨p.toArray⟩:ByteArray)[pos]'hlt'=c:=by rw[<-hcv];rfl
       have hdec:=decode_ascii ⟨p.toArray⟩ pos hlt' (by rw[hget];exact ha);rw[hget] at hdec;have hug:br g i (g i) =g:=by funext j;by_cases e:j=i<;>simp[br,e]
       refine aD.iM R hil (.tuple #[.bool true,goInt pos,.int .i32 c.toNat]) (c9 w b (.stringIter ⟨p.toArray⟩ (pos+1))) (g i) (.inl ?_)
        (dm.c9 q3 _ (fun b''=>by rw[hb];simp[eq_comm]) (fun k v hv=>?_)) (.inl rfl) (fun b hb=>.inl hb) ?_ ?_
       . simp only[execOp,ho,hx,Instr.next,getObj,setObj,Sem.run_bind,Sem.run,q4,Result.andThen,hlt',if_true,hdec];rfl
       . have:=R.wr.stw _ _ _ hv;simp only[World.cell?,q4] at this;cases this
       . exact⟨q1,b,hb,q3,l8 q4⟩
       . simp only[VR];refine⟨_,rfl,cu (by simp[VR]) (cu (pN (n:=pos) (by omega)) (cu ?_ dD))⟩;have:=Bi c;refine gN ⟨?_,?_⟩<;>simp[IntKind.min,IntKind.max,IntKind.signed,IntKind.bits]<;>omega
     . have hge:¬pos<(⟨p.toArray⟩:ByteArray).size:=by rw[hpsz];simpa using hge
       refine aa.ret (aD.pure R (.tuple #[.bool false]) w ?_ (aY.refl w) ?_)
       . simp only[execOp,ho,hx,Instr.next,getObj,setObj,Sem.run_bind,Sem.run,q4,Result.andThen,hge,if_false];rfl
       . simp only[VR];exact⟨_,rfl,cu (by simp[VR]) dD⟩
   . exact aa.fail
 . exact aa.fail
end
end Go.VG
set_option linter.unusedSimpArgs false
set_option linter.unusedVariables false
namespace Go.VG
open Go

theorem mQ{i:Nat}:∀{l:List Nat},aQ i l=true↔i∈l
 |[]=>by simp[aQ]
 |k::ks=>by
   simp only[aQ,Bool.or_eq_true,List.mem_cons,mQ (l:=ks)];constructor
   . rintro(h|h)
     . exact .inl (cb h)
     . exact .inr h
   . rintro(h|h)
     . subst h;exact .inl (Nat.beq_refl _)
     . exact .inr h
theorem rv{i:Nat} {l:List Nat}:aQ i l=false↔i∉l:=by
 rw[<-mQ];cases aQ i l<;>simp

theorem qZ{i:Nat}:∀{l:List Nat} {n j:Nat},idxOf i l n=some j->n<=j/\l[j-n]?=some i
 |[],_,_,h=>by simp[idxOf] at h
 |k::ks,n,j,h=>by
   simp only[idxOf] at h;cases hk:Nat.beq k i with
   |true=>
     rw[hk] at h;have:=cb hk;simp only[cond_true,Option.some.injEq] at h;subst h;subst this;simp
   |false=>
     rw[hk] at h;obtain⟨h1,h2⟩:=qZ (l:=ks) (n:=n+1) (j:=j) h;refine⟨by omega,?_⟩;rw[show j-n=(j-(n+1))+1 by omega];simpa using h2
theorem Jn{i:Nat}:∀{l:List Nat} {n:Nat},idxOf i l n=none->i∉l
 |[],_,_=>by simp
 |k::ks,n,h=>by
   simp only[idxOf] at h;cases hk:Nat.beq k i with
   |true=>rw[hk] at h;simp at h
   |false=>
     rw[hk] at h;have h1:=Jn (l:=ks) (n:=n+1) h;simp only[List.mem_cons,not_or];refine⟨fun e=>?_,h1⟩;subst e;rw[show Nat.beq i i=true from Nat.beq_refl i] at hk;cases hk
theorem D2:∀{l:List Nat},jK l=true->∀{i j x:Nat},l[i]?=some x->l[j]?=some x->i=j
 |[],_,i,_,_,h,_=>by simp at h
 |k::ks,hn,i,j,x,h1,h2=>by
   simp only[jK] at hn;cases hm:aQ k ks with
   |true=>rw[hm] at hn;simp at hn
   |false=>
     rw[hm] at hn;have hn:jK ks=true:=hn;have hk:=rv.1 hm;cases i with
     |zero=>cases j with
       |zero=>rfl
       |succ j=>simp at h1 h2;subst h1;exact absurd (List.mem_of_getElem? h2) hk
     |succ i=>cases j with
       |zero=>simp at h1 h2;subst h2;exact absurd (List.mem_of_getElem? h1) hk
       |succ j=>simp at h1 h2;rw[D2 hn h1 h2]
theorem Ck{l:List Nat} (hn:jK l=true) {j i:Nat} (h:l[j]?=some i):idxOf i l 0=some j:=by
 cases hi:idxOf i l 0 with
 |none=>exact absurd (List.mem_of_getElem? h) (Jn hi)
 |some k=>
   obtain⟨_,h2⟩:=qZ hi;rw[D2 hn h h2];simp

theorem sl{n k:Nat}:∀{l:List Nat} {j:Nat},j<l.length->dE l n k j=l[j]?
 |[],j,h=>by simp at h
 |i::th,0,_=>by simp[dE]
 |i::th,j+1,h=>by simp only[dE];rw[sl (by simpa using h)];simp
theorem Hh{n k:Nat}:∀{l:List Nat} {j i:Nat},l.length<=j->dE l n k j=some i->i=n+(j-l.length)/\j-l.length<k
 |[],j,i,_,h=>by
   simp only[dE] at h;cases hb:Nat.blt j k with
   |true=>rw[hb] at h;simp only[cond_true,Option.some.injEq] at h;exact⟨by simp[h.symm],by have:=d9 hb;simp only[List.length_nil];omega⟩
   |false=>rw[hb] at h;cases h
 |_::th,0,_,hl,_=>by simp at hl
 |_::th,j+1,i,hl,h=>by
   simp only[dE] at h;have:=Hh (l:=th) (by simpa using hl) h;simpa using this

section
variable {st:St} {g g':aw}
mutual
theorem sf{f:Nat->Option Nat}:∀{x:V} {n n':Nat} {v:Value},(∀i j,f i=some j->i<n->j<n'/\g' j=g i)->VR st g x n v->VR st g' (x.bZ f) n' v
 |.undef,_,_,_,_,_=>by simp[VR,V.bZ]
 |.int ..,_,_,_,_,h|.bool _,_,_,_,_,h|.str _,_,_,_,_,h|.nilptr,_,_,_,_,h|.nilIface,_,_,_,_,h|.nilFunc,_,_,_,_,h|.nilmap,_,_,_,_,h=>by simpa[VR,V.bZ] using h
 |.agg cs,n,n',v,hn,h|.tuple cs,n,n',v,hn,h=>by
   simp only[VR,V.bZ] at h⊢;obtain⟨vs,rfl,h⟩:=h;exact⟨vs,rfl,qm hn h⟩
 |.list c sz l,n,n',v,hn,h=>gw (x:=.list c sz l) (fun _ _ _ h=>h) (fun i hi=>by simp[V.has] at hi) (by simpa only[V.bZ] using h)
 |.box cs off,n,n',v,hn,h=>gw (x:=.box cs off) (fun _ _ _ h=>h) (fun i hi=>by simp[V.has] at hi) (by simpa only[V.bZ] using h)
 |.ptr i o,n,n',v,hn,h=>by
   simp only[V.bZ];cases hf:f i with
   |none=>simp[VR]
   |some j=>
     simp only[VR] at h⊢;obtain⟨h1,h2⟩:=hn i j hf h.1;exact⟨h1,by rw[h2];exact h.2⟩
 |.bptr i a o,n,n',v,hn,h|.view i a o,n,n',v,hn,h=>by
   simp only[V.bZ];cases hf:f i with
   |none=>simp[VR]
   |some j=>
     simp only[VR] at h⊢;obtain⟨h1,h2⟩:=hn i j hf h.1;exact⟨h1,by rw[h2];exact h.2⟩
 |.buf i,n,n',v,hn,h=>by
   simp only[V.bZ];cases hf:f i with
   |none=>simp[VR]
   |some j=>
     simp only[VR] at h⊢;obtain⟨h1,h2⟩:=hn i j hf h.1;exact⟨h1,by rw[h2];exact h.2⟩
 |.map i,n,n',v,hn,h=>by
   simp only[V.bZ];cases hf:f i with
   |none=>simp[VR]
   |some j=>
     simp only[VR] at h⊢;obtain⟨h1,h2⟩:=hn i j hf h.1;exact⟨h1,by rw[h2];exact h.2⟩
 |.iface t x,n,n',v,hn,h=>by
   simp only[VR,V.bZ] at h⊢;obtain⟨u,rfl,h⟩:=h;exact⟨u,rfl,sf hn h⟩
 |.func fn fs cs,n,n',v,hn,h=>by
   simp only[VR,V.bZ] at h⊢;obtain⟨a,b,rfl,h1,h2⟩:=h;exact⟨a,b,rfl,qm hn h1,qm hn h2⟩
theorem qm{f:Nat->Option Nat}:∀{x:List V} {n n':Nat} {v:List Value},(∀i j,f i=some j->i<n->j<n'/\g' j=g i)->aE st g x n v->aE st g' (V.ku f x) n' v
 |[],_,_,_,_,h=>by simpa[aE,V.ku] using h
 |c::cs,n,n',v,hn,h=>by
   simp only[aE,V.ku] at h⊢;obtain⟨u,us,rfl,h1,h2⟩:=h;exact⟨u,us,rfl,sf hn h1,qm hn h2⟩
end

mutual
theorem Du{f h:Nat->Option Nat} {th:List Nat} (hf:∀i,i∈th->∃j,f i=some j/\h j=some i):∀{x:V},x.within th=true->(x.bZ f).bZ h=x
 |.undef,_|.int ..,_|.bool _,_|.str _,_|.nilptr,_|.nilIface,_|.nilFunc,_|.nilmap,_|.list ..,_|.box ..,_=>by simp[V.bZ]
 |.ptr i _,hw|.bptr i _ _,hw|.view i _ _,hw|.buf i,hw|.map i,hw=>by
   obtain⟨j,h1,h2⟩:=hf i (mQ.1 hw);simp[V.bZ,h1,h2]
 |.agg cs,hw|.tuple cs,hw=>by simp[V.bZ,wD hf (by simpa[V.within] using hw)]
 |.iface t x,hw=>by simp[V.bZ,Du hf (by simpa[V.within] using hw)]
 |.func fn fs cs,hw=>by
   simp only[V.within,aA] at hw;simp[V.bZ,wD hf hw.1,wD hf hw.2]
theorem wD{f h:Nat->Option Nat} {th:List Nat} (hf:∀i,i∈th->∃j,f i=some j/\h j=some i):∀{x:List V},V.qe th x=true->V.ku h (V.ku f x) =x
 |[],_=>by simp[V.ku]
 |c::cs,hw=>by
   simp only[V.qe,aA] at hw;simp[V.ku,Du hf hw.1,wD hf hw.2]
end
end

theorem dK.bZ{E E':Env} {st:St} {g g':aw} {n n':Nat} {w:World} {gi:Gh} {o:O} {f:Nat->Option Nat} (h:dK E st g n w gi o) (hf:∀i j,f i=some j->i<n->j<n'/\g' j=g i)
   (hG:∀b,gi.blk=some b->E'.G b):dK E' st g' n' w gi (o.bZ f):=by
 cases o with
 |dead=>intro b hb;exact⟨(h b hb).1,hG b hb⟩
 |cells cs=>
   obtain⟨b,c,el,fr,h1,h2,h3,h4,h5,h6⟩:=h;exact⟨b,c,el,fr,h1,hG b h1,h3,qm hf h4,h5,h6⟩
 |buf sz pre l=>
   obtain⟨h1,h2,h3,h4,h5,h6,h7⟩:=h;refine⟨h1,h2,h3,h4,h5,h6,?_⟩;rcases h7 with h7|⟨b,c,el,fr,k1,k2,k3,k4,k5,k6,k7,k8⟩
   . exact .inl h7
   . exact .inr ⟨b,c,el,fr,k1,k2,hG b k1,k4,k5,lq (fun _ _ _ h=>h) (fun _ _ hk=>hk) k6,k7,k8⟩
 |siter s p=>
   obtain⟨h1,b,h2,h3,h4⟩:=h;exact⟨h1,b,h2,hG b h2,h4⟩
 |map ag sh es bs ck=>
   obtain⟨b,arr,h1,h2,h3,h4⟩:=h;exact⟨b,arr,h1,hG b h1,h3,h4⟩
 |miter m bs ck l x=>
   obtain⟨b,b',seen,h1,h2,h3,h4,h5⟩:=h;exact⟨b,b',seen,h1,hG b h1,h3,sf hf h4,h5⟩

def O.gF:O->Bool
 |.buf _ _ _=>true
 |_=>false

theorem rq{sg:List O} {f:Nat->Option Nat}:∀{th:List Nat} {j:Nat},(locals sg f th)[j]?=(th[j]?).map fun i=>(aH sg i).bZ f
 |[],j=>by simp[locals]
 |i::is,0=>by simp[locals]
 |i::is,j+1=>by simp only[locals,List.getElem?_cons_succ];exact rq
theorem nE{sg:List O} {f:Nat->Option Nat}:∀{th:List Nat},(locals sg f th).length=th.length
 |[]=>rfl
 |i::is=>by simp[locals,nE (th:=is)]
theorem mD{sg:List O}:∀{th:List Nat},jV sg th=true->∀i,i∈th->∃o,sg[i]?=some o/\aH sg i=o/\i<sg.length
 |[],_,i,h=>by simp at h
 |k::ks,ha,i,h=>by
   have hk:aH sg k≠.dead/\jV sg ks=true:=by
    simp only[jV] at ha;split at ha
    . cases ha
    . rename_i hne;exact⟨fun e=>hne e,ha⟩
   rcases List.mem_cons.1 h with rfl|h
   . obtain⟨h1,h2⟩:=eU rfl hk.1;exact⟨_,h1,rfl,h2⟩
   . exact mD hk.2 i h
theorem xH{sg:List O}:∀{th:List Nat} {i:Nat},i∈th->(aH sg i).gF=true->i∈kH sg th
 |[],_,h,_=>by simp at h
 |k::ks,i,h,hb=>by
   simp only[kH];rcases List.mem_cons.1 h with rfl|h
   . split
     . simp
     . rename_i hn;cases ho:aH sg i<;>rw[ho] at hb<;>simp[O.gF] at hb;exact absurd ho (hn _ _ _)
   . split
     . exact d8 _ (xH h hb)
     . exact xH h hb
theorem Jy{o:O} {f:Nat->Option Nat}:(o.bZ f).gF=o.gF:=by cases o<;>rfl

theorem xQ:∀(xs:List O) (n:Nat),fA xs n=xs.drop n
 |xs,0=>by simp[fA]
 |[],n+1=>by simp[fA]
 |x::xs,n+1=>by simp[fA,xQ xs n]
theorem tJ(f:Nat->Option Nat):∀xs:List O,l5 f xs=xs.map (O.bZ f)
 |[]=>rfl
 |x::xs=>by simp[l5,tJ f xs]

theorem Gf{f:Nat->Option Nat}:∀{th:List Nat} {os sg:List O} {i:Nat},i∉th->(dk sg (lO f th os))[i]?=sg[i]?
 |[],os,sg,i,_=>by simp[lO,dk]
 |_::_,[],sg,i,_=>by simp[lO,dk]
 |k::ks,o::os,sg,i,h=>by
   simp only[List.mem_cons,not_or] at h;simp only[lO,dk];rw[Gf h.2,jg,List.getElem?_set_ne (Ne.symm h.1)]
theorem Nh{f:Nat->Option Nat}:∀{th:List Nat} {os sg:List O} {i j:Nat} {o:O},jK th=true->th[j]?=some i->os[j]?=some o->i<sg.length->(dk sg (lO f th os))[i]?=some (o.bZ f)
 |[],_,_,_,_,_,_,h,_,_=>by simp at h
 |_::_,[],_,_,_,_,_,_,h,_=>by simp at h
 |k::ks,p::os,sg,i,j,o,hn,h1,h2,hl=>by
   simp only[jK] at hn;cases hm:aQ k ks with
   |true=>rw[hm] at hn;simp at hn
   |false=>
     rw[hm] at hn;have hn:jK ks=true:=hn;have hk:=rv.1 hm;simp only[lO,dk];cases j with
     |zero=>
       simp only[List.getElem?_cons_zero,Option.some.injEq] at h1 h2;subst h1;subst h2;rw[Gf hk,jg,List.getElem?_set_self hl]
     |succ j=>
       simp only[List.getElem?_cons_succ] at h1 h2;exact Nh hn h1 h2 (by rw[jg];simpa using hl)

def eH(P:Program) (gl:Nat->Option (List V)) (f:FuncId) (args:List V) (sg:List O) (x:V) (r:Option (List O)):Prop:=
 mz P f/\∀(E:Env) (st:St) (g:aw) (w:World) (vs:List Value),aO E st g sg w->aV gl st->aE st g args sg.length vs->
  Calls P f vs.toArray w fun e w'=>∃v st' g',e=.returned v/\aO E st' g' (r.getD sg) w'/\VR st' g' x (r.getD sg).length v/\(∀b o v,st b o=some v->st' b o=some v)/\
   sg.length<=(r.getD sg).length/\∀i o,sg[i]?=some o->(r=none\/eZ (r.getD []) =true\/o.gF=false)->g' i=g i

def sa(P:Program) (gl:Nat->Option (List V)) (f:FuncId) (args:List V) (sg:List O) (u:Value) (r:Option (List O)):Prop:=
 mz P f/\∀(E:Env) (st:St) (g:aw) (w:World) (vs:List Value),aO E st g sg w->aV gl st->aE st g args sg.length vs->
  Calls P f vs.toArray w fun e w'=>∃st' g',e=.panicked [{v:=u,recovered:=false}]/\aO E st' g' (r.getD sg) w'/\(∀b o v,st b o=some v->st' b o=some v)/\
   sg.length<=(r.getD sg).length/\∀i o,sg[i]?=some o->(r=none\/eZ (r.getD []) =true\/o.gF=false)->g' i=g i

structure cn(C:Ctx):Prop extends Good C where
 gam:∀f args sg pre x r,C.Γ f args sg=some (pre,x,r)->pre->eH C.P C.gl f args sg x r
 del:∀f args sg pre c u r x r2,C.pn f args sg=some (pre,c,u,r,x,r2)->pre->(c->∃v,me u=some v/\sa C.P C.gl f args sg v r)/\(¬c->eH C.P C.gl f args sg x r2)

section
variable {C:Ctx} {E:Env} {st:St} {g:aw} {s:AS} {a:Act} {w:World} {o:Oper} {e:Ef}

theorem zp{P:Program} {f:FuncId} (h:mz P f) (vs:Array Value) (w:World):(callFunc f vs).run P w=.ok (.enter f vs) w:=by
 obtain⟨fn,h1,h2,h3⟩:=h;unfold callFunc;simp only[Sem.run_bind,run_program,Result.andThen_ok,h1,h2,h3,Bool.false_eq_true,if_false,Sem.run_pure]

theorem aO.local(R:aO E st g s.sg w) {th:List Nat} (hn:jK th=true) (ha:jV s.sg th=true):
   aO ⟨fun b=>w.heap.size<=b\/∃i∈th,(g i).blk=some b,w,st,[]⟩ st (fun j=>g (th.getD j 0)) (locals s.sg (fun i=>idxOf i th 0) th) w where
 os:=rfl
 tape:=rfl
 output:=rfl
 size:=co _
 gnew:=fun b hb=>.inl hb
 sub:=fun _ _ _ h=>h
 stG:=fun _ _ _ h=>.inl h
 stw:=R.stw
 fr:=fun _ _=>rfl
 ob:=fun j o hj=>by
   rw[rq] at hj;cases hi:th[j]? with
   |none=>rw[hi] at hj;cases hj
   |some i=>
     rw[hi] at hj;simp only[Option.map_some,Option.some.injEq] at hj;subst hj;obtain⟨o',h1,h2,h3⟩:=mD ha i (List.mem_of_getElem? hi);rw[h2];have hgj:th.getD j 0=i:=by simp[hi]
     simp only[hgj];refine(R.ob i o' h1).bZ (fun k k' hk _=>?_) (fun b hb=>.inr ⟨i,List.mem_of_getElem? hi,hb⟩);obtain⟨_,h4⟩:=qZ hk;simp only[Nat.sub_zero] at h4;refine⟨?_,?_⟩
     . rw[nE];rcases eg k' th.length with h'|h'
       . exact h'
       . simp[dl h'] at h4
     . simp[h4]
 inj:=fun i j b hi hj h1 h2=>by
  rw[nE] at hi hj;have e1:th[i]?=some th[i]:=am hi;have e2:th[j]?=some th[j]:=am hj;have l1:=(mD ha _ (List.mem_of_getElem? e1)).choose_spec.2.2;have l2:=(mD ha _ (List.mem_of_getElem? e2)).choose_spec.2.2;simp only[ac,e1,e2,Option.getD_some] at h1 h2;have:=R.inj _ _ b l1 l2 h1 h2;exact D2 hn e1 (by rw[e2,this])

theorem aO.join(R:aO E st g s.sg w) {th:List Nat} (hn:jK th=true) (ha:jV s.sg th=true) {st':St} {g1:aw} {sg1:List O} {w':World}
   (W:aO ⟨fun b=>w.heap.size<=b\/∃i∈th,(g i).blk=some b,w,st,[]⟩ st' g1 sg1 w') (hm:∀b o v,st b o=some v->st' b o=some v) (hl:th.length<=sg1.length)
   {ks:List Nat} (hk:∀j i o,th[j]?=some i->s.sg[i]?=some o->aQ i ks=false->g1 j=g i):
   let g':aw:=fun i=>match idxOf i th 0 with
    |some j=>g1 j
    |none=>if i<s.sg.length then g i else g1 (th.length+(i-s.sg.length))
   let bw:=dE th s.sg.length (fA sg1 th.length).length
   let sg':=dk (s.sg.map (O.kill ks)) (lO bw th sg1)++l5 bw (fA sg1 th.length)
   aO E st' g' sg' w'/\jS E st g s.sg.length st' g' sg'.length ks/\∀i j,bw i=some j->i<sg1.length->j<sg'.length/\g' j=g1 i:=by
 intro g' bw sg';have hlt:∀i,i∈th->i<s.sg.length:=fun i hi=>(mD ha i hi).choose_spec.2.2;have hlen:sg'.length=s.sg.length+(sg1.length-th.length):=by
  simp only[sg',an,pO,aB,tJ,xQ,fo]
 have hdl:(fA sg1 th.length).length=sg1.length-th.length:=by rw[xQ,fo]
 --which ghost each has
 have g_in:∀j i,th[j]?=some i->g' i=g1 j:=fun j i h=>by
  simp only[g',Ck hn h]
 have g_out:∀i,i∉th->i<s.sg.length->g' i=g i:=fun i h hi=>by
  simp only[g'];cases hx:idxOf i th 0 with
  |none=>simp[hi]
  |some j=>obtain⟨_,h2⟩:=qZ hx;exact absurd (List.mem_of_getElem? h2) h
 have g_new:∀k,g' (s.sg.length+k) =g1 (th.length+k):=fun k=>by
  simp only[g'];cases hx:idxOf (s.sg.length+k) th 0 with
  |none=>
    simp only;rw[if_neg (by omega)]
    congr 1;omega
  |some j=>
    obtain⟨_,h2⟩:=qZ hx;have:=hlt _ (List.mem_of_getElem? h2);omega
 have hbw:∀i j,bw i=some j->i<sg1.length->j<sg'.length/\g' j=g1 i:=fun i j h hi=>by
  rw[hlen];rcases eg i th.length with h'|h'
  . simp only[bw] at h;rw[sl h'] at h;have:=hlt j (List.mem_of_getElem? h);exact⟨by omega,g_in i j h⟩
  . obtain⟨h1,h2⟩:=Hh h' h;rw[hdl] at h2;subst h1;refine⟨by omega,?_⟩;rw[g_new];congr 1;omega
 have hG:∀b,(w.heap.size<=b\/∃i∈th,(g i).blk=some b)->E.G b:=fun b hb=>by
  rcases hb with hb|⟨i,hi,hb⟩
  . exact R.gnew b (Nat.le_trans R.size hb)
  . exact(R.cF (hlt i hi) hb).2
 --each object is the callee's,or one that it could not see
 have hcase:∀i,i<sg'.length->(∃j,j<sg1.length/\g' i=g1 j/\bw j=some i/\∀o,sg'[i]?=some o->∃o₁,sg1[j]?=some o₁/\o=o₁.bZ bw)\/
    (i<s.sg.length/\i∉th/\g' i=g i/\sg'[i]?=(s.sg[i]?).map (O.kill ks)):=fun i hi=>by
  rw[hlen] at hi;rcases eg i s.sg.length with h'|h'
  . by_cases hm:i∈th
    . obtain⟨j,hj,hji⟩:=List.getElem_of_mem hm;have hj':th[j]?=some i:=by rw[am hj,hji]
      have hj1:j<sg1.length:=by omega
      have hs1:sg1[j]?=some sg1[j]:=am hj1;refine .inl ⟨j,hj1,g_in j i hj',by simp only[bw];rw[sl hj];exact hj',fun o ho=>⟨_,hs1,?_⟩⟩;simp only[sg'] at ho;rw[d6 (by simpa[pO] using h'),Nh hn hj' hs1 (by simpa using h')] at ho;exact(Option.some.inj ho).symm
    . refine .inr ⟨h',hm,g_out i hm h',?_⟩;simp only[sg'];rw[d6 (by simpa[pO] using h'),Gf hm,List.getElem?_map]
  . obtain⟨k,rfl⟩:∃k,i=s.sg.length+k:=⟨i-s.sg.length,by omega⟩
    refine .inl ⟨th.length+k,by omega,g_new k,?_,fun o ho=>?_⟩
    . simp only[bw];have:∀(l:List Nat) n m k,k<m->dE l n m (l.length+k) =some (n+k):=by
       intro l n m k hk
       induction l with
       |nil=>
         have hb:Nat.blt k m=true:=Nat.ble_eq_true_of_le hk;simp[dE,hb]
       |cons a l ih=>
         rw[show(a::l).length+k=(l.length+k)+1 by simp;omega];simpa[dE] using ih
      exact this _ _ _ _ (by omega)
    . simp only[sg'] at ho;rw[d7 (by simp[pO])] at ho;simp only[pO,aB,tJ,xQ,List.getElem?_map,List.getElem?_drop] at ho;rw[show s.sg.length+k-s.sg.length=k by omega] at ho;cases hs:sg1[th.length+k]? with
      |none=>rw[hs] at ho;cases ho
      |some o₁=>rw[hs] at ho;exact⟨o₁,rfl,(Option.some.inj ho).symm⟩
 refine⟨⟨W.os.trans R.os,W.tape.trans R.tape,W.output.trans R.output,Nat.le_trans R.size W.size,R.gnew,fun b o v h=>hm _ _ _ (R.sub _ _ _ h),fun b o v h=>?_,W.stw,fun b hb=>?_,fun i o ho=>?_,fun i j b hi hj h1 h2=>?_⟩,⟨hm,fun i hi hmem=>?_,by omega⟩,hbw⟩
 . rcases W.stG b o v h with h1|h1
   . exact R.stG _ _ _ h1
   . exact .inr (hG b h1)
 . rw[W.fr b (fun h=>hb (hG b h))];exact R.fr b hb
 . have hi:i<sg'.length:=by
     rcases eg i sg'.length with h'|h'
     . exact h'
     . simp[dl h'] at ho
   rcases hcase i hi with ⟨j,hj,hg',hbj,hoj⟩|⟨hil,him,hg',hoi⟩
   . obtain⟨o₁,h1,rfl⟩:=hoj o ho;rw[hg'];exact(W.ob j o₁ h1).bZ hbw (fun b hb=>hG b (W.cF hj hb).2)
   . rw[ho] at hoi;cases hs:s.sg[i]? with
     |none=>rw[hs] at hoi;cases hoi
     |some o₀=>
       rw[hs] at hoi;cases hoi;rw[hg'];have h0:=R.ob i o₀ hs;have hnot:∀b,(g i).blk=some b->¬(w.heap.size<=b\/∃i∈th,(g i).blk=some b):=fun b hb hor=>by
        rcases hor with h|⟨k,hk,hkb⟩
        . have:=(h0.cF hb).1;omega
        . exact him (R.inj i k b hil (hlt k hk) hb hkb▸hk)
       refine(h0.kill (ks:=ks)).aX (fun b hb=>W.fr b (hnot b hb)) hm (fun b hb o' v hv=>?_) (fun k hk' hkn=>⟨by omega,?_⟩)
       . rcases W.stG b o' v hv with h1|h1
         . exact h1
         . exact absurd h1 (hnot b hb)
       . obtain⟨hkm,_⟩:=O.pI hk';by_cases hkt:k∈th
         . obtain⟨j,hj,hjk⟩:=List.getElem_of_mem hkt;have hj':th[j]?=some k:=by rw[am hj,hjk]
           rw[g_in j k hj'];obtain⟨ok,hk1,hk2,_⟩:=mD ha k hkt;exact hk j k ok hj' hk1 hkm
         . exact g_out k hkt hkn
 . rcases hcase i hi with ⟨i',hi',gi',bi,_⟩|⟨hil,him,gi',_⟩<;>rcases hcase j hj with ⟨j',hj',gj',bj,_⟩|⟨hjl,hjm,gj',_⟩
   . rw[gi'] at h1;rw[gj'] at h2;have:=W.inj i' j' b hi' hj' h1 h2;subst this;rw[bi] at bj;exact Option.some.inj bj
   . rw[gi'] at h1;rw[gj'] at h2;have hb:=(W.cF hi' h1).2;rcases hb with hb|⟨k,hk1,hk2⟩
     . have:=(R.cF hjl h2).1;omega
     . exact absurd (R.inj j k b hjl (hlt k hk1) h2 hk2▸hk1) hjm
   . rw[gi'] at h1;rw[gj'] at h2;have hb:=(W.cF hj' h2).2;rcases hb with hb|⟨k,hk1,hk2⟩
     . have:=(R.cF hil h1).1;omega
     . exact absurd (R.inj i k b hil (hlt k hk1) h1 hk2▸hk1) him
   . rw[gi'] at h1;rw[gj'] at h2;exact R.inj i j b hil hjl h1 h2
 . by_cases hit:i∈th
   . obtain⟨j,hj,hji⟩:=List.getElem_of_mem hit;have hj':th[j]?=some i:=by rw[am hj,hji]
     rw[g_in j i hj'];obtain⟨oi,hi1,hi2,_⟩:=mD ha i hit;exact hk j i oi hj' hi1 hmem
   . exact g_out i hit hi
end
end Go.VG
namespace Go.VG
open Go

theorem HG{sg:List O} {th0:List Nat}:∀{th:List Nat},jX sg th0 th=true->∀i cs,i∈th->aH sg i=.cells cs->V.qe th0 cs=true
 |[],_,i,_,h,_=>by simp at h
 |k::ks,hc,i,cs,h,hi=>by
   simp only[jX] at hc;rcases List.mem_cons.1 h with rfl|h
   . rw[hi] at hc;simp only[aA] at hc;exact hc.1
   . refine HG (th:=ks) ?_ i cs h hi;split at hc
     . simp only[aA] at hc;exact hc.2
     . simp only[aA] at hc;exact hc.2
     . exact hc
theorem HH{sg:List O} {th0:List Nat}:∀{th:List Nat},jX sg th0 th=true->∀i m bs ck l x,i∈th->aH sg i=.miter m bs ck l x->V.within th0 m=true
 |[],_,i,_,_,_,_,_,h,_=>by simp at h
 |k::ks,hc,i,m,bs,ck,l,x,h,hi=>by
   simp only[jX] at hc;rcases List.mem_cons.1 h with rfl|h
   . rw[hi] at hc;simp only[aA] at hc;exact hc.1
   . refine HH (th:=ks) ?_ i m bs ck l x h hi;split at hc
     . simp only[aA] at hc;exact hc.2
     . simp only[aA] at hc;exact hc.2
     . exact hc

section
variable {C:Ctx} {E:Env} {st:St} {g:aw} {s:AS} {a:Act} {w:World} {o:Oper} {e:Ef}

theorem aO.JE(R:aO E st g s.sg w) {th:List Nat} (hn:jK th=true) (ha:jV s.sg th=true) (hc:jX s.sg th th=true) {st':St} {g1:aw} {w':World}
   (W:aO ⟨fun b=>w.heap.size<=b\/∃i∈th,(g i).blk=some b,w,st,[]⟩ st' g1 (locals s.sg (fun i=>idxOf i th 0) th) w') (hm:∀b o v,st b o=some v->st' b o=some v)
   (hk:∀j i,th[j]?=some i->g1 j=g i):aO E st' g s.sg w'/\∀i j,dE th 0 0 i=some j->i<th.length->j<s.sg.length/\g j=g1 i:=by
 have hlt:∀i,i∈th->i<s.sg.length:=fun i hi=>(mD ha i hi).choose_spec.2.2;have hbw:∀i j,dE th 0 0 i=some j->i<th.length->j<s.sg.length/\g j=g1 i:=fun i j h hi=>by
  rw[sl hi] at h;exact⟨hlt j (List.mem_of_getElem? h),(hk i j h).symm⟩
 have hG:∀b,(w.heap.size<=b\/∃i∈th,(g i).blk=some b)->E.G b:=fun b hb=>by
  rcases hb with hb|⟨i,hi,hb⟩
  . exact R.gnew b (Nat.le_trans R.size hb)
  . exact(R.cF (hlt i hi) hb).2
 refine⟨⟨W.os.trans R.os,W.tape.trans R.tape,W.output.trans R.output,Nat.le_trans R.size W.size,R.gnew,fun b o v h=>hm _ _ _ (R.sub _ _ _ h),fun b o v h=>?_,W.stw,fun b hb=>?_,fun i o ho=>?_,R.inj⟩,hbw⟩
 . rcases W.stG b o v h with h1|h1
   . exact R.stG _ _ _ h1
   . exact .inr (hG b h1)
 . rw[W.fr b (fun h=>hb (hG b h))];exact R.fr b hb
 . have hil:i<s.sg.length:=by
     rcases eg i s.sg.length with h'|h'
     . exact h'
     . simp[dl h'] at ho
   by_cases him:i∈th
   . obtain⟨j,hj,hji⟩:=List.getElem_of_mem him;have hj':th[j]?=some i:=by rw[am hj,hji]
     obtain⟨o',h1,h2,_⟩:=mD ha i him;rw[ho] at h1;cases h1;have hl:(locals s.sg (fun i=>idxOf i th 0) th)[j]?=some (o.bZ fun i=>idxOf i th 0):=by rw[rq,hj',Option.map_some,h2]
     have h3:=W.ob j _ hl;have h4:=h3.bZ (E':=E) (g':=g) (n':=s.sg.length) (f:=dE th 0 0) (fun i j h hi=>hbw i j h (by rwa [nE] at hi))
      (fun b hb=>hG b (W.cF (by rw[nE];exact hj) hb).2)
     have h5:(o.bZ fun i=>idxOf i th 0).bZ (dE th 0 0) =o:=by
      cases o with
      |cells cs=>
        simp only[O.bZ];rw[wD (th:=th) (fun i hi=>?_) (HG hc i cs him h2)];obtain⟨k,hk1,hk2⟩:=List.getElem_of_mem hi;have hk':th[k]?=some i:=by rw[am hk1,hk2]
        exact⟨k,Ck hn hk',by rw[sl hk1];exact hk'⟩
      |miter m bs ck l x=>
        simp only[O.bZ];rw[Du (th:=th) (fun i hi=>?_) (HH hc i m bs ck l x him h2)];obtain⟨k,hk1,hk2⟩:=List.getElem_of_mem hi;have hk':th[k]?=some i:=by rw[am hk1,hk2]
        exact⟨k,Ck hn hk',by rw[sl hk1];exact hk'⟩
      |_=>rfl
     rw[h5,hk j i hj'] at h4;exact h4
   . have h0:=R.ob i o ho;have hnot:∀b,(g i).blk=some b->¬(w.heap.size<=b\/∃i∈th,(g i).blk=some b):=fun b hb hor=>by
      rcases hor with h|⟨k,hk,hkb⟩
      . have:=(h0.cF hb).1;omega
      . exact him (R.inj i k b hil (hlt k hk) hb hkb▸hk)
     refine h0.aX (fun b hb=>W.fr b (hnot b hb)) hm (fun b hb o' v hv=>?_) (fun k hk' hkn=>⟨hkn,rfl⟩);rcases W.stG b o' v hv with h1|h1
     . exact h1
     . exact absurd h1 (hnot b hb)

theorem wH{f:FuncId} {args:List V} {vs:List Value} {pre:Prop} (R:Rel E st g s a w) (hg:aV C.gl st) (G:cn C)
   (hex:mz C.P f->(execOp a.eval o).run C.P w=.ok (.enter f vs.toArray) w) (hv:aE st g args s.sg.length vs) (he:gU C s.sg f args=some (pre,e)) (hpre:pre):aD C E st g s a w o e:=by
 unfold gU at he;rw[pC,pC] at he;generalize reach s.sg 256 (V.fK args []) (V.fK args []) =th at he;unfold vr at he;simp only[lY,tq] at he;cases hchk:(jK th&&jV s.sg th) with
 |false=>rw[hchk] at he;cases he
 |true=>
   rw[hchk] at he;simp only[cond_true] at he;simp only[aA] at hchk;obtain⟨hn,ha⟩:=hchk;have WL:=R.wr.local hn ha;have hfw:∀i j,idxOf i th 0=some j->i<s.sg.length->j<(locals s.sg (fun i=>idxOf i th 0) th).length/\(fun j=>g (th.getD j 0)) j=g i:=fun i j h _=>by
    obtain⟨_,h4⟩:=qZ h;simp only[Nat.sub_zero] at h4;refine⟨?_,?_⟩
    . rw[nE];rcases eg j th.length with h'|h'
      . exact h'
      . simp[dl h'] at h4
    . simp[h4]
   have hgd:∀j i,th[j]?=some i->g (th.getD j 0) =g i:=fun j i h=>by simp[h]
   have hv':=qm hfw hv;split at he
   . cases he
   . rename_i pre' x hΓ;cases hcl:jX s.sg th th with
     |false=>rw[hcl] at he;cases he
     |true=>
       rw[hcl] at he;simp only[cond_true,Option.some.injEq,Prod.mk.injEq] at he;obtain⟨rfl,rfl⟩:=he;obtain⟨hc,hf⟩:=G.gam _ _ _ _ _ _ hΓ hpre;intro next Q hnext
       unfold Oper.wp;rw[hex hc];refine Calls.mono (hf _ st _ w vs WL hg hv') ?_;rintro en w' ⟨v,st',g1,rfl,W,hx,hm,_,hk⟩;simp only[Option.getD_none] at W hx;have hk':∀j i,th[j]?=some i->g1 j=g i:=fun j i h=>by
        rw[hk j _ (by rw[rq,h];rfl) (.inl rfl)];exact hgd j i h
       obtain⟨W',hb⟩:=R.wr.JE hn ha hcl W hm hk';refine hnext st' g w' v ⟨hm,fun _ _ _=>rfl,?_⟩ ?_ ?_
       . rw[pc];exact co _
       . rw[pc];exact W'
       . rw[pc];exact sf (fun i j h hi=>hb i j h (by rwa [nE] at hi)) hx
   . rename_i pre' x sg1 hΓ;simp only[Option.some.injEq,Prod.mk.injEq] at he;obtain⟨rfl,rfl⟩:=he;obtain⟨hc,hf⟩:=G.gam _ _ _ _ _ _ hΓ hpre;intro next Q hnext
     unfold Oper.wp;rw[hex hc];refine Calls.mono (hf _ st _ w vs WL hg hv') ?_;rintro en w' ⟨v,st',g1,rfl,W,hx,hm,hl,hk⟩;simp only[Option.getD_some] at W hx hl;rw[nE] at hl;obtain⟨W',A,hb⟩:=R.wr.join (ks:=cond (eZ sg1) [] (kH s.sg th)) hn ha W hm hl (fun j i o h h1 h2=>by
      rw[hk j _ (by rw[rq,h];rfl) (.inr ?_)]
      . exact hgd j i h
      . cases hkm:eZ sg1 with
        |true=>exact .inl hkm
        |false=>
          refine .inr ?_;rw[hkm] at h2;rw[Jy];obtain⟨o',h3,h4,_⟩:=mD ha i (List.mem_of_getElem? h);cases hb:(aH s.sg i).gF with
          |false=>rfl
          |true=>exact absurd (xH (List.mem_of_getElem? h) hb) (rv.1 h2))
     have hsg:∀v:V,(s.app o.dst ⟨v,cond (eZ sg1) [] (kH s.sg th),lO (dE th s.sg.length (fA sg1 th.length).length) th sg1,l5 (dE th s.sg.length (fA sg1 th.length).length) (fA sg1 th.length),th⟩).sg=
        dk (s.sg.map (O.kill (cond (eZ sg1) [] (kH s.sg th)))) (lO (dE th s.sg.length (fA sg1 th.length).length) th sg1)++l5 (dE th s.sg.length (fA sg1 th.length).length) (fA sg1 th.length):=fun v=>by
      simp only[AS.app,xB,rf]
     rw[<-hsg (x.bZ (dE th s.sg.length (fA sg1 th.length).length))] at A W' hb;exact hnext st' _ w' v A W' (sf hb hx)

theorem LF(f:Nat->Option Nat):∀x:V,me (x.bZ f) =me x:=fun x=>by
 cases x with
 |iface t v=>cases v<;>first
   |rfl
   |(simp only[V.bZ];split<;>rfl)
 |_=>first
   |rfl
   |(simp only[V.bZ];split<;>rfl)
theorem DE{f:FuncId} {args:List V} {vs:List Value} {pre:Prop} (R:Rel E st g s a w) (hg:aV C.gl st) (G:∀args sg pre x r,C.Γ f args sg=some (pre,x,r)->pre->∃v,me x=some v/\sa C.P C.gl f args sg v r)
   (hex:mz C.P f->(execOp a.eval o).run C.P w=.ok (.enter f vs.toArray) w) (hv:aE st g args s.sg.length vs) (he:gU C s.sg f args=some (pre,e)) (hpre:pre) {next:Act->World->Prop} {Q:Exit->Act->World->Prop}
   (hQ:∀u st' g' w',me e.v=some u->jS E st g s.sg.length st' g' (s.app none e).sg.length e.ks->aO E st' g' (s.app none e).sg w'->Q (.panic [{v:=u,recovered:=false}]) a w'):o.wp C.P a w next Q:=by
 unfold gU at he;rw[pC,pC] at he;generalize reach s.sg 256 (V.fK args []) (V.fK args []) =th at he;unfold vr at he;simp only[lY,tq] at he;cases hchk:(jK th&&jV s.sg th) with
 |false=>rw[hchk] at he;cases he
 |true=>
   rw[hchk] at he;simp only[cond_true] at he;simp only[aA] at hchk;obtain⟨hn,ha⟩:=hchk;have WL:=R.wr.local hn ha;have hfw:∀i j,idxOf i th 0=some j->i<s.sg.length->j<(locals s.sg (fun i=>idxOf i th 0) th).length/\(fun j=>g (th.getD j 0)) j=g i:=fun i j h _=>by
    obtain⟨_,h4⟩:=qZ h;simp only[Nat.sub_zero] at h4;refine⟨?_,?_⟩
    . rw[nE];rcases eg j th.length with h'|h'
      . exact h'
      . simp[dl h'] at h4
    . simp[h4]
   have hgd:∀j i,th[j]?=some i->g (th.getD j 0) =g i:=fun j i h=>by simp[h]
   have hv':=qm hfw hv;split at he
   . cases he
   . rename_i pre' x hΓ;cases hcl:jX s.sg th th with
     |false=>rw[hcl] at he;cases he
     |true=>
       rw[hcl] at he;simp only[cond_true,Option.some.injEq,Prod.mk.injEq] at he;obtain⟨rfl,rfl⟩:=he;obtain⟨u,hu,hc,hf⟩:=G _ _ _ _ _ hΓ hpre;unfold Oper.wp;rw[hex hc];refine Calls.mono (hf _ st _ w vs WL hg hv') ?_;rintro en w' ⟨st',g1,rfl,W,hm,_,hk⟩;simp only[Option.getD_none] at W;have hk':∀j i,th[j]?=some i->g1 j=g i:=fun j i h=>by
        rw[hk j _ (by rw[rq,h];rfl) (.inl rfl)];exact hgd j i h
       obtain⟨W',hb⟩:=R.wr.JE hn ha hcl W hm hk';refine hQ u st' g w' (by rw[LF];exact hu) ⟨hm,fun _ _ _=>rfl,?_⟩ ?_
       . rw[pc];exact co _
       . rw[pc];exact W'
   . rename_i pre' x sg1 hΓ;simp only[Option.some.injEq,Prod.mk.injEq] at he;obtain⟨rfl,rfl⟩:=he;obtain⟨u,hu,hc,hf⟩:=G _ _ _ _ _ hΓ hpre;unfold Oper.wp;rw[hex hc];refine Calls.mono (hf _ st _ w vs WL hg hv') ?_;rintro en w' ⟨st',g1,rfl,W,hm,hl,hk⟩;simp only[Option.getD_some] at W hl;rw[nE] at hl;obtain⟨W',A,hb⟩:=R.wr.join (ks:=cond (eZ sg1) [] (kH s.sg th)) hn ha W hm hl (fun j i o h h1 h2=>by
      rw[hk j _ (by rw[rq,h];rfl) (.inr ?_)]
      . exact hgd j i h
      . cases hkm:eZ sg1 with
        |true=>exact .inl hkm
        |false=>
          refine .inr ?_;rw[hkm] at h2;rw[Jy];obtain⟨o',h3,h4,_⟩:=mD ha i (List.mem_of_getElem? h);cases hb:(aH s.sg i).gF with
          |false=>rfl
          |true=>exact absurd (xH (List.mem_of_getElem? h) hb) (rv.1 h2))
     have hsg:∀v:V,(s.app none ⟨v,cond (eZ sg1) [] (kH s.sg th),lO (dE th s.sg.length (fA sg1 th.length).length) th sg1,l5 (dE th s.sg.length (fA sg1 th.length).length) (fA sg1 th.length),th⟩).sg=
        dk (s.sg.map (O.kill (cond (eZ sg1) [] (kH s.sg th)))) (lO (dE th s.sg.length (fA sg1 th.length).length) th sg1)++l5 (dE th s.sg.length (fA sg1 th.length).length) (fA sg1 th.length):=fun v=>by
      simp only[AS.app,xB,rf]
     rw[<-hsg (x.bZ (dE th s.sg.length (fA sg1 th.length).length))] at A W';exact hQ u st' _ w' (by rw[LF];exact hu) A W'

theorem Hq{r:Option (Prop×Ef)} (h:∀pre e,r=some (pre,e)->pre->aD C E st g s a w o e):cz C E st g s a w o (kK r):=by
 refine aa.opt fun p hp=>aa.aR fun hpre=>?_;intro e' he';have he':kc p.2 (fun b=>b=e'):=he';rw[kW] at he';subst he';exact h p.1 p.2 hp hpre

theorem Ph{c:Call} {x:Operand} {f:FuncId} {first captured:Array Value} (ho:o.op=.call c) (hc:c.callee=.value x) (hx:a.eval x=.func (.func f) first captured) (hk:mz C.P f):
   (execOp a.eval o).run C.P w=.ok (.enter f (first.toList++c.args.toList.map a.eval++captured.toList).toArray) w:=by
 have e1:(first.toList++c.args.toList.map a.eval++captured.toList).toArray=first++c.args.map a.eval++captured:=by
  apply Array.ext';simp
 rw[e1];simp only[execOp,ho,resolve,hc,hx,Sem.run_bind];show(Sem.run C.P (Deferred.ofValue _ _) w).andThen _=_;simp only[Deferred.ofValue,Sem.run_pure,Result.andThen_ok,invoke,zp hk]

theorem zu{c:Call} {x:Operand} {f:FuncId} {first captured:List V} (R:Rel E st g s a w) (hg:aV C.gl st) (hc:c.callee=.value x) (hx:s.ev C x=.func (.func f) first captured):
   ∃vs:List Value,aE st g (first++s.aG C c.args.toList++captured) s.sg.length vs/\∀o:Oper,o.op=.call c->mz C.P f->(execOp a.eval o).run C.P w=.ok (.enter f vs.toArray) w:=by
 have h:=bn (C:=C) R hg x;rw[hx] at h;simp only[VR] at h;obtain⟨fa,ca,h1,h2,h3⟩:=h;exact⟨_,si (si h2 (tb R hg _)) h3,fun o ho hk=>Ph ho hc h1 hk⟩

theorem Xn{c:Call} (R:Rel E st g s a w) (hg:aV C.gl st) (G:cn C) (ho:o.op=.call c):cz C E st g s a w o (qD C s c):=by
 unfold qD;split
 . rename_i b hb;rw[tp];obtain⟨callee,args,ts⟩:=c;simp only at hb;subst hb;exact Xm R hg G.toGood ho
 . rename_i x hb;refine aa.opt fun p hp=>Hq fun pre e he hpre=>?_;unfold target at hp;rw[hb] at hp;simp only at hp;split at hp
   . rename_i f first captured hx
     cases hp;obtain⟨vs,h1,h2⟩:=zu (c:=c) R hg hb hx;exact wH R hg G (h2 o ho) h1 he hpre
   . cases hp
 . rename_i r m hb;split
   . rename_i t v hr;refine aa.ex fun f=>aa.aR fun hmt=>Hq fun pre e he hpre=>?_;have h:=bn (C:=C) R hg r;rw[hr] at h;simp only[VR] at h;obtain⟨u,h1,h2⟩:=h;refine wH (vs:=u::c.args.toList.map a.eval) R hg G (fun hk=>?_) (cu h2 (tb R hg _)) he hpre;have hm:=G.mt t m f hmt u w;have e1:(u::c.args.toList.map a.eval).toArray=#[u]++c.args.map a.eval:=by apply Array.ext';simp
     rw[e1];have e2:(#[Value.iface t u]++c.args.map a.eval)[0]?=some (.iface t u):=by rw[Array.getElem?_append_left (by simp)];rfl
     have e3:(#[Value.iface t u]++c.args.map a.eval).extract 1 (#[Value.iface t u]++c.args.map a.eval).size=c.args.map a.eval:=by
      apply Array.ext';simp[gg]
     simp only[execOp,ho,resolve,hb,Sem.run_bind,Sem.run_pure,Result.andThen_ok,h1,invoke,e2,e3,callMethod,run_program,hm,zp hk]
   . exact aa.fail
end

theorem s_op{C:Ctx} {E:Env} {st:St} {g:aw} {s:AS} {a:Act} {w:World} {o:Oper} (R:Rel E st g s a w) (hg:aV C.gl st) (G:cn C):cz C E st g s a w o (cJ C s o):=by
 unfold cJ;split<;>rename_i ho
 . exact Me R hg (.inl ho)
 . exact Me R hg (.inr ho)
 . exact XN R hg ho
 . exact Xf R G.toGood ho
 . exact s_box R hg ho
 . exact Xk R hg G.toGood ho
 . exact s_bs R hg G.toGood ho
 . exact XB R hg G.toGood ho
 . exact XP R hg G.toGood ho
 . exact XM R hg ho
 . exact Xj R hg G.toGood ho
 . exact s_un R hg ho
 . exact XJ R hg G.toGood ho
 . exact XE R hg G.toGood ho
 . exact XD R hg ho
 . exact XG R hg G.toGood ho
 . cases yk C o.dst
   . exact XO R hg G.toGood ho
   . exact XQ R hg G.toGood ho
 . exact Xw R hg G.toGood ho
 . exact Xv R hg G.toGood ho
 . exact Xy R hg G.toGood ho
 . exact Xx R hg G.toGood ho
 . exact Xi R hg G.toGood ho
 . exact Xu R hg ho
 . exact Xz R hg G.toGood ho
 . exact XK R hg ho
 . exact XF R G.toGood ho
 . exact XC R hg G.toGood ho
 . exact XI R hg G.toGood ho
 . exact XH R hg G.toGood ho
 . exact Xt R hg G.toGood ho
 . exact Xs R hg ho
 . exact s_arr R hg G.toGood ho
 . exact Xn R hg G ho
 . exact aa.fail
end Go.VG
namespace Go.VG
open Go

def WF(F:Fence):Prop:=F=Fence.wide\/∃l,F=Fence.wide.inRound l
theorem WF.fn{F:Fence} (h:WF F) (f:FuncId):F.fn f:=by
 rcases h with rfl|⟨l,rfl⟩<;>exact trivial
theorem WF.depth{F:Fence} (h:WF F):F.depth.isSome=true->∀n:Nat,1<=n:=by
 rcases h with rfl|⟨l,rfl⟩<;>(intro q;simp[Fence.wide,Fence.inRound] at q)
theorem WF.calls{F:Fence} (h:WF F) {n:Nat} {P:Program} {f:FuncId} {args:Array Value} {w:World} {R:Ending->World->Prop} (k:Calls P f args w R):CallsIn F n P f args w R:=by
 rcases h with rfl|⟨l,rfl⟩
 . exact callsIn_wide.2 k
 . exact(callsIn_wide.2 k:CallsIn Fence.wide n P f args w R)
theorem WF.rows{F:Fence} (h:WF F) {n:Nat} {P:Program} {f:String} {args:Array Value} {w:World} {R:Value->World->Prop} (k:Rows P f args w R):RowsIn F n P f args w R:=by
 intro c cs _;obtain⟨v,w',r,s⟩:=k c cs;refine⟨v,w',r,?_⟩;rcases h with rfl|⟨l,rfl⟩
 . exact stepsIn_wide.2 s
 . exact stepsIn_wide.2 s
theorem WF.sem{F:Fence} (h:WF F) {o:Oper} {ρ:Operand->Value} (hnd:∀c,o.op≠.defer c):o.semAt F.round ρ=execOp ρ o:=by
 rcases h with rfl|⟨l,rfl⟩
 . exact Oper.semAt_none ρ o
 . exact Oper.semAt_some l ρ o hnd
theorem WF.wp{F:Fence} (hF:WF F) {P:Program} {o:Oper} {a:Act} {w:World} {next:Act->World->Prop} {Q:Exit->Act->World->Prop} (hnd:∀c,o.op≠.defer c) (h:o.wp P a w next Q):o.wpIn F 0 P a w next Q:=by
 refine⟨fun f _=>hF.fn f,?_⟩;rw[hF.sem hnd];unfold Oper.wp at h;revert h;generalize (execOp a.eval o).run P w=r;intro h;unfold Oper.upon at h;split at h
 . exact h
 . exact h
 . exact h
 . exact⟨fun q=>hF.depth q 0,hF.calls h⟩
 . exact⟨fun q=>hF.depth q 0,hF.rows h⟩
 . exact h
 . exact h.elim
theorem WF.value{F:Fence} (hF:WF F) {P:Program} {o:Oper} {a:Act} {w w1:World} {v:Value} {next:Act->World->Prop} {Q:Exit->Act->World->Prop} (hnd:∀c,o.op≠.defer c)
   (hr:(execOp a.eval o).run P w=.ok (.value v) w1) (h:next (a.put o.dst v) w1):o.wpIn F 0 P a w next Q:=
 hF.wp hnd (by unfold Oper.wp;rw[hr];exact h)
theorem rX{b:Bool} {A:Prop}:lN b A↔b=true/\A:=by cases b<;>simp[lN]
theorem lv{i:Nat}:∀{ks l:List Nat},aQ i (gP ks l) =true↔i∈ks\/aQ i l=true
 |[],l=>by simp[gP]
 |k::ks,l=>by
   simp only[gP,List.mem_cons];cases hk:aQ k l with
   |true=>
     simp only[cond_true,lv (ks:=ks)];constructor
     . rintro(h|h)
       . exact .inl (.inr h)
       . exact .inr h
     . rintro((rfl|h)|h)
       . exact .inr hk
       . exact .inl h
       . exact .inr h
   |false=>
     simp only[cond_false,aQ,Bool.or_eq_true,lv (ks:=ks)];constructor
     . rintro(h|h|h)
       . exact .inl (.inl (cb h))
       . exact .inl (.inr h)
       . exact .inr h
     . rintro((rfl|h)|h)
       . exact .inl (Nat.beq_refl _)
       . exact .inr (.inl h)
       . exact .inr (.inr h)

theorem aV.mono{gl:Nat->Option (List V)} {st st':St} (h:aV gl st) (hm:∀b o v,st b o=some v->st' b o=some v):aV gl st':=fun b cs hb g=>by
 obtain⟨vs,h1,h2⟩:=h b cs hb g;refine⟨vs,kE hm (fun _ _ hi=>absurd hi (Nat.not_lt_zero _)) h1,fun j hj=>?_⟩;have h3:=h2 j hj;rw[am hj] at h3⊢;exact hm _ _ _ h3

structure cm(st:St) (g:aw) (s:AS) (st':St) (g':aw) (s':AS):Prop where
 mono:∀b o v,st b o=some v->st' b o=some v
 aX:∀i,i<s.sg.length->aQ i s'.kl=false->g' i=g i
 len:s.sg.length<=s'.sg.length
 kl:∀i,aQ i s.kl=true->aQ i s'.kl=true

theorem cm.refl{st:St} {g:aw} {s:AS}:cm st g s st g s:=⟨fun _ _ _ h=>h,fun _ _ _=>rfl,co _,fun _ h=>h⟩
theorem cm.trans{st st' st'':St} {g g' g'':aw} {s s' s'':AS} (h:cm st g s st' g' s') (k:cm st' g' s' st'' g'' s''):cm st g s st'' g'' s'' where
 mono:=fun _ _ _ hv=>k.mono _ _ _ (h.mono _ _ _ hv)
 aX:=fun i hi hm=>by
  rw[k.aX i (Nat.lt_of_lt_of_le hi h.len) hm];refine h.aX i hi ?_;cases hb:aQ i s'.kl with
  |false=>rfl
  |true=>rw[k.kl i hb] at hm;cases hm
 len:=Nat.le_trans h.len k.len
 kl:=fun i hi=>k.kl i (h.kl i hi)

theorem my.qn{st:St} {g:aw} {s:AS} {n:Nat} {st0 st':St} {g0 g':aw} {s':AS} (B:my n st0 g0 st g s) (A:cm st g s st' g' s'):my n st0 g0 st' g' s' where
 mono:=fun _ _ _ h=>A.mono _ _ _ (B.mono _ _ _ h)
 aX:=fun i hi hm=>by
  rw[A.aX i (Nat.lt_of_lt_of_le hi B.len) hm];refine B.aX i hi ?_;cases hb:aQ i s.kl with
  |false=>rfl
  |true=>rw[A.kl i hb] at hm;cases hm
 len:=Nat.le_trans B.len A.len
def ib(C:Ctx) (E:Env) (n:Nat) (st0:St) (g0:aw):Prop:=∀l,O0 C E n st0 g0 l (C.yd l)
theorem WF.Z5{F:Fence} (hF:WF F) {P:Program} {l:Nat} {args:Array Value} {w:World} {R:Ending->World->Prop} (h:YieldAt Fence.wide 0 P l args w R):YieldAt F 0 P l args w R:=by
 rcases hF with rfl|⟨k,rfl⟩
 . exact h
 . exact h
theorem ib.none{C:Ctx} {E:Env} {n:Nat} {st0:St} {g0:aw} (h:C.yd=fun _ _ _ _=>none):ib C E n st0 g0:=fun l args s pre x sg' ks hy=>by simp only[h] at hy;cases hy
section
variable {C:Ctx} {E:Env} {st:St} {g:aw} {s:AS} {a:Act} {w:World} {o:Oper} {e:Ef}

theorem cm.app{st':St} {g':aw} {d:Option Nat} (A:jS E st g s.sg.length st' g' (s.app d e).sg.length e.ks):cm st g s st' g' (s.app d e) where
 mono:=A.mono
 aX:=fun i hi hm=>A.aX i hi (by
  cases hb:aQ i e.ks with
  |false=>rfl
  |true=>
    have:aQ i (gP e.ks s.kl) =true:=lv.2 (.inl (mQ.1 hb));simp only[AS.app] at hm;rw[this] at hm;cases hm)
 len:=A.len
 kl:=fun i hi=>lv.2 (.inr hi)

def Go(C:Ctx) (E:Env) (st:St) (g:aw) (s:AS) (s':AS) (a':Act) (w':World):Prop:=∃st' g',Rel E st' g' s' a' w'/\aV C.gl st'/\cm st g s st' g' s'

theorem Go.trans{st':St} {g':aw} {s' s'':AS} {a'':Act} {w'':World} (A:cm st g s st' g' s') (h:Go C E st' g' s' s'' a'' w''):Go C E st g s s'' a'' w'':=by
 obtain⟨st2,g2,R,hg,B⟩:=h;exact⟨st2,g2,R,hg,A.trans B⟩

theorem nk(R:Rel E st g s a w) (hg:aV C.gl st) (hd:dU s o.dst=true) (h:aD C E st g s a w o e) {next:Act->World->Prop} {Q:Exit->Act->World->Prop}
   (hn:∀a' w',Go C E st g s (s.app o.dst e) a' w'->next a' w'):o.wp C.P a w next Q:=
 h next Q fun st' g' w' v A W hv=>hn _ _ ⟨st',g',R.app hd A W hv,hg.mono A.mono,cm.app A⟩

theorem Rel.lit(R:Rel E st g s a w) {t:Nat} {x:V} (h:lk s.tm t=x):Rel E st g (s.app (some t) (pe x)) a w where
 nt:=R.nt
 df:=R.df
 wr:=by rw[j7];exact R.wr
 tm:=fun u=>by
  rw[j7];simp only[AS.app,pe,kg,lk];cases hb:Nat.beq t u with
  |true=>
    have:=cb hb;subst this;have:=R.tm t;rw[h] at this;exact this
  |false=>exact R.tm u

theorem wC(R:Rel E st g s a w) (hd:dU s o.dst=true):Rel E st g (s.app o.dst (pe (.tuple []))) (a.put o.dst undef) w:=by
 refine R.app hd ⟨fun _ _ _ h=>h,fun _ _ _=>rfl,?_⟩ ?_ ?_
 . rw[j7];exact co _
 . rw[j7];exact R.wr
 . simp[pe,VR,aE,undef]
theorem cm.pe{d:Option Nat} {x:V}:cm st g s st g (s.app d (pe x)) where
 mono:=fun _ _ _ h=>h
 aX:=fun _ _ _=>rfl
 len:=by rw[j7];exact co _
 kl:=fun i hi=>by simpa[AS.app,VG.pe,gP] using hi

theorem Gm{ops:Array Oper} {j t:Nat} {b:Bool} (R:Rel E st g s a w) (ht:cN ops.toList j=some t) (h:lk s.tm t=.bool b):yielded ops a.tmps j=some b:=by
 have h1:∀(l:List Oper) (j t:Nat),cN l j=some t->(l[j]?).bind (·.dst) =some t:=by
  intro l
  induction l with
  |nil=>intro j t h;simp[cN] at h
  |cons o l ih=>intro j t h;cases j with
    |zero=>simpa[cN] using h
    |succ j=>simpa using ih j t (by simpa[cN] using h)
 have h2:=h1 _ _ _ ht;have h3:(ops[j]?).bind (·.dst) =some t:=by rw[<-Array.getElem?_toList];exact h2
 have h4:=R.tm t;rw[h] at h4;simp only[VR] at h4;unfold yielded;rw[h3];simp only[Option.bind_some];rcases eg t a.tmps.size with h5|h5
 . rw[Array.getElem?_eq_getElem h5];have:a.tmps.getD t undef=a.tmps[t]:=by simp[Array.getD,h5]
   rw[this] at h4;rw[h4]
 . have:a.tmps.getD t undef=undef:=by simp[Array.getD,Nat.not_lt.2 h5]
   rw[this] at h4;simp[undef] at h4

theorem Gn{ops:Array Oper} {j t:Nat} (R:Rel E st g s a w) (ht:cN ops.toList j=some t) (h:lk s.tm t=.tuple []):yielded ops a.tmps j=none:=by
 have h1:∀(l:List Oper) (j t:Nat),cN l j=some t->(l[j]?).bind (·.dst) =some t:=by
  intro l
  induction l with
  |nil=>intro j t h;simp[cN] at h
  |cons o l ih=>intro j t h;cases j with
    |zero=>simpa[cN] using h
    |succ j=>simpa using ih j t (by simpa[cN] using h)
 have h2:=h1 _ _ _ ht;have h3:(ops[j]?).bind (·.dst) =some t:=by rw[<-Array.getElem?_toList];exact h2
 have h4:=R.tm t;rw[h] at h4;simp only[VR,aE] at h4;obtain⟨vs,h4,h6⟩:=h4;unfold yielded;rw[h3];simp only[Option.bind_some];rcases eg t a.tmps.size with h5|h5
 . rw[Array.getElem?_eq_getElem h5];have:a.tmps.getD t undef=a.tmps[t]:=by simp[Array.getD,h5]
   rw[this] at h4;rw[h4]
 . rw[Array.getElem?_eq_none h5]

theorem Rel.back{st':St} {g':aw} {w':World} {x:V} {sg':List O} {ks:List Nat} {v:Value} {d:Option Nat} (R:Rel E st g s a w) (hd:dU s d=true) (A:jS E st g s.sg.length st' g' sg'.length ks)
   (W:aO E st' g' sg' w') (hv:VR st' g' x sg'.length v):Rel E st' g' (s.back d x sg' ks) (a.put d v) w'/\cm st g s st' g' (s.back d x sg' ks):=by
 refine⟨⟨?_,?_,fun t=>?_,W⟩,⟨A.mono,fun i hi hm=>A.aX i hi ?_,A.len,fun i hi=>lv.2 (.inr hi)⟩⟩
 . cases d with
   |none=>exact R.nt
   |some d=>simp[Act.put,AS.back,R.nt]
 . cases d<;>exact R.df
 . cases d with
   |none=>
     have h1:lk (s.back none x sg' ks).tm t=(lk s.tm t).kill ks:=by simp only[AS.back];exact oB _ _ _
     rw[h1];exact uM A (R.tm t)
   |some d=>
     have hlt:d<s.nt:=by simpa[dU] using hd
     have h1:lk (s.back (some d) x sg' ks).tm t=cond (Nat.beq d t) x ((lk s.tm t).kill ks):=by simp only[AS.back,lk];rw[oB]
     rw[h1];by_cases hdt:d=t
     . subst hdt;rw[show Nat.beq d d=true from Nat.beq_refl d];simp only[cond_true,Act.put];rw[show(a.tmps.setIfInBounds d v).getD d undef=v by simp[R.nt,hlt]];exact hv
     . rw[show Nat.beq d t=false from by cases hb:Nat.beq d t with|false=>rfl|true=>exact absurd (cb hb) hdt];simp only[cond_false,Act.put];rw[show(a.tmps.setIfInBounds d v).getD t undef=a.tmps.getD t undef by simp[hdt]];exact uM A (R.tm t)
 . cases hb:aQ i ks with
   |false=>rfl
   |true=>
     have:aQ i (gP ks s.kl) =true:=lv.2 (.inl (mQ.1 hb));simp only[AS.back] at hm;rw[this] at hm;cases hm

theorem J8{K:Ef->AS->Prop} {U:AS->V->List O->List Nat->Prop} {X:Value->AS->Prop} (h:iD.go C o K U X s):∀c,o.op≠.defer c:=fun c hc=>by
 unfold iD.go at h;rw[hc] at h;simp only[cJ,hc,fail] at h
theorem Xb{P:Program} {o:Oper} {a:Act} {w:World} {x:Operand} {t:TypeId} {v:Value} (ho:o.op=.panic x) (hx:a.eval x=.iface t v):(execOp a.eval o).run P w=.halt (.panic (.iface t v)) w:=by
 simp only[execOp,ho,hx,Instr.panic];rfl
theorem cn.mf(G:cn C):cn C.mf where
 toGood:=⟨G.ti,G.mt,G.hm⟩
 gam:=fun f args sg pre x r h hp=>by
  have h:(match C.pn f args sg with|some (pre,c,_,_,x,r) =>some (pre/\¬c,x,r)|none=>none) =some (pre,x,r):=h;split at h
  . rename_i hpn;cases h;exact(G.del _ _ _ _ _ _ _ _ _ hpn hp.1).2 hp.2
  . cases h
 del:=G.del
theorem cn.ko(G:cn C) {f:FuncId}:∀args sg pre x r,C.ko.Γ f args sg=some (pre,x,r)->pre->∃v,me x=some v/\sa C.P C.gl f args sg v r:=fun args sg pre x r h hp=>by
 have h:(match C.pn f args sg with|some (pre,c,u,r,_,_) =>some (pre/\c,u,r)|none=>none) =some (pre,x,r):=h;split at h
 . rename_i hpn;cases h;exact(G.del _ _ _ _ _ _ _ _ _ hpn hp.1).1 hp.2
 . cases h
theorem ev_go{F:Fence} (hF:WF F) {n0:Nat} {st0:St} {g0:aw} (hY:ib C E n0 st0 g0) (B:my n0 st0 g0 st g s) {K:AS->Prop} {U:AS->V->List O->List Nat->Prop} {X:Value->AS->Prop} (R:Rel E st g s a w) (hg:aV C.gl st) (G:cn C) (hd:dU s o.dst=true) (h:iD.go C o (fun _=>K) U X s)
   {next:Act->World->Prop} {Q:Exit->Act->World->Prop} (hK:∀s' a' w',K s'->Go C E st g s s' a' w'->next a' w')
   (hU:∀x sg ks a' w',U s x sg ks->Go C E st g s (s.back o.dst x sg ks) a' w'->next a' w')
   (hX:∀u s' a' w',X u s'->Go C E st g s s' a' w'->Q (.panic [{v:=u,recovered:=false}]) a' w'):o.wpIn F 0 C.P a w next Q:=by
 have hnd:=J8 h;have hop:(cJ C s o fun e=>fM s o.dst e K)->o.wpIn F 0 C.P a w next Q:=fun h=>by
  obtain⟨e,h1,h2⟩:=sZ C s o _ h;rw[gQ] at h1;have h3:=s_op R hg G e (h2 _ rfl);exact hF.wp hnd (nk R hg hd h3 fun a' w' hgo=>hK _ a' w' h1 hgo)
 unfold iD.go at h;split at h
 . rename_i c hc;split at h
   . rename_i f args ht;have hval:∃x first captured,c.callee=.value x/\s.ev C x=.func (.func f) first captured/\args=first++s.aG C c.args.toList++captured:=by
      unfold target at ht;split at ht
      . rename_i x hx;split at ht
        . rename_i g' first captured hf
          cases ht;exact⟨x,first,captured,hx,hf,rfl⟩
        . cases ht
      . cases ht
     obtain⟨x,first,captured,hx1,hx2,rfl⟩:=hval;obtain⟨vs,hv1,hv2⟩:=zu (c:=c) R hg hx1 hx2;split at h
     . rename_i pre e he;obtain⟨hpre,h⟩:=h;rw[kW,gQ] at h;have h3:=wH (o:=o) R hg G (hv2 o hc) hv1 he hpre;exact hF.wp hnd (nk R hg hd h3 fun a' w' hgo=>hK _ a' w' h hgo)
     . split at h
       . rename_i p e1 q e2 hp1 hp2;obtain⟨hpq,h1,h2⟩:=h;by_cases hp:p
         . have h1:=h1 hp;unfold ry at h1;rw[kW] at h1;refine hF.wp hnd (DE (C:=C.ko) R hg G.ko (hv2 o hc) hv1 hp1 hp fun u st' g' w' hu A W=>?_);rw[hu] at h1;simp only[hJ,gQ] at h1;refine hX u _ a w' h1 ⟨st',g',?_,hg.mono A.mono,cm.app (d:=none) (e:=⟨.undef,e1.ks,e1.up,e1.nw,e1.rd⟩) A⟩;exact R.app (d:=none) (e:=⟨.undef,e1.ks,e1.up,e1.nw,e1.rd⟩) (v:=undef) rfl A W (by simp[VR])
         . have hq:=hpq.resolve_left hp;have h2:=h2 hq;rw[kW,gQ] at h2;have h3:=wH (C:=C.mf) (o:=o) R hg G.mf (hv2 o hc) hv1 hp2 hq;exact hF.wp hnd (nk (C:=C) R hg hd h3 fun a' w' hgo=>hK _ a' w' h2 hgo)
       obtain⟨hck,hcall⟩:=h;refine hF.wp hnd ?_;unfold Oper.wp;rw[hv2 o hc hck];refine Calls.mono (hcall E st g w vs R.wr hg hv1) ?_;rintro en w' ⟨v,x,sg',ks,st',g',rfl,W,hv,A,hk⟩;obtain⟨R',A'⟩:=R.back hd A W hv;exact hU _ _ _ _ _ hk ⟨st',g',R',hg.mono A.mono,A'⟩
   . split at h
     . rename_i l args hy;split at h
       . rename_i pre x sg' ks hyd;obtain⟨hpre,h⟩:=h;have hval:∃x,c.callee=.value x/\s.ev C x=.func (.yield l) [] []/\args=s.aG C c.args.toList:=by
          unfold yieldOf at hy;split at hy
          . rename_i x hx;split at hy
            . rename_i l' hf;cases hy;exact⟨x,hx,hf,rfl⟩
            . cases hy
          . cases hy
         obtain⟨f,hx1,hx2,rfl⟩:=hval;have hfv:=bn (C:=C) R hg f;rw[hx2] at hfv;simp only[VR] at hfv;obtain⟨fa,fb,hf1,hf2,hf3⟩:=hfv;simp only[aE] at hf2 hf3;have hvs:=tb (C:=C) R hg c.args.toList;obtain⟨fn,tmps,assign,body,hrun,hround⟩:=hF.Z5 (hY l _ _ _ _ _ _ hyd hpre st g w _ R.wr hg hvs B);refine⟨fun f _=>hF.fn f,?_⟩;rw[hF.sem hnd];have he:(execOp a.eval o).run C.P w=.ok (.round l fn tmps assign body) w:=by
          have e1:fa++c.args.map a.eval++fb=(c.args.toList.map a.eval).toArray:=by
           apply Array.ext';simp[hf2,hf3]
          have hx:a.eval f=.func (.yield l) fa fb:=hf1;simp only[execOp,hc,resolve,hx1,hx,Sem.run_bind];show(Sem.run C.P (Deferred.ofValue _ _) w).andThen _=_;simp only[Deferred.ofValue,Sem.run_pure,Result.andThen_ok,invoke];have hfb:fb=#[]:=by apply Array.ext';simpa using hf3
          rw[<-hrun,<-e1,hfb,Array.append_empty]
         rw[he,Oper.uponIn_round];refine⟨fun q=>hF.depth q 0,RoundIn.mono hround ?_⟩;rintro en w' ⟨v,st',g',rfl,W,hv,A⟩;obtain⟨R',A'⟩:=R.back hd A W hv;exact hU _ _ _ _ _ h ⟨st',g',R',hg.mono A.mono,A'⟩
       . exact h.elim
     . exact hop h
 . rename_i x hx;obtain⟨e,h1,h3⟩:=XL R hg hx h;exact hF.wp hnd (nk R hg hd h3 fun a' w' hgo=>hK _ a' w' h1 hgo)
 . rename_i x hx;refine hF.wp hnd ?_;cases hu:me (s.ev C x) with
   |none=>rw[hu] at h;exact h.elim
   |some u=>
     rw[hu] at h;have hv:=bn (C:=C) R hg x;have he:∃t k n,s.ev C x=.iface t (.int k n)/\u=.iface t (.int k n):=by
      unfold me at hu;split at hu
      . rename_i t k n e;cases hu;exact⟨t,k,n,e,rfl⟩
      . cases hu
     obtain⟨t,k,n,e1,rfl⟩:=he;rw[e1] at hv;simp only[VR] at hv;obtain⟨u',e2,rfl,_⟩:=hv;unfold Oper.wp;rw[Xb hx e2];exact hX _ s a w h ⟨st,g,R,hg,cm.refl⟩
 . exact hop h

theorem V6{ops:List Oper} {rest:List Oper} {d d2:Nat} (h:yN C ops o rest=some (d,d2)):
   ∃t len parts e o2 rest2,o.op=.buildSlice t len parts/\o.dst=some d/\rest=o2::rest2/\o2.op=.convert t t (.tmp d)/\o2.dst=some d2/\(C.ti t).k=.slice e/\(C.ti e).k=.int .u8/\
    o2.guard=o.guard/\(∀j x,o.guard=some (j,x)->∃u,cN ops j=some u/\u≠d)/\C.lits d=false:=by
 unfold yN at h;split at h
 . rename_i t len parts d0 o2 rest2 h1 h2;split at h
   . rename_i a b d' d20 e h4 h5 h6;split at h
     . rename_i h7;cases hb:(Nat.beq a t&&Nat.beq b t&&Nat.beq d0 d'&&!C.lits d0) with
       |false=>rw[hb] at h;simp at h
       |true=>
         rw[hb] at h;simp only[cond_true,aA,Bool.not_eq_true'] at h hb;obtain⟨⟨⟨e1,e2⟩,e3⟩,e4⟩:=hb;have e1:=cb e1;have e2:=cb e2;have e3:=cb e3;subst e1;subst e2;subst e3;split at h
         . rename_i g1 g2;cases h;exact⟨_,len,parts,e,o2,rest2,h1,h2,rfl,h4,h5,h6,h7,by rw[g1,g2],fun j x hj=>by(rw[g1] at hj;cases hj),e4⟩
         . rename_i j x j' x' g1 g2;split at h
           . rename_i u hu;cases hc:(Nat.beq j j'&&Bool.and (x==x') (!Nat.beq u d0)) with
             |false=>rw[hc] at h;simp at h
             |true=>
               rw[hc] at h;simp only[cond_true,Option.some.injEq,Prod.mk.injEq] at h;obtain⟨rfl,rfl⟩:=h;simp only[aA,Bool.not_eq_true',beq_iff_eq] at hc;obtain⟨f1,f2,f3⟩:=hc;have f1:=cb f1;subst f1;subst f2;refine⟨_,len,parts,e,o2,rest2,h1,h2,rfl,h4,h5,h6,h7,by rw[g1,g2],fun j' x' hj=>?_,e4⟩;rw[g1] at hj;cases hj;exact⟨u,hu,fun e=>by subst e;simp at f3⟩
           . cases h
         . cases h
     . cases h
   . cases h
 . cases h

theorem NH{ops:Array Oper} {j u d:Nat} {v:Value} (hu:cN ops.toList j=some u) (hne:u≠d):yielded ops (a.put (some d) v).tmps j=yielded ops a.tmps j:=by
 have h1:∀(l:List Oper) (j t:Nat),cN l j=some t->(l[j]?).bind (·.dst) =some t:=by
  intro l
  induction l with
  |nil=>intro j t h;simp[cN] at h
  |cons o l ih=>intro j t h;cases j with
    |zero=>simpa[cN] using h
    |succ j=>simpa using ih j t (by simpa[cN] using h)
 have h3:(ops[j]?).bind (·.dst) =some u:=by rw[<-Array.getElem?_toList];exact h1 _ _ _ hu
 unfold yielded;rw[h3];simp only[Option.bind_some,Act.put];rw[Array.getElem?_setIfInBounds_ne (Ne.symm hne)]

theorem KV{s:AS} {d:Nat} {x:V}:lk (s.app (some d) (pe x)).tm d=x:=by simp[AS.app,pe,lk]
theorem LQ{s:AS} {d:Nat} {x:V}:s.put (some d) x=s.app (some d) (pe x):=by
 simp[AS.put,AS.app,pe,kg,gY,dk,jC,gP]

theorem V7(R:Rel E st g s a w) (hg:aV C.gl st) (G:cn C) {o2:Oper} {t len d d2:Nat} {parts:Array (Nat×Operand)} {e:TypeId} (h1:o.op=.buildSlice t len parts) (h2:o.dst=some d)
   (hnl:C.lits d=false) (h4:o2.op=.convert t t (.tmp d)) (h6:(C.ti t).k=.slice e) (h7:(C.ti e).k=.int .u8) {F:Bool->AS->Prop} {U:AS->V->List O->List Nat->Prop} {X:Value->AS->Prop} (hd:dU s o.dst=true)
   (h:iD.go C o (fun _ s'=>jE s' (some (d,d2)) F) U X s):∃v w1 w2 s'',(execOp a.eval o).run C.P w=.ok (.value v) w1/\(execOp (a.put (some d) v).eval o2).run C.P w1=.ok (.value v) w2/\
    Go C E st g s s'' ((a.put (some d) v).put (some d2) v) w2/\F true s'':=by
 have hop:cJ C s o fun e=>fM s o.dst e fun s'=>jE s' (some (d,d2)) F:=by
  unfold iD.go at h;rw[h1] at h;exact h
 obtain⟨ef,k1,k2⟩:=sZ C s o _ hop;rw[gQ] at k1;have k3:=k2 (fun b=>b=ef) rfl;have k4:lz C s t len parts fun b=>b=ef:=by
  have k3:=k3;simp only[cJ,h1,h2,oh,hnl,cond_false] at k3;exact k3
 obtain⟨x,e',cells,rfl,q1,q2,q3,_⟩:=Bf R hg G.toGood h1 ef k4;have hu:=((G.toGood.ti t).of (by rw[h6];simp)).1;rw[h6] at hu;have hu:C.P.underlying t=some (.slice e):=hu;rw[hu] at q1;cases q1;have hue:=((G.toGood.ti e).of (by rw[h7];simp)).1;rw[h7] at hue;have hue:C.P.underlying e=some (.int .u8):=hue;rw[h2] at k1 hd;unfold jE at k1;simp only[pA] at k1;obtain⟨k5,k6⟩:=rX.1 k1;rw[KV,LQ] at k6;have hlt:d<s.nt:=by simpa[dU] using hd
 have hs2:(a.put (some d) (.slice (some ⟨w.heap.size,0,none⟩) len len)).eval (.tmp d) =.slice (some ⟨w.heap.size,0,none⟩) len len:=by
  show(a.tmps.setIfInBounds d _).getD d undef=_;simp[R.nt,hlt]
 have hr2:(execOp (a.put (some d) (.slice (some ⟨w.heap.size,0,none⟩) len len)).eval o2).run C.P (w.alloc (.cells cells e)) =.ok (.value (.slice (some ⟨w.heap.size,0,none⟩) len len)) (w.alloc (.cells cells e (cells.size,cells.size+1))):=by
  simp only[execOp,h4,hs2];rw[Sem.run_bind,Lib.run_convert_bytes_const w t e cells len len hu hue];rfl
 have R1:Rel E (kF st w.heap.size cells cells.size) g (s.app (some d) (pe x)) (a.put (some d) (.slice (some ⟨w.heap.size,0,none⟩) len len)) (w.alloc (.cells cells e (cells.size,cells.size+1))):=
  R.app hd ⟨p8 R.wr.ml,fun _ _ _=>rfl,by rw[j7];exact co _⟩ (by rw[j7];exact R.wr.B6 cells e _ cells.size) (by rw[j7];exact q3)
 have R2:=R1.app (d:=some d2) (e:=pe x) (v:=.slice (some ⟨w.heap.size,0,none⟩) len len) k5 ⟨fun _ _ _ h=>h,fun _ _ _=>rfl,by rw[j7];exact co _⟩ (by rw[j7];exact R1.wr) (by rw[j7,j7];exact q3);refine⟨_,_,_,_,q2,hr2,⟨_,g,R2,hg.mono (p8 R.wr.ml),?_⟩,k6⟩;exact cm.trans (s':=s.app (some d) (pe x)) (st':=kF st w.heap.size cells cells.size) (g':=g) ⟨p8 R.wr.ml,fun _ _ _=>rfl,by rw[j7];exact co _,fun i hi=>lv.2 (.inr hi)⟩ cm.pe

theorem D7{F:Fence} (hF:WF F) {E:Env} {n0:Nat} {st0:St} {g0:aw} (hY:ib C E n0 st0 g0) (G:cn C) {ops:Array Oper} {Q:Exit->Act->World->Prop} {K:Ex->AS->Prop}:∀(n:Nat) (rest:List Oper),rest.length<=n->∀(s:AS) (st:St) (g:aw) (a:Act) (w:World),Rel E st g s a w->aV C.gl st->my n0 st0 g0 st g s->
   gD C ops.toList false rest s K->(∀s' a' w',K .norm s'->Go C E st g s s' a' w'->Q .normal a' w')->(∀u s' a' w',K (.pan u) s'->Go C E st g s s' a' w'->Q (.panic [{v:=u,recovered:=false}]) a' w')->wpListIn F 0 C.P ops Q rest a w
 |_,[],_,s,st,g,a,w,R,hg,B,h,hK,_=>hK s a w h ⟨st,g,R,hg,cm.refl⟩
 |0,_::_,hn,_,_,_,_,_,_,_,_,_,_,_=>absurd hn (by simp)
 |n+1,o::rest,hn,s,st,g,a,w,R,hg,B,h,hK,hX=>by
   have hn:rest.length<=n:=by simpa using hn
   simp only[gD,Pf,iD] at h;obtain⟨hd,h⟩:=rX.1 h;cases hlit:yN C ops.toList o rest with
   |some p=>
     obtain⟨d,d2⟩:=p;obtain⟨t,len,parts,e,o2,rest2,h1,h2,rfl,h4,h5,h6,h7,h8,h9,h10⟩:=V6 hlit;rw[hlit] at h;have hn2:rest2.length<=n:=by simp at hn;omega
     have hrest:∀s' a' w',gD C ops.toList true (o2::rest2) s' K->Go C E st g s s' a' w'->wpListIn F 0 C.P ops Q rest2 a' w':=fun s' a' w' h' hgo=>by
      obtain⟨st',g',R',hg',A⟩:=hgo;simp only[gD] at h';exact D7 hF hY G n rest2 hn2 s' st' g' a' w' R' hg' (B.qn A) h' (fun s'' a'' w'' hk hgo'=>hK s'' a'' w'' hk (hgo'.trans A)) fun u s'' a'' w'' hk hgo'=>hX u s'' a'' w'' hk (hgo'.trans A)
     have hgo:∀s₁,Rel E st g s₁ a w->cm st g s st g s₁->dU s₁ o.dst=true->Region.wanted o (yielded ops a.tmps) =true->(∀v,Region.wanted o2 (yielded ops (a.put (some d) v).tmps) =true)->
        iD.go C o (fun _ s'=>jE s' (some (d,d2)) fun b s''=>gD C ops.toList b (o2::rest2) s'' K) (fun s x sg ks=>od s o.dst x sg ks fun s'=>jE s' (some (d,d2)) fun b s''=>gD C ops.toList b (o2::rest2) s'' K) (fun u s'=>K (.pan u) s') s₁->
        wpListIn F 0 C.P ops Q (o::o2::rest2) a w:=fun s₁ R₁ A₁ hd₁ hw1 hw2 h₁=>by
      obtain⟨v,w1,w2,s'',r1,r2,r3,r4⟩:=V7 R₁ hg G h1 h2 h10 h4 h6 h7 hd₁ h₁;unfold wpListIn;rw[if_pos hw1];refine hF.value (J8 h₁) r1 ?_;show wpListIn F 0 C.P ops Q (o2::rest2) (a.put o.dst v) w1;rw[h2];unfold wpListIn;rw[if_pos (hw2 v)];refine hF.value (fun c hc=>by rw[h4] at hc;cases hc) r2 ?_;show wpListIn F 0 C.P ops Q rest2 ((a.put (some d) v).put o2.dst v) w2;rw[h5];exact hrest _ _ _ r4 (r3.trans A₁)
     have hskip:∀s₁,Rel E st g s₁ a w->cm st g s st g s₁->dU s₁ o.dst=true->Region.wanted o (yielded ops a.tmps) =false->(Region.wanted o2 (yielded ops (a.put (some d) undef).tmps) =false)->
        (jE (s₁.app o.dst (pe (.tuple []))) (some (d,d2)) fun b s''=>gD C ops.toList b (o2::rest2) s'' K)->wpListIn F 0 C.P ops Q (o::o2::rest2) a w:=fun s₁ R₁ A₁ hd₁ hw1 hw2 h₁=>by
      unfold wpListIn;rw[if_neg (by rw[hw1];simp)];refine⟨fun f _=>hF.fn f,?_⟩;unfold wpListIn;rw[h2,if_neg (by rw[hw2];simp)];refine⟨fun f _=>hF.fn f,?_⟩;rw[h2] at h₁ hd₁;unfold jE at h₁;simp only[pA] at h₁;obtain⟨k5,k6⟩:=rX.1 h₁;rw[KV,LQ] at k6;have Ra:=wC (o:=o) R₁ (by rw[h2];exact hd₁);rw[h2] at Ra;have Rb:=wC (o:=o2) Ra (by rw[h5];exact k5);rw[h5] at Rb⊢;exact hrest _ _ _ k6 ⟨st,g,Rb,hg,(A₁.trans cm.pe).trans cm.pe⟩
     split at h
     . rename_i hgd;exact hgo s R cm.refl hd (by simp[Region.wanted,hgd]) (fun v=>by simp[Region.wanted,h8,hgd]) h
     . rename_i j want hgd;obtain⟨u,hu1,hu2⟩:=h9 j want hgd;split at h
       . exact h.elim
       . rename_i t' ht;rw[hu1] at ht;cases ht;split at h
         . rename_i b hb;have hy:=Gm R hu1 hb;have hl:=R.lit hb;have hA:cm st g s st g (s.app (some u) (pe (.bool b))):=cm.pe;have hw:∀v,yielded ops (a.put (some d) v).tmps j=some b:=fun v=>by rw[NH hu1 hu2];exact hy
           have hrun:∀b',b=b'->want=b'->iD.run' C o s (fun _ s'=>jE s' (some (d,d2)) fun b s''=>gD C ops.toList b (o2::rest2) s'' K) (fun s x sg ks=>od s o.dst x sg ks fun s'=>jE s' (some (d,d2)) fun b s''=>gD C ops.toList b (o2::rest2) s'' K) (fun u s'=>K (.pan u) s') (.bool b') u->wpListIn F 0 C.P ops Q (o::o2::rest2) a w:=fun b' e e2 h=>by
            subst e;unfold iD.run' at h;rw[gQ] at h;exact hgo _ hl hA hd (by simp[Region.wanted,hgd,hy,e2]) (fun v=>by simp[Region.wanted,h8,hgd,hw v,e2]) h
           have hsk:∀b',b=b'->want≠b'->iD.skip o s (fun _ s'=>jE s' (some (d,d2)) fun b s''=>gD C ops.toList b (o2::rest2) s'' K) (.bool b') u->wpListIn F 0 C.P ops Q (o::o2::rest2) a w:=fun b' e e2 h=>by
            subst e;unfold iD.skip at h;rw[gQ,gQ] at h;exact hskip _ hl hA hd (by simp[Region.wanted,hgd,hy,Ne.symm e2]) (by simp[Region.wanted,h8,hgd,hw undef,Ne.symm e2]) h
           cases b<;>cases want<;>simp only[dS,cond_true,cond_false] at h
           . exact hrun _ rfl rfl h
           . exact hsk _ rfl (by simp) h
           . exact hsk _ rfl (by simp) h
           . exact hrun _ rfl rfl h
         . rename_i hb;have hy:=Gn R hu1 hb;have hl:=R.lit hb;have hA:cm st g s st g (s.app (some u) (pe (.tuple []))):=cm.pe;unfold iD.skip at h;rw[gQ,gQ] at h;exact hskip _ hl hA hd (by simp[Region.wanted,hgd,hy]) (by simp[Region.wanted,h8,hgd,NH hu1 hu2,hy]) h
         . exact h.elim
   |none=>
   rw[hlit] at h
   --the rest,from any state that this operation leads to
   have hrest:∀s' a' w',gD C ops.toList false rest s' K->Go C E st g s s' a' w'->wpListIn F 0 C.P ops Q rest a' w':=fun s' a' w' h' hgo=>by
    obtain⟨st',g',R',hg',A⟩:=hgo;exact D7 hF hY G n rest hn s' st' g' a' w' R' hg' (B.qn A) h' (fun s'' a'' w'' hk hgo'=>hK s'' a'' w'' hk (hgo'.trans A)) fun u s'' a'' w'' hk hgo'=>hX u s'' a'' w'' hk (hgo'.trans A)
   have hgo:∀s₁,Rel E st g s₁ a w->cm st g s st g s₁->dU s₁ o.dst=true->iD.go C o (fun _ s'=>jE s' none fun b s''=>gD C ops.toList b rest s'' K) (fun s x sg ks=>od s o.dst x sg ks fun s'=>jE s' none fun b s''=>gD C ops.toList b rest s'' K) (fun u s'=>K (.pan u) s') s₁->
      o.wpIn F 0 C.P a w (wpListIn F 0 C.P ops Q rest) Q:=fun s₁ R₁ A₁ hd₁ h₁=>by
    refine ev_go hF hY (B.qn A₁) R₁ hg G hd₁ h₁ (fun s' a' w' h' hgo=>hrest s' a' w' h' (hgo.trans A₁)) (fun x sg ks a' w' h' hgo=>?_) ?_
    . rw[O8] at h';exact hrest _ a' w' h' (hgo.trans A₁)
    exact fun u s' a' w' h' hgo=>hX u s' a' w' h' (hgo.trans A₁)
   unfold wpListIn;split at h
   . rename_i hgd;rw[if_pos (by simp[Region.wanted,hgd])];exact(hgo s R cm.refl hd h)
   . rename_i j want hgd;split at h
     . exact h.elim
     . rename_i t ht;split at h
       . rename_i b hb;have hy:=Gm R ht hb;have hl:=R.lit hb;have hA:cm st g s st g (s.app (some t) (pe (.bool b))):=cm.pe;have hrun:∀b',b=b'->iD.run' C o s (fun _ s'=>jE s' none fun b s''=>gD C ops.toList b rest s'' K) (fun s x sg ks=>od s o.dst x sg ks fun s'=>jE s' none fun b s''=>gD C ops.toList b rest s'' K) (fun u s'=>K (.pan u) s') (.bool b') t->o.wpIn F 0 C.P a w (wpListIn F 0 C.P ops Q rest) Q:=fun b' e h=>by
          subst e;unfold iD.run' at h;rw[gQ] at h;exact hgo _ hl hA hd h
         have hskip:∀b',b=b'->iD.skip o s (fun _ s'=>jE s' none fun b s''=>gD C ops.toList b rest s'' K) (.bool b') t->wpListIn F 0 C.P ops Q rest (a.put o.dst undef) w:=fun b' e h=>by
          subst e;unfold iD.skip at h;rw[gQ,gQ] at h;exact hrest _ _ _ h ⟨st,g,wC hl hd,hg,hA.trans cm.pe⟩
         cases b<;>cases want<;>simp only[dS,cond_true,cond_false] at h
         . rw[if_pos (by simp[Region.wanted,hgd,hy])];exact hrun _ rfl h
         . rw[if_neg (by simp[Region.wanted,hgd,hy])];exact⟨fun f _=>hF.fn f,hskip _ rfl h⟩
         . rw[if_neg (by simp[Region.wanted,hgd,hy])];exact⟨fun f _=>hF.fn f,hskip _ rfl h⟩
         . rw[if_pos (by simp[Region.wanted,hgd,hy])];exact hrun _ rfl h
       . rename_i hb;have hy:=Gn R ht hb;have hl:=R.lit hb;have hA:cm st g s st g (s.app (some t) (pe (.tuple []))):=cm.pe;rw[if_neg (by simp[Region.wanted,hgd,hy])];refine⟨fun f _=>hF.fn f,?_⟩;unfold iD.skip at h;rw[gQ,gQ] at h;exact hrest _ _ _ h ⟨st,g,wC hl hd,hg,hA.trans cm.pe⟩
       . exact h.elim

theorem M8{F:Fence} (hF:WF F) {n0:Nat} {st0:St} {g0:aw} (hY:ib C E n0 st0 g0) {id:Nat} {ops:Array Oper} (R:Rel E st g s a w) (hg:aV C.gl st) (G:cn C) (B:my n0 st0 g0 st g s) {Q:Exit->Act->World->Prop} {K:Ex->AS->Prop} (h:gD C ops.toList false ops.toList s K)
   (hK:∀s' a' w',K .norm s'->Go C E st g s s' a' w'->Q .normal a' w') (hX:∀u s' a' w',K (.pan u) s'->Go C E st g s s' a' w'->Q (.panic [{v:=u,recovered:=false}]) a' w'):(Code.region id ops false).wpIn F 0 C.P Q a w:=
 wpIn_region_list (D7 hF hY G _ _ (co _) s st g a w R hg B h hK hX)
theorem Dt{n0:Nat} {st0:St} {g0:aw} (hY:ib C E n0 st0 g0) {id:Nat} {ops:Array Oper} (R:Rel E st g s a w) (hg:aV C.gl st) (G:cn C) (B:my n0 st0 g0 st g s) {Q:Exit->Act->World->Prop} {K:Ex->AS->Prop} (h:gD C ops.toList false ops.toList s K)
   (hK:∀s' a' w',K .norm s'->Go C E st g s s' a' w'->Q .normal a' w') (hX:∀u s' a' w',K (.pan u) s'->Go C E st g s s' a' w'->Q (.panic [{v:=u,recovered:=false}]) a' w'):(Code.region id ops false).wp C.P Q a w:=
 wpIn_wide.1 (M8 (.inl rfl) hY R hg G B h hK hX)
end
end Go.VG
