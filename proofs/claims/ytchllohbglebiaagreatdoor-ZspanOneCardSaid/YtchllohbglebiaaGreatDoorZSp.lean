/-
  A part of the proof.
-/
import Derived.Test.YtchllohbglebiaaGreatDoorZSl
import Derived.Test.YtchllohbglebiaaGreatDoorZSj
set_option linter.unusedSimpArgs false
set_option linter.unusedVariables false
set_option maxHeartbeats 4000000
set_option maxRecDepth 100000
namespace Go.Proofs.YtchllohbglebiaaGreatDoor
open Go Go.VG
abbrev tI(a:ak):V:=.agg [.str a.key,.int .u8 1,.str a.value.text,.int .i64 0,.int .u64 0,.list true 0 [],.list true 0 []]
theorem SG(t:gA) (hp:True):OK 26 ([.str t]) ([]) (.agg [.int .u8 1,.str t,.int .i64 0,.int .u64 0,.list true 0 [],.list true 0 []]) (none):=by
 refine aq (C:=cx []) (ar trivial) (fn:=Tryz.f26) fun hw hs=>?_;all_goals try conv=>whnf
 all_goals try(refine ae.mk ?_;try dsimp only)
 refine ab.mk [] ?_<;>(repeat' first|trivial)
def uZ:Sm:=fun args σ=>match args,σ with
 |[.str t],[]=>some (True,.agg [.int .u8 1,.str t,.int .i64 0,.int .u64 0,.list true 0 [],.list true 0 []],none)
 |_,_=>none
theorem zv:ax 26 uZ:=by
 intro args sg pre x r he hp;unfold uZ at he;split at he<;>cases he
 . exact SG (hp:=hp) ..
section
variable {L:List Nd} {q:Int} {k:Nat}
theorem N9{ks:List Nat} {i:Nat} (h:i<ks.length):jl L (ks.drop i) =if jv L (ks.getD i default)≠0 then jv L (ks.getD i default) else jl L (ks.drop (i+1)):=by
 rw[List.drop_eq_getElem_cons h,jl,dO,dO,mI,ac,am h];show(if jv L ks[i]≠0 then _ else _) =(if jv L ks[i]≠0 then _ else _);split
 . rfl
 . split<;>omega
theorem N8{ks:List Nat} {i:Nat} (h:i<ks.length):(ks.take (i+1)).map (jg L) =(ks.take i).map (jg L)++[jg L (ks.getD i default)]:=by
 rw[oG (d:=default) h,fo];rfl
theorem tg_lt{L:List Nd} {ks:List Nat} {i:Nat} (hc:jl L ks≠0) (he:jl L ks=jl L (ks.drop i)):i<ks.length:=by
 rcases d7 i ks.length with h|h
 . exact h
 . rw[List.drop_eq_nil_of_le h] at he;exact absurd he hc
theorem zg_1(h:km L q bk≠0):jc L q=km L q bk:=if_pos h
theorem BQ(h:¬km L q bk≠0):jc L q=jl L (nL L q):=by
 unfold jc;rw[dO,if_neg h,dO,mI];split<;>omega
theorem BR(hb:jn L q bk=true):nL L q=bA L (cB L q bk):=if_pos hb
theorem Gx(hb:jn L q bk=false):nL L q=[]:=if_neg (by rw[hb];exact Bool.false_ne_true)
theorem J1(ks:List Nat):ji (ks.map (jg L)) =ks.length:=by
 induction ks with
 |nil=>rfl
 |cons k r ih=>
   rw[List.map_cons,ji,ih,List.length_cons];show 1+0+0+_=_;omega
theorem J0(ks:List Nat):oe (.list false 7 ((ks.map (jg L)).map tI))/\lq (.list false 7 ((ks.map (jg L)).map tI)) =ks.map (jg L):=by
 have hd:bI ((ks.map (jg L)).map tI) =ks.map (jg L):=by
  induction ks with
  |nil=>rfl
  |cons k r ih=>
    rw[List.map_cons,List.map_cons,bI,ih];rfl
 refine⟨?_,hd⟩;unfold oe;rw[show lq (.list false 7 ((ks.map (jg L)).map tI)) =ks.map (jg L) from hd];refine Wk.list (.inr rfl) (by rw[cX,aA,aA,aA]) fun i x y hx hy=>?_;rw[lV,List.map_map,List.getElem?_map] at hy;rw[List.map_map,List.getElem?_map] at hx;cases hk:ks[i]? with
 |none=>rw[hk] at hx;cases hx
 |some k=>
   rw[hk] at hx hy;cases hx;cases hy;exact Wk.agg (ba.cons (Wk.refl _) (ba.cons (Wk.refl _) (ba.cons (Wk.refl _) (ba.cons (Wk.refl _) (ba.cons (Wk.refl _) (ba.cons (Wk.nil (.inl rfl)) (ba.cons (Wk.nil (.inl rfl)) ba.nil)))))))
end
theorem SD(c:Bool) (l:List V) (q:Int) (hp:cR l/\(al l).length<=10000) (hc:¬(jc (al l) q≠0)):OK 22 ([.agg [.list c 4 l,.int .i64 q]]) ([]) (.list false 7 (aG (bm (al l) q))) (none):=by
 refine aq (C:=cxr [(50,uQ),(53,uW),(26,uZ),(54,Fy)] [(45,j7)] [(13,[.c9 3])]) (z8 ⟨zm,zt,zv,Kd,trivial⟩ ⟨jx,trivial⟩) (fn:=Tryz.f22) fun hw hs=>?_;obtain⟨hp,hL⟩:=hp;obtain⟨L,rfl,eL⟩:=pG hp.1.1;have hml:(L.map aW).length=L.length:=aA _;rw[eL] at hL;have hok:gK (L.map aW)/\gT L:=⟨pj,by have:=hp.1.2;rw[eL] at this;exact this⟩
 repeat'((conv=>whnf);first|with_reducible refine cM ?_ (fun h=>?_) fun h=>?_|apply af|apply aK|(apply av<;>intro h))
 all_goals try conv=>whnf
 all_goals try(refine ae.mk ?_;try dsimp only)
 all_goals (try simp only[eh,List.toList_toArray] at*)
 . exact hok
 . exact hc (by rw[zg_1 (by assumption)];assumption)
 . exact hok
 . have hb:=GL (L:=L) (q:=q) (key:=bk) (by assumption);have hz:=BQ (L:=L) (q:=q) (by assumption);rw[hz,BR hb] at hc;have hv:bm L q=cS ((bA L (cB L q bk)).map (jg L)) []:=by unfold bm;rw[BR hb]
   rw[hv];have hkm:∀i,i<(bA L (cB L q bk)).length->(bA L (cB L q bk)).getD i default<L.length:=fun i h=>by
    rw[ac,am h];exact ui (List.getElem_mem h)
   have hkb:=wS L (cB L q bk);have hkl:((bA L (cB L q bk)).map nI).length=(bA L (cB L q bk)).length:=aA _;refine aZ.mk Nat (fun i=>i<=(bA L (cB L q bk)).length/\jl L (bA L (cB L q bk)) =jl L ((bA L (cB L q bk)).drop i)) (fun i=>⟨56,[(1,.ptr 0 0),(4,.buf 3),(22,.buf 2),(23,.int .i64 (bA L (cB L q bk)).length),(24,.int .i64 i)],[.cells [.list c 4 (L.map aW),.int .i64 q],.dead,.buf 1 0 ((bA L (cB L q bk)).map nI),.buf 7 0 ((((bA L (cB L q bk)).take i).map (jg L)).map tI)],[3]⟩) (fun i=>(bA L (cB L q bk)).length-i) [.tm 4 7] 0 ⟨bu _,rfl⟩ ?_ (fun i ⟨hi,he⟩ _ _=>?_)
   . apply ay<;>(repeat' first|trivial|apply ah|apply aN)
     exact congrArg Nat.cast hkl
   have hst:=N9 (L:=L) (ks:=bA L (cB L q bk)) (i:=i);have hsn:=N8 (L:=L) (ks:=bA L (cB L q bk)) (i:=i);have hkk:=hkm i;have hgm:=J0 (L:=L) (bA L (cB L q bk));have hgn:=J1 (L:=L) (bA L (cB L q bk))
   skip
   generalize bA L (cB L q bk) =ks at*;repeat'((conv=>whnf);first|with_reducible refine cM ?_ (fun h=>?_) fun h=>?_|apply af|apply aK|(apply av<;>intro h)|with_reducible apply lZ)
   all_goals try conv=>whnf
   all_goals try(refine ae.mk ?_;try dsimp only)
   all_goals (try simp only[eh,List.toList_toArray,hkl,Int.toNat_natCast] at*)
   all_goals generalize ks.getD i default=k at*
   all_goals first|refine stay ?_|trivial|omega|(simp(discharger:=omega) [-List.getD_eq_getElem?_getD,wR]<;>omega)|skip
   all_goals try exact absurd (by decide) ‹¬(7:Int)≠0›
   . have h115:jv L k=0:=if_neg (by omega);refine⟨[],i+1,⟨by omega,by rw[he,hst (by omega),if_neg (by rw[h115];exact fun z=>z rfl)]⟩,?_,by omega⟩;rw[hsn (by omega)];apply ay<;>(repeat' first|trivial|apply ah|apply aN|apply bc)
     all_goals first
      |(rw[bX];omega)
      |(rw[fo];rfl)
   . have h115:jv L k=7:=if_pos (by omega);exact hc (by rw[he,hst (by omega),h115,if_pos (by decide)];decide)
   . obtain rfl:i=ks.length:=by omega
     rw[List.take_length];exact⟨hgm.1,by rw[hgm.2,hgn];omega⟩
   . obtain rfl:i=ks.length:=by omega
     rw[List.take_length];rw[hgm.2];refine ab.mk [] ?_<;>(repeat' first|trivial)
 . have hv:bm L q=[]:=by unfold bm;rw[Gx (O2 (by assumption))];rfl
   rw[hv];refine ab.mk [.tm 2 7,.c9 2] ?_<;>(repeat' first|trivial)
theorem WM(c:Bool) (l:List V) (q:Int) (hp:cR l/\(al l).length<=10000) (hc:jc (al l) q≠0):jq 22 ([.agg [.list c 4 l,.int .i64 q]]) ([]) (.iface 58 (.int .i64 (jc (al l) q))) (none):=by
 refine jA (C:=cxr [(50,uQ),(53,uW),(26,uZ),(54,Fy)] [(45,j7)] [(13,[.c9 3])]) (z8 ⟨zm,zt,zv,Kd,trivial⟩ ⟨jx,trivial⟩) (fn:=Tryz.f22) rfl rfl rfl rfl fun hw hs=>?_;obtain⟨hp,hL⟩:=hp;obtain⟨L,rfl,eL⟩:=pG hp.1.1;have hml:(L.map aW).length=L.length:=aA _;rw[eL] at hL;have hok:gK (L.map aW)/\gT L:=⟨pj,by have:=hp.1.2;rw[eL] at this;exact this⟩
 repeat'((conv=>whnf);first|with_reducible refine cM ?_ (fun h=>?_) fun h=>?_|apply af|apply fE|apply aK)
 all_goals try conv=>whnf
 all_goals try(refine ae.mk ?_;try dsimp only)
 all_goals (try simp only[eh,List.toList_toArray] at*)
 . exact hok
 . rw[zg_1 (by assumption)];rfl
 . (refine bC.mk [] ?_<;>(repeat' first|trivial|rfl|apply ah);done)
 . refine decide_eq_true (show _>=_ from ?_);have hb:jn L q bk=true:=by
    cases hB:jn L q bk with
    |true=>rfl
    |false=>rw[BQ (by assumption),Gx hB] at hc;exact absurd rfl hc
   exact of_decide_eq_true hb
 . exact hok
 . have hb:jn L q bk=true:=by
     cases hB:jn L q bk with
     |true=>rfl
     |false=>rw[BQ (by assumption),Gx hB] at hc;exact absurd rfl hc
   have hz:=BQ (L:=L) (q:=q) (by assumption);rw[hz,BR hb] at hc;have hpe:∀{k:Nat} {v w:Int},jl L (bA L (cB L q bk)) =v->(v=if jv L k≠0 then jv L k else w)->jv L k≠0->jc L q=jv L k:=fun a b z=>by rw[hz,BR hb,a,b,if_pos z]
   have hkm:∀i,i<(bA L (cB L q bk)).length->(bA L (cB L q bk)).getD i default<L.length:=fun i h=>by
    rw[ac,am h];exact ui (List.getElem_mem h)
   have hkb:=wS L (cB L q bk);have hkl:((bA L (cB L q bk)).map nI).length=(bA L (cB L q bk)).length:=aA _;refine aZ.mk Nat (fun i=>i<=(bA L (cB L q bk)).length/\jl L (bA L (cB L q bk)) =jl L ((bA L (cB L q bk)).drop i)) (fun i=>⟨56,[(1,.ptr 0 0),(4,.buf 3),(22,.buf 2),(23,.int .i64 (bA L (cB L q bk)).length),(24,.int .i64 i)],[.cells [.list c 4 (L.map aW),.int .i64 q],.dead,.buf 1 0 ((bA L (cB L q bk)).map nI),.buf 7 0 ((((bA L (cB L q bk)).take i).map (jg L)).map tI)],[3]⟩) (fun i=>(bA L (cB L q bk)).length-i) [.tm 4 7] 0 ⟨bu _,rfl⟩ ?_ (fun i ⟨hi,he⟩ _ _=>?_)
   . apply ay<;>(repeat' first|trivial|apply ah|apply aN)
     exact congrArg Nat.cast hkl
   have hst:=N9 (L:=L) (ks:=bA L (cB L q bk)) (i:=i);have hsn:=N8 (L:=L) (ks:=bA L (cB L q bk)) (i:=i);have hkk:=hkm i;have hgm:=J0 (L:=L) (bA L (cB L q bk));have hgn:=J1 (L:=L) (bA L (cB L q bk))
   (have hlt:=tg_lt hc he)
   generalize bA L (cB L q bk) =ks at*;repeat'((conv=>whnf);first|with_reducible refine cM ?_ (fun h=>?_) fun h=>?_|apply af|apply aK|(apply av<;>intro h)|with_reducible apply lZ)
   all_goals try conv=>whnf
   all_goals try(refine ae.mk ?_;try dsimp only)
   all_goals (try simp only[eh,List.toList_toArray,hkl,Int.toNat_natCast] at*)
   all_goals generalize ks.getD i default=k at*
   all_goals first|refine stay ?_|trivial|omega|(simp(discharger:=omega) [-List.getD_eq_getElem?_getD,wR]<;>omega)|skip
   all_goals try exact absurd (by decide) ‹¬(7:Int)≠0›
   . have h115:jv L k=0:=if_neg (by omega);refine⟨[],i+1,⟨by omega,by rw[he,hst hlt,if_neg (by rw[h115];exact fun z=>z rfl)]⟩,?_,by omega⟩;rw[hsn hlt];apply ay<;>(repeat' first|trivial|apply ah|apply aN|apply bc)
     all_goals first
      |(rw[bX];omega)
      |(rw[fo];rfl)
   . have h115:jv L k=7:=if_pos (by omega);rw[hpe he (hst hlt) (by rw[h115];decide),h115]
   . (refine bC.mk [] ?_<;>(repeat' first|trivial|rfl|apply ah);done)
   . exact absurd hlt (by omega)
def Ee:dL:=fun args σ=>match args,σ with
 |[.agg [.list c 4 l,.int .i64 q]],[]=>some (cR l/\(al l).length<=10000,jc (al l) q≠0,.iface 58 (.int .i64 (jc (al l) q)),none,.list false 7 (aG (bm (al l) q)),none)
 |_,_=>none
theorem V8:dX 22 (Ee):=by
 intro args sg pre c u r x r2 he hp;unfold Ee at he;split at he<;>cases he
 . exact⟨fun hc=>⟨_,rfl,WM (hp:=hp) (hc:=hc) ..⟩,fun hc=>SD (hp:=hp) (hc:=hc) ..⟩
theorem xc{l:List ak} {i:Nat} (h:i<l.length):l.getD i default=l[i]:=by
 rw[ac,am h];rfl
theorem get_at{l:List ak} {key:Ky} {i:Nat} (h:cF l) (hi:i<l.length) (e:(l.getD i default).key=key):less l key=i:=by
 rcases Nat.lt_trichotomy (less l key) i with q|q|q
 . have h1:=KO (l:=l) (k:=key) (by omega);have h2:=List.pairwise_iff_getElem.1 h (less l key) i (by omega) hi q;rw[xc (by omega)] at h1;rw[xc hi] at e;rw[e] at h2;exact absurd h2 h1
 . exact q
 . have h1:=KR q;rw[e] at h1;exact absurd h1 (qC _)
theorem T2{l:List ak} {key:Ky} {i:Nat} (h:cF l) (hi:i<l.length) (e:(l.getD i default).key=key):fL l key=true/\kG l key=(l.getD i default).value:=by
 have h1:=get_at h hi e;have h2:fL l key=true:=decide_eq_true (by rw[h1];exact⟨hi,e⟩);exact⟨h2,by unfold kG;rw[if_pos h2,h1]⟩
theorem T3{l:List ak} {key:Ky} (h:∀j,j<l.length->(l.getD j default).key≠key):fL l key=false/\kG l key=default:=by
 have h2:fL l key=false:=decide_eq_false fun q=>h _ q.1 q.2;exact⟨h2,by unfold kG;rw[if_neg (by rw[h2];exact Bool.false_ne_true)]⟩
def aa0:Sm:=fun args σ=>match args,σ with
 |[.agg [.int .u8 1,.str t,.int .i64 n,.int .u64 b,.list c1 z1 l,.list c2 z2 m]],[]=>some (True,.str t,none)
 |[.agg [.int .u8 0,.str [],.int .i64 n,.int .u64 b,.list c1 z1 l,.list c2 z2 m]],[]=>some (True,.str [],none)
 |_,_=>none
def smKX(m:List ak->Ky->V) (p:List ak->Prop):Sm:=fun args σ=>match args,σ with
 |[.list false 7 x,.str key],[]=>some (nO x/\p (bI x),m (bI x) key,none)
 |_,_=>none
theorem smKX_ok{f:Nat} {m:List ak->Ky->V} {p:List ak->Prop} (h:∀l key,l.length<=1000000->cF l->p l->OK f [.list false 7 (aG l),.str key] [] (m l key) none):ax f (smKX m p):=by
 intro args sg pre x r he hp;unfold smKX at he;split at he<;>cases he;obtain⟨⟨h1,h2,h3⟩,ht⟩:=hp;have h4:=congrArg List.length h1;rw[cX] at h4;have:=h _ ‹Ky› (by omega) h3 ht;rw[<-h1] at this;exact this
-- #name r26Get truchmanref26.Get
-- #name r26Text truchmanref26.Text
def Az:Sm:=fun args σ=>match args,σ with
 |[.list false 7 x,.list c 1 y],[]=>some ((x=aG (bI x)/\x.length<=1000000)/\pO y,.list false 7 (aG (dy (bI x) (y.map jm))),none)
 |_,_=>none
theorem MB{f:Nat} (h:∀l c ks,l.length<=1000000->ks.length<=1000000->OK f [.list false 7 (aG l),.list c 1 (ks.map V.str)] [] (.list false 7 (aG (dy l ks))) none):ax f Az:=by
 intro args sg pre x r he hp;unfold Az at he;split at he<;>cases he;obtain⟨⟨h1,h2⟩,h3,h4⟩:=hp;rename_i x c y;have h5:=congrArg List.length h1;rw[cX] at h5;have:=h (bI x) c (y.map jm) (by omega) (by rw[aA];exact h4);rw[<-h1,<-h3] at this;exact this
-- #name atDrop attrs.Drop
-- #name r26Drop truchmanref26.Drop
def EK:Sm:=Az
def MF:Sm:=Az
theorem JH:ax 24 EK:=MB fun l c ks=>PD l c ks
theorem Ur:ax 34 MF:=MB fun l c ks=>RG l c ks
def AF:Sm:=fun args σ=>match args,σ with
 |[.list false 7 x,.str key,y],[]=>some (nO x/\qz y,.list false 7 (aG (cf (bI x) (.mk key (my y)))),none)
 |_,_=>none
-- #name atPut attrs.Put
theorem JI:ax 25 AF:=by
 intro args sg pre x r he hp;unfold AF at he;split at he<;>cases he;obtain⟨⟨h1,h2,h3⟩,hv⟩:=hp;rename_i x key y;have h4:=congrArg List.length h1;rw[cX] at h4;have:=PG (bI x) key (my y) (by omega) h3;rw[<-h1] at this;exact this.args (ba.cons (Wk.refl _) (ba.cons (Wk.refl _) (ba.cons hv ba.nil)))
section
variable {l:List ak}
abbrev ua(l:List ak) (k:Ky):Prop:=less l k<l.length/\(l.getD (less l k) default).key=k
theorem Bq(h:ua l cA):dr l=2/\dA l=bf l cA:=by
 have e:fL l cA=true:=decide_eq_true h;unfold dr dA;rw[e];exact⟨rfl,rfl⟩
theorem v8(h:¬ua l cA):(dr l=if bf l dz=xV then 2 else if bf l dz=mg then 1 else 0)/\dA l=[]:=by
 have e:fL l cA=false:=decide_eq_false h;unfold dr dA;rw[e];exact⟨rfl,rfl⟩
theorem Br(h:¬ua l cA) (h2:bf l dz=xV):dr l=2/\dA l=[]:=⟨(v8 h).1.trans (if_pos h2),(v8 h).2⟩
theorem G5(h:¬ua l cA) (h2:bf l dz=mg):dr l=1/\dA l=[]:=⟨by rw[(v8 h).1,h2];decide,(v8 h).2⟩
theorem G6(h:¬ua l cA) (h2:¬bf l dz=xV) (h3:¬bf l dz=mg):dr l=0/\dA l=[]:=⟨by rw[(v8 h).1,if_neg h2,if_neg h3],(v8 h).2⟩
end
theorem SC(x:List V) (hp:nO x/\ey (bI x)):OK 23 ([.list false 7 x]) ([]) (.agg [.int .i64 (dr (bI x)),.str (dA (bI x))]) (none):=by
 refine aq (C:=cx [(55,EL),(36,uP)]) (ar ⟨TC,zl,trivial⟩) (fn:=Tryz.f23) fun hw hs=>?_;obtain⟨hR,ht⟩:=hp;repeat'((conv=>whnf);first|apply af|((first|apply av|apply gI)<;>intro h))
 all_goals try conv=>whnf
 all_goals try(refine ae.mk ?_;try dsimp only)
 . exact hR
 . exact⟨hR,ht⟩
 . rw[(Bq (l:=bI x) (by assumption)).1,(Bq (l:=bI x) (by assumption)).2];refine ab.mk [] ?_<;>(repeat' first|trivial)
 . rw[(Br (l:=bI x) (by assumption) (by assumption)).1,(Br (l:=bI x) (by assumption) (by assumption)).2];refine ab.mk [] ?_<;>(repeat' first|trivial)
 . rw[(G5 (l:=bI x) (by assumption) (by assumption)).1,(G5 (l:=bI x) (by assumption) (by assumption)).2];refine ab.mk [] ?_<;>(repeat' first|trivial)
 . rw[(G6 (l:=bI x) (by assumption) (by assumption) (by assumption)).1,(G6 (l:=bI x) (by assumption) (by assumption) (by assumption)).2];refine ab.mk [] ?_<;>(repeat' first|trivial)
def FX:Sm:=fun args σ=>match args,σ with
 |[.list false 7 x],[]=>some (nO x/\ey (bI x),.agg [.int .i64 (dr (bI x)),.str (dA (bI x))],none)
 |_,_=>none
theorem UK:ax 23 FX:=by
 intro args sg pre x r he hp;unfold FX at he;split at he<;>cases he
 . exact SC (hp:=hp) ..
theorem zas0' (w:World):(Instr.typeAssert .nilIface 20 58 true).run Tryz.prog w=.ok (.tuple #[.int .i64 0,.bool false]) w:=by rfl
theorem zas1' (n:Int) (w:World):(Instr.typeAssert (.iface 58 (.int .i64 n)) 20 58 true).run Tryz.prog w=.ok (.tuple #[.int .i64 n,.bool true]) w:=by rfl
theorem zas0{ev:Operand->Value} {o:Oper} {x:Operand} (ho:o.op=.typeAssert x 20 58 true) (hx:ev x=.nilIface) (w:World):(execOp ev o).run Tryz.prog w=.ok (.value (.tuple #[.int .i64 0,.bool false])) w:=by
 simp only[execOp,ho,hx,Sem.run_bind,zas0',Result.andThen_ok,Sem.run_pure]
theorem zas1{ev:Operand->Value} {o:Oper} {x:Operand} {n:Int} (ho:o.op=.typeAssert x 20 58 true) (hx:ev x=.iface 58 (.int .i64 n)) (w:World):(execOp ev o).run Tryz.prog w=.ok (.value (.tuple #[.int .i64 n,.bool true])) w:=by
 simp only[execOp,ho,hx,Sem.run_bind,zas1',Result.andThen_ok,Sem.run_pure]
theorem GC(v1 v2 v3:Value):[v1,v2,v3].toArray++Array.replicate (13-[v1,v2,v3].toArray.size) undef=#[v1,v2,v3,undef,undef,undef,undef,undef,undef,undef,undef,undef,undef]:=by rfl
abbrev zTm(b:Bool) (n:Int):List (Nat×V):=[(4,.bool b),(3,.int .i64 n),(2,.ptr 2 0),(1,.ptr 1 0),(0,.ptr 0 0)]
theorem GQ{v1 v2 v3 y4 y5 y6 y7 y8:Value} {n:Int} {b:Bool} (hn:-9223372036854775808<=n/\n<=9223372036854775807):∀(st:St) (g:au) (n':Nat),aC st g [.ptr 0 0,.ptr 1 0,.ptr 2 0] n' [v1,v2,v3]->∀t,VR st g (lk (zTm b n) t) n' ((#[v1,v2,v3,.int .i64 n,.bool b,y4,y5,y6,y7,y8,undef,undef,undef]:Array Value).getD t undef):=by
 intro st g n' hv t;obtain⟨x1,q1,q2⟩:=jQ hv (i:=0) rfl;obtain⟨x2,q3,q4⟩:=jQ hv (i:=1) rfl;obtain⟨x3,q5,q6⟩:=jQ hv (i:=2) rfl;cases q1;cases q3;cases q5
 match t with
 |0=>exact q2
 |1=>exact q4
 |2=>exact q6
 |3=>exact⟨rfl,hn⟩
 |4=>rfl
 |t+5=>trivial
abbrev re(n:Int):Value:=.iface 58 (.int .i64 n)
theorem xX(σ:List O) (hσ:gm σ σ σ.length):rf Tryz.prog ib 16 [.ptr 0 0,.ptr 1 0,.ptr 2 0] σ none σ:=by
 refine vN (C:=cx []) (ar trivial) (cfn:=Tryz.f16) (tm:=zTm false 0) rfl rfl rfl rfl (fun vs w c₀ cs Q hl hu h=>?_) ?_
 . obtain⟨v1,v2,v3,rfl⟩:∃v1 v2 v3,vs=[v1,v2,v3]:=by
     match vs,hl with
     |[v1,v2,v3],_=>exact⟨v1,v2,v3,rfl⟩
   rw[show Tryz.f16.ntmps=13 from rfl] at h⊢;rw[GC];apply wpSIn_region;show wpOpsSIn Fence.wide 0 Tryz.prog _ _ _ _ _ _;refine MG rfl rfl rfl (by simp[recoverD,hu,kL]) ?_;refine eu (v:=.tuple #[.int .i64 0,.bool false]) rfl rfl (zas0 rfl rfl w) ?_;refine eu (v:=.tuple #[.int .i64 0,.bool false]) rfl rfl (kY (x:=.tmp 7) (v:=.tuple #[.int .i64 0,.bool false]) (.inl rfl) rfl w) ?_;refine eu (v:=.int .i64 0) rfl rfl (oD (x:=.tmp 5) (i:=0) (vs:=#[.int .i64 0,.bool false]) (v:=.int .i64 0) rfl rfl rfl w) ?_;refine eu (v:=.bool false) rfl rfl (oD (x:=.tmp 5) (i:=1) (vs:=#[.int .i64 0,.bool false]) (v:=.bool false) rfl rfl rfl w) ?_;refine eu (v:=.int .i64 0) rfl rfl (kY (x:=.tmp 8) (v:=.int .i64 0) (.inr rfl) rfl w) ?_;refine eu (v:=.bool false) rfl rfl (kY (x:=.tmp 9) (v:=.bool false) (.inr rfl) rfl w) ?_;have hc0:c₀={c₀ with mode:=.returning}:=by cases c₀;simp_all[kL]
   rw[hc0];refine h _ .returning rfl rfl rfl ?_;exact GQ (by decide)
 . repeat'((conv=>whnf);apply af)
   all_goals try conv=>whnf
   all_goals try(refine ae.mk ?_;try dsimp only)
   . rfl
   . exact hσ
   . exact Nat.ble_eq_true_of_le (cb _)
abbrev zR0(n:Int):List O:=[.cells zZ,.cells [.str []],.cells [.int .i64 n]]
theorem vt(n:Int) (hm:-9223372036854775808<=n/\n<=9223372036854775807) (t i p:gA) (st nm nt sv:gA) (kd s0 e0 cd q:Int) (c:Bool) (l:List V):rf Tryz.prog ib 16 [.ptr 0 0,.ptr 1 0,.ptr 2 0]
   [.cells (zC t i p [.str st,.str nm,.int .i64 kd,.int .u64 s0,.int .u64 e0,.list true 0 [],.list true 0 [],.list true 0 [],.int .i64 cd,.str nt]),.cells [.str sv],.cells [.int .i64 0],.cells [.list c 4 l,.int .i64 q]]
   (some (re n)) (zR0 n++[.cells [.list c 4 l,.int .i64 q]]):=by
 refine vN (C:=cx []) (ar trivial) (cfn:=Tryz.f16) (tm:=zTm true n) rfl rfl rfl rfl (fun vs w c₀ cs Q hl hu h=>?_) ?_
 . obtain⟨v1,v2,v3,rfl⟩:∃v1 v2 v3,vs=[v1,v2,v3]:=by
     match vs,hl with
     |[v1,v2,v3],_=>exact⟨v1,v2,v3,rfl⟩
   rw[show Tryz.f16.ntmps=13 from rfl] at h⊢;rw[GC];apply wpSIn_region;show wpOpsSIn Fence.wide 0 Tryz.prog _ _ _ _ _ _;refine G1 (v:=re n) (cs':={c₀ with mode:=.panicking [{v:=re n,recovered:=true}]}::cs) rfl rfl rfl (by simp[recoverD,hu,kL]) ?_;refine eu (v:=.tuple #[.int .i64 n,.bool true]) rfl rfl (zas1 rfl rfl w) ?_;refine eu (v:=.tuple #[.int .i64 n,.bool true]) rfl rfl (kY (x:=.tmp 7) (v:=.tuple #[.int .i64 n,.bool true]) (.inl rfl) rfl w) ?_;refine eu (v:=.int .i64 n) rfl rfl (oD (x:=.tmp 5) (i:=0) (vs:=#[.int .i64 n,.bool true]) (v:=.int .i64 n) rfl rfl rfl w) ?_;refine eu (v:=.bool true) rfl rfl (oD (x:=.tmp 5) (i:=1) (vs:=#[.int .i64 n,.bool true]) (v:=.bool true) rfl rfl rfl w) ?_;refine eu (v:=.int .i64 n) rfl rfl (kY (x:=.tmp 8) (v:=.int .i64 n) (.inr rfl) rfl w) ?_;refine eu (v:=.bool true) rfl rfl (kY (x:=.tmp 9) (v:=.bool true) (.inr rfl) rfl w) ?_;refine h _ (.panicking [{v:=re n,recovered:=true}]) rfl rfl rfl ?_;exact GQ hm
 . repeat'((conv=>whnf);apply af)
   all_goals try conv=>whnf
   all_goals try(refine ae.mk ?_;try dsimp only)
   . rfl
   . (repeat' first|trivial|rfl|refine And.intro ?_ ?_)
   . rfl
theorem ZI(n:Int) (hm:-9223372036854775808<=n/\n<=9223372036854775807) (t i p:gA) (st nm nt sv:gA) (kd s0 e0 cd q:Int) (c:Bool) (l evs:List V):rf Tryz.prog ib 16 [.ptr 0 0,.ptr 1 0,.ptr 2 0]
   [.cells (zC t i p [.str st,.str nm,.int .i64 kd,.int .u64 s0,.int .u64 e0,.list true 0 [],.buf 4,.list true 0 [],.int .i64 cd,.str nt]),.cells [.str sv],.cells [.int .i64 0],.cells [.list c 4 l,.int .i64 q],.buf 3 0 evs]
   (some (re n)) (zR0 n++[.cells [.list c 4 l,.int .i64 q],.buf 3 0 evs]):=by
 refine vN (C:=cx []) (ar trivial) (cfn:=Tryz.f16) (tm:=zTm true n) rfl rfl rfl rfl (fun vs w c₀ cs Q hl hu h=>?_) ?_
 . obtain⟨v1,v2,v3,rfl⟩:∃v1 v2 v3,vs=[v1,v2,v3]:=by
     match vs,hl with
     |[v1,v2,v3],_=>exact⟨v1,v2,v3,rfl⟩
   rw[show Tryz.f16.ntmps=13 from rfl] at h⊢;rw[GC];apply wpSIn_region;show wpOpsSIn Fence.wide 0 Tryz.prog _ _ _ _ _ _;refine G1 (v:=re n) (cs':={c₀ with mode:=.panicking [{v:=re n,recovered:=true}]}::cs) rfl rfl rfl (by simp[recoverD,hu,kL]) ?_;refine eu (v:=.tuple #[.int .i64 n,.bool true]) rfl rfl (zas1 rfl rfl w) ?_;refine eu (v:=.tuple #[.int .i64 n,.bool true]) rfl rfl (kY (x:=.tmp 7) (v:=.tuple #[.int .i64 n,.bool true]) (.inl rfl) rfl w) ?_;refine eu (v:=.int .i64 n) rfl rfl (oD (x:=.tmp 5) (i:=0) (vs:=#[.int .i64 n,.bool true]) (v:=.int .i64 n) rfl rfl rfl w) ?_;refine eu (v:=.bool true) rfl rfl (oD (x:=.tmp 5) (i:=1) (vs:=#[.int .i64 n,.bool true]) (v:=.bool true) rfl rfl rfl w) ?_;refine eu (v:=.int .i64 n) rfl rfl (kY (x:=.tmp 8) (v:=.int .i64 n) (.inr rfl) rfl w) ?_;refine eu (v:=.bool true) rfl rfl (kY (x:=.tmp 9) (v:=.bool true) (.inr rfl) rfl w) ?_;refine h _ (.panicking [{v:=re n,recovered:=true}]) rfl rfl rfl ?_;exact GQ hm
 . repeat'((conv=>whnf);apply af)
   all_goals try conv=>whnf
   all_goals try(refine ae.mk ?_;try dsimp only)
   . rfl
   . (repeat' first|trivial|rfl|refine And.intro ?_ ?_)
   . rfl
end Go.Proofs.YtchllohbglebiaaGreatDoor
