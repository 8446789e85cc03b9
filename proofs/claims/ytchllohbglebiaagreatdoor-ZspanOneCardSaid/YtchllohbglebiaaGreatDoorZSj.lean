/-
  A part of the proof.
-/
import Derived.Test.YtchllohbglebiaaGreatDoorZSg
set_option linter.unusedSimpArgs false
set_option linter.unusedVariables false
set_option maxHeartbeats 4000000
set_option maxRecDepth 100000
namespace Go.Proofs.YtchllohbglebiaaGreatDoor
open Go Go.VG
theorem To{ys:List V} {N k:Nat} {z:V} {K:V->Prop} (h:ae (k=ys.length/\k<N)) (h2:K z):iB (List.take (List.replicate N z).length ys++List.drop ys.length (List.replicate N z)) k K:=by
 obtain⟨h3,h4⟩:=h;refine⟨z,?_,h2⟩;rw[List.length_replicate,eo (by omega),dt (by omega),List.getElem?_drop,List.getElem?_replicate,if_pos (by omega)]
theorem LX{A R:List V} {i N k n:Nat} {z X:V} (hi:i<=A.length) (hN:N=i+1+R.length) (hk:k=i+1) (hn:k+n=N):
   List.take k ((List.take (List.replicate N z).length (A.take i)++List.drop (A.take i).length (List.replicate N z)).set i X)++(List.take n R++List.drop (k+R.length) ((List.take (List.replicate N z).length (A.take i)++List.drop (A.take i).length (List.replicate N z)).set i X)) =A.take i++X::R:=by
 have h1:(A.take i).length=i:=by rw[d8];omega
 have e:List.take (List.replicate N z).length (A.take i)++List.drop (A.take i).length (List.replicate N z) =A.take i++List.replicate (R.length+1) z:=by
  rw[List.length_replicate,eo (by omega),h1,List.drop_replicate,show N-i=R.length+1 by omega]
 rw[e,List.set_append_right _ _ (by omega),h1,Nat.sub_self,List.replicate_succ,List.set_cons_zero,hk];have e2:A.take i++X::List.replicate R.length z=(A.take i++[X])++List.replicate R.length z:=by simp
 have h3:(A.take i++[X]).length=i+1:=by rw[an,h1];rfl
 have h5:List.take (i+1) ((A.take i++[X])++List.replicate R.length z) =A.take i++[X]:=by
  rw[List.take_append_of_le_length (by omega),eo (by omega)]
 have h6:List.drop (i+1+R.length) ((A.take i++[X])++List.replicate R.length z) =[]:=List.drop_eq_nil_of_le (by rw[an,h3,List.length_replicate];omega);have h7:List.take n R=R:=eo (by omega);rw[e2,h5,h6,h7];simp
theorem PG(l:List ak) (key:Ky) (v:aM) (hl:l.length<=1000000) (hr:cF l):OK 25 [.list false 7 (aG l),.str key,ev v] [] (.list false 7 (aG (cf l (.mk key v)))) none:=by
 refine aq (C:=pX [(57,xJ)] [] [(45,1)]) (rX ⟨D9,trivial⟩) (fn:=Tryz.f25) fun hw _=>?_;have e1:=cX l;have hd0:=dZ l;have hR:=mn hr hl;have hle:=KQ l key;have hin:=Tt l (.mk key v);have w1:IntKind.i64.wrap ((less l key:Int)+1)=((less l key+1:Nat):Int):=by rw[bX];omega
 have w2:∀n:Nat,n<=1000000->IntKind.i64.wrap (((less l key+1:Nat):Int)+n)=((less l key+1+n:Nat):Int):=fun n h=>by rw[bX];omega
 have w3:∀j,IntKind.i64.wrap (((less l key+1:Nat):Int)+(List.drop j (aG l)).length)=((less l key+1+(List.drop j (aG l)).length:Nat):Int):=fun j=>w2 _ (by rw[d9];omega);repeat'((conv=>whnf);first|apply af|(apply av<;>intro h)|with_reducible refine To ?_ ?_)
 all_goals try conv=>whnf
 all_goals try(refine ae.mk ?_;try dsimp only)
 all_goals (try simp only[hd0,w1,w3,Int.toNat_natCast] at*)
 all_goals try first
  |exact hR
  |(simp only[d9,d8,List.length_replicate,an,List.length_set,e1];omega)
  |exact bu _
  | (refine ⟨Int.natCast_nonneg _,?_,fun q=>?_⟩
     . simp only[d9,d8,List.length_replicate,an,List.length_set,e1];omega
     . have q:=congrArg List.length q;simp only[d9,d8,List.length_replicate,an,List.length_set,e1,List.length_nil] at q;omega)
 all_goals
  refine⟨less l key+1,⟨rfl,?_⟩,?_⟩
  . simp only[d9,d8,List.length_replicate,an,List.length_set,e1];omega
  all_goals try conv=>whnf
  all_goals try(refine ae.mk ?_;try dsimp only)
  refine ab.mk [.c9 1] ?_<;>(repeat' first|trivial|apply ah|apply nj)
 . refine(LX (A:=aG l) (i:=less l key) (X:=ea (.mk key v)) (by omega) rfl rfl ?_).trans ?_
   . simp only[d9,d8,List.length_replicate,an,List.length_set,e1];omega
   . rw[hin,lV,lV,if_pos (by assumption),fo,List.map_cons,List.map_take,List.map_drop];rfl
 . refine(LX (A:=aG l) (i:=less l key) (X:=ea (.mk key v)) (by omega) rfl rfl ?_).trans ?_
   . simp only[d9,d8,List.length_replicate,an,List.length_set,e1];omega
   . rw[hin,lV,lV,if_neg (by assumption),fo,List.map_cons,List.map_take,List.map_drop];rfl
abbrev pO(x:List V):Prop:=x=(x.map jm).map V.str/\x.length<=1000000
theorem GX{l:List Ky} (h:l.length<=1000000):pO (l.map V.str):=⟨by rw[xS],by rw[aA];exact h⟩
theorem Jv{l:List Ky} {n:Nat} {K:V->Prop} (h1:ae (n<l.length)) (h2:K (.str (l.getD n default))):iB (l.map V.str) (n:Int).toNat K:=kH h1 h2
def nv:List Ky->Ky->Int
 |[],_=>-1
 |a::r,s=>if a=s then 0 else if nv r s<0 then-1 else nv r s+1
theorem JC:∀{l:List Ky} {s:Ky} {i:Nat},(∀j,j<i->l.getD j default≠s)->i<l.length->l.getD i default=s->nv l s=i
 |[],_,_,_,h,_=>absurd h (Nat.not_lt_zero _)
 |a::r,s,0,_,_,e=>by have e:a=s:=e;rw[nv,if_pos e];rfl
 |a::r,s,i+1,hj,h,e=>by
   have h0:a≠s:=hj 0 (Nat.succ_pos _);have ih:=JC (l:=r) (s:=s) (i:=i) (fun j q=>hj (j+1) (by omega)) (by simpa using h) e;rw[nv,if_neg h0,ih,if_neg (by omega)];rfl
theorem D8:∀{l:List Ky} {s:Ky},(∀j,j<l.length->l.getD j default≠s)->nv l s=-1/\l.contains s=false
 |[],_,_=>⟨rfl,rfl⟩
 |a::r,s,hj=>by
   have h0:a≠s:=hj 0 (Nat.succ_pos _);have ih:=D8 (l:=r) (s:=s) (fun j q=>hj (j+1) (by simpa using q));refine⟨by rw[nv,if_neg h0,ih.1];rfl,?_⟩;rw[List.contains_cons,ih.2,Bool.or_false];exact beq_false_of_ne fun q=>h0 q.symm
theorem Ty{l:List Ky} {s:Ky} {i:Nat} (h:i<l.length) (e:l.getD i default=s):l.contains s=true:=by
 rw[List.contains_iff_mem,<-e,ac,am h];exact List.getElem_mem h
theorem JD:∀(l:List Ky) (s:Ky),decide (nv l s>=0) =l.contains s
 |[],_=>rfl
 |a::r,s=>by
   have ih:=JD r s;rw[nv,List.contains_cons,<-ih];by_cases h:a=s
   . rw[if_pos h,h,beq_self_eq_true];rfl
   . rw[if_neg h,beq_false_of_ne fun q=>h q.symm,Bool.false_or];split
     . rw[decide_eq_decide];omega
     . rw[decide_eq_decide];omega
theorem RR(c:Bool) (x:List V) (s:gA) (hp:pO x):OK 103 ([.list c 1 x,.str s]) ([]) (.int .i64 (nv (x.map jm) s)) (none):=by
 refine aq (C:=cx []) (ar trivial) (fn:=Tryz.f103) fun hw hs=>?_;obtain⟨h1,h2⟩:=hp;have h3:(x.map jm).length=x.length:=aA ..;generalize x.map jm=l at*;subst h1;all_goals try conv=>whnf
 all_goals try(refine ae.mk ?_;try dsimp only)
 refine aZ.mk Nat (fun i=>i<=l.length/\∀j,j<i->l.getD j default≠s) (fun i=>⟨19,[(0,.list c 1 (l.map V.str)),(1,.str s),(6,.list c 1 (l.map V.str)),(7,.int .i64 l.length),(8,.int .i64 i)],[],[]⟩) (fun i=>l.length-i) [] 0 ⟨bu _,fun _ h=>by omega⟩ ?_ (fun i ⟨hi,hj⟩ _ _=>?_)
 . apply ay<;>(repeat' first|trivial|apply ah|apply aN)
   all_goals exact congrArg Nat.cast h3.symm
 repeat'((conv=>whnf);first|apply af|((first|apply av|apply gI)<;>intro h)|with_reducible refine Jv ?_ ?_)
 all_goals try conv=>whnf
 all_goals try(refine ae.mk ?_;try dsimp only)
 all_goals first|refine stay ?_|omega|skip
 . rw[JC hj (by omega) (by symm;assumption)];refine ab.mk [] ?_<;>(repeat' first|trivial)
 . have he:s≠l.getD i default:=by assumption
   refine⟨[],i+1,⟨by omega,fun j q=>?_⟩,?_,by omega⟩
   . by_cases z:j=i
     . subst z;exact he.symm
     . exact hj j (by omega)
   . apply ay<;>(repeat' first|trivial|apply ah|apply aN)
     (simp(discharger:=omega) only[wR];omega)
 . rw[(D8 (fun j q=>hj j (by omega))).1];refine ab.mk [] ?_<;>(repeat' first|trivial)
def FM:Sm:=fun args σ=>match args,σ with
 |[.list c 1 x,.str s],[]=>some (pO x,.int .i64 (nv (x.map jm) s),none)
 |_,_=>none
theorem Uz:ax 103 FM:=by
 intro args sg pre x r he hp;unfold FM at he;split at he<;>cases he
 . exact RR (hp:=hp) ..
theorem RP(c:Bool) (x:List V) (s:gA) (hp:pO x):OK 56 ([.list c 1 x,.str s]) ([]) (.bool ((x.map jm).contains s)) (none):=by
 refine aq (C:=cx [(103,FM)]) (ar ⟨Uz,trivial⟩) (fn:=Tryz.f56) fun hw hs=>?_;have hx:=JD (x.map jm) s;repeat'((conv=>whnf);apply af)
 all_goals try conv=>whnf
 all_goals try(refine ae.mk ?_;try dsimp only)
 . exact hp
 . rw[<-hx];refine ab.mk [] ?_<;>(repeat' first|trivial)
def FL:Sm:=fun args σ=>match args,σ with
 |[.list c 1 x,.str s],[]=>some (pO x,.bool ((x.map jm).contains s),none)
 |_,_=>none
theorem Uy:ax 56 FL:=by
 intro args sg pre x r he hp;unfold FL at he;split at he<;>cases he
 . exact RP (hp:=hp) ..
theorem RI(c:Bool) (x:List V) (s:gA) (hp:pO x):OK 75 ([.str s,.list c 1 x]) ([]) (.bool ((x.map jm).contains s)) (none):=by
 refine aq (C:=cx []) (ar trivial) (fn:=Tryz.f75) fun hw hs=>?_;obtain⟨h1,h2⟩:=hp;have h3:(x.map jm).length=x.length:=aA ..;generalize x.map jm=l at*;subst h1;all_goals try conv=>whnf
 all_goals try(refine ae.mk ?_;try dsimp only)
 refine aZ.mk Nat (fun i=>i<=l.length/\∀j,j<i->l.getD j default≠s) (fun i=>⟨18,[(0,.str s),(1,.list c 1 (l.map V.str)),(5,.int .i64 i)],[],[]⟩) (fun i=>l.length-i) [] 0 ⟨bu _,fun _ h=>by omega⟩ ?_ (fun i ⟨hi,hj⟩ _ _=>?_)
 . apply ay<;>(repeat' first|trivial)
 repeat'((conv=>whnf);first|apply af|((first|apply av|apply gI)<;>intro h)|with_reducible refine Jv ?_ ?_)
 all_goals try conv=>whnf
 all_goals try(refine ae.mk ?_;try dsimp only)
 all_goals (try simp only[aA] at*)
 all_goals first|refine stay ?_|omega|skip
 . rw[Ty (show i<l.length by omega) (by assumption)];refine ab.mk [] ?_<;>(repeat' first|trivial)
 . have he:l.getD i default≠s:=by assumption
   refine⟨[],i+1,⟨by omega,fun j q=>?_⟩,?_,by omega⟩
   . by_cases z:j=i
     . subst z;exact he
     . exact hj j (by omega)
   . apply ay<;>(repeat' first|trivial|apply ah|apply aN)
     (simp(discharger:=omega) only[wR];omega)
 . rw[(D8 (fun j q=>hj j (by omega))).2];refine ab.mk [] ?_<;>(repeat' first|trivial)
def FF:Sm:=fun args σ=>match args,σ with
 |[.str s,.list c 1 x],[]=>some (pO x,.bool ((x.map jm).contains s),none)
 |_,_=>none
theorem Ut:ax 75 FF:=by
 intro args sg pre x r he hp;unfold FF at he;split at he<;>cases he
 . exact RI (hp:=hp) ..
def dy(l:List ak) (ks:List Ky):List ak:=l.filter fun a=>!(ks.contains a.key)
theorem HQ{l:List ak} {ks:List Ky} {i:Nat} (h:i<l.length):dy (l.take (i+1)) ks=if ks.contains (l.getD i default).key=true then dy (l.take i) ks else dy (l.take i) ks++[l.getD i default]:=by
 unfold dy;rw[oG (d:=default) h,List.filter_append];by_cases q:ks.contains (l.getD i default).key=true
 . rw[if_pos q,List.filter_cons,q];simp
 . rw[if_neg q,List.filter_cons,if_pos (by simpa using q),List.filter_nil]
theorem tF(l:List ak) (ks:List Ky):(dy l ks).length<=l.length:=List.length_filter_le _ _
theorem PD(l:List ak) (c:Bool) (ks:List Ky) (hl:l.length<=1000000) (hk:ks.length<=1000000):OK 24 [.list false 7 (aG l),.list c 1 (ks.map V.str)] [] (.list false 7 (aG (dy l ks))) none:=by
 refine aq (C:=cx [(56,FL)]) (ar ⟨Uy,trivial⟩) (fn:=Tryz.f24) fun hw _=>?_;refine aZ.mk Nat (fun i=>i<=l.length) (fun i=>⟨25,[(1,.list c 1 (ks.map V.str)),(5,.buf 0),(8,.list false 7 (aG l)),(9,.int .i64 l.length),(10,.int .i64 i)],[.buf 7 0 ((dy (l.take i) ks).map ea)],[0]⟩) (fun i=>l.length-i) [.tm 5 7] 0 (bu _) ?_ (fun i hi _ _=>?_)
 . apply ay<;>(repeat' first|trivial|apply ah|apply aN)
   exact congrArg Nat.cast (cX l)
 have e1:=cX l;have hst:=HQ (l:=l) (ks:=ks) (i:=i);have hsY:=fun(h:i<l.length) (q:ks.contains (l.getD i default).key=true)=>(hst h).trans (if_pos q);have hsN:=fun(h:i<l.length) (q:ks.contains (l.getD i default).key=false)=>(hst h).trans (if_neg (by rw[q];exact Bool.false_ne_true));have hln:=tF (l.take i) ks;have hln2:(l.take i).length=min i l.length:=d8;have hlm:((dy (l.take i) ks).map ea).length=(dy (l.take i) ks).length:=aA _;have hSt:=GX hk;have hkx:=xS ks;repeat'((conv=>whnf);first|apply af|apply aK|((first|apply av|apply fF)<;>intro h)|with_reducible refine nr ?_ ?_)
 all_goals try conv=>whnf
 all_goals try(refine ae.mk ?_;try dsimp only)
 all_goals (try simp only[hkx,cX] at*)
 all_goals first|refine stay ?_|trivial|omega|(simp only[fi];omega)|skip
 all_goals try first
  |exact hSt
  | (show _ + 1 <= _
     omega)
  | (show ab _ _ _ _ _ _
     obtain rfl:i=l.length:=by omega
     rw[List.take_length];refine ab.mk [.c9 0] ?_<;>(repeat' first|trivial|apply ah|apply nj)
     exact(lV _).symm)
  | (refine ⟨[],i + 1,by omega,?_,by omega⟩
     first
      |rw[hsY (by omega) (by assumption)]
      |rw[hsN (by omega) (by assumption)]
     apply ay<;>(repeat' first|trivial|apply ah|apply aN|apply bc)
     all_goals first
      |(first|(simp(discharger:=omega) only[wR];omega)|(simp(discharger:=omega) [-List.getD_eq_getElem?_getD,wR]<;>omega))
      |(rw[fo];rfl))
theorem RG(l:List ak) (c:Bool) (ks:List Ky) (hl:l.length<=1000000) (hk:ks.length<=1000000):OK 34 [.list false 7 (aG l),.list c 1 (ks.map V.str)] [] (.list false 7 (aG (dy l ks))) none:=by
 refine aq (C:=cx [(75,FF)]) (ar ⟨Ut,trivial⟩) (fn:=Tryz.f34) fun hw _=>?_;refine aZ.mk Nat (fun i=>i<=l.length) (fun i=>⟨29,[(0,.list false 7 (aG l)),(1,.list c 1 (ks.map V.str)),(5,.buf 0),(6,.int .i64 i)],[.buf 7 0 ((dy (l.take i) ks).map ea)],[0]⟩) (fun i=>l.length-i) [.tm 5 7] 0 (bu _) ?_ (fun i hi _ _=>?_)
 . apply ay<;>(repeat' first|trivial)
 have e1:=cX l;have hst:=HQ (l:=l) (ks:=ks) (i:=i);have hsY:=fun(h:i<l.length) (q:ks.contains (l.getD i default).key=true)=>(hst h).trans (if_pos q);have hsN:=fun(h:i<l.length) (q:ks.contains (l.getD i default).key=false)=>(hst h).trans (if_neg (by rw[q];exact Bool.false_ne_true));have hln:=tF (l.take i) ks;have hln2:(l.take i).length=min i l.length:=d8;have hlm:((dy (l.take i) ks).map ea).length=(dy (l.take i) ks).length:=aA _;have hSt:=GX hk;have hkx:=xS ks;repeat'((conv=>whnf);first|apply af|apply aK|((first|apply av|apply fF)<;>intro h)|with_reducible refine nr ?_ ?_)
 all_goals try conv=>whnf
 all_goals try(refine ae.mk ?_;try dsimp only)
 all_goals (try simp only[hkx,cX] at*)
 all_goals first|refine stay ?_|trivial|omega|(simp only[fi];omega)|skip
 all_goals try first
  |exact hSt
  | (show _ + 1 <= _
     omega)
  | (show ab _ _ _ _ _ _
     obtain rfl:i=l.length:=by omega
     rw[List.take_length];refine ab.mk [.c9 0] ?_<;>(repeat' first|trivial|apply ah|apply nj)
     exact(lV _).symm)
  | (refine ⟨[],i + 1,by omega,?_,by omega⟩
     first
      |rw[hsY (by omega) (by assumption)]
      |rw[hsN (by omega) (by assumption)]
     apply ay<;>(repeat' first|trivial|apply ah|apply aN|apply bc)
     all_goals first
      |(first|(simp(discharger:=omega) only[wR];omega)|(simp(discharger:=omega) [-List.getD_eq_getElem?_getD,wR]<;>omega))
      |(rw[fo];rfl))
end Go.Proofs.YtchllohbglebiaaGreatDoor
