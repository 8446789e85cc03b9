/-
  A part of the proof.
-/
import Derived.Test.YtchllohbglebiaaGreatDoorZSl
import Derived.Test.YtchllohbglebiaaGreatDoorZSp
import Derived.Test.YtchllohbglebiaaGreatDoorZSr
import Derived.Test.YtchllohbglebiaaGreatDoorKD
import Derived.Test.YtchllohbglebiaaGreatDoorKH
import Derived.Test.YtchllohbglebiaaGreatDoorNI7
set_option linter.unusedSimpArgs false
set_option linter.unusedVariables false
set_option maxHeartbeats 4000000
set_option maxRecDepth 100000
namespace Go.Proofs.YtchllohbglebiaaGreatDoor
open Go Go.VG
abbrev et(e:Ev):V:=.agg [.int .u64 e.time,.str e.name,.list true 0 []]
section
variable {L:List Nd} {q:Int} {k:Nat}
theorem Gr(h:(L.getD k default).k.toNat≠123):dv L k=7:=by
 unfold dv;generalize (L.getD k default).k.toNat=m at*;simp[cr,nn,h]
theorem Gs(h1:(L.getD k default).k.toNat=123) (h:eS L k bz≠0):dv L k=eS L k bz:=by
 unfold dv;generalize (L.getD k default).k.toNat=m at*;simp[cr,nn,h1,h]
theorem Gt(h1:(L.getD k default).k.toNat=123) (h2:¬eS L k bz≠0) (h:oM L k bz=false):dv L k=9:=by
 unfold dv;generalize (L.getD k default).k.toNat=m at*;simp[cr,nn,h1,h2,h]
theorem Gu(h1:(L.getD k default).k.toNat=123) (h2:¬eS L k bz≠0) (h3:¬oM L k bz=false) (h:c8 L k fY≠0):dv L k=c8 L k fY:=by
 unfold dv;generalize (L.getD k default).k.toNat=m at*;simp[cr,nn,h1,h2,h3,h]
theorem Gv(h1:(L.getD k default).k.toNat=123) (h2:¬eS L k bz≠0) (h3:¬oM L k bz=false) (h4:¬c8 L k fY≠0) (h:c7 L k fY=false):dv L k=9:=by
 unfold dv;generalize (L.getD k default).k.toNat=m at*;simp[cr,nn,h1,h2,h3,h4,h]
theorem xY(h1:(L.getD k default).k.toNat=123) (h2:¬eS L k bz≠0) (h3:¬oM L k bz=false) (h4:¬c8 L k fY≠0) (h5:¬c7 L k fY=false):dv L k=(bE (fw L k bz)).1:=by
 unfold dv;generalize (L.getD k default).k.toNat=m at*;by_cases z:(bE (fw L k bz)).1=0<;>simp[cr,nn,h1,h2,h3,h4,h5,z]
theorem oX{ks:List Nat} {i:Nat} (h:i<ks.length):gF L (ks.drop i) =if dv L (ks.getD i default)≠0 then dv L (ks.getD i default) else gF L (ks.drop (i+1)):=by
 rw[List.drop_eq_getElem_cons h,gF,dO,dO,mI,ac,am h];show(if dv L ks[i]≠0 then _ else _) =(if dv L ks[i]≠0 then _ else _);split
 . rfl
 . split<;>omega
theorem Im{ks:List Nat} {i:Nat} (h:i<ks.length):(ks.take (i+1)).map (pK L) =(ks.take i).map (pK L)++[pK L (ks.getD i default)]:=by
 rw[oG (d:=default) h,fo];rfl
theorem zv_1(h:n7 L q bh≠0):jd L q=n7 L q bh:=if_pos h
theorem zv_2(h:¬n7 L q bh≠0):jd L q=gF L (cj L q bh):=by
 unfold jd;rw[dO,if_neg h,dO,mI];split<;>omega
theorem O1{k:Nat} (h:k∈cj L q bh):k<L.length:=by
 unfold cj oZ at h;split at h
 . cases h
 . exact ui h
end
theorem ev_lt{L:List Nd} {ks:List Nat} {i:Nat} (hc:gF L ks≠0) (he:gF L ks=gF L (ks.drop i)):i<ks.length:=by
 rcases d7 i ks.length with h|h
 . exact h
 . rw[List.drop_eq_nil_of_le h] at he;exact absurd he hc
theorem BS(L:List Nd) (q:Int):(cj L q bh).length<=L.length:=by
 unfold cj oZ;split
 . exact bu _
 . exact wS _ _
theorem Sl(c:Bool) (l:List V) (q:Int) (hp:cR l) (hc:¬(jd (al l) q≠0)):OK 21 ([.agg [.list c 4 l,.int .i64 q]]) ([]) (.buf 0) (some [.buf 3 0 ((fR (al l) q).map et)]):=by
 refine aq (C:=gE [(51,AQ),(52,xM)] [(45,j7),(43,uE),(48,uF),(42,mT)]) (ig ⟨JT,Dc,trivial⟩ ⟨jx,zA,zB,oq,trivial⟩) (fn:=Tryz.f21) fun hw hs=>?_;obtain⟨L,rfl,eL⟩:=pG hp.1.1;have hml:(L.map aW).length=L.length:=aA _;have hkm:=fun k=>O1 (L:=L) (q:=q) (k:=k);have hkb:=BS L q;have hLb:=hp.1.2.2;rw[eL] at hLb;have hkl:((cj L q bh).map nI).length=(cj L q bh).length:=aA _;repeat'((conv=>whnf);first|with_reducible refine cM ?_ (fun h=>?_) fun h=>?_|apply af)
 all_goals try conv=>whnf
 all_goals try(refine ae.mk ?_;try dsimp only)
 all_goals (try simp only[eh,List.toList_toArray] at*)
 . exact⟨pj,by have:=hp.1.2;rw[eh] at this;exact this⟩
 . exact hc (by rw[zv_1 (by assumption)];assumption)
 . have hz:=zv_2 (L:=L) (q:=q) (by assumption);have hv:fR L q=(cj L q bh).map (pK L):=rfl;rw[hz] at hc;rw[hv];have hcon:∀{k:Nat} {v w:Int},gF L (cj L q bh) =v->(v=if dv L k≠0 then dv L k else w)->dv L k≠0->False:=fun a b z=>hc (by rw[a,b,if_pos z];exact z);have hnx:∀{k:Nat} {v w:Int},gF L (cj L q bh) =v->(v=if dv L k≠0 then dv L k else w)->dv L k=0->gF L (cj L q bh) =w:=fun a b z=>by rw[a,b,if_neg (by omega)]
   refine aZ.mk Nat (fun i=>i<=(cj L q bh).length/\gF L (cj L q bh) =gF L ((cj L q bh).drop i)) (fun i=>⟨70,[(1,.ptr 0 0),(4,.buf 3),(23,.buf 1),(24,.int .i64 (cj L q bh).length),(25,.int .i64 i)],[.cells [.list c 4 (L.map aW),.int .i64 q],.buf 1 0 ((cj L q bh).map nI),.cells [.buf 1,.bool (decide ((aT L q bh 91 91).1>=0)),.int .i64 (n7 L q bh)],.buf 3 0 ((((cj L q bh).take i).map (pK L)).map et)],[3]⟩) (fun i=>(cj L q bh).length-i) [.tm 4 3] 0 ⟨bu _,rfl⟩ ?_ (fun i ⟨hi,he⟩ _ _=>?_)
   . apply ay<;>(repeat' first|trivial|apply ah|apply aN)
     exact congrArg Nat.cast hkl
   have hst:=oX (L:=L) (ks:=cj L q bh) (i:=i);have hsn:=Im (L:=L) (ks:=cj L q bh) (i:=i);have hkk:i<(cj L q bh).length->(cj L q bh).getD i default<L.length:=fun h=>by
    rw[ac,am h];exact hkm _ (List.getElem_mem h)
   have hlv:=fun k=>vv hp k fY;rw[eh] at hlv
   skip
   generalize cj L q bh=ks at*;repeat'((conv=>whnf);first|with_reducible refine cM ?_ (fun h=>?_) fun h=>?_|apply af|apply aK|(apply av<;>intro h)|with_reducible apply lZ)
   all_goals try conv=>whnf
   all_goals try(refine ae.mk ?_;try dsimp only)
   all_goals (try simp only[eh,List.toList_toArray,hkl,Int.toNat_natCast] at*)
   all_goals generalize ks.getD i default=k at*
   all_goals first|refine stay ?_|trivial|omega|(simp(discharger:=omega) [-List.getD_eq_getElem?_getD,wR]<;>omega)|skip
   all_goals try exact absurd (by decide) ‹¬(7:Int)≠0›
   all_goals try exact hp
   . exact hcon he (hst (by omega)) (by rw[Gs (by omega) (by with_reducible assumption)];with_reducible assumption)
   . exact hcon he (hst (by omega)) (by rw[Gt (by omega) (by with_reducible assumption) (by with_reducible assumption)];decide)
   . exact hcon he (hst (by omega)) (by rw[Gu (by omega) (by with_reducible assumption) (by with_reducible assumption) (by with_reducible assumption)];with_reducible assumption)
   . exact hcon he (hst (by omega)) (by rw[Gv (by omega) (by with_reducible assumption) (by with_reducible assumption) (by with_reducible assumption) (by with_reducible assumption)];decide)
   . exact hcon he (hst (by omega)) (by rw[xY (by omega) (by with_reducible assumption) (by with_reducible assumption) (by with_reducible assumption) (by with_reducible assumption)];with_reducible assumption)
   . refine⟨[],i+1,⟨by omega,hnx he (hst (by omega)) (by rw[xY (by omega) (by with_reducible assumption) (by with_reducible assumption) (by with_reducible assumption) (by with_reducible assumption)];exact Decidable.not_not.1 (by with_reducible assumption))⟩,?_,by omega⟩;rw[hsn (by omega)];apply ay<;>(repeat' first|trivial|apply ah|apply aN|apply bc)
     all_goals first
      |(rw[bX];omega)
      |(rw[fo];rfl)
   . exact hcon he (hst (by omega)) (by rw[Gr (by omega)];decide)
   . obtain rfl:i=ks.length:=by omega
     rw[List.take_length];refine ab.mk [.swap 0 3] ?_<;>(repeat' first|trivial)
theorem WE(c:Bool) (l:List V) (q:Int) (hp:cR l) (hc:jd (al l) q≠0):jq 21 ([.agg [.list c 4 l,.int .i64 q]]) ([]) (.iface 58 (.int .i64 (jd (al l) q))) (none):=by
 refine jA (C:=gE [(51,AQ),(52,xM)] [(45,j7),(43,uE),(48,uF),(42,mT)]) (ig ⟨JT,Dc,trivial⟩ ⟨jx,zA,zB,oq,trivial⟩) (fn:=Tryz.f21) rfl rfl rfl rfl fun hw hs=>?_;obtain⟨L,rfl,eL⟩:=pG hp.1.1;have hml:(L.map aW).length=L.length:=aA _;have hkm:=fun k=>O1 (L:=L) (q:=q) (k:=k);have hkb:=BS L q;have hLb:=hp.1.2.2;rw[eL] at hLb;have hkl:((cj L q bh).map nI).length=(cj L q bh).length:=aA _;repeat'((conv=>whnf);first|with_reducible refine cM ?_ (fun h=>?_) fun h=>?_|apply af)
 all_goals try conv=>whnf
 all_goals try(refine ae.mk ?_;try dsimp only)
 all_goals (try simp only[eh,List.toList_toArray] at*)
 . exact⟨pj,by have:=hp.1.2;rw[eh] at this;exact this⟩
 . rw[zv_1 (by assumption)];rfl
 . (refine bC.mk [] ?_<;>(repeat' first|trivial|rfl|apply ah);done)
 . have hz:=zv_2 (L:=L) (q:=q) (by assumption);rw[hz] at hc;have hnx:∀{k:Nat} {v w:Int},gF L (cj L q bh) =v->(v=if dv L k≠0 then dv L k else w)->dv L k=0->gF L (cj L q bh) =w:=fun a b z=>by rw[a,b,if_neg (by omega)]
   have hpe:∀{k:Nat} {v w:Int},gF L (cj L q bh) =v->(v=if dv L k≠0 then dv L k else w)->dv L k≠0->jd L q=dv L k:=fun a b z=>by rw[hz,a,b,if_pos z]
   refine aZ.mk Nat (fun i=>i<=(cj L q bh).length/\gF L (cj L q bh) =gF L ((cj L q bh).drop i)) (fun i=>⟨70,[(1,.ptr 0 0),(4,.buf 3),(23,.buf 1),(24,.int .i64 (cj L q bh).length),(25,.int .i64 i)],[.cells [.list c 4 (L.map aW),.int .i64 q],.buf 1 0 ((cj L q bh).map nI),.cells [.buf 1,.bool (decide ((aT L q bh 91 91).1>=0)),.int .i64 (n7 L q bh)],.buf 3 0 ((((cj L q bh).take i).map (pK L)).map et)],[3]⟩) (fun i=>(cj L q bh).length-i) [.tm 4 3] 0 ⟨bu _,rfl⟩ ?_ (fun i ⟨hi,he⟩ _ _=>?_)
   . apply ay<;>(repeat' first|trivial|apply ah|apply aN)
     exact congrArg Nat.cast hkl
   have hst:=oX (L:=L) (ks:=cj L q bh) (i:=i);have hsn:=Im (L:=L) (ks:=cj L q bh) (i:=i);have hkk:i<(cj L q bh).length->(cj L q bh).getD i default<L.length:=fun h=>by
    rw[ac,am h];exact hkm _ (List.getElem_mem h)
   have hlv:=fun k=>vv hp k fY;rw[eh] at hlv
   (have hlt:=ev_lt hc he)
   generalize cj L q bh=ks at*;repeat'((conv=>whnf);first|with_reducible refine cM ?_ (fun h=>?_) fun h=>?_|apply af|apply fE|apply aK|(apply av<;>intro h)|with_reducible apply lZ)
   all_goals try conv=>whnf
   all_goals try(refine ae.mk ?_;try dsimp only)
   all_goals (try simp only[eh,List.toList_toArray,hkl,Int.toNat_natCast] at*)
   all_goals generalize ks.getD i default=k at*
   all_goals first|refine stay ?_|trivial|omega|(simp(discharger:=omega) [-List.getD_eq_getElem?_getD,wR]<;>omega)|skip
   all_goals try exact absurd (by decide) ‹¬(7:Int)≠0›
   all_goals try exact hp
   . rw[hpe he (hst hlt) (by rw[Gs (by omega) (by with_reducible assumption)];with_reducible assumption),Gs (by omega) (by with_reducible assumption)]
   . (refine bC.mk [] ?_<;>(repeat' first|trivial|rfl|apply ah);done)
   . rw[hpe he (hst hlt) (by rw[Gt (by omega) (by with_reducible assumption) (by with_reducible assumption)];decide),Gt (by omega) (by with_reducible assumption) (by with_reducible assumption)]
   . (refine bC.mk [] ?_<;>(repeat' first|trivial|rfl|apply ah);done)
   . rw[hpe he (hst hlt) (by rw[Gu (by omega) (by with_reducible assumption) (by with_reducible assumption) (by with_reducible assumption)];with_reducible assumption),Gu (by omega) (by with_reducible assumption) (by with_reducible assumption) (by with_reducible assumption)]
   . (refine bC.mk [] ?_<;>(repeat' first|trivial|rfl|apply ah);done)
   . rw[hpe he (hst hlt) (by rw[Gv (by omega) (by with_reducible assumption) (by with_reducible assumption) (by with_reducible assumption) (by with_reducible assumption)];decide),Gv (by omega) (by with_reducible assumption) (by with_reducible assumption) (by with_reducible assumption) (by with_reducible assumption)]
   . (refine bC.mk [] ?_<;>(repeat' first|trivial|rfl|apply ah);done)
   . rw[hpe he (hst hlt) (by rw[xY (by omega) (by with_reducible assumption) (by with_reducible assumption) (by with_reducible assumption) (by with_reducible assumption)];with_reducible assumption),xY (by omega) (by with_reducible assumption) (by with_reducible assumption) (by with_reducible assumption) (by with_reducible assumption)]
   . (refine bC.mk [] ?_<;>(repeat' first|trivial|rfl|apply ah);done)
   . refine⟨[],i+1,⟨by omega,hnx he (hst hlt) (by rw[xY (by omega) (by with_reducible assumption) (by with_reducible assumption) (by with_reducible assumption) (by with_reducible assumption)];exact Decidable.not_not.1 (by with_reducible assumption))⟩,?_,by omega⟩;rw[hsn hlt];apply ay<;>(repeat' first|trivial|apply ah|apply aN|apply bc)
     all_goals first
      |(rw[bX];omega)
      |(rw[fo];rfl)
   . rw[hpe he (hst hlt) (by rw[Gr (by omega)];decide),Gr (by omega)]
   . (refine bC.mk [] ?_<;>(repeat' first|trivial|rfl|apply ah);done)
def E8:dL:=fun args σ=>match args,σ with
 |[.agg [.list c 4 l,.int .i64 q]],[]=>some (cR l,jd (al l) q≠0,.iface 58 (.int .i64 (jd (al l) q)),none,.buf 0,some [.buf 3 0 ((fR (al l) q).map et)])
 |_,_=>none
theorem V4:dX 21 (E8):=by
 intro args sg pre c u r x r2 he hp;unfold E8 at he;split at he<;>cases he
 . exact⟨fun hc=>⟨_,rfl,WE (hp:=hp) (hc:=hc) ..⟩,fun hc=>Sl (hp:=hp) (hc:=hc) ..⟩
abbrev n5(L:List Nd) (q:Int):List V:=zC (bJ L q) (cU L q) (bM L q) [.str [],.str (gu L q),.int .i64 0,.int .u64 0,.int .u64 0,.list true 0 [],.list true 0 [],.list true 0 [],.int .i64 0,.str []]
def ZP(L:List Nd) (q e:Int) (t i p:gA) (n:Ky):Prop:=dW L q=e/\bJ L q=t/\cU L q=i/\bM L q=p/\gu L q=n
section
variable {L:List Nd} {q:Int}
theorem GD(h:c8 L q ct≠0):ZP L q (c8 L q ct) [] [] [] []:=by
 unfold ZP gu dW bJ cU bM mm ml mj;simp[cr,nn,h]
theorem GF(h1:¬c8 L q ct≠0) (h:c7 L q ct=false):ZP L q 9 [] [] [] []:=by
 unfold ZP gu dW bJ cU bM mm ml mj;simp[cr,nn,h1,h]
theorem GG(h1:¬c8 L q ct≠0) (h2:¬c7 L q ct=false) (h:(fu (bO L q ct)).1≠0):ZP L q (fu (bO L q ct)).1 [] [] [] []:=by
 unfold ZP gu dW bJ cU bM mm ml mj;simp[cr,nn,h1,h2,h]
theorem GH(h1:¬c8 L q ct≠0) (h2:¬c7 L q ct=false) (h3:¬(fu (bO L q ct)).1≠0) (h:dV L q dh≠0):ZP L q (dV L q dh) (fu (bO L q ct)).2 [] [] []:=by
 unfold ZP gu dW bJ cU bM mm ml mj;simp[cr,nn,h1,h2,h3,h]
theorem GI(h1:¬c8 L q ct≠0) (h2:¬c7 L q ct=false) (h3:¬(fu (bO L q ct)).1≠0) (h4:¬dV L q dh≠0) (h:c7 L q dh=false):ZP L q 9 (fu (bO L q ct)).2 (iR L q dh) [] []:=by
 unfold ZP gu dW bJ cU bM mm ml mj;simp[cr,nn,h1,h2,h3,h4,h]
theorem GJ(h1:¬c8 L q ct≠0) (h2:¬c7 L q ct=false) (h3:¬(fu (bO L q ct)).1≠0) (h4:¬dV L q dh≠0) (h5:¬c7 L q dh=false) (h:dV L q fX≠0):ZP L q (dV L q fX) (fu (bO L q ct)).2 (iR L q dh) [] []:=by
 unfold ZP gu dW bJ cU bM mm ml mj;simp[cr,nn,h1,h2,h3,h4,h5,h]
theorem GK(h1:¬c8 L q ct≠0) (h2:¬c7 L q ct=false) (h3:¬(fu (bO L q ct)).1≠0) (h4:¬dV L q dh≠0) (h5:¬c7 L q dh=false) (h6:¬dV L q fX≠0) (h:c8 L q iq≠0):ZP L q (c8 L q iq) (fu (bO L q ct)).2 (iR L q dh) (iR L q fX) []:=by
 unfold ZP gu dW bJ cU bM mm ml mj;simp[cr,nn,h1,h2,h3,h4,h5,h6,h]
theorem zn_8(h1:¬c8 L q ct≠0) (h2:¬c7 L q ct=false) (h3:¬(fu (bO L q ct)).1≠0) (h4:¬dV L q dh≠0) (h5:¬c7 L q dh=false) (h6:¬dV L q fX≠0) (h7:¬c8 L q iq≠0):ZP L q 0 (fu (bO L q ct)).2 (iR L q dh) (iR L q fX) (bO L q iq):=by
 unfold ZP gu dW bJ cU bM mm ml mj;simp[cr,nn,h1,h2,h3,h4,h5,h6,h7]
end
theorem Su(c:Bool) (l:List V) (q:Int) (x:List V) (hp:cR l/\x=zZ) (hc:¬(dW (al l) q≠0)):OK 17 ([.agg [.list c 4 l,.int .i64 q],.ptr 0 0]) ([.cells x]) (.tuple []) (some [.cells (n5 (al l) q)]):=by
 refine aq (C:=gE [(44,AN)] [(45,j7),(43,uE),(46,Ad),(42,mT)]) (ig ⟨JQ,trivial⟩ ⟨jx,zA,Ku,oq,trivial⟩) (fn:=Tryz.f17) fun hw hs=>?_;obtain⟨hp,rfl⟩:=hp;have hl:=vv hp q;repeat'((conv=>whnf);first|with_reducible refine cM ?_ (fun h=>?_) fun h=>?_|apply af)
 all_goals try conv=>whnf
 all_goals try(refine ae.mk ?_;try dsimp only)
 all_goals (try dsimp only[List.toList_toArray] at*)
 all_goals try first
  |exact hp
  |exact hl _
 . exact hc (by rw[(GD (by with_reducible assumption)).1];with_reducible assumption)
 . exact hc (by rw[(GF (by with_reducible assumption) (by with_reducible assumption)).1];decide)
 . exact hc (by rw[(GG (by with_reducible assumption) (by with_reducible assumption) (by with_reducible assumption)).1];with_reducible assumption)
 . exact hc (by rw[(GH (by with_reducible assumption) (by with_reducible assumption) (by with_reducible assumption) (by with_reducible assumption)).1];with_reducible assumption)
 . exact hc (by rw[(GI (by with_reducible assumption) (by with_reducible assumption) (by with_reducible assumption) (by with_reducible assumption) (by with_reducible assumption)).1];decide)
 . exact hc (by rw[(GJ (by with_reducible assumption) (by with_reducible assumption) (by with_reducible assumption) (by with_reducible assumption) (by with_reducible assumption) (by with_reducible assumption)).1];with_reducible assumption)
 . exact hc (by rw[(GK (by with_reducible assumption) (by with_reducible assumption) (by with_reducible assumption) (by with_reducible assumption) (by with_reducible assumption) (by with_reducible assumption) (by with_reducible assumption)).1];with_reducible assumption)
 . obtain⟨_,ht,hi,hq,hn⟩:=zn_8 (by with_reducible assumption) (by with_reducible assumption) (by with_reducible assumption) (by with_reducible assumption) (by with_reducible assumption) (by with_reducible assumption) (by with_reducible assumption);simp only[n5,ht,hi,hq,hn];refine ab.mk [] ?_<;>(repeat' first|trivial)
theorem WJ(c:Bool) (l:List V) (q:Int) (x:List V) (hp:cR l/\x=zZ) (hc:dW (al l) q≠0):jq 17 ([.agg [.list c 4 l,.int .i64 q],.ptr 0 0]) ([.cells x]) (.iface 58 (.int .i64 (dW (al l) q))) (some [.cells (n5 (al l) q)]):=by
 refine jA (C:=gE [(44,AN)] [(45,j7),(43,uE),(46,Ad),(42,mT)]) (ig ⟨JQ,trivial⟩ ⟨jx,zA,Ku,oq,trivial⟩) (fn:=Tryz.f17) rfl rfl rfl rfl fun hw hs=>?_;obtain⟨hp,rfl⟩:=hp;have hl:=vv hp q;repeat'((conv=>whnf);first|with_reducible refine cM ?_ (fun h=>?_) fun h=>?_|apply af)
 all_goals try conv=>whnf
 all_goals try(refine ae.mk ?_;try dsimp only)
 all_goals (try dsimp only[List.toList_toArray] at*)
 all_goals try first
  |exact hp
  |exact hl _
 . rw[(GD (by with_reducible assumption)).1]
 . obtain⟨_,ht,hi,hq,hn⟩:=GD (by with_reducible assumption);simp only[n5,ht,hi,hq,hn]
   (refine bC.mk [] ?_<;>(repeat' first|trivial|rfl|apply ah);done)
 . rw[(GF (by with_reducible assumption) (by with_reducible assumption)).1]
 . obtain⟨_,ht,hi,hq,hn⟩:=GF (by with_reducible assumption) (by with_reducible assumption);simp only[n5,ht,hi,hq,hn]
   (refine bC.mk [] ?_<;>(repeat' first|trivial|rfl|apply ah);done)
 . rw[(GG (by with_reducible assumption) (by with_reducible assumption) (by with_reducible assumption)).1]
 . obtain⟨_,ht,hi,hq,hn⟩:=GG (by with_reducible assumption) (by with_reducible assumption) (by with_reducible assumption);simp only[n5,ht,hi,hq,hn]
   (refine bC.mk [] ?_<;>(repeat' first|trivial|rfl|apply ah);done)
 . rw[(GH (by with_reducible assumption) (by with_reducible assumption) (by with_reducible assumption) (by with_reducible assumption)).1]
 . obtain⟨_,ht,hi,hq,hn⟩:=GH (by with_reducible assumption) (by with_reducible assumption) (by with_reducible assumption) (by with_reducible assumption);simp only[n5,ht,hi,hq,hn]
   (refine bC.mk [] ?_<;>(repeat' first|trivial|rfl|apply ah);done)
 . rw[(GI (by with_reducible assumption) (by with_reducible assumption) (by with_reducible assumption) (by with_reducible assumption) (by with_reducible assumption)).1]
 . obtain⟨_,ht,hi,hq,hn⟩:=GI (by with_reducible assumption) (by with_reducible assumption) (by with_reducible assumption) (by with_reducible assumption) (by with_reducible assumption);simp only[n5,ht,hi,hq,hn]
   (refine bC.mk [] ?_<;>(repeat' first|trivial|rfl|apply ah);done)
 . rw[(GJ (by with_reducible assumption) (by with_reducible assumption) (by with_reducible assumption) (by with_reducible assumption) (by with_reducible assumption) (by with_reducible assumption)).1]
 . obtain⟨_,ht,hi,hq,hn⟩:=GJ (by with_reducible assumption) (by with_reducible assumption) (by with_reducible assumption) (by with_reducible assumption) (by with_reducible assumption) (by with_reducible assumption);simp only[n5,ht,hi,hq,hn]
   (refine bC.mk [] ?_<;>(repeat' first|trivial|rfl|apply ah);done)
 . rw[(GK (by with_reducible assumption) (by with_reducible assumption) (by with_reducible assumption) (by with_reducible assumption) (by with_reducible assumption) (by with_reducible assumption) (by with_reducible assumption)).1]
 . obtain⟨_,ht,hi,hq,hn⟩:=GK (by with_reducible assumption) (by with_reducible assumption) (by with_reducible assumption) (by with_reducible assumption) (by with_reducible assumption) (by with_reducible assumption) (by with_reducible assumption);simp only[n5,ht,hi,hq,hn]
   (refine bC.mk [] ?_<;>(repeat' first|trivial|rfl|apply ah);done)
 . exact hc (zn_8 (by with_reducible assumption) (by with_reducible assumption) (by with_reducible assumption) (by with_reducible assumption) (by with_reducible assumption) (by with_reducible assumption) (by with_reducible assumption)).1
def Ec:dL:=fun args σ=>match args,σ with
 |[.agg [.list c 4 l,.int .i64 q],.ptr 0 0],[.cells x]=>some (cR l/\x=zZ,dW (al l) q≠0,.iface 58 (.int .i64 (dW (al l) q)),some [.cells (n5 (al l) q)],.tuple [],some [.cells (n5 (al l) q)])
 |_,_=>none
theorem V6:dX 17 (Ec):=by
 intro args sg pre c u r x r2 he hp;unfold Ec at he;split at he<;>cases he
 . exact⟨fun hc=>⟨_,rfl,WJ (hp:=hp) (hc:=hc) ..⟩,fun hc=>Su (hp:=hp) (hc:=hc) ..⟩
section
variable {L:List Nd} {q:Int}
abbrev pJ(L:List Nd) (q:Int):Prop:=0<=q/\q<L.length/\(L.getD q.toNat default).k.toNat=123
theorem Gp(h:¬pJ L q):zE L q=7:=by
 unfold zE;rw[if_neg h];rfl
theorem zE_1(h0:pJ L q) (h:dW L q≠0):zE L q=dW L q:=by
 unfold zE;rw[if_pos h0];simp[cr,h]
theorem zE_2(h0:pJ L q) (h1:¬dW L q≠0) (h:gP L q≠0):zE L q=gP L q:=by
 unfold zE;rw[if_pos h0];simp[cr,h1,h]
theorem zE_3(h0:pJ L q) (h1:¬dW L q≠0) (h2:¬gP L q≠0) (h:gO L q≠0):zE L q=gO L q:=by
 unfold zE;rw[if_pos h0];simp[cr,h1,h2,h]
theorem zE_4(h0:pJ L q) (h1:¬dW L q≠0) (h2:¬gP L q≠0) (h3:¬gO L q≠0) (h:er L q c5≠0):zE L q=er L q c5:=by
 unfold zE;rw[if_pos h0];simp[cr,h1,h2,h3,h]
theorem zE_5(h0:pJ L q) (h1:¬dW L q≠0) (h2:¬gP L q≠0) (h3:¬gO L q≠0) (h4:¬er L q c5≠0) (h:er L q ff≠0):zE L q=er L q ff:=by
 unfold zE;rw[if_pos h0];simp[cr,h1,h2,h3,h4,h]
theorem zE_6(h0:pJ L q) (h1:¬dW L q≠0) (h2:¬gP L q≠0) (h3:¬gO L q≠0) (h4:¬er L q c5≠0) (h5:¬er L q ff≠0) (h:jd L q≠0):zE L q=jd L q:=by
 unfold zE;rw[if_pos h0];simp[cr,h1,h2,h3,h4,h5,h]
theorem zE_7(h0:pJ L q) (h1:¬dW L q≠0) (h2:¬gP L q≠0) (h3:¬gO L q≠0) (h4:¬er L q c5≠0) (h5:¬er L q ff≠0) (h6:¬jd L q≠0) (h:jc L q≠0):zE L q=jc L q:=by
 unfold zE;rw[if_pos h0];simp[cr,h1,h2,h3,h4,h5,h6,h]
theorem zE_8(h0:pJ L q) (h1:¬dW L q≠0) (h2:¬gP L q≠0) (h3:¬gO L q≠0) (h4:¬er L q c5≠0) (h5:¬er L q ff≠0) (h6:¬jd L q≠0) (h7:¬jc L q≠0):zE L q=0:=by
 unfold zE;rw[if_pos h0];simp[cr,h1,h2,h3,h4,h5,h6,h7]
end
abbrev BN(L:List Nd) (q:Int) (A:List ak):V:=.agg (zC (bJ L q) (cU L q) (bM L q) [.str [],.str (gu L q),.int .i64 (gp L q),.int .u64 (dm L q).2.1,.int .u64 (dm L q).2.2,.list false 7 (aG A),.list false 3 ((fR L q).map et),.list true 0 [],.int .i64 (dr (bm L q)),.str (dA (bm L q))])
abbrev iQ(L:List Nd) (q:Int):V:=BN L q (dk L q)
theorem wy(c:Bool) (L:List Nd) (q:Int) (x:V) (hp:cR (L.map aW)) (hL:L.length<=10000) (hx:x=if zE L q=0 then .tuple [iQ L q,.str (cV L q c5),.int .i64 0] else .tuple [.agg zZ,.str [],.int .i64 (zE L q)]):OK 6 [.list c 4 (L.map aW),.int .i64 q] [] x none:=by
 refine SY (C:=cxr [(23,FX),(24,EK),(26,uZ),(25,AF)] [(17,Ec),(18,E9),(19,Eg),(20,Ed),(21,E8),(22,Ee)] []) (z8 ⟨UK,JH,zv,JI,trivial⟩ ⟨V6,V5,V9,V7,V4,V8,trivial⟩) (gf:=16) (fn:=Tryz.f6) rfl rfl rfl rfl rfl rfl rfl rfl rfl rfl fun hw hs=>?_;have hml:(L.map aW).length=L.length:=aA _;have hup:=eh L;have hrg:∀{n:Int},Cd n->-9223372036854775808<=n/\n<=9223372036854775807:=fun h=>⟨by have:=h.1;omega,by have:=h.2;omega⟩
 have hbad:∀{n:Int},zE L q=n->n≠0->x=.tuple [.agg zZ,.str [],.int .i64 n]:=fun e h=>by rw[hx,if_neg (by rw[e];exact h),e]
 have hgd:∀{A:List ak},dk L q=A->zE L q=0->x=.tuple [BN L q A,.str (cV L q c5),.int .i64 0]:=fun e h=>by rw[hx,if_pos h,<-e]
 have hgl:=NY L q;repeat'((conv=>whnf);first|with_reducible refine cM ?_ (fun h=>?_) fun h=>?_|apply af|apply aK|((first|apply av|apply gI)<;>intro h)|with_reducible apply kH)
 all_goals try conv=>whnf
 all_goals try(refine ae.mk ?_;try dsimp only)
 all_goals (try simp only[eh,List.toList_toArray,hml] at*)
 all_goals try exact hp
 . rfl
 . have e:=hbad (Gp (L:=L) (q:=q) (by omega)) (by decide);rw[e];refine iC.mk _ (xX _ ?_) rfl ?_
   . (repeat' first|trivial|rfl|refine And.intro ?_ ?_)
   refine ab.mk [] ?_<;>(repeat' first|trivial)
 . have e:=hbad (Gp (L:=L) (q:=q) (by omega)) (by decide);rw[e];refine iC.mk _ (xX _ ?_) rfl ?_
   . (repeat' first|trivial|rfl|refine And.intro ?_ ?_)
   refine ab.mk [] ?_<;>(repeat' first|trivial)
 . omega
 . omega
 . exact⟨hp,rfl⟩
 . have e:=hbad (zE_1 (L:=L) (q:=q) (by omega) (by with_reducible assumption)) (by with_reducible assumption);rw[e];refine iC.mk _ (vt _ (hrg (ZU L q)) _ _ _ _ _ _ _ _ _ _ _ _ _ _) rfl ?_;refine ab.mk [] ?_<;>(repeat' first|trivial)
 . have e:=hbad (zE_2 (L:=L) (q:=q) (by omega) (by with_reducible assumption) (by with_reducible assumption)) (by with_reducible assumption);rw[e];refine iC.mk _ (vt _ (hrg (ZQ L q)) _ _ _ _ _ _ _ _ _ _ _ _ _ _) rfl ?_;refine ab.mk [] ?_<;>(repeat' first|trivial)
 . have e:=hbad (zE_3 (L:=L) (q:=q) (by omega) (by with_reducible assumption) (by with_reducible assumption) (by with_reducible assumption)) (by with_reducible assumption);rw[e];refine iC.mk _ (vt _ (hrg (ZO L q)) _ _ _ _ _ _ _ _ _ _ _ _ _ _) rfl ?_;refine ab.mk [] ?_<;>(repeat' first|trivial)
 . have e:=hbad (zE_4 (L:=L) (q:=q) (by omega) (by with_reducible assumption) (by with_reducible assumption) (by with_reducible assumption) (by with_reducible assumption)) (by with_reducible assumption);rw[e];refine iC.mk _ (vt _ (hrg (O6 L q _)) _ _ _ _ _ _ _ _ _ _ _ _ _ _) rfl ?_;refine ab.mk [] ?_<;>(repeat' first|trivial)
 . have e:=hbad (zE_5 (L:=L) (q:=q) (by omega) (by with_reducible assumption) (by with_reducible assumption) (by with_reducible assumption) (by with_reducible assumption) (by with_reducible assumption)) (by with_reducible assumption);rw[e];refine iC.mk _ (vt _ (hrg (O6 L q _)) _ _ _ _ _ _ _ _ _ _ _ _ _ _) rfl ?_;refine ab.mk [] ?_<;>(repeat' first|trivial)
 . have e:=hbad (zE_6 (L:=L) (q:=q) (by omega) (by with_reducible assumption) (by with_reducible assumption) (by with_reducible assumption) (by with_reducible assumption) (by with_reducible assumption) (by with_reducible assumption)) (by with_reducible assumption);rw[e];refine iC.mk _ (vt _ (hrg (ZV L q)) _ _ _ _ _ _ _ _ _ _ _ _ _ _) rfl ?_;refine ab.mk [] ?_<;>(repeat' first|trivial)
 . exact⟨hp,hL⟩
 . have e:=hbad (zE_7 (L:=L) (q:=q) (by omega) (by with_reducible assumption) (by with_reducible assumption) (by with_reducible assumption) (by with_reducible assumption) (by with_reducible assumption) (by with_reducible assumption) (by with_reducible assumption)) (by with_reducible assumption);rw[e];refine iC.mk _ (ZI _ (hrg (ZM L q)) _ _ _ _ _ _ _ _ _ _ _ _ _ _ _) rfl ?_;refine ab.mk [] ?_<;>(repeat' first|trivial)
 . exact⟨mn (xZ L q) (by omega),by rw[dZ];exact Gy L q⟩
 . exact⟨⟨by rw[dZ],by rw[cX];omega⟩,rfl,by decide⟩
 . have ha:dk L q=dy (bm L q) [cA,dz]:=if_neg (fun h=>h (by with_reducible assumption));rw[hgd ha (zE_8 (L:=L) (q:=q) (by omega) (by with_reducible assumption) (by with_reducible assumption) (by with_reducible assumption) (by with_reducible assumption) (by with_reducible assumption) (by with_reducible assumption) (by with_reducible assumption))];simp only[dZ];refine iC.mk _ (xX _ ?_) rfl ?_
   . (repeat' first|trivial|rfl|refine And.intro ?_ ?_)
   refine ab.mk [.c9 4] ?_<;>(repeat' first|trivial)
 . rw[dZ];refine⟨mn (nT (xZ L q)) (Nat.le_trans (tF _ _) (by omega)),?_⟩;exact(Wk.agg (ba.cons (Wk.refl _) (ba.cons (Wk.refl _) (ba.cons (Wk.refl _) (ba.cons (Wk.refl _) (ba.cons (Wk.nil (.inl rfl)) (ba.cons (Wk.nil (.inl rfl)) ba.nil)))))))
 . have ha:dk L q=cf (dy (bm L q) [cA,dz]) (tA bU (cV L q ff)):=if_pos (by with_reducible assumption);rw[hgd ha (zE_8 (L:=L) (q:=q) (by omega) (by with_reducible assumption) (by with_reducible assumption) (by with_reducible assumption) (by with_reducible assumption) (by with_reducible assumption) (by with_reducible assumption) (by with_reducible assumption))];simp only[dZ];refine iC.mk _ (xX _ ?_) rfl ?_
   . (repeat' first|trivial|rfl|refine And.intro ?_ ?_)
   refine ab.mk [.c9 4] ?_<;>(repeat' first|trivial)
 . have e:=hbad (Gp (L:=L) (q:=q) (by omega)) (by decide);rw[e];refine iC.mk _ (xX _ ?_) rfl ?_
   . (repeat' first|trivial|rfl|refine And.intro ?_ ?_)
   refine ab.mk [] ?_<;>(repeat' first|trivial)
def EF(L:List Nd) (q:Int) (x:V):Sm:=fun args σ=>match args,σ with
 |[.list false 4 l,.int .i64 k],[]=>some (l=L.map aW/\k=q,x,none)
 |_,_=>none
theorem UJ{L:List Nd} {q:Int} {x:V} (hp:cR (L.map aW)) (hL:L.length<=10000) (hx:x=if zE L q=0 then .tuple [iQ L q,.str (cV L q c5),.int .i64 0] else .tuple [.agg zZ,.str [],.int .i64 (zE L q)]):ax 6 (EF L q x):=by
 intro args sg pre y r he hq;unfold EF at he;split at he<;>cases he;rw[hq.1,hq.2];exact wy _ L q x hp hL hx
theorem Ng{s:gA} (h:s.length<=800):cR ((dS s).map aW)/\(dS s).length<=801:=by
 have hl:=Z3 (s:=s) (by omega);unfold cR;rw[eh];by_cases h0:dR s=0
 . obtain⟨x,h1,h2,h3⟩:=Nf (s:=s) (by omega) h0;have h5:=h1.sz;exact⟨⟨⟨pj,fun z hz=>⟨(h5 z hz).1,(h5 z hz).2,by have:=(h2 z hz).1;omega,by have:=(h2 z hz).2;omega⟩,by omega⟩,fun z hz=>by have:=(h2 z hz).2;omega⟩,by omega⟩
 . have e:dS s=[]:=by unfold dS;rw[if_neg h0]
   rw[e];exact⟨⟨⟨pj,fun _ hz=>(by cases hz),bu _⟩,fun _ hz=>by cases hz⟩,bu _⟩
theorem zg(L:List Nd) (q:Int):wL (iQ L q):=by
 unfold wL;simp only[pZ,dZ];refine Wk.agg ?_
 iterate 38 refine ba.cons (Wk.refl _) ?_
 refine ba.cons (Wk.list (.inr rfl) (by simp only[aA]) ?_) (ba.cons (Wk.nil (.inl rfl)) (ba.refl _));intro i x y hx hy;rw[List.getElem?_map] at hx hy;rw[List.getElem?_map,List.getElem?_map] at hy;cases hz:(fR L q)[i]? with
 |none=>rw[hz] at hx;cases hx
 |some e=>
   rw[hz] at hx hy;cases hx;cases hy;exact Wk.agg (ba.cons (Wk.refl _) (ba.cons (Wk.refl _) (ba.cons (Wk.nil (.inl rfl)) ba.nil)))
theorem YF(L:List Nd) (q:Int):(pZ (iQ L q)).evs.length<=L.length:=by
 show(((fR L q).map et).map HJ).length<=_;rw[aA,aA];show((cj L q bh).map _).length<=_;rw[aA];exact BS L q
end Go.Proofs.YtchllohbglebiaaGreatDoor
