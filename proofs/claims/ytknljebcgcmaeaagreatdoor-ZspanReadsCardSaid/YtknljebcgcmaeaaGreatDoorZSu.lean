/-
  A part of the proof.
-/
import Derived.Test.YtknljebcgcmaeaaGreatDoorKD
import Derived.Test.YtknljebcgcmaeaaGreatDoorZSo
import Derived.Test.YtknljebcgcmaeaaGreatDoorZSs
set_option linter.unusedSimpArgs false
set_option linter.unusedVariables false
set_option maxHeartbeats 4000000
set_option maxRecDepth 100000
namespace Go.Proofs.YtknljebcgcmaeaaGreatDoor
open Go Go.VG
theorem Sq{l:List V} {n:Nat} {x:V} {K:V->Prop} (h1:ae (n<l.length)) (h2:K x):iz (l.set n x) n K:=⟨x,by simp[h1.h],h2⟩
theorem Cl{w:WS} {n:Nat} {K:V->Prop} {k:Bool} (hk:w.top.k=k) (h1:ae (n+1=w.l.length)) (h2:K (.agg [.int .u8 w.top.e.toNat,.bool w.top.b,.bool k])):iz (w.l.map ef) n K:=by
 obtain rfl:n=w.l.length-1:=by have:=h1.h;omega
 subst hk;exact ig ⟨by have:=h1.h;omega⟩ h2
theorem Qb(w:WS) (c:Int) (hp:True):OK 151 ([.ptr 0 0,.int .i64 c]) (eW w) (.tuple []) (some (eW (w.fail c))):=by
 refine ai (C:=cx []) (ak trivial) (fn:=Tryz.f151) fun hw hs=>?_;repeat'((conv=>whnf);(apply aj<;>intro h))
 all_goals try conv=>whnf
 all_goals try(refine ae.mk ?_;try dsimp only)
 all_goals try refine stay ?_
 all_goals
  unfold WS.fail;first|rw[if_pos (by assumption)]|rw[if_neg (by assumption)]
  refine ab.mk [] ?_<;>(repeat' first|trivial)
def rI:Sm:=fun args σ=>match args,σ with
 |[.ptr 0 0,.int .i64 c],[.cells [.buf 1,.buf 2,.bool h_w,.int .i64 c_w,.func (.func 87) [] []],.buf 1 0 o_w,.buf 3 0 l_w]=>some (okW o_w l_w/\(True),.tuple [],some (eW ((cy o_w l_w h_w c_w).fail c)))
 |_,_=>none
theorem vL:aq 151 rI:=by
 intro args sg pre x r he hp;unfold rI at he;split at he<;>cases he
 . rw[kD (hp).1];exact Qb (hp:=hp.2) ..
theorem Qe(w:WS) (hp:w.out.length<=2000000000/\w.l.length<=1000):OK 179 ([.ptr 0 0]) (eW w) (.bool w.may.2) (some (eW w.may.1)):=by
 refine ai (C:=cx [(151,rI)]) (ak ⟨vL,trivial⟩) (fn:=Tryz.f179) fun hw hs=>?_;have e1:(w.l.map ef).length=w.l.length:=by simp
 cases hk:w.top.k;all_goals have idx_topk:=fun{n:Nat} {K:V->Prop}=>Cl (n:=n) (K:=K) hk
 . repeat'((conv=>whnf);first|apply af|apply aI|((first|apply aj|apply e9)<;>intro h)|with_reducible refine idx_topk ?_ ?_)
   all_goals try conv=>whnf
   all_goals try(refine ae.mk ?_;try dsimp only)
   all_goals first|refine stay ?_|omega|(simp(discharger:=omega) only[wR];omega)|(simp only[du];omega)|skip
   all_goals first
    |exact⟨lH hp.1 hp.2,trivial⟩
    |skip
   all_goals
    have he:w.may=w.may:=rfl;conv at he=>rhs;unfold WS.may
    repeat (first|rw[if_pos (by first|assumption|omega)] at he|rw[if_neg (by first|assumption|omega|simp_all)] at he)
    rw[he];first|rw[dg]|skip
    refine ab.mk [] ?_<;>(repeat' first|trivial|apply ah|apply bg)
    all_goals (try rw[show(IntKind.i64.wrap (↑(List.map ef w.l).length-1)).toNat=w.l.length-1 by(simp(discharger:=omega) only[wR];omega)])
    all_goals simp[WS.jO,List.map_set,hk,dZ,bl,bv]
 . repeat'((conv=>whnf);first|apply af|apply aI|((first|apply aj|apply e9)<;>intro h)|with_reducible refine idx_topk ?_ ?_)
   all_goals try conv=>whnf
   all_goals try(refine ae.mk ?_;try dsimp only)
   all_goals first|refine stay ?_|omega|(simp(discharger:=omega) only[wR];omega)|(simp only[du];omega)|skip
   all_goals first
    |exact⟨lH hp.1 hp.2,trivial⟩
    |skip
   all_goals
    have he:w.may=w.may:=rfl;conv at he=>rhs;unfold WS.may
    repeat (first|rw[if_pos (by first|assumption|omega)] at he|rw[if_neg (by first|assumption|omega|simp_all)] at he)
    rw[he];first|rw[dg]|skip
    refine ab.mk [] ?_<;>(repeat' first|trivial|apply ah|apply bg)
    all_goals (try rw[show(IntKind.i64.wrap (↑(List.map ef w.l).length-1)).toNat=w.l.length-1 by(simp(discharger:=omega) only[wR];omega)])
    all_goals simp[WS.jO,List.map_set,hk,dZ,bl,bv]
def um:Sm:=fun args σ=>match args,σ with
 |[.nilptr],[]=>some (True,.bool false,none)
 |[.ptr 0 0],[.cells [.buf 1,.buf 2,.bool h_w,.int .i64 c_w,.func (.func 87) [] []],.buf 1 0 o_w,.buf 3 0 l_w]=>some (okW o_w l_w/\((cy o_w l_w h_w c_w).out.length<=2000000000/\(cy o_w l_w h_w c_w).l.length<=1000),.bool (cy o_w l_w h_w c_w).may.2,some (eW (cy o_w l_w h_w c_w).may.1))
 |_,_=>none
theorem yp:aq 179 um:=by
 intro args sg pre x r he hp;unfold um at he;split at he<;>cases he
 . refine ai (C:=cx [(151,rI)]) (ak ⟨vL,trivial⟩) (fn:=Tryz.f179) fun hw hs=>?_;all_goals try conv=>whnf
   all_goals try(refine ae.mk ?_;try dsimp only)
   all_goals try refine stay ?_
   refine ab.mk [] ?_<;>(repeat' first|trivial)
 . rw[kD (hp).1];exact Qe (hp:=hp.2) ..
theorem CS{w:WS} (h:w.out.length<=1900000000/\w.l.length<=900):okW (bl w.out) (w.l.map ef)/\(cy (bl w.out) (w.l.map ef) w.whole w.code).out.length<=2000000000/\(cy (bl w.out) (w.l.map ef) w.whole w.code).l.length<=1000:=by
 rw[dg];exact⟨lH (by omega) (by omega),by omega,by omega⟩
theorem Qg(w:WS) (s:g8) (hp:(w.out.length<=1900000000/\w.l.length<=900)/\s.length<=100000000):OK 143 ([.ptr 0 0,.str s]) (eW w) (.tuple []) (some (eW (w.put (quote s)))):=by
 refine ai (C:=cx [(179,um),(87,wP)]) (ak ⟨yp,Cr,trivial⟩) (fn:=Tryz.f143) fun hw hs=>?_;obtain⟨hp,hq⟩:=hp;repeat'((conv=>whnf);first|apply af|(apply e9<;>intro h))
 all_goals try conv=>whnf
 all_goals try(refine ae.mk ?_;try dsimp only)
 all_goals try refine stay ?_
 all_goals first
  |exact CS hp
  |(rw[dg];have:=nF w;(simp only[du];omega))
  |(rw[dg];have:=nF w;refine⟨hn,?_⟩;omega)
  |skip
 all_goals (try rw[dg] at*)
 all_goals
  have hm:=nF w;unfold WS.put;first|rw[if_pos (by assumption)]|rw[if_neg (by simp_all)]
  refine ab.mk [] ?_<;>(repeat' first|trivial|apply ah|apply bg)
  all_goals (try rw[dg])
  all_goals first
   |(simp[dZ,bl,bv];done)
   |(simp_all[dZ,bl,bv,vB];done)
def ER:Sm:=fun args σ=>match args,σ with
 |[.nilptr,.str s],[]=>some (True,.tuple [],none)
 |[.ptr 0 0,.str s],[.cells [.buf 1,.buf 2,.bool h_w,.int .i64 c_w,.func (.func 87) [] []],.buf 1 0 o_w,.buf 3 0 l_w]=>some (okW o_w l_w/\(((cy o_w l_w h_w c_w).out.length<=1900000000/\(cy o_w l_w h_w c_w).l.length<=900)/\s.length<=100000000),.tuple [],some (eW ((cy o_w l_w h_w c_w).put (quote s))))
 |_,_=>none
theorem Tp:aq 143 ER:=by
 intro args sg pre x r he hp;unfold ER at he;split at he<;>cases he
 . rename_i s;refine ai (C:=cx [(179,um),(87,wP)]) (ak ⟨yp,Cr,trivial⟩) (fn:=Tryz.f143) fun hw hs=>?_;repeat'((conv=>whnf);apply af)
   all_goals try conv=>whnf
   all_goals try(refine ae.mk ?_;try dsimp only)
   all_goals try refine stay ?_
   refine ab.mk [] ?_<;>(repeat' first|trivial)
 . rw[kD (hp).1];exact Qg (hp:=hp.2) ..
theorem Qh(w:WS) (n:Int) (hp:(w.out.length<=1900000000/\w.l.length<=900)):OK 145 ([.ptr 0 0,.int .i64 n]) (eW w) (.tuple []) (some (eW (w.put (kM n)))):=by
 refine ai (C:=cx [(179,um),(181,Ec)]) (ak ⟨yp,SO,trivial⟩) (fn:=Tryz.f145) fun hw hs=>?_;have hn:-9223372036854775808<=n/\n<=9223372036854775807:=hw.2.1;repeat'((conv=>whnf);first|apply af|(apply e9<;>intro h))
 all_goals try conv=>whnf
 all_goals try(refine ae.mk ?_;try dsimp only)
 all_goals try refine stay ?_
 all_goals first
  |exact CS hp
  |(rw[dg];have:=nF w;(simp only[du];omega))
  |(rw[dg];have:=nF w;refine⟨hn,?_⟩;omega)
  |skip
 all_goals (try rw[dg] at*)
 all_goals
  have hm:=nF w;unfold WS.put;first|rw[if_pos (by assumption)]|rw[if_neg (by simp_all)]
  refine ab.mk [] ?_<;>(repeat' first|trivial|apply ah|apply bg)
  all_goals (try rw[dg])
  all_goals first
   |(simp[dZ,bl,bv];done)
   |(simp_all[dZ,bl,bv,vB];done)
def ES:Sm:=fun args σ=>match args,σ with
 |[.ptr 0 0,.int .i64 n],[.cells [.buf 1,.buf 2,.bool h_w,.int .i64 c_w,.func (.func 87) [] []],.buf 1 0 o_w,.buf 3 0 l_w]=>some (okW o_w l_w/\(((cy o_w l_w h_w c_w).out.length<=1900000000/\(cy o_w l_w h_w c_w).l.length<=900)),.tuple [],some (eW ((cy o_w l_w h_w c_w).put (kM n))))
 |_,_=>none
theorem Tq:aq 145 ES:=by
 intro args sg pre x r he hp;unfold ES at he;split at he<;>cases he
 . rw[kD (hp).1];exact Qh (hp:=hp.2) ..
theorem Q8(w:WS) (a e:UInt8) (hp:(w.out.length<=1900000000/\w.l.length<=900)):OK 142 ([.ptr 0 0,bv a,bv e]) (eW w) (.tuple []) (some (eW (w.begin a e))):=by
 refine ai (C:=cx [(179,um),(151,rI)]) (ak ⟨yp,vL,trivial⟩) (fn:=Tryz.f142) fun hw hs=>?_;repeat'((conv=>whnf);first|apply af|apply aI|((first|apply aj|apply e9)<;>intro h))
 all_goals try conv=>whnf
 all_goals try(refine ae.mk ?_;try dsimp only)
 all_goals try refine stay ?_
 all_goals first
  |exact CS hp
  |exact⟨lH (by omega) (by omega),trivial⟩
  |(rw[dg];have:=nF w;(first|(simp only[du];omega)|(simp(discharger:=omega) [-List.getD_eq_getElem?_getD,wR]<;>omega)))
  |skip
 all_goals (try rw[dg] at*)
 all_goals
  have hm:=nF w;try simp only[aB] at*
  unfold WS.begin
  repeat (first|rw[if_pos (by first|assumption|omega)]|rw[if_neg (by first|omega|simp_all)])
  refine ab.mk [] ?_<;>(repeat' first|trivial|apply ah|apply bg)
  all_goals (try rw[dg])
  all_goals simp[dZ,bl,bv]
def zU:Sm:=fun args σ=>match args,σ with
 |[.ptr 0 0,.int .u8 n_a,.int .u8 n_e],[.cells [.buf 1,.buf 2,.bool h_w,.int .i64 c_w,.func (.func 87) [] []],.buf 1 0 o_w,.buf 3 0 l_w]=>some ((0<=n_e/\n_e<=255)/\((0<=n_a/\n_a<=255)/\(okW o_w l_w/\(((cy o_w l_w h_w c_w).out.length<=1900000000/\(cy o_w l_w h_w c_w).l.length<=900)))),.tuple [],some (eW ((cy o_w l_w h_w c_w).begin (byte n_a) (byte n_e))))
 |_,_=>none
theorem JY:aq 142 zU:=by
 intro args sg pre x r he hp;unfold zU at he;split at he<;>cases he
 . rw[gd (hp).1];rw[gd (hp.2).1];rw[kD (hp.2.2).1];exact Q8 (hp:=hp.2.2.2) ..
theorem Qf(w:WS) (hp:(w.out.length<=1900000000/\w.l.length<=900)):OK 88 ([.ptr 0 0]) (eW w) (.tuple []) (some (eW (w.begin 123 125))):=by
 refine ai (C:=cx [(142,zU)]) (ak ⟨JY,trivial⟩) (fn:=Tryz.f88) fun hw hs=>?_;repeat'((conv=>whnf);apply af)
 all_goals try conv=>whnf
 all_goals try(refine ae.mk ?_;try dsimp only)
 all_goals try refine stay ?_
 all_goals first
  |(refine⟨by omega,by omega,lH (by omega) (by omega),?_⟩;rw[dg];exact hp)
  |skip
 all_goals (try rw[dg])
 refine ab.mk [] ?_<;>(repeat' first|trivial)
def wS:Sm:=fun args σ=>match args,σ with
 |[.ptr 0 0],[.cells [.buf 1,.buf 2,.bool h_w,.int .i64 c_w,.func (.func 87) [] []],.buf 1 0 o_w,.buf 3 0 l_w]=>some (okW o_w l_w/\(((cy o_w l_w h_w c_w).out.length<=1900000000/\(cy o_w l_w h_w c_w).l.length<=900)),.tuple [],some (eW ((cy o_w l_w h_w c_w).begin 123 125)))
 |_,_=>none
theorem Ct:aq 88 wS:=by
 intro args sg pre x r he hp;unfold wS at he;split at he<;>cases he
 . rw[kD (hp).1];exact Qf (hp:=hp.2) ..
theorem Qd(w:WS) (hp:(w.out.length<=1900000000/\w.l.length<=900)):OK 149 ([.ptr 0 0]) (eW w) (.tuple []) (some (eW (w.begin 91 93))):=by
 refine ai (C:=cx [(142,zU)]) (ak ⟨JY,trivial⟩) (fn:=Tryz.f149) fun hw hs=>?_;repeat'((conv=>whnf);apply af)
 all_goals try conv=>whnf
 all_goals try(refine ae.mk ?_;try dsimp only)
 all_goals try refine stay ?_
 all_goals first
  |(refine⟨by omega,by omega,lH (by omega) (by omega),?_⟩;rw[dg];exact hp)
  |skip
 all_goals (try rw[dg])
 refine ab.mk [] ?_<;>(repeat' first|trivial)
def EO:Sm:=fun args σ=>match args,σ with
 |[.ptr 0 0],[.cells [.buf 1,.buf 2,.bool h_w,.int .i64 c_w,.func (.func 87) [] []],.buf 1 0 o_w,.buf 3 0 l_w]=>some (okW o_w l_w/\(((cy o_w l_w h_w c_w).out.length<=1900000000/\(cy o_w l_w h_w c_w).l.length<=900)),.tuple [],some (eW ((cy o_w l_w h_w c_w).begin 91 93)))
 |_,_=>none
theorem Tn:aq 149 EO:=by
 intro args sg pre x r he hp;unfold EO at he;split at he<;>cases he
 . rw[kD (hp).1];exact Qd (hp:=hp.2) ..
theorem Qa(w:WS) (hp:(w.out.length<=1900000000/\w.l.length<=900)):OK 98 ([.ptr 0 0]) (eW w) (.tuple []) (some (eW w.fin)):=by
 refine ai (C:=cx [(151,rI)]) (ak ⟨vL,trivial⟩) (fn:=Tryz.f98) fun hw hs=>?_;have e1:(w.l.map ef).length=w.l.length:=by simp
 cases hk:w.top.k;all_goals have idx_topk:=fun{n:Nat} {K:V->Prop}=>Cl (n:=n) (K:=K) hk
 . repeat'((conv=>whnf);first|apply af|apply aI|(apply aj<;>intro h)|with_reducible refine idx_topk ?_ ?_)
   all_goals try conv=>whnf
   all_goals try(refine ae.mk ?_;try dsimp only)
   all_goals first|refine stay ?_|(simp(discharger:=omega) only[wR];omega)|(simp only[du];omega)|skip
   all_goals first
    |exact⟨lH (by omega) (by omega),trivial⟩
    |skip
   all_goals (try rw[dg] at*)
   all_goals
    try simp only[aB] at*
    first|unfold WS.fin|unfold WS.key
    repeat (first|rw[if_pos (by first|assumption|omega|(simp[hk];done)|(simp only[hk,reduceCtorEq,or_false,or_true,not_true_eq_false];omega))]|rw[if_neg (by first|omega|(simp[hk];done)|(simp only[hk,reduceCtorEq,or_false,or_true,not_true_eq_false];omega))])
    refine ab.mk [] ?_<;>(repeat' first|trivial|apply ah|apply bg)
    all_goals (try rw[dg])
    all_goals (try rw[show(IntKind.i64.wrap (w.l.length-1)).toNat=w.l.length-1 by(simp(discharger:=omega) only[wR];omega)])
    all_goals first
     |(simp[WS.jO,List.map_set,List.map_take,hk,dZ,bl,bv];done)
     |(simp_all[WS.jO,List.map_set,List.map_take,dZ,bl,bv];done)
 . repeat'((conv=>whnf);first|apply af|apply aI|(apply aj<;>intro h)|with_reducible refine idx_topk ?_ ?_)
   all_goals try conv=>whnf
   all_goals try(refine ae.mk ?_;try dsimp only)
   all_goals first|refine stay ?_|(simp(discharger:=omega) only[wR];omega)|skip
   all_goals first
    |exact⟨lH (by omega) (by omega),trivial⟩
    |skip
   all_goals (try rw[dg] at*)
   all_goals
    try simp only[aB] at*
    first|unfold WS.fin|unfold WS.key
    repeat (first|rw[if_pos (by first|assumption|omega|(simp[hk];done)|(simp only[hk,reduceCtorEq,or_false,or_true,not_true_eq_false];omega))]|rw[if_neg (by first|omega|(simp[hk];done)|(simp only[hk,reduceCtorEq,or_false,or_true,not_true_eq_false];omega))])
    refine ab.mk [] ?_<;>(repeat' first|trivial)
    all_goals (try rw[dg])
    all_goals (try rw[show(IntKind.i64.wrap (w.l.length-1)).toNat=w.l.length-1 by omega])
    all_goals first
     |(simp[WS.jO,List.map_set,List.map_take,hk,dZ,bl,bv];done)
     |(simp_all[WS.jO,List.map_set,List.map_take,dZ,bl,bv];done)
def wQ:Sm:=fun args σ=>match args,σ with
 |[.ptr 0 0],[.cells [.buf 1,.buf 2,.bool h_w,.int .i64 c_w,.func (.func 87) [] []],.buf 1 0 o_w,.buf 3 0 l_w]=>some (okW o_w l_w/\(((cy o_w l_w h_w c_w).out.length<=1900000000/\(cy o_w l_w h_w c_w).l.length<=900)),.tuple [],some (eW (cy o_w l_w h_w c_w).fin))
 |_,_=>none
theorem Cs:aq 98 wQ:=by
 intro args sg pre x r he hp;unfold wQ at he;split at he<;>cases he
 . rw[kD (hp).1];exact Qa (hp:=hp.2) ..
theorem Qc(w:WS) (s:g8) (hp:(w.out.length<=1900000000/\w.l.length<=900)/\s.length<=100000000):OK 97 ([.ptr 0 0,.str s]) (eW w) (.tuple []) (some (eW (w.key s))):=by
 refine ai (C:=cx [(151,rI),(87,wP)]) (ak ⟨vL,Cr,trivial⟩) (fn:=Tryz.f97) fun hw hs=>?_;obtain⟨hp,hq⟩:=hp;have hq2:=LX s;have e1:(w.l.map ef).length=w.l.length:=by simp
 cases hk:w.top.k;all_goals have idx_topk:=fun{n:Nat} {K:V->Prop}=>Cl (n:=n) (K:=K) hk
 . repeat'((conv=>whnf);first|apply af|apply aI|((first|apply aj|apply e9)<;>intro h)|with_reducible (first|refine idx_topk ?_ ?_|refine Sq ?_ ?_))
   all_goals try conv=>whnf
   all_goals try(refine ae.mk ?_;try dsimp only)
   all_goals first|refine stay ?_|omega|(simp(discharger:=omega) only[wR];omega)|(simp only[du];omega)|skip
   all_goals first
    |exact⟨lH (by omega) (by omega),trivial⟩
    |skip
   all_goals (try rw[dg] at*)
   all_goals
    try simp only[aB] at*
    first|unfold WS.fin|unfold WS.key
    repeat (first|rw[if_pos (by first|assumption|omega|(simp[hk];done)|(simp only[hk,reduceCtorEq,or_false,or_true,not_true_eq_false];omega))]|rw[if_neg (by first|omega|(simp[hk];done)|(simp only[hk,reduceCtorEq,or_false,or_true,not_true_eq_false];omega))])
    refine ab.mk [] ?_<;>(repeat' first|trivial|apply ah|apply bg)
    all_goals (try rw[dg])
    all_goals (try rw[show(IntKind.i64.wrap (w.l.length-1)).toNat=w.l.length-1 by(simp(discharger:=omega) only[wR];omega)])
    all_goals first
     |(simp[WS.jO,List.map_set,List.map_take,hk,dZ,bl,bv];done)
     |(simp_all[WS.jO,List.map_set,List.map_take,dZ,bl,bv];done)
 . repeat'((conv=>whnf);first|apply af|apply aI|(apply aj<;>intro h)|with_reducible refine idx_topk ?_ ?_)
   all_goals try conv=>whnf
   all_goals try(refine ae.mk ?_;try dsimp only)
   all_goals first|refine stay ?_|(simp(discharger:=omega) only[wR];omega)|skip
   all_goals first
    |exact⟨lH (by omega) (by omega),trivial⟩
    |skip
   all_goals (try rw[dg] at*)
   all_goals
    try simp only[aB] at*
    first|unfold WS.fin|unfold WS.key
    repeat (first|rw[if_pos (by first|assumption|omega|(simp[hk];done)|(simp only[hk,reduceCtorEq,or_false,or_true,not_true_eq_false];omega))]|rw[if_neg (by first|omega|(simp[hk];done)|(simp only[hk,reduceCtorEq,or_false,or_true,not_true_eq_false];omega))])
    refine ab.mk [] ?_<;>(repeat' first|trivial)
    all_goals (try rw[dg])
    all_goals (try rw[show(IntKind.i64.wrap (w.l.length-1)).toNat=w.l.length-1 by omega])
    all_goals first
     |(simp[WS.jO,List.map_set,List.map_take,hk,dZ,bl,bv];done)
     |(simp_all[WS.jO,List.map_set,List.map_take,dZ,bl,bv];done)
def rJ:Sm:=fun args σ=>match args,σ with
 |[.ptr 0 0,.str s],[.cells [.buf 1,.buf 2,.bool h_w,.int .i64 c_w,.func (.func 87) [] []],.buf 1 0 o_w,.buf 3 0 l_w]=>some (okW o_w l_w/\(((cy o_w l_w h_w c_w).out.length<=1900000000/\(cy o_w l_w h_w c_w).l.length<=900)/\s.length<=100000000),.tuple [],some (eW ((cy o_w l_w h_w c_w).key s)))
 |_,_=>none
theorem vM:aq 97 rJ:=by
 intro args sg pre x r he hp;unfold rJ at he;split at he<;>cases he
 . rw[kD (hp).1];exact Qc (hp:=hp.2) ..
theorem Q9(w:WS) (hp:True):OK 43 ([.ptr 0 0]) (eW w) (.tuple [.str w.done.1,.int .i64 w.done.2]) (none):=by
 refine ai (C:=cx []) (ak trivial) (fn:=Tryz.f43) fun hw hs=>?_;have e1:(w.l.map ef).length=w.l.length:=by simp
 repeat'((conv=>whnf);first|apply aI|((first|apply aj|apply e9)<;>intro h)|apply mJ)
 all_goals try conv=>whnf
 all_goals try(refine ae.mk ?_;try dsimp only)
 all_goals try refine stay ?_
 all_goals
  have he:w.done=w.done:=rfl;conv at he=>rhs;unfold WS.done
  repeat (first|rw[if_pos (by first|assumption|omega|(simp[*];done)|(simp;omega))] at he|rw[if_neg (by first|omega|(intro hh;rcases hh with hh|hh;(·omega);(·simp_all)))] at he)
  rw[he];refine ab.mk [] ?_<;>(repeat' first|trivial)
def EN:Sm:=fun args σ=>match args,σ with
 |[.nilptr],[]=>some (True,.tuple [.str [],.int .i64 9],none)
 |[.ptr 0 0],[.cells [.buf 1,.buf 2,.bool h_w,.int .i64 c_w,.func (.func 87) [] []],.buf 1 0 o_w,.buf 3 0 l_w]=>some (okW o_w l_w/\(True),.tuple [.str (cy o_w l_w h_w c_w).done.1,.int .i64 (cy o_w l_w h_w c_w).done.2],none)
 |_,_=>none
theorem Tm:aq 43 EN:=by
 intro args sg pre x r he hp;unfold EN at he;split at he<;>cases he
 . refine ai (C:=cx []) (ak trivial) (fn:=Tryz.f43) fun hw hs=>?_;all_goals try conv=>whnf
   all_goals try(refine ae.mk ?_;try dsimp only)
   all_goals try refine stay ?_
   refine ab.mk [] ?_<;>(repeat' first|trivial)
 . rw[kD (hp).1];exact Q9 (hp:=hp.2) ..
def EP:Sm:=fun args σ=>match args,σ with
 |[],[]=>some (True,.ptr 0 0,some (eW .new))
 |_,_=>none
theorem To:aq 41 EP:=by
 intro args sg pre x r he hp;unfold EP at he;split at he<;>cases he
 . refine ai (C:=cx []) (ak trivial) (fn:=Tryz.f41) fun hw hs=>?_;all_goals try conv=>whnf
   all_goals try(refine ae.mk ?_;try dsimp only)
   all_goals try refine stay ?_
   refine ab.mk [.cell 0 0 1,.cell 0 1 3] ?_<;>(repeat' first|trivial)
abbrev kQ(e:Ev):V:=.agg [.int .u64 e.time,.str e.name,.list true 0 []]
section
variable {L:List Nd} {q:Int} {k:Nat}
theorem xk(h:(L.getD k default).k.toNat≠123):cP L k=7:=by
 unfold cP;generalize (L.getD k default).k.toNat=m at*;simp[aJ,nn,h]
theorem Gq(h1:(L.getD k default).k.toNat=123) (h:cj L k c8≠0):cP L k=cj L k c8:=by
 unfold cP;generalize (L.getD k default).k.toNat=m at*;simp[aJ,nn,h1,h]
theorem Gr(h1:(L.getD k default).k.toNat=123) (h2:¬cj L k c8≠0) (h:oa L k c8=false):cP L k=9:=by
 unfold cP;generalize (L.getD k default).k.toNat=m at*;simp[aJ,nn,h1,h2,h]
theorem Gs(h1:(L.getD k default).k.toNat=123) (h2:¬cj L k c8≠0) (h3:¬oa L k c8=false) (h:aW L k iJ≠0):cP L k=aW L k iJ:=by
 unfold cP;generalize (L.getD k default).k.toNat=m at*;simp[aJ,nn,h1,h2,h3,h]
theorem Gt(h1:(L.getD k default).k.toNat=123) (h2:¬cj L k c8≠0) (h3:¬oa L k c8=false) (h4:¬aW L k iJ≠0) (h:bh L k iJ=false):cP L k=9:=by
 unfold cP;generalize (L.getD k default).k.toNat=m at*;simp[aJ,nn,h1,h2,h3,h4,h]
theorem xl(h1:(L.getD k default).k.toNat=123) (h2:¬cj L k c8≠0) (h3:¬oa L k c8=false) (h4:¬aW L k iJ≠0) (h5:¬bh L k iJ=false):cP L k=(cH (iP L k c8)).1:=by
 unfold cP;generalize (L.getD k default).k.toNat=m at*;by_cases z:(cH (iP L k c8)).1=0<;>simp[aJ,nn,h1,h2,h3,h4,h5,z]
theorem nk{ks:List Nat} {i:Nat} (h:i<ks.length):fC L (ks.drop i) =if cP L (ks.getD i default)≠0 then cP L (ks.getD i default) else fC L (ks.drop (i+1)):=by
 rw[List.drop_eq_getElem_cons h,fC,dV,dV,lZ,ac,am h];show(if cP L ks[i]≠0 then _ else _) =(if cP L ks[i]≠0 then _ else _);split
 . rfl
 . split<;>omega
theorem BK{ks:List Nat} {i:Nat} (h:i<ks.length):(ks.take (i+1)).map (oV L) =(ks.take i).map (oV L)++[oV L (ks.getD i default)]:=by
 rw[rO (d:=default) h,gq];rfl
theorem GR(h:n7 L q bk≠0):fq L q=n7 L q bk:=if_pos h
theorem GS(h:¬n7 L q bk≠0):fq L q=fC L (bF L q bk):=by
 unfold fq;rw[dV,if_neg h,dV,lZ];split<;>omega
theorem GG{k:Nat} (h:k∈bF L q bk):k<L.length:=by
 unfold bF qS at h;split at h
 . cases h
 . exact re h
end
theorem ev_lt{L:List Nd} {ks:List Nat} {i:Nat} (hc:fC L ks≠0) (he:fC L ks=fC L (ks.drop i)):i<ks.length:=by
 rcases eg i ks.length with h|h
 . exact h
 . rw[List.drop_eq_nil_of_le h] at he;exact absurd he hc
theorem AQ(L:List Nd) (q:Int):(bF L q bk).length<=L.length:=by
 unfold bF qS;split
 . exact ci _
 . exact rb _ _
theorem Ru(c:Bool) (l:List V) (q:Int) (hp:cE l) (hc:¬(fq (al l) q≠0)):OK 20 ([.agg [.list c 4 l,.int .i64 q]]) ([]) (.buf 0) (some [.buf 3 0 ((o9 (al l) q).map kQ)]):=by
 refine ai (C:=gy [(61,zN),(62,wT)] [(55,iL),(53,tZ),(58,u0),(52,mg)]) (gW ⟨JR,Cv,trivial⟩ ⟨jb,yF,yG,nC,trivial⟩) (fn:=Tryz.f20) fun hw hs=>?_;obtain⟨L,rfl,eL⟩:=jQ hp.1.1;have hml:(L.map aN).length=L.length:=aB _;have hkm:=fun k=>GG (L:=L) (q:=q) (k:=k);have hkb:=AQ L q;have hLb:=hp.1.2.2;rw[eL] at hLb;have hkl:((bF L q bk).map nI).length=(bF L q bk).length:=aB _;repeat'((conv=>whnf);first|with_reducible refine cK ?_ (fun h=>?_) fun h=>?_|apply af)
 all_goals try conv=>whnf
 all_goals try(refine ae.mk ?_;try dsimp only)
 all_goals (try simp only[bX,List.toList_toArray] at*)
 . exact⟨mc,by have:=hp.1.2;rw[bX] at this;exact this⟩
 . exact hc (by rw[GR (by assumption)];assumption)
 . have hz:=GS (L:=L) (q:=q) (by assumption);have hv:o9 L q=(bF L q bk).map (oV L):=rfl;rw[hz] at hc;rw[hv];have hcon:∀{k:Nat} {v w:Int},fC L (bF L q bk) =v->(v=if cP L k≠0 then cP L k else w)->cP L k≠0->False:=fun a b z=>hc (by rw[a,b,if_pos z];exact z);have hnx:∀{k:Nat} {v w:Int},fC L (bF L q bk) =v->(v=if cP L k≠0 then cP L k else w)->cP L k=0->fC L (bF L q bk) =w:=fun a b z=>by rw[a,b,if_neg (by omega)]
   refine aM.mk Nat (fun i=>i<=(bF L q bk).length/\fC L (bF L q bk) =fC L ((bF L q bk).drop i)) (fun i=>⟨70,[(1,.ptr 0 0),(4,.buf 3),(23,.buf 1),(24,.int .i64 (bF L q bk).length),(25,.int .i64 i)],[.cells [.list c 4 (L.map aN),.int .i64 q],.buf 1 0 ((bF L q bk).map nI),.cells [.buf 1,.bool (decide ((bp L q bk 91 91).1>=0)),.int .i64 (n7 L q bk)],.buf 3 0 ((((bF L q bk).take i).map (oV L)).map kQ)],[3]⟩) (fun i=>(bF L q bk).length-i) [.tm 4 3] 0 ⟨ci _,rfl⟩ ?_ (fun i ⟨hi,he⟩ _ _=>?_)
   . apply ao<;>(repeat' first|trivial|apply ah|apply aC)
     exact congrArg Nat.cast hkl
   have hst:=nk (L:=L) (ks:=bF L q bk) (i:=i);have hsn:=BK (L:=L) (ks:=bF L q bk) (i:=i);have hkk:i<(bF L q bk).length->(bF L q bk).getD i default<L.length:=fun h=>by
    rw[ac,am h];exact hkm _ (List.getElem_mem h)
   have hlv:=fun k=>qi hp k iJ;rw[bX] at hlv
   skip
   generalize bF L q bk=ks at*;repeat'((conv=>whnf);first|with_reducible refine cK ?_ (fun h=>?_) fun h=>?_|apply af|apply aI|(apply aj<;>intro h)|with_reducible apply j9)
   all_goals try conv=>whnf
   all_goals try(refine ae.mk ?_;try dsimp only)
   all_goals (try simp only[bX,List.toList_toArray,hkl,Int.toNat_natCast] at*)
   all_goals generalize ks.getD i default=k at*
   all_goals first|refine stay ?_|trivial|omega|(simp(discharger:=omega) [-List.getD_eq_getElem?_getD,wR]<;>omega)|skip
   all_goals try exact absurd (by decide) ‹¬(7:Int)≠0›
   all_goals try exact hp
   . exact hcon he (hst (by omega)) (by rw[Gq (by omega) (by with_reducible assumption)];with_reducible assumption)
   . exact hcon he (hst (by omega)) (by rw[Gr (by omega) (by with_reducible assumption) (by with_reducible assumption)];decide)
   . exact hcon he (hst (by omega)) (by rw[Gs (by omega) (by with_reducible assumption) (by with_reducible assumption) (by with_reducible assumption)];with_reducible assumption)
   . exact hcon he (hst (by omega)) (by rw[Gt (by omega) (by with_reducible assumption) (by with_reducible assumption) (by with_reducible assumption) (by with_reducible assumption)];decide)
   . exact hcon he (hst (by omega)) (by rw[xl (by omega) (by with_reducible assumption) (by with_reducible assumption) (by with_reducible assumption) (by with_reducible assumption)];with_reducible assumption)
   . refine⟨[],i+1,⟨by omega,hnx he (hst (by omega)) (by rw[xl (by omega) (by with_reducible assumption) (by with_reducible assumption) (by with_reducible assumption) (by with_reducible assumption)];exact Decidable.not_not.1 (by with_reducible assumption))⟩,?_,by omega⟩;rw[hsn (by omega)];apply ao<;>(repeat' first|trivial|apply ah|apply aC|apply bg)
     all_goals first
      |(rw[bz];omega)
      |(rw[gq];rfl)
   . exact hcon he (hst (by omega)) (by rw[xk (by omega)];decide)
   . obtain rfl:i=ks.length:=by omega
     rw[List.take_length];refine ab.mk [.swap 0 3] ?_<;>(repeat' first|trivial)
theorem Wc(c:Bool) (l:List V) (q:Int) (hp:cE l) (hc:fq (al l) q≠0):j6 20 ([.agg [.list c 4 l,.int .i64 q]]) ([]) (.iface 57 (.int .i64 (fq (al l) q))) (none):=by
 refine je (C:=gy [(61,zN),(62,wT)] [(55,iL),(53,tZ),(58,u0),(52,mg)]) (gW ⟨JR,Cv,trivial⟩ ⟨jb,yF,yG,nC,trivial⟩) (fn:=Tryz.f20) rfl rfl rfl rfl fun hw hs=>?_;obtain⟨L,rfl,eL⟩:=jQ hp.1.1;have hml:(L.map aN).length=L.length:=aB _;have hkm:=fun k=>GG (L:=L) (q:=q) (k:=k);have hkb:=AQ L q;have hLb:=hp.1.2.2;rw[eL] at hLb;have hkl:((bF L q bk).map nI).length=(bF L q bk).length:=aB _;repeat'((conv=>whnf);first|with_reducible refine cK ?_ (fun h=>?_) fun h=>?_|apply af)
 all_goals try conv=>whnf
 all_goals try(refine ae.mk ?_;try dsimp only)
 all_goals (try simp only[bX,List.toList_toArray] at*)
 . exact⟨mc,by have:=hp.1.2;rw[bX] at this;exact this⟩
 . rw[GR (by assumption)];rfl
 . (refine bI.mk [] ?_<;>(repeat' first|trivial|rfl|apply ah);done)
 . have hz:=GS (L:=L) (q:=q) (by assumption);rw[hz] at hc;have hnx:∀{k:Nat} {v w:Int},fC L (bF L q bk) =v->(v=if cP L k≠0 then cP L k else w)->cP L k=0->fC L (bF L q bk) =w:=fun a b z=>by rw[a,b,if_neg (by omega)]
   have hpe:∀{k:Nat} {v w:Int},fC L (bF L q bk) =v->(v=if cP L k≠0 then cP L k else w)->cP L k≠0->fq L q=cP L k:=fun a b z=>by rw[hz,a,b,if_pos z]
   refine aM.mk Nat (fun i=>i<=(bF L q bk).length/\fC L (bF L q bk) =fC L ((bF L q bk).drop i)) (fun i=>⟨70,[(1,.ptr 0 0),(4,.buf 3),(23,.buf 1),(24,.int .i64 (bF L q bk).length),(25,.int .i64 i)],[.cells [.list c 4 (L.map aN),.int .i64 q],.buf 1 0 ((bF L q bk).map nI),.cells [.buf 1,.bool (decide ((bp L q bk 91 91).1>=0)),.int .i64 (n7 L q bk)],.buf 3 0 ((((bF L q bk).take i).map (oV L)).map kQ)],[3]⟩) (fun i=>(bF L q bk).length-i) [.tm 4 3] 0 ⟨ci _,rfl⟩ ?_ (fun i ⟨hi,he⟩ _ _=>?_)
   . apply ao<;>(repeat' first|trivial|apply ah|apply aC)
     exact congrArg Nat.cast hkl
   have hst:=nk (L:=L) (ks:=bF L q bk) (i:=i);have hsn:=BK (L:=L) (ks:=bF L q bk) (i:=i);have hkk:i<(bF L q bk).length->(bF L q bk).getD i default<L.length:=fun h=>by
    rw[ac,am h];exact hkm _ (List.getElem_mem h)
   have hlv:=fun k=>qi hp k iJ;rw[bX] at hlv
   (have hlt:=ev_lt hc he)
   generalize bF L q bk=ks at*;repeat'((conv=>whnf);first|with_reducible refine cK ?_ (fun h=>?_) fun h=>?_|apply af|apply fD|apply aI|(apply aj<;>intro h)|with_reducible apply j9)
   all_goals try conv=>whnf
   all_goals try(refine ae.mk ?_;try dsimp only)
   all_goals (try simp only[bX,List.toList_toArray,hkl,Int.toNat_natCast] at*)
   all_goals generalize ks.getD i default=k at*
   all_goals first|refine stay ?_|trivial|omega|(simp(discharger:=omega) [-List.getD_eq_getElem?_getD,wR]<;>omega)|skip
   all_goals try exact absurd (by decide) ‹¬(7:Int)≠0›
   all_goals try exact hp
   . rw[hpe he (hst hlt) (by rw[Gq (by omega) (by with_reducible assumption)];with_reducible assumption),Gq (by omega) (by with_reducible assumption)]
   . (refine bI.mk [] ?_<;>(repeat' first|trivial|rfl|apply ah);done)
   . rw[hpe he (hst hlt) (by rw[Gr (by omega) (by with_reducible assumption) (by with_reducible assumption)];decide),Gr (by omega) (by with_reducible assumption) (by with_reducible assumption)]
   . (refine bI.mk [] ?_<;>(repeat' first|trivial|rfl|apply ah);done)
   . rw[hpe he (hst hlt) (by rw[Gs (by omega) (by with_reducible assumption) (by with_reducible assumption) (by with_reducible assumption)];with_reducible assumption),Gs (by omega) (by with_reducible assumption) (by with_reducible assumption) (by with_reducible assumption)]
   . (refine bI.mk [] ?_<;>(repeat' first|trivial|rfl|apply ah);done)
   . rw[hpe he (hst hlt) (by rw[Gt (by omega) (by with_reducible assumption) (by with_reducible assumption) (by with_reducible assumption) (by with_reducible assumption)];decide),Gt (by omega) (by with_reducible assumption) (by with_reducible assumption) (by with_reducible assumption) (by with_reducible assumption)]
   . (refine bI.mk [] ?_<;>(repeat' first|trivial|rfl|apply ah);done)
   . rw[hpe he (hst hlt) (by rw[xl (by omega) (by with_reducible assumption) (by with_reducible assumption) (by with_reducible assumption) (by with_reducible assumption)];with_reducible assumption),xl (by omega) (by with_reducible assumption) (by with_reducible assumption) (by with_reducible assumption) (by with_reducible assumption)]
   . (refine bI.mk [] ?_<;>(repeat' first|trivial|rfl|apply ah);done)
   . refine⟨[],i+1,⟨by omega,hnx he (hst hlt) (by rw[xl (by omega) (by with_reducible assumption) (by with_reducible assumption) (by with_reducible assumption) (by with_reducible assumption)];exact Decidable.not_not.1 (by with_reducible assumption))⟩,?_,by omega⟩;rw[hsn hlt];apply ao<;>(repeat' first|trivial|apply ah|apply aC|apply bg)
     all_goals first
      |(rw[bz];omega)
      |(rw[gq];rfl)
   . rw[hpe he (hst hlt) (by rw[xk (by omega)];decide),xk (by omega)]
   . (refine bI.mk [] ?_<;>(repeat' first|trivial|rfl|apply ah);done)
def Di:dL:=fun args σ=>match args,σ with
 |[.agg [.list c 4 l,.int .i64 q]],[]=>some (cE l,fq (al l) q≠0,.iface 57 (.int .i64 (fq (al l) q)),none,.buf 0,some [.buf 3 0 ((o9 (al l) q).map kQ)])
 |_,_=>none
theorem UP:dR 20 (Di):=by
 intro args sg pre c u r x r2 he hp;unfold Di at he;split at he<;>cases he
 . exact⟨fun hc=>⟨_,rfl,Wc (hp:=hp) (hc:=hc) ..⟩,fun hc=>Ru (hp:=hp) (hc:=hc) ..⟩
theorem Bd:∀l:List Int,(∀x∈l,IntKind.u8.min<=x/\x<=IntKind.u8.max)->l.map (V.int .u8) =bl (l.map byte)
 |[],_=>rfl
 |x::r,h=>by
   have hx:=h x List.mem_cons_self;rw[List.map_cons,List.map_cons,bl,Bd r fun y hy=>h y (d8 _ hy)]
   congr 1
   unfold bv;rw[eK];simpa[IntKind.min,IntKind.max,IntKind.signed,IntKind.bits] using hx
def Eg:Sm:=fun args σ=>match args,σ with
 |[.agg [.int .u8 x0,.int .u8 x1,.int .u8 x2,.int .u8 x3,.int .u8 x4,.int .u8 x5,.int .u8 x6,.int .u8 x7,.int .u8 x8,.int .u8 x9,.int .u8 x10,.int .u8 x11,.int .u8 x12,.int .u8 x13,.int .u8 x14,.int .u8 x15]],[]=>some (True,.str (eM [byte x0,byte x1,byte x2,byte x3,byte x4,byte x5,byte x6,byte x7,byte x8,byte x9,byte x10,byte x11,byte x12,byte x13,byte x14,byte x15]),none)
 |_,_=>none
theorem SR:aq 90 Eg:=by
 intro args sg pre x r he hp;unfold Eg at he;split at he<;>cases he
 . rename_i x0 x1 x2 x3 x4 x5 x6 x7 x8 x9 x10 x11 x12 x13 x14 x15;refine ai (C:=cx [(144,wO)]) (ak ⟨Cq,trivial⟩) (fn:=Tryz.f90) fun hw hs=>?_;simp only[V.wf,V.eP] at hw;obtain⟨⟨hx0,hx1,hx2,hx3,hx4,hx5,hx6,hx7,hx8,hx9,hx10,hx11,hx12,hx13,hx14,hx15,_⟩,_⟩:=hw;all_goals try conv=>whnf
   all_goals try(refine ae.mk ?_;try dsimp only)
   . refine⟨[byte x0,byte x1,byte x2,byte x3,byte x4,byte x5,byte x6,byte x7,byte x8,byte x9,byte x10,byte x11,byte x12,byte x13,byte x14,byte x15],⟨Bd [x0,x1,x2,x3,x4,x5,x6,x7,x8,x9,x10,x11,x12,x13,x14,x15] ?_,?_⟩⟩
     . repeat' first
      |exact List.forall_mem_nil _
      |refine List.forall_mem_cons.2 ⟨by with_reducible assumption,?_⟩
     repeat'((conv=>whnf);apply af)
     all_goals try conv=>whnf
     all_goals try(refine ae.mk ?_;try dsimp only)
     . exact d9 rfl
     . refine ab.mk [] ?_<;>(repeat' first|trivial)
def Ee:Sm:=fun args σ=>match args,σ with
 |[.agg [.int .u8 x0,.int .u8 x1,.int .u8 x2,.int .u8 x3,.int .u8 x4,.int .u8 x5,.int .u8 x6,.int .u8 x7]],[]=>some (True,.str (eM [byte x0,byte x1,byte x2,byte x3,byte x4,byte x5,byte x6,byte x7]),none)
 |_,_=>none
theorem SQ:aq 91 Ee:=by
 intro args sg pre x r he hp;unfold Ee at he;split at he<;>cases he
 . rename_i x0 x1 x2 x3 x4 x5 x6 x7;refine ai (C:=cx [(144,wO)]) (ak ⟨Cq,trivial⟩) (fn:=Tryz.f91) fun hw hs=>?_;simp only[V.wf,V.eP] at hw;obtain⟨⟨hx0,hx1,hx2,hx3,hx4,hx5,hx6,hx7,_⟩,_⟩:=hw;all_goals try conv=>whnf
   all_goals try(refine ae.mk ?_;try dsimp only)
   . refine⟨[byte x0,byte x1,byte x2,byte x3,byte x4,byte x5,byte x6,byte x7],⟨Bd [x0,x1,x2,x3,x4,x5,x6,x7] ?_,?_⟩⟩
     . repeat' first
      |exact List.forall_mem_nil _
      |refine List.forall_mem_cons.2 ⟨by with_reducible assumption,?_⟩
     repeat'((conv=>whnf);apply af)
     all_goals try conv=>whnf
     all_goals try(refine ae.mk ?_;try dsimp only)
     . exact d9 rfl
     . refine ab.mk [] ?_<;>(repeat' first|trivial)
def sn(s e:Int):Int:=if e>9223372036854775807\/s>e then 0 else s/1000
def tG(s e:Int):Int:=if e>9223372036854775807\/s>e then 0 else(e-s)/1000
def zW:Sm:=fun args σ=>match args,σ with
 |[.agg [.int .u64 s,.int .u64 e]],[]=>some (True,.int .i64 (if e>9223372036854775807\/s>e then 11 else 0),none)
 |_,_=>none
theorem K0:aq 182 zW:=by
 intro args sg pre x r he hp;unfold zW at he;split at he<;>cases he
 . rename_i s e;refine ai (C:=cx []) (ak trivial) (fn:=Tryz.f182) fun hw hs=>?_;repeat'((conv=>whnf);(apply aj<;>intro h))
   all_goals try conv=>whnf
   all_goals try(refine ae.mk ?_;try dsimp only)
   . rw[if_pos (.inl (by assumption))];refine ab.mk [] ?_<;>(repeat' first|trivial)
   . rw[if_pos (.inr (by assumption))];refine ab.mk [] ?_<;>(repeat' first|trivial)
   . rw[if_neg (by omega)];refine ab.mk [] ?_<;>(repeat' first|trivial)
def zV:Sm:=fun args σ=>match args,σ with
 |[.agg [.int .u64 s,.int .u64 e]],[]=>some (True,.int .u64 (IntKind.u64.wrap (s.tdiv 1000)),none)
 |_,_=>none
theorem JZ:aq 147 zV:=by
 intro args sg pre x r he hp;unfold zV at he;split at he<;>cases he
 . rename_i s e;refine ai (C:=cx []) (ak trivial) (fn:=Tryz.f147) fun hw hs=>?_;repeat'((conv=>whnf);apply af)
   all_goals try conv=>whnf
   all_goals try(refine ae.mk ?_;try dsimp only)
   . decide
   . refine ab.mk [] ?_<;>(repeat' first|trivial)
def zX:Sm:=fun args σ=>match args,σ with
 |[.agg [.int .u64 s,.int .u64 e]],[]=>some (True,.int .u64 (IntKind.u64.wrap ((IntKind.u64.wrap (e-s)).tdiv 1000)),none)
 |_,_=>none
theorem K3:aq 148 zX:=by
 intro args sg pre x r he hp;unfold zX at he;split at he<;>cases he
 . rename_i s e;refine ai (C:=cx []) (ak trivial) (fn:=Tryz.f148) fun hw hs=>?_;repeat'((conv=>whnf);apply af)
   all_goals try conv=>whnf
   all_goals try(refine ae.mk ?_;try dsimp only)
   . decide
   . refine ab.mk [] ?_<;>(repeat' first|trivial)
def zY:Sm:=fun args σ=>match args,σ with
 |[.agg [.int .u64 s,.int .u64 e],.func (.func 147) [] []],[]=>some (True,.int .i64 (sn s e),none)
 |[.agg [.int .u64 s,.int .u64 e],.func (.func 148) [] []],[]=>some (True,.int .i64 (tG s e),none)
 |_,_=>none
theorem K4:aq 146 zY:=by
 intro args sg pre x r he hp;unfold zY at he;split at he<;>cases he
 . rename_i s e;refine ai (C:=cx [(182,zW),(147,zV),(148,zX)]) (ak ⟨K0,JZ,K3,trivial⟩) (fn:=Tryz.f146) fun hw hs=>?_;have hb:(0<=s/\s<=18446744073709551615)/\(0<=e/\e<=18446744073709551615):=⟨hw.1.1,hw.1.2.1⟩
   have hd:s.tdiv 1000=s/1000:=Int.tdiv_eq_ediv_of_nonneg hb.1.1;repeat'((conv=>whnf);first|apply af|apply aI|(apply aj<;>intro h))
   all_goals try conv=>whnf
   all_goals try(refine ae.mk ?_;try dsimp only)
   all_goals (try simp only[hd] at*)
   all_goals unfold sn
   . by_cases h:e>9223372036854775807\/s>e
     . rw[if_pos h] at*;exact absurd (show(11:Int) =0 by assumption) (by decide)
     . rw[if_neg h];refine ab.mk [] ?_<;>(repeat' first|trivial|apply ah|apply aC)
       rw[bz,ld];omega
   . by_cases h:e>9223372036854775807\/s>e
     . rw[if_pos h];refine ab.mk [] ?_<;>(repeat' first|trivial)
     . rw[if_neg h] at*;exact absurd rfl (show¬(0:Int) =0 by assumption)
 . rename_i s e;refine ai (C:=cx [(182,zW),(147,zV),(148,zX)]) (ak ⟨K0,JZ,K3,trivial⟩) (fn:=Tryz.f146) fun hw hs=>?_;have hb:(0<=s/\s<=18446744073709551615)/\(0<=e/\e<=18446744073709551615):=⟨hw.1.1,hw.1.2.1⟩
   repeat'((conv=>whnf);first|apply af|apply aI|(apply aj<;>intro h))
   all_goals try conv=>whnf
   all_goals try(refine ae.mk ?_;try dsimp only)
   all_goals unfold tG
   . by_cases h:e>9223372036854775807\/s>e
     . rw[if_pos h] at*;exact absurd (show(11:Int) =0 by assumption) (by decide)
     . rw[if_neg h];have h1:IntKind.u64.wrap (e-s) =e-s:=by rw[ld];omega
       have hd:(e-s).tdiv 1000=(e-s)/1000:=Int.tdiv_eq_ediv_of_nonneg (by omega);rw[h1,hd];refine ab.mk [] ?_<;>(repeat' first|trivial|apply ah|apply aC)
       rw[bz,ld];omega
   . by_cases h:e>9223372036854775807\/s>e
     . rw[if_pos h];refine ab.mk [] ?_<;>(repeat' first|trivial)
     . rw[if_neg h] at*;exact absurd rfl (show¬(0:Int) =0 by assumption)
def ET:Sm:=fun args σ=>match args,σ with
 |[.agg [.int .u64 s,.int .u64 e]],[]=>some (True,.int .i64 (sn s e),none)
 |_,_=>none
theorem Ts:aq 93 ET:=by
 intro args sg pre x r he hp;unfold ET at he;split at he<;>cases he
 . rename_i s e;refine ai (C:=cx [(146,zY)]) (ak ⟨K4,trivial⟩) (fn:=Tryz.f93) fun hw hs=>?_;repeat'((conv=>whnf);apply af)
   all_goals try conv=>whnf
   all_goals try(refine ae.mk ?_;try dsimp only)
   refine ab.mk [] ?_<;>(repeat' first|trivial)
def EU:Sm:=fun args σ=>match args,σ with
 |[.agg [.int .u64 s,.int .u64 e]],[]=>some (True,.int .i64 (tG s e),none)
 |_,_=>none
theorem Tt:aq 94 EU:=by
 intro args sg pre x r he hp;unfold EU at he;split at he<;>cases he
 . rename_i s e;refine ai (C:=cx [(146,zY)]) (ak ⟨K4,trivial⟩) (fn:=Tryz.f94) fun hw hs=>?_;repeat'((conv=>whnf);apply af)
   all_goals try conv=>whnf
   all_goals try(refine ae.mk ?_;try dsimp only)
   refine ab.mk [] ?_<;>(repeat' first|trivial)
def tL(n:Int):Int:=n/1000
def EV:Sm:=fun args σ=>match args,σ with
 |[.int .u64 s],[]=>some (True,.int .i64 (tL s),none)
 |_,_=>none
theorem Tu:aq 150 EV:=by
 intro args sg pre x r he hp;unfold EV at he;split at he<;>cases he
 . rename_i s;refine ai (C:=cx []) (ak trivial) (fn:=Tryz.f150) fun hw hs=>?_;have hb:0<=s/\s<=18446744073709551615:=hw.1;have hd:s.tdiv 1000=s/1000:=Int.tdiv_eq_ediv_of_nonneg hb.1;repeat'((conv=>whnf);apply af)
   all_goals try conv=>whnf
   all_goals try(refine ae.mk ?_;try dsimp only)
   . decide
   . rw[hd];refine ab.mk [] ?_<;>(repeat' first|trivial|apply ah|apply aC)
     unfold tL;rw[bz,ld];omega
def kwW(k:Int):Ky:=if k=2 then rW else if k=3 then rS else if k=4 then rV else if k=5 then rT else[]
def FX:Sm:=fun args σ=>match args,σ with
 |[.int .i64 k],[]=>some (True,.str (kwW k),none)
 |_,_=>none
-- #name zWordG zspan.word
theorem Uz:aq 57 FX:=by
 intro args sg pre x r he hp;unfold FX at he;split at he<;>cases he;rename_i k;unfold kwW;by_cases h2:k=2
 . subst h2;exact Iy trivial
 by_cases h3:k=3
 . subst h3;exact Iz trivial
 by_cases h4:k=4
 . subst h4;exact IA trivial
 by_cases h5:k=5
 . subst h5;exact IB trivial
 rw[if_neg h2,if_neg h3,if_neg h4,if_neg h5];refine ai (C:=cx []) (ak trivial) (fn:=Tryz.f57) fun hw _=>?_;repeat'((conv=>whnf);(apply aj<;>intro h))
 all_goals try conv=>whnf
 all_goals try(refine ae.mk ?_;try dsimp only)
 all_goals try(exfalso;omega)
 refine ab.mk [] ?_<;>(repeat' first|trivial)
structure Wb(w:WS) (n:Nat):Prop where
 o:w.out.length<=n
 l:w.l.length<=32
theorem Wb.op{w:WS} {n:Nat} (h:Wb w n) (o:JOp) (hn:-9223372036854775808<=o.n/\o.n<=9223372036854775807):Wb (w.op o) (n+6*o.text.length+30):=
 ⟨by have:=(VQ w o hn).1;have:=h.o;omega,VP w o h.l⟩
section
variable {w:WS} {n:Nat}
theorem Wb.key(h:Wb w n) (s:Ky):Wb (w.key s) (n+6*s.length+30):=h.op ⟨107,s,0⟩ ⟨by show(_:Int)<=0;decide,by show(0:Int)<=_;decide⟩
theorem Wb.ar(h:Wb w n) (s:Ky):Wb (w.put (quote s)) (n+6*s.length+30):=h.op ⟨115,s,0⟩ ⟨by show(_:Int)<=0;decide,by show(0:Int)<=_;decide⟩
theorem Wb.num(h:Wb w n) (k:Int) (hk:-9223372036854775808<=k/\k<=9223372036854775807):Wb (w.put (kM k)) (n+30):=h.op ⟨110,[],k⟩ hk
theorem Wb.obj(h:Wb w n):Wb (w.begin 123 125) (n+30):=h.op ⟨123,[],0⟩ (by decide)
theorem Wb.lst(h:Wb w n):Wb (w.begin 91 93) (n+30):=h.op ⟨91,[],0⟩ (by decide)
theorem Wb.fin(h:Wb w n):Wb w.fin (n+30):=h.op ⟨101,[],0⟩ (by decide)
theorem Wb.mono{m:Nat} (h:Wb w n) (hm:n<=m):Wb w m:=⟨Nat.le_trans h.o hm,h.l⟩
theorem Wb.ok(h:Wb w n) (hn:n<=1900000000):okW (bl w.out) (w.l.map ef):=lH (by have:=h.o;omega) (by have:=h.l;omega)
theorem Wb.pre(h:Wb w n) (hn:n<=1900000000):w.out.length<=1900000000/\w.l.length<=900:=⟨Nat.le_trans h.o hn,by have:=h.l;omega⟩
end
def mem(w:WS) (k s:Ky):WS:=(w.key k).put (quote s)
def kj(w:WS) (k:Ky) (n:Int):WS:=(w.key k).put (kM n)
theorem Wb.mem{w:WS} {n:Nat} (h:Wb w n) (k s:Ky):Wb (mem w k s) (n+6*k.length+6*s.length+60):=((h.key k).ar s).mono (by omega)
theorem Wb.kj{w:WS} {n:Nat} (h:Wb w n) (k:Ky) (m:Int) (hm:-9223372036854775808<=m/\m<=9223372036854775807):Wb (kj w k m) (n+6*k.length+60):=((h.key k).num m hm).mono (by omega)
theorem Rx(w:WS) (k s:g8) (hp:Wb w 1000000000/\k.length<=100000000/\s.length<=100000000):OK 89 ([.ptr 0 0,.str k,.str s]) (eW w) (.tuple []) (some (eW (mem w k s))):=by
 refine ai (C:=cx [(97,rJ),(143,ER)]) (ak ⟨vM,Tp,trivial⟩) (fn:=Tryz.f89) fun hw hs=>?_;obtain⟨hp,h1,h2⟩:=hp;repeat'((conv=>whnf);apply af)
 all_goals try conv=>whnf
 all_goals try(refine ae.mk ?_;try dsimp only)
 all_goals (try simp only[dg] at*)
 . exact⟨hp.ok (by omega),hp.pre (by omega),h1⟩
 . exact⟨(hp.key k).ok (by omega),(hp.key k).pre (by omega),h2⟩
 . refine ab.mk [] ?_<;>(repeat' first|trivial)
def xa:Sm:=fun args σ=>match args,σ with
 |[.ptr 0 0,.str k,.str s],[.cells [.buf 1,.buf 2,.bool h_w,.int .i64 c_w,.func (.func 87) [] []],.buf 1 0 o_w,.buf 3 0 l_w]=>some (okW o_w l_w/\(Wb (cy o_w l_w h_w c_w) 1000000000/\k.length<=100000000/\s.length<=100000000),.tuple [],some (eW (mem (cy o_w l_w h_w c_w) k s)))
 |_,_=>none
theorem Cz:aq 89 xa:=by
 intro args sg pre x r he hp;unfold xa at he;split at he<;>cases he
 . rw[kD (hp).1];exact Rx (hp:=hp.2) ..
theorem RE(w:WS) (k:g8) (n:Int) (hp:Wb w 1000000000/\k.length<=100000000):OK 92 ([.ptr 0 0,.str k,.int .i64 n]) (eW w) (.tuple []) (some (eW (kj w k n))):=by
 refine ai (C:=cx [(97,rJ),(145,ES)]) (ak ⟨vM,Tq,trivial⟩) (fn:=Tryz.f92) fun hw hs=>?_;obtain⟨hp,h1⟩:=hp;repeat'((conv=>whnf);apply af)
 all_goals try conv=>whnf
 all_goals try(refine ae.mk ?_;try dsimp only)
 all_goals (try simp only[dg] at*)
 . exact⟨hp.ok (by omega),hp.pre (by omega),h1⟩
 . exact⟨(hp.key k).ok (by omega),(hp.key k).pre (by omega)⟩
 . refine ab.mk [] ?_<;>(repeat' first|trivial)
def An:Sm:=fun args σ=>match args,σ with
 |[.ptr 0 0,.str k,.int .i64 n],[.cells [.buf 1,.buf 2,.bool h_w,.int .i64 c_w,.func (.func 87) [] []],.buf 1 0 o_w,.buf 3 0 l_w]=>some (okW o_w l_w/\(Wb (cy o_w l_w h_w c_w) 1000000000/\k.length<=100000000),.tuple [],some (eW (kj (cy o_w l_w h_w c_w) k n)))
 |_,_=>none
theorem Kp:aq 92 An:=by
 intro args sg pre x r he hp;unfold An at he;split at he<;>cases he
 . rw[kD (hp).1];exact RE (hp:=hp.2) ..
def lU(w:WS) (k s:Ky):WS:=if s=[] then w else(mem ((w.key k).begin 123 125) ma s).fin
theorem Wb.lU{w:WS} {n:Nat} (h:Wb w n) (k s:Ky):Wb (lU w k s) (n+6*k.length+6*s.length+300):=by
 unfold Go.Proofs.YtknljebcgcmaeaaGreatDoor.lU;split
 . exact h.mono (by omega)
 . exact(((h.key k).obj.mem ma s).fin).mono (by show _+6*11+_+_+_<=_;omega)
theorem Rt(w:WS) (k s:g8) (hp:Wb w 900000000/\k.length<=10000/\s.length<=1000000):OK 95 ([.ptr 0 0,.str k,.str s]) (eW w) (.tuple []) (some (eW (lU w k s))):=by
 refine ai (C:=cx [(97,rJ),(88,wS),(89,xa),(98,wQ)]) (ak ⟨vM,Ct,Cz,Cs,trivial⟩) (fn:=Tryz.f95) fun hw hs=>?_;obtain⟨hp,h1,h2⟩:=hp;unfold lU;have hk:(ma:Ky).length<=100000000:=by decide
 have hw3:=(hp.key k).obj.mem ma s;have hs3:(ma:Ky).length=11:=rfl;repeat'((conv=>whnf);first|apply af|(apply dr<;>intro h))
 all_goals try conv=>whnf
 all_goals try(refine ae.mk ?_;try dsimp only)
 all_goals (try simp only[dg] at*)
 . rw[if_pos (by assumption)];refine ab.mk [] ?_<;>(repeat' first|trivial)
 . exact⟨hp.ok (by omega),hp.pre (by omega),by omega⟩
 . exact⟨(hp.key k).ok (by omega),(hp.key k).pre (by omega)⟩
 . exact⟨(hp.key k).obj.ok (by omega),(hp.key k).obj.mono (by omega),hk,by omega⟩
 . exact⟨hw3.ok (by omega),hw3.pre (by omega)⟩
 . rw[if_neg (by assumption)];refine ab.mk [] ?_<;>(repeat' first|trivial)
def FU:Sm:=fun args σ=>match args,σ with
 |[.ptr 0 0,.str k,.str s],[.cells [.buf 1,.buf 2,.bool h_w,.int .i64 c_w,.func (.func 87) [] []],.buf 1 0 o_w,.buf 3 0 l_w]=>some (okW o_w l_w/\(Wb (cy o_w l_w h_w c_w) 900000000/\k.length<=10000/\s.length<=1000000),.tuple [],some (eW (lU (cy o_w l_w h_w c_w) k s)))
 |_,_=>none
theorem Ux:aq 95 FU:=by
 intro args sg pre x r he hp;unfold FU at he;split at he<;>cases he
 . rw[kD (hp).1];exact Rt (hp:=hp.2) ..
abbrev ta(w:WS) (e:Ev):WS:=(mem (kj (w.begin 123 125) c8 (tL e.time)) iJ e.name).fin
def lW:List Ev->Nat
 |[]=>0
 |e::r=>6*e.name.length+400+lW r
def qo(w:WS) (aG:List Ev):WS:=if aG=[] then w else(aG.foldl ta ((w.key bk).begin 91 93)).fin
def oY(e:Ev):Prop:=(0<=e.time/\e.time<=18446744073709551615)/\e.name.length<=1000000
theorem CU{e:Ev} (h:oY e):-9223372036854775808<=tL e.time/\tL e.time<=9223372036854775807:=by
 have:=h.1;unfold tL;omega
theorem Wb.ev{w:WS} {n:Nat} (h:Wb w n) {e:Ev} (he:oY e):Wb (ta w e) (n+(6*e.name.length+400)):=(((h.obj.kj c8 _ (CU he)).mem iJ e.name).fin).mono (by show _+_+6*9+_+6*5+_+_+_<=_;omega)
theorem Wb.aG:∀{aG:List Ev} {w:WS} {n:Nat},Wb w n->(∀e∈aG,oY e)->Wb (aG.foldl ta w) (n+lW aG)
 |[],_,_,h,_=>h
 |e::r,w,n,h,he=>(Wb.aG (h.ev (he e List.mem_cons_self)) fun x hx=>he x (d8 _ hx)).mono (by rw[lW];omega)
theorem Ii:∀aG:List Ev,aG.length<=lW aG
 |[]=>co _
 |e::r=>by
   have:=Ii r;rw[lW,List.length_cons];omega
theorem Ij:∀(aG:List Ev) (i:Nat),lW (aG.take i)<=lW aG
 |[],_=>by simp
 |e::r,0=>ci _
 |e::r,i+1=>by
   have:=Ij r i;rw[List.take_succ_cons,lW,lW];omega
theorem Wb.ann{w:WS} {n:Nat} {aG:List Ev} (h:Wb w n) (he:∀e∈aG,oY e):Wb (qo w aG) (n+lW aG+300):=by
 unfold qo;split
 . exact h.mono (by omega)
 . exact(((h.key bk).lst.aG he).fin).mono (by show _+6*11+_+_+_+_<=_;omega)
theorem Rr(w:WS) (c:Bool) (aG:List Ev) (n:Nat) (hp:Wb w n) (hn:n+lW aG+1000<=900000000) (he:∀e∈aG,oY e):OK 96 [.ptr 0 0,.list c 3 (aG.map kQ)] (eW w) (.tuple []) (some (eW (qo w aG))):=by
 refine ai (C:=cx [(97,rJ),(88,wS),(149,EO),(98,wQ),(150,EV),(92,An),(89,xa)]) (ak ⟨vM,Ct,Tn,Cs,Tu,Kp,Cz,trivial⟩) (fn:=Tryz.f96) fun hw _=>?_;have hml:(aG.map kQ).length=aG.length:=aB _;have hka:(bk:Ky).length=11:=rfl;have hkt:(c8:Ky).length=9:=rfl;have hkv:(iJ:Ky).length=5:=rfl;have hw0:=(hp.key bk).lst;repeat'((conv=>whnf);first|apply af|(apply aj<;>intro h))
 all_goals try conv=>whnf
 all_goals try(refine ae.mk ?_;try dsimp only)
 all_goals (try simp only[dg,hml] at*)
 . have h0:aG=[]:=d5 (by omega);subst h0;refine ab.mk [] ?_<;>(repeat' first|trivial)
 . exact⟨hp.ok (by omega),hp.pre (by omega),by show 11<=_;decide⟩
 . exact⟨(hp.key bk).ok (by omega),(hp.key bk).pre (by omega)⟩
 . have hne:aG≠[]:=fun q=>by subst q;exact absurd rfl (show¬((([]:List Ev).length:Nat):Int) =0 by assumption)
   rw[show qo w aG=(aG.foldl ta ((w.key bk).begin 91 93)).fin from if_neg hne];refine aM.mk Nat (fun i=>i<=aG.length) (fun i=>⟨35,[(0,.ptr 0 0),(13,.list c 3 (aG.map kQ)),(14,.int .i64 aG.length),(15,.int .i64 i)],eW ((aG.take i).foldl ta ((w.key bk).begin 91 93)),[1,2]⟩) (fun i=>aG.length-i) [] 0 (ci _) ?_ (fun i hi _ _=>?_)
   . apply ao<;>(repeat' first|trivial)
   have htk:=Ij aG i;have hln:=Ii aG;have hnx:i<aG.length->aG.take (i+1) =aG.take i++[aG.getD i default]:=fun h=>rO h;have hmem:i<aG.length->oY (aG.getD i default):=fun h=>he _ (IV h);have hb:=Wb.aG hw0 (fun x hx=>he x (List.mem_of_mem_take hx):∀x∈aG.take i,oY x);generalize hv:(aG.take i).foldl ta ((w.key bk).begin 91 93) =v at*;repeat'((conv=>whnf);first|apply af|(apply aj<;>intro h)|with_reducible apply j9)
   all_goals try conv=>whnf
   all_goals try(refine ae.mk ?_;try dsimp only)
   all_goals (try simp only[dg,hml] at*)
   all_goals generalize aG.getD i default=e at*
   all_goals first|refine stay ?_|omega|skip
   . exact⟨hb.ok (by omega),hb.pre (by omega)⟩
   . exact⟨hb.obj.ok (by omega),hb.obj.mono (by omega),by show 9<=_;decide⟩
   . have h1:=hb.obj.kj c8 _ (CU (hmem (by omega)));have h2:=(hmem (by omega)).2;exact⟨h1.ok (by omega),h1.mono (by omega),by show 5<=_;decide,by omega⟩
   . have h1:=(hb.obj.kj c8 _ (CU (hmem (by omega)))).mem iJ e.name;have h2:=(hmem (by omega)).2;exact⟨h1.ok (by omega),h1.pre (by omega)⟩
   . refine⟨[],i+1,by omega,?_,by omega⟩;rw[hnx (by omega),List.foldl_append,hv];apply ao<;>(repeat' first|trivial|apply ah|apply aC)
     rw[bz];omega
   . exact⟨hb.ok (by omega),hb.pre (by omega)⟩
   . obtain rfl:i=aG.length:=by omega
     rw[List.take_length] at hv;rw[hv];refine ab.mk [] ?_<;>(repeat' first|trivial)
def dEz:V->Ev
 |.agg [.int _ t,.str n,_]=>⟨t,n,[]⟩
 |_=>default
def FT:Sm:=fun args σ=>match args,σ with
 |[.ptr 0 0,.list c 3 x],[.cells [.buf 1,.buf 2,.bool h,.int .i64 cc,.func (.func 87) [] []],.buf 1 0 o,.buf 3 0 l]=>
   some (okW o l/\x=(x.map dEz).map kQ/\(∃n,Wb (cy o l h cc) n/\n+lW (x.map dEz)+1000<=900000000)/\∀e∈x.map dEz,oY e,.tuple [],some (eW (qo (cy o l h cc) (x.map dEz))))
 |_,_=>none
-- #name zAnn zspan.annotations
theorem Uw:aq 96 FT:=by
 intro args sg pre x r he hp;unfold FT at he;split at he<;>cases he;obtain⟨h1,h2,⟨n,h3,h4⟩,h5⟩:=hp;rename_i c x h cc o l;have:=Rr (cy o l h cc) c (x.map dEz) n h3 h4 h5;rw[<-h2] at this;rw[kD h1];exact this
def wY:Sm:=fun args σ=>match args,σ with
 |[.list c 4 l,.int .i64 q,.str key],[]=>some (fE l/\gp (al l),.tuple [.str (aU (al l) q key),.bool (bh (al l) q key),.int .i64 (aW (al l) q key)],none)
 |_,_=>none
-- #name rzText truchmanref14.Text
theorem yw:aq 68 wY:=U4
def FB:Sm:=fun args σ=>match args,σ with
 |[.list c 4 l,.int .i64 q,.str key],[]=>some (fE l/\gp (al l),.tuple [.int .i64 (iP (al l) q key),.bool (oa (al l) q key),.int .i64 (cj (al l) q key)],none)
 |_,_=>none
-- #name rzWhole truchmanref14.Whole
theorem Kl:aq 73 FB:=U5
theorem IT{a b:Int} (h:a≠0):aJ [a,b]=a:=if_pos h
theorem y3{a b:Int} (h:a=0):aJ [a,b]=b:=by
 rw[dV,if_neg (by omega),dV,lZ];split<;>omega
def ur:Sm:=fun args σ=>match args,σ with
 |[.int .i64 a,.int .i64 b],[]=>some (True,.int .i64 (aJ [a,b]),none)
 |_,_=>none
theorem yv:aq 31 ur:=by
 intro args sg pre x r he hp;unfold ur at he;split at he<;>cases he
 . rename_i a b;refine ai (C:=cx []) (ak trivial) (fn:=Tryz.f31) fun hw hs=>?_;repeat'((conv=>whnf);first|apply aI|(apply aj<;>intro h))
   all_goals try conv=>whnf
   all_goals try(refine ae.mk ?_;try dsimp only)
   . rw[y3 (by assumption)];refine ab.mk [] ?_<;>(repeat' first|trivial)
   . rw[IT (by assumption)];refine ab.mk [] ?_<;>(repeat' first|trivial)
def Ai:Sm:=fun args σ=>match args,σ with
 |[.bool b],[]=>some (True,.int .i64 (nn b),none)
 |_,_=>none
theorem Ki:aq 70 Ai:=by
 intro args sg pre x r he hp;unfold Ai at he;split at he<;>cases he
 . rename_i b;refine ai (C:=cx []) (ak trivial) (fn:=Tryz.f70) fun hw hs=>?_;repeat'((conv=>whnf);(apply e9<;>intro h))
   all_goals try conv=>whnf
   all_goals try(refine ae.mk ?_;try dsimp only)
   . rw[show b=true by assumption];refine ab.mk [] ?_<;>(repeat' first|trivial)
   . rw[show b=false by assumption];refine ab.mk [] ?_<;>(repeat' first|trivial)
theorem Zj{L:List Nd} {q:Int} {key:Ky} (h:(bp L q key 123 123).1<0):gm L q key=[]/\cU L q key=(bp L q key 123 123).2:=by
 have hb:jl L q key=false:=GP (by omega);have he:jz L q key=(bp L q key 123 123).2:=if_pos h;unfold gm cU;rw[hb,he];refine⟨rfl,?_⟩;rw[dV,dV,lZ];split
 . rfl
 . split
   . rename_i h1 h2;cases h2
   . omega
theorem Zk{L:List Nd} {q:Int} {key:Ky} (h:¬(bp L q key 123 123).1<0):gm L q key=aU L (bp L q key 123 123).1 ma/\cU L q key=aW L (bp L q key 123 123).1 ma:=by
 have hb:jl L q key=true:=AR (by omega);have he:jz L q key=0:=if_neg h;have hv:cB L q key=(bp L q key 123 123).1:=if_neg h;unfold gm cU;rw[hb,he,hv];exact⟨rfl,y3 rfl⟩
def Fx:Sm:=fun args σ=>match args,σ with
 |[.list c 4 l,.int .i64 q,.str key],[]=>some (cE l,.tuple [.str (gm (al l) q key),.int .i64 (cU (al l) q key)],none)
 |_,_=>none
theorem Ud:aq 28 Fx:=by
 intro args sg pre x r he hp;unfold Fx at he;split at he<;>cases he
 . rename_i c l q key;refine ai (C:=cx [(75,rK),(68,wY)]) (ak ⟨vN,yw,trivial⟩) (fn:=Tryz.f28) fun hw hs=>?_;repeat'((conv=>whnf);first|apply af|(apply aj<;>intro h))
   all_goals try conv=>whnf
   all_goals try(refine ae.mk ?_;try dsimp only)
   all_goals try exact hp.1
   . have hz:=Zj (L:=al l) (q:=q) (key:=key) (by assumption);rw[hz.1,hz.2];refine ab.mk [] ?_<;>(repeat' first|trivial)
   . have hz:=Zk (L:=al l) (q:=q) (key:=key) (by assumption);rw[hz.1,hz.2];refine ab.mk [] ?_<;>(repeat' first|trivial)
def o8(L:List Nd) (q:Int):g8:=if iw L q=0 then(cO (aU L q bq)).2 else[]
def nY(L:List Nd) (q:Int):g8:=if iw L q=0 then j4 L q bP else[]
def nZ(L:List Nd) (q:Int):Ky:=if iw L q=0 then aU L q lF else[]
abbrev rZ(L:List Nd) (q:Int):List V:=zC (o8 L q) (nY L q) (iO L q) [.str [],.str (nZ L q),.int .i64 0,.int .u64 0,.int .u64 0,.list true 0 [],.list true 0 [],.list true 0 [],.int .i64 0,.str []]
def DN(L:List Nd) (q e:Int) (t i p:g8) (n:Ky):Prop:=cT L q=e/\o8 L q=t/\nY L q=i/\iO L q=p/\nZ L q=n
section
variable {L:List Nd} {q:Int}
theorem dn_A(h:aJ [aW L q bq,aJ [nn (bh L q bq),(cO (aU L q bq)).1]]≠0):DN L q (aJ [aW L q bq,aJ [nn (bh L q bq),(cO (aU L q bq)).1]]) [] [] [] []:=by
 unfold DN nZ nY o8 iO cT iw jk jy eG j4;generalize aW L q bq=e1 at*;generalize bh L q bq=b1 at*;generalize cO (aU L q bq) =r1 at*;generalize aW L q bP=e2 at*;generalize bh L q bP=b2 at*;generalize cW (aU L q bP) =s2 at*;generalize aW L q da=e3 at*;generalize bh L q da=b3 at*;generalize cW (aU L q da) =s3 at*;simp only[aJ,nn] at*;by_cases a1:e1=0<;>cases b1<;>by_cases a2:r1.1=0<;>by_cases a3:e2=0<;>cases b2<;>by_cases a4:s2.1=0<;>simp_all
theorem dn_B(h0:aJ [aW L q bq,aJ [nn (bh L q bq),(cO (aU L q bq)).1]]=0) (h:aJ [aW L q bP,aJ [nn (bh L q bP),(cW (aU L q bP)).1]]≠0):DN L q (aJ [aW L q bP,aJ [nn (bh L q bP),(cW (aU L q bP)).1]]) [] [] [] []:=by
 unfold DN nZ nY o8 iO cT iw jk jy eG j4;generalize aW L q bq=e1 at*;generalize bh L q bq=b1 at*;generalize cO (aU L q bq) =r1 at*;generalize aW L q bP=e2 at*;generalize bh L q bP=b2 at*;generalize cW (aU L q bP) =s2 at*;generalize aW L q da=e3 at*;generalize bh L q da=b3 at*;generalize cW (aU L q da) =s3 at*;simp only[aJ,nn] at*;by_cases a1:e1=0<;>cases b1<;>by_cases a2:r1.1=0<;>by_cases a3:e2=0<;>cases b2<;>by_cases a4:s2.1=0<;>simp_all
theorem dn_C(h0:aJ [aW L q bq,aJ [nn (bh L q bq),(cO (aU L q bq)).1]]=0) (h1:aJ [aW L q bP,aJ [nn (bh L q bP),(cW (aU L q bP)).1]]=0) (h:aW L q da≠0):DN L q (aW L q da) [] [] [] []:=by
 unfold DN nZ nY o8 iO cT iw jk jy eG j4;generalize aW L q bq=e1 at*;generalize bh L q bq=b1 at*;generalize cO (aU L q bq) =r1 at*;generalize aW L q bP=e2 at*;generalize bh L q bP=b2 at*;generalize cW (aU L q bP) =s2 at*;generalize aW L q da=e3 at*;generalize bh L q da=b3 at*;generalize cW (aU L q da) =s3 at*;simp only[aJ,nn] at*;by_cases a1:e1=0<;>cases b1<;>by_cases a2:r1.1=0<;>by_cases a3:e2=0<;>cases b2<;>by_cases a4:s2.1=0<;>simp_all
theorem dn_D(h0:aJ [aW L q bq,aJ [nn (bh L q bq),(cO (aU L q bq)).1]]=0) (h1:aJ [aW L q bP,aJ [nn (bh L q bP),(cW (aU L q bP)).1]]=0) (h2:aW L q da=0) (hb:bh L q da=true) (h:(cW (aU L q da)).1≠0):DN L q ((cW (aU L q da)).1) [] [] [] []:=by
 unfold DN nZ nY o8 iO cT iw jk jy eG j4;generalize aW L q bq=e1 at*;generalize bh L q bq=b1 at*;generalize cO (aU L q bq) =r1 at*;generalize aW L q bP=e2 at*;generalize bh L q bP=b2 at*;generalize cW (aU L q bP) =s2 at*;generalize aW L q da=e3 at*;generalize bh L q da=b3 at*;generalize cW (aU L q da) =s3 at*;simp only[aJ,nn] at*;by_cases a1:e1=0<;>cases b1<;>by_cases a2:r1.1=0<;>by_cases a3:e2=0<;>cases b2<;>by_cases a4:s2.1=0<;>simp_all
theorem dn_E(h0:aJ [aW L q bq,aJ [nn (bh L q bq),(cO (aU L q bq)).1]]=0) (h1:aJ [aW L q bP,aJ [nn (bh L q bP),(cW (aU L q bP)).1]]=0) (h2:aW L q da=0) (hb:bh L q da=true) (h3:(cW (aU L q da)).1=0):DN L q (aW L q lF) (cO (aU L q bq)).2 (cW (aU L q bP)).2 (cW (aU L q da)).2 (aU L q lF):=by
 unfold DN nZ nY o8 iO cT iw jk jy eG j4;generalize aW L q bq=e1 at*;generalize bh L q bq=b1 at*;generalize cO (aU L q bq) =r1 at*;generalize aW L q bP=e2 at*;generalize bh L q bP=b2 at*;generalize cW (aU L q bP) =s2 at*;generalize aW L q da=e3 at*;generalize bh L q da=b3 at*;generalize cW (aU L q da) =s3 at*;simp only[aJ,nn] at*;generalize aW L q lF=e4 at*;by_cases a5:e4=0<;>
 by_cases a1:e1=0<;>cases b1<;>by_cases a2:r1.1=0<;>by_cases a3:e2=0<;>cases b2<;>by_cases a4:s2.1=0<;>simp_all
theorem dn_F(h0:aJ [aW L q bq,aJ [nn (bh L q bq),(cO (aU L q bq)).1]]=0) (h1:aJ [aW L q bP,aJ [nn (bh L q bP),(cW (aU L q bP)).1]]=0) (h2:aW L q da=0) (hb:bh L q da=false):DN L q (aW L q lF) (cO (aU L q bq)).2 (cW (aU L q bP)).2 [] (aU L q lF):=by
 unfold DN nZ nY o8 iO cT iw jk jy eG j4;generalize aW L q bq=e1 at*;generalize bh L q bq=b1 at*;generalize cO (aU L q bq) =r1 at*;generalize aW L q bP=e2 at*;generalize bh L q bP=b2 at*;generalize cW (aU L q bP) =s2 at*;generalize aW L q da=e3 at*;generalize bh L q da=b3 at*;generalize cW (aU L q da) =s3 at*;simp only[aJ,nn] at*;generalize aW L q lF=e4 at*;by_cases a5:e4=0<;>
 by_cases a1:e1=0<;>cases b1<;>by_cases a2:r1.1=0<;>by_cases a3:e2=0<;>cases b2<;>by_cases a4:s2.1=0<;>simp_all
end
def Fw:Sm:=fun args σ=>match args,σ with
 |[.list c 4 l,.int .i64 q],[]=>some (cE l,.tuple [.agg (rZ (al l) q),.int .i64 (cT (al l) q)],none)
 |_,_=>none
theorem Uc:aq 26 Fw:=by
 intro args sg pre x r he hp;unfold Fw at he;split at he<;>cases he
 . rename_i c l q;refine ai (C:=cx [(68,wY),(69,F4),(71,F3),(31,ur),(70,Ai)]) (ak ⟨yw,TE,TD,yv,Ki,trivial⟩) (fn:=Tryz.f26) fun hw hs=>?_;have hl:=qi hp q;repeat'((conv=>whnf);first|apply af|apply aI|(apply aj<;>intro h))
   all_goals try conv=>whnf
   all_goals try(refine ae.mk ?_;try dsimp only)
   all_goals (try dsimp only[List.toList_toArray] at*)
   all_goals try first
    |exact hp.1
    |exact hl _
   . obtain⟨e0,e1,e2,e3,e4⟩:=dn_E (L:=al l) (q:=q) (by with_reducible assumption) (by with_reducible assumption) (by with_reducible assumption) (uJ (by with_reducible assumption)) (by with_reducible assumption);simp only[rZ,e0,e1,e2,e3,e4];refine ab.mk [] ?_<;>(repeat' first|trivial)
   . obtain⟨e0,e1,e2,e3,e4⟩:=dn_D (L:=al l) (q:=q) (by with_reducible assumption) (by with_reducible assumption) (by with_reducible assumption) (uJ (by with_reducible assumption)) (by with_reducible assumption);simp only[rZ,e0,e1,e2,e3,e4];refine ab.mk [] ?_<;>(repeat' first|trivial)
   . obtain⟨e0,e1,e2,e3,e4⟩:=dn_F (L:=al l) (q:=q) (by with_reducible assumption) (by with_reducible assumption) (by with_reducible assumption) (AV (by with_reducible assumption));simp only[rZ,e0,e1,e2,e3,e4];refine ab.mk [] ?_<;>(repeat' first|trivial)
   . obtain⟨e0,e1,e2,e3,e4⟩:=dn_C (L:=al l) (q:=q) (by with_reducible assumption) (by with_reducible assumption) (by with_reducible assumption);simp only[rZ,e0,e1,e2,e3,e4];refine ab.mk [] ?_<;>(repeat' first|trivial)
   . obtain⟨e0,e1,e2,e3,e4⟩:=dn_B (L:=al l) (q:=q) (by with_reducible assumption) (by with_reducible assumption);simp only[rZ,e0,e1,e2,e3,e4];refine ab.mk [] ?_<;>(repeat' first|trivial)
   . obtain⟨e0,e1,e2,e3,e4⟩:=dn_A (L:=al l) (q:=q) (by with_reducible assumption);simp only[rZ,e0,e1,e2,e3,e4];refine ab.mk [] ?_<;>(repeat' first|trivial)
section
variable {L:List Nd} {q:Int} {k:Nat}
theorem zl_E(key:Ky):n7 L q key=(bp L q key 91 91).2/\bF L q key=bA L (bp L q key 91 91).1:=by
 unfold n7 iS bF qS;rcases tW L q key 91 91 with h|⟨h1,h2,h3,h4⟩
 . rw[if_pos (by omega),if_pos (by omega),h];exact⟨rfl,by unfold bA;rw[if_neg (by omega)]⟩
 . rw[if_neg (by omega),if_neg (by omega),h3];exact⟨rfl,rfl⟩
theorem zg_E:jz L q bH=(bp L q bH 123 123).2/\eF L q=bA L (bp L q bH 123 123).1:=by
 unfold jz iS eF jl cB vC;rcases tW L q bH 123 123 with h|⟨h1,h2,h3,h4⟩
 . rw[if_pos (by omega),h];exact⟨rfl,by rw[if_neg (by decide)];unfold bA;rw[if_neg (by omega)]⟩
 . rw[if_neg (by omega),h3,if_pos (decide_eq_true h1),if_neg (by omega)];exact⟨rfl,rfl⟩
theorem Gv(h1:(L.getD k default).k.toNat=123):cP L k=aJ [aJ [cj L k c8,nn (oa L k c8)],aJ [aJ [aW L k iJ,nn (bh L k iJ)],(cH (iP L k c8)).1]]:=by
 unfold cP;rw[if_neg (by omega)];generalize cj L k c8=a;generalize nn (oa L k c8) =b;generalize aW L k iJ=c;generalize nn (bh L k iJ) =d;simp only[aJ];by_cases a1:a=0<;>by_cases a2:b=0<;>by_cases a3:c=0<;>by_cases a4:d=0<;>simp_all
end
def uI(L:List Nd) (q:Int):List Ev:=if fq L q=0 then o9 L q else[]
def oU(L:List Nd) (q:Int):List az:=if gj L q=0 then fF L q else[]
def Fu:Sm:=fun args σ=>match args,σ with
 |[.list c 4 l,.int .i64 q],[]=>some (cE l,.tuple [.list false 3 ((uI (al l) q).map kQ),.int .i64 (fq (al l) q)],none)
 |_,_=>none
theorem Ua:aq 29 Fu:=by
 intro args sg pre x r he hp;unfold Fu at he;split at he<;>cases he
 . rename_i c l q;refine ai (C:=cx [(75,rK),(76,wW),(73,FB),(68,wY),(77,Aa),(70,Ai),(31,ur)]) (ak ⟨vN,Cx,Kl,yw,Kc,Ki,yv,trivial⟩) (fn:=Tryz.f29) fun hw hs=>?_;obtain⟨L,rfl,eL⟩:=jQ hp.1.1;have hml:(L.map aN).length=L.length:=aB _;have hok:fE (L.map aN)/\gp L:=⟨mc,by have:=hp.1.2;rw[eL] at this;exact this⟩
   have hlv:=fun k=>qi hp k iJ;rw[bX] at hlv;obtain⟨hz1,hz2⟩:=zl_E (L:=L) (q:=q) bk;repeat'((conv=>whnf);first|apply af|apply aI|(apply aj<;>intro h))
   all_goals try conv=>whnf
   all_goals try(refine ae.mk ?_;try dsimp only)
   all_goals (try simp only[bX,List.toList_toArray] at*)
   . exact hok
   . exact hok
   . have h0:¬n7 L q bk≠0:=by rw[hz1];exact fun z=>z (by assumption)
     have hz:=GS (L:=L) (q:=q) h0;have hcon:∀{k:Nat} {v w:Int},fC L (bF L q bk) =v->(v=if cP L k≠0 then cP L k else w)->cP L k≠0->fq L q=cP L k/\uI L q=[]:=fun{k v w} a b z=>by
      have e:fq L q=cP L k:=by rw[hz,a,b,if_pos z]
      exact⟨e,if_neg (by rw[e];exact z)⟩
     have hnx:∀{k:Nat} {v w:Int},fC L (bF L q bk) =v->(v=if cP L k≠0 then cP L k else w)->cP L k=0->fC L (bF L q bk) =w:=fun a b z=>by rw[a,b,if_neg (by omega)]
     have hfi:fC L (bF L q bk) =0->fq L q=0/\uI L q=(bF L q bk).map (oV L):=fun a=>by
      have e:fq L q=0:=by rw[hz,a]
      exact⟨e,if_pos e⟩
     have hkm:=fun k=>GG (L:=L) (q:=q) (k:=k);have hkl:((bF L q bk).map nI).length=(bF L q bk).length:=aB _;have hkb:=AQ L q;have hLb:=hok.2.2;refine aM.mk Nat (fun i=>i<=(bF L q bk).length/\fC L (bF L q bk) =fC L ((bF L q bk).drop i)) (fun i=>⟨93,[(0,.list c 4 (L.map aN)),(8,.buf 0),(9,.buf 1),(10,.int .i64 i)],[.buf 1 0 ((bF L q bk).map nI),.buf 3 0 ((((bF L q bk).take i).map (oV L)).map kQ)],[1]⟩) (fun i=>(bF L q bk).length-i) [.tm 9 3] 0 ⟨ci _,rfl⟩ ?_ (fun i ⟨hi,he⟩ _ _=>?_)
     . rw[hz2];apply ao<;>(repeat' first|trivial)
     have hst:=nk (L:=L) (ks:=bF L q bk) (i:=i);have hsn:=BK (L:=L) (ks:=bF L q bk) (i:=i);have hkk:i<(bF L q bk).length->(bF L q bk).getD i default<L.length:=fun h=>by
      rw[ac,am h];exact hkm _ (List.getElem_mem h)
     generalize bF L q bk=ks at*;repeat'((conv=>whnf);first|apply af|apply aI|(apply aj<;>intro h)|with_reducible apply j9)
     all_goals try conv=>whnf
     all_goals try(refine ae.mk ?_;try dsimp only)
     all_goals (try simp only[bX,List.toList_toArray,hkl,Int.toNat_natCast] at*)
     all_goals generalize ks.getD i default=k at*
     all_goals first|refine stay ?_|(assumption)|omega|(simp(discharger:=omega) [-List.getD_eq_getElem?_getD,wR]<;>omega)|skip
     all_goals try exact hok
     . refine⟨[],i+1,⟨by omega,hnx he (hst (by omega)) (by rw[Gv (by omega)];with_reducible assumption)⟩,?_,by omega⟩;rw[hsn (by omega)];apply ao<;>(repeat' first|trivial|apply ah|apply aC|apply bg)
       all_goals first
        |(rw[bz];omega)
        |(rw[gq];rfl)
     . obtain⟨e0,e1⟩:=hcon he (hst (by omega)) (by rw[Gv (by omega)];with_reducible assumption);rw[e0,e1,Gv (by omega)];refine ab.mk [.tm 4 3,.bL 2] ?_<;>(repeat' first|trivial)
     . obtain⟨e0,e1⟩:=hcon he (hst (by omega)) (by rw[xk (by omega)];decide);rw[e0,e1,xk (by omega)];refine ab.mk [.tm 4 3,.bL 2] ?_<;>(repeat' first|trivial)
     . obtain rfl:i=ks.length:=by omega
       obtain⟨e0,e1⟩:=hfi (by rw[he,List.drop_length];rfl);rw[e0,e1,List.take_length];refine ab.mk [.bL 1] ?_<;>(repeat' first|trivial)
   . have hne:n7 L q bk≠0:=by rw[hz1];assumption
     have e:=GR hne;rw[show uI L q=[] from if_neg (by rw[e];exact hne),e,hz1];refine ab.mk [.tm 4 3,.bL 0] ?_<;>(repeat' first|trivial)
theorem HM:∀x:List V,(bJ x).length=x.length
 |[]=>rfl
 |a::r=>by rw[bJ,List.length_cons,List.length_cons,HM r]
theorem isA_t(key t:Ky):isA (.agg [.str key,.int .u8 1,.str t,.int .i64 0,.int .u64 0,.list true 0 [],.list true 0 []]):=by
 unfold isA;exact Wk.agg (aP.cons (Wk.refl _) (aP.cons (Wk.refl _) (aP.cons (Wk.refl _) (aP.cons (Wk.refl _) (aP.cons (Wk.refl _) (aP.cons (Wk.nil (.inl rfl)) (aP.cons (Wk.nil (.inl rfl)) aP.nil)))))))
def Aj:Sm:=fun args σ=>match args,σ with
 |[.list false 7 x,.str key,.str t],[]=>some (mN (.list false 7 x)/\x.length<=100000,.list false 7 (aS (cZ (bJ x) (tA key t))),none)
 |_,_=>none
theorem Kj:aq 34 Aj:=by
 intro args sg pre x r he hp;unfold Aj at he;split at he<;>cases he
 . rename_i x key t;refine ai (C:=cx [(81,Eh)]) (ak ⟨SS,trivial⟩) (fn:=Tryz.f34) fun hw hs=>?_;repeat'((conv=>whnf);apply af)
   all_goals try conv=>whnf
   all_goals try(refine ae.mk ?_;try dsimp only)
   . exact⟨hp.1,isA_t _ _,by show(bJ x).length<=_;rw[HM];exact hp.2⟩
   . refine ab.mk [] ?_<;>(repeat' first|trivial)
theorem S8{L:List Nd} {ks:List Nat} {i:Nat} (h:i<ks.length):dz ((ks.take (i+1)).map (eV L)) []=cZ (dz ((ks.take i).map (eV L)) []) (eV L (ks.getD i default)):=by
 rw[G7 h,Hu,Hw];have:lQ (eV L (ks.getD i default)) =eV L (ks.getD i default):=by simp[eV,lQ,jW,su,dz]
 rw[this]
def Fz:Sm:=fun args σ=>match args,σ with
 |[.list c 4 l,.int .i64 q],[]=>some (cE l/\(al l).length<=10000,.tuple [.list false 7 (aS (oU (al l) q)),.int .i64 (gj (al l) q)],none)
 |_,_=>none
theorem Uf:aq 30 Fz:=by
 intro args sg pre x r he hp;unfold Fz at he;split at he<;>cases he
 . rename_i c l q;refine ai (C:=cx [(75,rK),(76,wW),(34,Aj)]) (ak ⟨vN,Cx,Kj,trivial⟩) (fn:=Tryz.f30) fun hw hs=>?_;obtain⟨hp,hL⟩:=hp;obtain⟨L,rfl,eL⟩:=jQ hp.1.1;have hml:(L.map aN).length=L.length:=aB _;rw[eL] at hL;have hok:fE (L.map aN)/\gp L:=⟨mc,by have:=hp.1.2;rw[eL] at this;exact this⟩
   obtain⟨hz1,hz2⟩:=zg_E (L:=L) (q:=q);repeat'((conv=>whnf);first|apply af|apply aI|(apply aj<;>intro h))
   all_goals try conv=>whnf
   all_goals try(refine ae.mk ?_;try dsimp only)
   all_goals (try simp only[bX,List.toList_toArray] at*)
   . exact hok
   . exact hok
   . have h0:¬jz L q bH≠0:=by rw[hz1];exact fun z=>z (by assumption)
     have hz:=xn (L:=L) (q:=q) h0;have hcon:∀{k:Nat} {v w:Int},j0 L (eF L q) =v->(v=if ie L k≠0 then ie L k else w)->ie L k≠0->gj L q=ie L k/\oU L q=[]:=fun{k v w} a b z=>by
      have e:gj L q=ie L k:=by rw[hz,a,b,if_pos z]
      exact⟨e,if_neg (by rw[e];exact z)⟩
     have hfi:j0 L (eF L q) =0->gj L q=0/\oU L q=dz ((eF L q).map (eV L)) []:=fun a=>by
      have e:gj L q=0:=by rw[hz,a]
      exact⟨e,if_pos e⟩
     have hkm:∀i,i<(eF L q).length->(eF L q).getD i default<L.length:=fun i h=>by
      rw[hz2] at h⊢;rw[ac,am h];exact re (List.getElem_mem h)
     have hkl:((eF L q).map nI).length=(eF L q).length:=aB _;have hkb:(eF L q).length<=L.length:=by rw[hz2];exact rb _ _
     refine aM.mk Nat (fun i=>i<=(eF L q).length/\j0 L (eF L q) =j0 L ((eF L q).drop i)) (fun i=>⟨57,[(0,.list c 4 (L.map aN)),(8,.buf 0),(9,.list false 7 (aS (dz (((eF L q).take i).map (eV L)) []))),(10,.int .i64 i)],[.buf 1 0 ((eF L q).map nI)],[]⟩) (fun i=>(eF L q).length-i) [.tm 9 7,.bL 1] 0 ⟨ci _,rfl⟩ ?_ (fun i ⟨hi,he⟩ _ _=>?_)
     . rw[hz2];apply ao<;>(repeat' first|trivial)
     have hst:=G8 (L:=L) (ks:=eF L q) (i:=i);have hsn:=S8 (L:=L) (ks:=eF L q) (i:=i);have hkk:=hkm i;have hcl:=Hv (((eF L q).take i).map (eV L)) [];have hcl2:(((eF L q).take i).map (eV L)).length<=i:=by rw[aB,eo];exact Nat.min_le_left _ _
     generalize eF L q=ks at*;repeat'((conv=>whnf);first|apply af|apply aI|(apply aj<;>intro h)|with_reducible apply j9)
     all_goals try conv=>whnf
     all_goals try(refine ae.mk ?_;try dsimp only)
     all_goals (try simp only[bX,List.toList_toArray,hkl,Int.toNat_natCast] at*)
     all_goals generalize ks.getD i default=k at*
     all_goals first|refine stay ?_|omega|skip
     . exact⟨mO _,by rw[cY];rw[List.length_nil] at hcl;omega⟩
     . have h115:ie L k=0:=if_neg (by omega);refine⟨[],i+1,⟨by omega,by rw[he,hst (by omega),if_neg (by rw[h115];exact fun z=>z rfl)]⟩,?_,by omega⟩;rw[hsn (by omega)];apply ao<;>(repeat' first|trivial|apply ah|apply aC|apply kT)
       all_goals first
        |(rw[bz];omega)
        |(rw[eu];rfl)
     . have h115:ie L k=7:=if_pos (by omega);obtain⟨e0,e1⟩:=hcon he (hst (by omega)) (by rw[h115];decide);rw[e0,e1,h115];refine ab.mk [.tm 4 7,.bL 1] ?_<;>(repeat' first|trivial)
     . obtain rfl:i=ks.length:=by omega
       obtain⟨e0,e1⟩:=hfi (by rw[he,List.drop_length];rfl);rw[e0,e1,List.take_length];refine ab.mk [] ?_<;>(repeat' first|trivial)
   . have hne:jz L q bH≠0:=by rw[hz1];assumption
     have e:=Gx hne;rw[show oU L q=[] from if_neg (by rw[e];exact hne),e,hz1];refine ab.mk [.tm 4 7,.bL 0] ?_<;>(repeat' first|trivial)
theorem zh_1{L:List Nd} {q:Int} (h:cj L q c8≠0):dJ L q=cj L q c8:=if_pos h
theorem zh_2{L:List Nd} {q:Int} (h:¬cj L q c8≠0) (h2:cj L q fT≠0):dJ L q=cj L q fT:=by
 unfold dJ;rw[dV,if_neg h,dV,if_pos h2]
theorem AP{L:List Nd} {q:Int} (h:¬cj L q c8≠0) (h2:¬cj L q fT≠0):dJ L q=(jd (iP L q c8) (iP L q fT)).1:=by
 unfold dJ;rw[dV,if_neg h,dV,if_neg h2,dV,lZ];show(if(jd (iP L q c8) (iP L q fT)).1≠0 then _ else(0:Int)) =_;split
 . rfl
 . omega
theorem RL(c:Bool) (l:List V) (q:Int) (x0 x1 x2 x3 x4 x5 x6 x7 x8 x9 x10 x11 x12 x13 x14 x15 x16 x17 x18 x19 x20 x21 x22 x23 x24 x25 x26 x27 x28 x29 x30 x31 kd s0 e0 cd:Int) (st nm nt:g8) (c1 c2 c3:Bool) (z1 z2 z3:Nat) (l1 l2 l3:List V) (hp:cE l) (hc:¬(dJ (al l) q≠0)):OK 18 ([.agg [.list c 4 l,.int .i64 q],.ptr 0 0]) ([.cells (.int .u8 x0::.int .u8 x1::.int .u8 x2::.int .u8 x3::.int .u8 x4::.int .u8 x5::.int .u8 x6::.int .u8 x7::.int .u8 x8::.int .u8 x9::.int .u8 x10::.int .u8 x11::.int .u8 x12::.int .u8 x13::.int .u8 x14::.int .u8 x15::.int .u8 x16::.int .u8 x17::.int .u8 x18::.int .u8 x19::.int .u8 x20::.int .u8 x21::.int .u8 x22::.int .u8 x23::.int .u8 x24::.int .u8 x25::.int .u8 x26::.int .u8 x27::.int .u8 x28::.int .u8 x29::.int .u8 x30::.int .u8 x31::.str st::.str nm::.int .i64 kd::.int .u64 s0::.int .u64 e0::.list c1 z1 l1::.list c2 z2 l2::.list c3 z3 l3::.int .i64 cd::.str nt::[])]) (.tuple []) (some [.cells (.int .u8 x0::.int .u8 x1::.int .u8 x2::.int .u8 x3::.int .u8 x4::.int .u8 x5::.int .u8 x6::.int .u8 x7::.int .u8 x8::.int .u8 x9::.int .u8 x10::.int .u8 x11::.int .u8 x12::.int .u8 x13::.int .u8 x14::.int .u8 x15::.int .u8 x16::.int .u8 x17::.int .u8 x18::.int .u8 x19::.int .u8 x20::.int .u8 x21::.int .u8 x22::.int .u8 x23::.int .u8 x24::.int .u8 x25::.int .u8 x26::.int .u8 x27::.int .u8 x28::.int .u8 x29::.int .u8 x30::.int .u8 x31::.str st::.str nm::.int .i64 kd::.int .u64 (mw (al l) q).2.1::.int .u64 (mw (al l) q).2.2::.list c1 z1 l1::.list c2 z2 l2::.list c3 z3 l3::.int .i64 cd::.str nt::[])]):=by
 refine ai (C:=gy [(59,A4)] [(55,iL),(58,u0)]) (gW ⟨K5,trivial⟩ ⟨jb,yG,trivial⟩) (fn:=Tryz.f18) fun hw hs=>?_;repeat'((conv=>whnf);first|with_reducible refine cK ?_ (fun h=>?_) fun h=>?_|apply af)
 all_goals try conv=>whnf
 all_goals try(refine ae.mk ?_;try dsimp only)
 all_goals try exact hp
 . exact hc (by rw[zh_1 (by assumption)];assumption)
 . exact hc (by rw[zh_2 (by assumption) (by assumption)];assumption)
 . exact hc (by rw[AP (by assumption) (by assumption)];assumption)
 . refine ab.mk [] ?_<;>(repeat' first|trivial)
theorem Wm(c:Bool) (l:List V) (q:Int) (x0 x1 x2 x3 x4 x5 x6 x7 x8 x9 x10 x11 x12 x13 x14 x15 x16 x17 x18 x19 x20 x21 x22 x23 x24 x25 x26 x27 x28 x29 x30 x31 kd s0 e0 cd:Int) (st nm nt:g8) (c1 c2 c3:Bool) (z1 z2 z3:Nat) (l1 l2 l3:List V) (hp:cE l) (hc:dJ (al l) q≠0):j6 18 ([.agg [.list c 4 l,.int .i64 q],.ptr 0 0]) ([.cells (.int .u8 x0::.int .u8 x1::.int .u8 x2::.int .u8 x3::.int .u8 x4::.int .u8 x5::.int .u8 x6::.int .u8 x7::.int .u8 x8::.int .u8 x9::.int .u8 x10::.int .u8 x11::.int .u8 x12::.int .u8 x13::.int .u8 x14::.int .u8 x15::.int .u8 x16::.int .u8 x17::.int .u8 x18::.int .u8 x19::.int .u8 x20::.int .u8 x21::.int .u8 x22::.int .u8 x23::.int .u8 x24::.int .u8 x25::.int .u8 x26::.int .u8 x27::.int .u8 x28::.int .u8 x29::.int .u8 x30::.int .u8 x31::.str st::.str nm::.int .i64 kd::.int .u64 s0::.int .u64 e0::.list c1 z1 l1::.list c2 z2 l2::.list c3 z3 l3::.int .i64 cd::.str nt::[])]) (.iface 57 (.int .i64 (dJ (al l) q))) (none):=by
 refine je (C:=gy [(59,A4)] [(55,iL),(58,u0)]) (gW ⟨K5,trivial⟩ ⟨jb,yG,trivial⟩) (fn:=Tryz.f18) rfl rfl rfl rfl fun hw hs=>?_;repeat'((conv=>whnf);first|with_reducible refine cK ?_ (fun h=>?_) fun h=>?_|apply af)
 all_goals try conv=>whnf
 all_goals try(refine ae.mk ?_;try dsimp only)
 all_goals try exact hp
 . rw[zh_1 (by assumption)]
 . (refine bI.mk [] ?_<;>(repeat' first|trivial|rfl|apply ah);done)
 . rw[zh_2 (by assumption) (by assumption)]
 . (refine bI.mk [] ?_<;>(repeat' first|trivial|rfl|apply ah);done)
 . rw[AP (by assumption) (by assumption)]
 . (refine bI.mk [] ?_<;>(repeat' first|trivial|rfl|apply ah);done)
 . exact absurd (by rw[AP (by assumption) (by assumption)];exact Decidable.not_not.1 (by assumption)) hc
def Dn:dL:=fun args σ=>match args,σ with
 |[.agg [.list c 4 l,.int .i64 q],.ptr 0 0],[.cells (.int .u8 x0::.int .u8 x1::.int .u8 x2::.int .u8 x3::.int .u8 x4::.int .u8 x5::.int .u8 x6::.int .u8 x7::.int .u8 x8::.int .u8 x9::.int .u8 x10::.int .u8 x11::.int .u8 x12::.int .u8 x13::.int .u8 x14::.int .u8 x15::.int .u8 x16::.int .u8 x17::.int .u8 x18::.int .u8 x19::.int .u8 x20::.int .u8 x21::.int .u8 x22::.int .u8 x23::.int .u8 x24::.int .u8 x25::.int .u8 x26::.int .u8 x27::.int .u8 x28::.int .u8 x29::.int .u8 x30::.int .u8 x31::.str st::.str nm::.int .i64 kd::.int .u64 s0::.int .u64 e0::.list c1 z1 l1::.list c2 z2 l2::.list c3 z3 l3::.int .i64 cd::.str nt::[])]=>some (cE l,dJ (al l) q≠0,.iface 57 (.int .i64 (dJ (al l) q)),none,.tuple [],some [.cells (.int .u8 x0::.int .u8 x1::.int .u8 x2::.int .u8 x3::.int .u8 x4::.int .u8 x5::.int .u8 x6::.int .u8 x7::.int .u8 x8::.int .u8 x9::.int .u8 x10::.int .u8 x11::.int .u8 x12::.int .u8 x13::.int .u8 x14::.int .u8 x15::.int .u8 x16::.int .u8 x17::.int .u8 x18::.int .u8 x19::.int .u8 x20::.int .u8 x21::.int .u8 x22::.int .u8 x23::.int .u8 x24::.int .u8 x25::.int .u8 x26::.int .u8 x27::.int .u8 x28::.int .u8 x29::.int .u8 x30::.int .u8 x31::.str st::.str nm::.int .i64 kd::.int .u64 (mw (al l) q).2.1::.int .u64 (mw (al l) q).2.2::.list c1 z1 l1::.list c2 z2 l2::.list c3 z3 l3::.int .i64 cd::.str nt::[])])
 |_,_=>none
theorem UU:dR 18 (Dn):=by
 intro args sg pre c u r x r2 he hp;unfold Dn at he;split at he<;>cases he
 . exact⟨fun hc=>⟨_,rfl,Wm (hp:=hp) (hc:=hc) ..⟩,fun hc=>RL (hp:=hp) (hc:=hc) ..⟩
theorem zs_1{L:List Nd} {q:Int} {key:Ky} (h:jz L q key≠0):cU L q key=jz L q key:=if_pos h
theorem AU{L:List Nd} {q:Int} {key:Ky} (h:¬jz L q key≠0) (hb:jl L q key=true):cU L q key=aW L (cB L q key) ma/\gm L q key=aU L (cB L q key) ma:=by
 unfold cU gm;rw[dV,if_neg h,dV,lZ,hb];refine⟨?_,rfl⟩;show(if aW L (cB L q key) ma≠0 then _ else(0:Int)) =_;split
 . rfl
 . omega
theorem zs_3{L:List Nd} {q:Int} {key:Ky} (h:¬jz L q key≠0) (hb:jl L q key=false):cU L q key=0/\gm L q key=[]:=by
 unfold cU gm;rw[dV,if_neg h,dV,lZ,hb];exact⟨rfl,rfl⟩
theorem GQ{L:List Nd} {q:Int} {key:Ky} (h:¬jz L q key≠0) (hc:cU L q key≠0):jl L q key=true:=by
 cases hB:jl L q key with
 |true=>rfl
 |false=>exact absurd (zs_3 h hB).1 hc
theorem RF(c:Bool) (l:List V) (q:Int) (key:g8) (hp:cE l) (hc:¬(cU (al l) q key≠0)):OK 19 ([.agg [.list c 4 l,.int .i64 q],.str key]) ([]) (.str (gm (al l) q key)) (none):=by
 refine ai (C:=gy [(60,ui)] [(55,iL),(52,mg)]) (gW ⟨ym,trivial⟩ ⟨jb,nC,trivial⟩) (fn:=Tryz.f19) fun hw hs=>?_;repeat'((conv=>whnf);first|with_reducible refine cK ?_ (fun h=>?_) fun h=>?_|apply af|apply aI|(apply aj<;>intro h))
 all_goals try conv=>whnf
 all_goals try(refine ae.mk ?_;try dsimp only)
 all_goals try first
  |exact hp.1
  |exact hp
 . exact hc (by rw[zs_1 (by assumption)];assumption)
 . exact hc (by rw[(AU (by assumption) (AR (by assumption))).1];assumption)
 . rw[(AU (by assumption) (AR (by assumption))).2];refine ab.mk [] ?_<;>(repeat' first|trivial)
 . rw[(zs_3 (by assumption) (GP (by assumption))).2];refine ab.mk [] ?_<;>(repeat' first|trivial)
theorem Wh(c:Bool) (l:List V) (q:Int) (key:g8) (hp:cE l) (hc:cU (al l) q key≠0):j6 19 ([.agg [.list c 4 l,.int .i64 q],.str key]) ([]) (.iface 57 (.int .i64 (cU (al l) q key))) (none):=by
 refine je (C:=gy [(60,ui)] [(55,iL),(52,mg)]) (gW ⟨ym,trivial⟩ ⟨jb,nC,trivial⟩) (fn:=Tryz.f19) rfl rfl rfl rfl fun hw hs=>?_;repeat'((conv=>whnf);first|with_reducible refine cK ?_ (fun h=>?_) fun h=>?_|apply af|apply fD|apply aI)
 all_goals try conv=>whnf
 all_goals try(refine ae.mk ?_;try dsimp only)
 all_goals try first
  |exact hp.1
  |exact hp
 . rw[zs_1 (by assumption)];rfl
 . (refine bI.mk [] ?_<;>(repeat' first|trivial|rfl|apply ah);done)
 . exact GQ (by assumption) hc
 . rw[(AU (by assumption) (GQ (by assumption) hc)).1];rfl
 . (refine bI.mk [] ?_<;>(repeat' first|trivial|rfl|apply ah);done)
 . exact absurd (by rw[(AU (by assumption) (GQ (by assumption) hc)).1];exact Decidable.not_not.1 (by assumption)) hc
def Dl:dL:=fun args σ=>match args,σ with
 |[.agg [.list c 4 l,.int .i64 q],.str key],[]=>some (cE l,cU (al l) q key≠0,.iface 57 (.int .i64 (cU (al l) q key)),none,.str (gm (al l) q key),none)
 |_,_=>none
theorem US:dR 19 (Dl):=by
 intro args sg pre c u r x r2 he hp;unfold Dl at he;split at he<;>cases he
 . exact⟨fun hc=>⟨_,rfl,Wh (hp:=hp) (hc:=hc) ..⟩,fun hc=>RF (hp:=hp) (hc:=hc) ..⟩
def FA:Sm:=fun args σ=>match args,σ with
 |[.int .i64 2],[]=>some (True,.str rW,none)
 |[.int .i64 3],[]=>some (True,.str rS,none)
 |[.int .i64 4],[]=>some (True,.str rV,none)
 |[.int .i64 5],[]=>some (True,.str rT,none)
 |_,_=>none
theorem Ug:aq 72 FA:=by
 intro args sg pre x r he hp;unfold FA at he;split at he<;>cases he
 . refine ai (C:=cx []) (ak trivial) (fn:=Tryz.f72) fun hw hs=>?_;all_goals try conv=>whnf
   all_goals try(refine ae.mk ?_;try dsimp only)
   refine ab.mk [] ?_<;>(repeat' first|trivial)
 . refine ai (C:=cx []) (ak trivial) (fn:=Tryz.f72) fun hw hs=>?_;all_goals try conv=>whnf
   all_goals try(refine ae.mk ?_;try dsimp only)
   refine ab.mk [] ?_<;>(repeat' first|trivial)
 . refine ai (C:=cx []) (ak trivial) (fn:=Tryz.f72) fun hw hs=>?_;all_goals try conv=>whnf
   all_goals try(refine ae.mk ?_;try dsimp only)
   refine ab.mk [] ?_<;>(repeat' first|trivial)
 . refine ai (C:=cx []) (ak trivial) (fn:=Tryz.f72) fun hw hs=>?_;all_goals try conv=>whnf
   all_goals try(refine ae.mk ?_;try dsimp only)
   refine ab.mk [] ?_<;>(repeat' first|trivial)
def oW(w:Int) (i:Nat):Int:=if w<i then w else 0
theorem Zf{w:Int} {i:Nat} (h:w=i):(i:Int) =oW w (i+1):=by
 unfold oW;rw[if_pos (by omega),h]
theorem Zg{w:Int} {i:Nat} (h:w≠i):oW w i=oW w (i+1):=by
 unfold oW;by_cases q:w<i
 . rw[if_pos q,if_pos (by omega)]
 . rw[if_neg q,if_neg (by omega)]
def zdS(L:List Nd) (q:Int):Int:=if cD L q=0/\cj L q c8=0/\cj L q fT=0 then(mw L q).2.1 else 0
def zdF(L:List Nd) (q:Int):Int:=if cD L q=0/\cj L q c8=0/\cj L q fT=0 then(mw L q).2.2 else 0
section
variable {L:List Nd} {q:Int}
theorem zd_1{e:Int} (he:cD L q=e) (h:e≠0):aJ [cD L q,dJ L q]=e/\zdS L q=0/\zdF L q=0:=by
 subst he;exact⟨IT h,if_neg (fun q=>h q.1),if_neg (fun q=>h q.1)⟩
theorem zd_2(he:cD L q=0) (h:¬aJ [cj L q c8,cj L q fT]=0):aJ [cD L q,dJ L q]=aJ [cj L q c8,cj L q fT]/\zdS L q=0/\zdF L q=0:=by
 have hw:¬(cj L q c8=0/\cj L q fT=0):=fun z=>h (by rw[z.1,z.2];rfl);refine⟨?_,if_neg (fun q=>hw q.2),if_neg (fun q=>hw q.2)⟩;rw[y3 he];unfold dJ;simp only[aJ] at h⊢;by_cases a:cj L q c8=0<;>by_cases b:cj L q fT=0<;>simp_all
theorem zd_3(he:cD L q=0) (h:aJ [cj L q c8,cj L q fT]=0):aJ [cD L q,dJ L q]=(jd (iP L q c8) (iP L q fT)).1/\zdS L q=(jd (iP L q c8) (iP L q fT)).2.1/\zdF L q=(jd (iP L q c8) (iP L q fT)).2.2:=by
 have hw:cj L q c8=0/\cj L q fT=0:=by
  simp only[aJ] at h;by_cases a:cj L q c8=0<;>by_cases b:cj L q fT=0<;>simp_all
 refine⟨?_,if_pos ⟨he,hw⟩,if_pos ⟨he,hw⟩⟩;rw[y3 he,AP (by rw[hw.1];decide) (by rw[hw.2];decide)]
theorem Zl{key:Ky} (h:aW L q key≠0):bh L q key=false:=by
 unfold aW iS at h;split at h
 . exact decide_eq_false (by omega)
 . exact absurd rfl h
end
def Fv:Sm:=fun args σ=>match args,σ with
 |[.agg (.int .u8 x0::.int .u8 x1::.int .u8 x2::.int .u8 x3::.int .u8 x4::.int .u8 x5::.int .u8 x6::.int .u8 x7::.int .u8 x8::.int .u8 x9::.int .u8 x10::.int .u8 x11::.int .u8 x12::.int .u8 x13::.int .u8 x14::.int .u8 x15::.int .u8 x16::.int .u8 x17::.int .u8 x18::.int .u8 x19::.int .u8 x20::.int .u8 x21::.int .u8 x22::.int .u8 x23::.int .u8 x24::.int .u8 x25::.int .u8 x26::.int .u8 x27::.int .u8 x28::.int .u8 x29::.int .u8 x30::.int .u8 x31::.str st::.str nm::.int .i64 kd::.int .u64 s0::.int .u64 e0::.list c1 z1 l1::.list c2 z2 l2::.list c3 z3 l3::.int .i64 cd::.str nt::[]),.list c 4 l,.int .i64 q],[]=>some (cE l/\kd=0/\s0=0/\e0=0,.tuple [.agg (.int .u8 x0::.int .u8 x1::.int .u8 x2::.int .u8 x3::.int .u8 x4::.int .u8 x5::.int .u8 x6::.int .u8 x7::.int .u8 x8::.int .u8 x9::.int .u8 x10::.int .u8 x11::.int .u8 x12::.int .u8 x13::.int .u8 x14::.int .u8 x15::.int .u8 x16::.int .u8 x17::.int .u8 x18::.int .u8 x19::.int .u8 x20::.int .u8 x21::.int .u8 x22::.int .u8 x23::.int .u8 x24::.int .u8 x25::.int .u8 x26::.int .u8 x27::.int .u8 x28::.int .u8 x29::.int .u8 x30::.int .u8 x31::.str st::.str nm::.int .i64 (jj (al l) q)::.int .u64 (zdS (al l) q)::.int .u64 (zdF (al l) q)::.list c1 z1 l1::.list c2 z2 l2::.list c3 z3 l3::.int .i64 cd::.str nt::[]),.int .i64 (aJ [cD (al l) q,dJ (al l) q])],none)
 |_,_=>none
theorem Ub:aq 27 Fv:=by
 intro args sg pre x r he hp;unfold Fv at he;split at he<;>cases he
 . rename_i x0 x1 x2 x3 x4 x5 x6 x7 x8 x9 x10 x11 x12 x13 x14 x15 x16 x17 x18 x19 x20 x21 x22 x23 x24 x25 x26 x27 x28 x29 x30 x31 st nm kd s0 e0 c1 z1 l1 c2 z2 l2 c3 z3 l3 cd nt c l q;refine ai (C:=cx [(68,wY),(72,FA),(73,FB),(31,ur),(74,F7)]) (ak ⟨yw,Ug,Kl,yv,TH,trivial⟩) (fn:=Tryz.f27) fun hw hs=>?_;obtain⟨hp,rfl,rfl,rfl⟩:=hp;repeat'((conv=>whnf);first|apply af|apply aI|(apply aj<;>intro h))
   all_goals try conv=>whnf
   all_goals try(refine ae.mk ?_;try dsimp only)
   . exact hp.1
   . have hE:cD (al l) q=if bh (al l) q cR=true/\gk (aU (al l) q cR) =0 then 7 else 0:=GF (by rw[show aW (al l) q cR=0 by assumption];decide)
     have hV:jj (al l) q=if bh (al l) q cR=true then gk (aU (al l) q cR) else 0:=rfl
     have hW:=GC (aU (al l) q cR);have hw2:jj (al l) q=0\/(2<=jj (al l) q/\jj (al l) q<=5):=by rw[hV];split<;>omega
     refine aM.mk Nat (fun i=>2<=i/\i<=6) (fun i=>⟨83,[(1,.list c 4 l),(2,.int .i64 q),(3,.ptr 0 0),(6,.ptr 1 0),(8,.str (aU (al l) q cR)),(9,.bool (bh (al l) q cR)),(11,.int .i64 i)],[.cells (.int .u8 x0::.int .u8 x1::.int .u8 x2::.int .u8 x3::.int .u8 x4::.int .u8 x5::.int .u8 x6::.int .u8 x7::.int .u8 x8::.int .u8 x9::.int .u8 x10::.int .u8 x11::.int .u8 x12::.int .u8 x13::.int .u8 x14::.int .u8 x15::.int .u8 x16::.int .u8 x17::.int .u8 x18::.int .u8 x19::.int .u8 x20::.int .u8 x21::.int .u8 x22::.int .u8 x23::.int .u8 x24::.int .u8 x25::.int .u8 x26::.int .u8 x27::.int .u8 x28::.int .u8 x29::.int .u8 x30::.int .u8 x31::.str st::.str nm::.int .i64 (oW (jj (al l) q) i)::.int .u64 0::.int .u64 0::.list c1 z1 l1::.list c2 z2 l2::.list c3 z3 l3::.int .i64 cd::.str nt::[]),.cells zZ],[]⟩) (fun i=>6-i) [] 2 ⟨co _,by decide⟩ ?_ (fun i ⟨h2,h6⟩ _ _=>?_)
     . apply ao<;>(repeat' first|trivial|apply ah|apply aC|apply iR|apply bV)
       unfold oW;split<;>omega
     have hu6:oW (jj (al l) q) 6=jj (al l) q:=by
      unfold oW;split<;>omega
     have hat:=Zf (w:=jj (al l) q) (i:=i);have hno:=Zg (w:=jj (al l) q) (i:=i);generalize bh (al l) q cR=B at*;generalize aU (al l) q cR=t at*;obtain⟨m,hm⟩:∃m,m=i+1:=⟨_,rfl⟩
     have h5:i=2\/i=3\/i=4\/i=5\/i=6:=by omega
     have hy:=fun(h:B=true) =>hV.trans (if_pos h);have hn:=fun(h:B=false) =>hV.trans (if_neg (by rw[h];exact Bool.false_ne_true));rcases h5 with rfl|rfl|rfl|rfl|rfl
     all_goals
      repeat'((conv=>whnf);first|apply af|apply aI|((first|apply aj|apply dr|apply e9)<;>intro h))
      all_goals try conv=>whnf
      all_goals try(refine ae.mk ?_;try dsimp only)
      all_goals try
       (refine⟨[],m,⟨by omega,by omega⟩,?_,by omega⟩
        subst hm;apply ao<;>(repeat' first|trivial|apply ah|apply aC|apply iR|apply bV)
        first
         |exact hat ((hy (by assumption)).trans (hW.1.2 (by assumption)))
         |exact hat ((hy (by assumption)).trans (hW.2.1.2 (by assumption)))
         |exact hat ((hy (by assumption)).trans (hW.2.2.1.2 (by assumption)))
         |exact hat ((hy (by assumption)).trans (hW.2.2.2.1.2 (by assumption)))
         |exact hno (by rw[hn (by assumption)];decide)
         |exact hno (by rw[hy (by assumption)];exact fun z=>absurd (hW.1.1 z) (by assumption))
         |exact hno (by rw[hy (by assumption)];exact fun z=>absurd (hW.2.1.1 z) (by assumption))
         |exact hno (by rw[hy (by assumption)];exact fun z=>absurd (hW.2.2.1.1 z) (by assumption))
         |exact hno (by rw[hy (by assumption)];exact fun z=>absurd (hW.2.2.2.1.1 z) (by assumption))
        done)
     all_goals (try dsimp only[List.toList_toArray] at*)
     all_goals try exact hp.1
     . have h7:cD (al l) q=7:=by rw[hE,if_pos ⟨by assumption,by rw[<-hy (by assumption),<-hu6];assumption⟩]
       obtain⟨e0,e1,e2⟩:=zd_1 h7 (by decide);rw[e0,e1,e2];refine ab.mk [] ?_<;>(repeat' first|trivial|apply ah|apply aC|apply fQ|apply gC|apply bV)
       all_goals exact hu6
     . have h7:cD (al l) q=0:=by rw[hE,if_neg (fun z=>absurd (hu6.trans ((hy z.1).trans z.2)) (by assumption))]
       obtain⟨e0,e1,e2⟩:=zd_3 h7 (by with_reducible assumption);rw[e0,e1,e2];refine ab.mk [] ?_<;>(repeat' first|trivial|apply ah|apply aC|apply fQ|apply gC|apply bV)
       all_goals exact hu6
     . have h7:cD (al l) q=0:=by rw[hE,if_neg (fun z=>absurd (hu6.trans ((hy z.1).trans z.2)) (by assumption))]
       obtain⟨e0,e1,e2⟩:=zd_2 h7 (by with_reducible assumption);rw[e0,e1,e2];refine ab.mk [] ?_<;>(repeat' first|trivial|apply ah|apply aC|apply fQ|apply gC|apply bV)
       all_goals exact hu6
     . have h7:cD (al l) q=0:=by rw[hE,if_neg (fun z=>by rw[show B=false by assumption] at z;exact Bool.noConfusion z.1)]
       obtain⟨e0,e1,e2⟩:=zd_3 h7 (by with_reducible assumption);rw[e0,e1,e2];refine ab.mk [] ?_<;>(repeat' first|trivial|apply ah|apply aC|apply fQ|apply gC|apply bV)
       all_goals exact hu6
     . have h7:cD (al l) q=0:=by rw[hE,if_neg (fun z=>by rw[show B=false by assumption] at z;exact Bool.noConfusion z.1)]
       obtain⟨e0,e1,e2⟩:=zd_2 h7 (by with_reducible assumption);rw[e0,e1,e2];refine ab.mk [] ?_<;>(repeat' first|trivial|apply ah|apply aC|apply fQ|apply gC|apply bV)
       all_goals exact hu6
   . have hne:aW (al l) q cR≠0:=by assumption
     obtain⟨e0,e1,e2⟩:=zd_1 (GD hne) hne;rw[e0,e1,e2,zk_b (Zl hne)];refine ab.mk [] ?_<;>(repeat' first|trivial)
end Go.Proofs.YtknljebcgcmaeaaGreatDoor
