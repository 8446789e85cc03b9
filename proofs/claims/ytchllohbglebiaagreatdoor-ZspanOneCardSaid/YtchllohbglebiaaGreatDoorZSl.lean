/-
  A part of the proof.
-/
import Derived.Test.YtchllohbglebiaaGreatDoorZSr
set_option linter.unusedSimpArgs false
set_option linter.unusedVariables false
set_option maxHeartbeats 4000000
set_option maxRecDepth 100000
namespace Go.Proofs.YtchllohbglebiaaGreatDoor
open Go Go.VG
theorem Ss(n:Int) (hp:True) (hc:¬(n≠0)):OK 45 ([.int .i64 n]) ([]) (.tuple []) (none):=by
 refine aq (C:=cx []) (ar trivial) (fn:=Tryz.f45) fun hw hs=>?_;repeat'((conv=>whnf);first|apply fE|apply aK)
 all_goals try conv=>whnf
 all_goals try(refine ae.mk ?_;try dsimp only)
 . exact beq_iff_eq.2 (Decidable.not_not.1 hc)
 . refine ab.mk [] ?_<;>(repeat' first|trivial)
theorem WI(n:Int) (hp:True) (hc:n≠0):jq 45 ([.int .i64 n]) ([]) (.iface 58 (.int .i64 n)) (none):=by
 refine jA (C:=cx []) (ar trivial) (fn:=Tryz.f45) rfl rfl rfl rfl fun hw hs=>?_;repeat'((conv=>whnf);first|apply af|apply fE)
 all_goals try conv=>whnf
 all_goals try(refine ae.mk ?_;try dsimp only)
 . exact bne_iff_ne.2 hc
 . (refine bC.mk [] ?_<;>(repeat' first|trivial|rfl|apply ah);done)
def j7:dL:=fun args σ=>match args,σ with
 |[.int .i64 n],[]=>some (True,n≠0,.iface 58 (.int .i64 n),none,.tuple [],none)
 |_,_=>none
theorem jx:dX 45 (j7):=by
 intro args sg pre c u r x r2 he hp;unfold j7 at he;split at he<;>cases he
 . exact⟨fun hc=>⟨_,rfl,WI (hp:=hp) (hc:=hc) ..⟩,fun hc=>Ss (hp:=hp) (hc:=hc) ..⟩
theorem SF(b:Bool) (hp:True) (hc:¬(b=false)):OK 43 ([.bool b]) ([]) (.tuple []) (none):=by
 refine aq (C:=cx []) (ar trivial) (fn:=Tryz.f43) fun hw hs=>?_;repeat'((conv=>whnf);first|apply fE|apply aK)
 all_goals try conv=>whnf
 all_goals try(refine ae.mk ?_;try dsimp only)
 . exact by simpa using hc
 . refine ab.mk [] ?_<;>(repeat' first|trivial)
theorem WO(b:Bool) (hp:True) (hc:b=false):jq 43 ([.bool b]) ([]) (.iface 58 (.int .i64 9)) (none):=by
 refine jA (C:=cx []) (ar trivial) (fn:=Tryz.f43) rfl rfl rfl rfl fun hw hs=>?_;repeat'((conv=>whnf);first|apply af|apply fE)
 all_goals try conv=>whnf
 all_goals try(refine ae.mk ?_;try dsimp only)
 . rw[hc];rfl
 . (refine bC.mk [] ?_<;>(repeat' first|trivial|rfl|apply ah);done)
def uE:dL:=fun args σ=>match args,σ with
 |[.bool b],[]=>some (True,b=false,.iface 58 (.int .i64 9),none,.tuple [],none)
 |_,_=>none
theorem zA:dX 43 (uE):=by
 intro args sg pre c u r x r2 he hp;unfold uE at he;split at he<;>cases he
 . exact⟨fun hc=>⟨_,rfl,WO (hp:=hp) (hc:=hc) ..⟩,fun hc=>SF (hp:=hp) (hc:=hc) ..⟩
def cR(l:List V):Prop:=(gK l/\gT (al l))/\∀x∈al l,x.t.length<=1000000
theorem SE(c:Bool) (l:List V) (q:Int) (key:gA) (hp:cR l) (hc:¬(c8 (al l) q key≠0)):OK 42 ([.agg [.list c 4 l,.int .i64 q],.str key]) ([]) (.tuple [.str (bO (al l) q key),.bool (c7 (al l) q key)]) (none):=by
 refine aq (C:=gE [(92,AU)] [(45,j7)]) (ig ⟨JV,trivial⟩ ⟨jx,trivial⟩) (fn:=Tryz.f42) fun hw hs=>?_;repeat'((conv=>whnf);first|with_reducible refine cM ?_ (fun h=>?_) fun h=>?_|apply af)
 all_goals try conv=>whnf
 all_goals try(refine ae.mk ?_;try dsimp only)
 . exact hp.1
 . exact hc (by assumption)
 . refine ab.mk [] ?_<;>(repeat' first|trivial)
theorem WN(c:Bool) (l:List V) (q:Int) (key:gA) (hp:cR l) (hc:c8 (al l) q key≠0):jq 42 ([.agg [.list c 4 l,.int .i64 q],.str key]) ([]) (.iface 58 (.int .i64 (c8 (al l) q key))) (none):=by
 refine jA (C:=gE [(92,AU)] [(45,j7)]) (ig ⟨JV,trivial⟩ ⟨jx,trivial⟩) (fn:=Tryz.f42) rfl rfl rfl rfl fun hw hs=>?_;repeat'((conv=>whnf);first|with_reducible refine cM ?_ (fun h=>?_) fun h=>?_|apply af)
 all_goals try conv=>whnf
 all_goals try(refine ae.mk ?_;try dsimp only)
 . exact hp.1
 . rfl
 . (refine bC.mk [] ?_<;>(repeat' first|trivial|rfl|apply ah);done)
 . exact absurd hc (by assumption)
def mT:dL:=fun args σ=>match args,σ with
 |[.agg [.list c 4 l,.int .i64 q],.str key],[]=>some (cR l,c8 (al l) q key≠0,.iface 58 (.int .i64 (c8 (al l) q key)),none,.tuple [.str (bO (al l) q key),.bool (c7 (al l) q key)],none)
 |_,_=>none
theorem oq:dX 42 (mT):=by
 intro args sg pre c u r x r2 he hp;unfold mT at he;split at he<;>cases he
 . exact⟨fun hc=>⟨_,rfl,WN (hp:=hp) (hc:=hc) ..⟩,fun hc=>SE (hp:=hp) (hc:=hc) ..⟩
theorem SI(c:Bool) (l:List V) (q:Int) (key:gA) (hp:cR l) (hc:¬(eS (al l) q key≠0)):OK 48 ([.agg [.list c 4 l,.int .i64 q],.str key]) ([]) (.tuple [.int .i64 (fw (al l) q key),.bool (oM (al l) q key)]) (none):=by
 refine aq (C:=gE [(95,AV)] [(45,j7)]) (ig ⟨JW,trivial⟩ ⟨jx,trivial⟩) (fn:=Tryz.f48) fun hw hs=>?_;repeat'((conv=>whnf);first|with_reducible refine cM ?_ (fun h=>?_) fun h=>?_|apply af)
 all_goals try conv=>whnf
 all_goals try(refine ae.mk ?_;try dsimp only)
 . exact hp.1
 . exact hc (by assumption)
 . refine ab.mk [] ?_<;>(repeat' first|trivial)
theorem WR(c:Bool) (l:List V) (q:Int) (key:gA) (hp:cR l) (hc:eS (al l) q key≠0):jq 48 ([.agg [.list c 4 l,.int .i64 q],.str key]) ([]) (.iface 58 (.int .i64 (eS (al l) q key))) (none):=by
 refine jA (C:=gE [(95,AV)] [(45,j7)]) (ig ⟨JW,trivial⟩ ⟨jx,trivial⟩) (fn:=Tryz.f48) rfl rfl rfl rfl fun hw hs=>?_;repeat'((conv=>whnf);first|with_reducible refine cM ?_ (fun h=>?_) fun h=>?_|apply af)
 all_goals try conv=>whnf
 all_goals try(refine ae.mk ?_;try dsimp only)
 . exact hp.1
 . rfl
 . (refine bC.mk [] ?_<;>(repeat' first|trivial|rfl|apply ah);done)
 . exact absurd hc (by assumption)
def uF:dL:=fun args σ=>match args,σ with
 |[.agg [.list c 4 l,.int .i64 q],.str key],[]=>some (cR l,eS (al l) q key≠0,.iface 58 (.int .i64 (eS (al l) q key)),none,.tuple [.int .i64 (fw (al l) q key),.bool (oM (al l) q key)],none)
 |_,_=>none
theorem zB:dX 48 (uF):=by
 intro args sg pre c u r x r2 he hp;unfold uF at he;split at he<;>cases he
 . exact⟨fun hc=>⟨_,rfl,WR (hp:=hp) (hc:=hc) ..⟩,fun hc=>SI (hp:=hp) (hc:=hc) ..⟩
theorem vv{l:List V} (h:cR l) (q:Int) (key:Ky):(bO (al l) q key).length<=1000000:=by
 unfold bO p0;rcases E3 (al l) q key 115 115 with e|e
 . rw[if_pos (by omega)];exact bu _
 . rw[if_neg (by omega)];refine h.2 _ ?_;rw[ac,am (by omega)];exact List.getElem_mem _
theorem BU{L:List Nd} {q:Int} {key:Ky} (h:(aT L q key 115 115).1>=0):c7 L q key=true:=decide_eq_true h
theorem GN{L:List Nd} {q:Int} {key:Ky} (h:¬(aT L q key 115 115).1>=0):c7 L q key=false:=decide_eq_false h
theorem zi_1{L:List Nd} {q:Int} {key:Ky} (h:c8 L q key≠0):dV L q key=c8 L q key:=if_pos h
theorem GA{L:List Nd} {q:Int} {key:Ky} (h:¬c8 L q key≠0) (hb:c7 L q key=true):dV L q key=(jK (bO L q key)).1:=by
 unfold dV;rw[dO,if_neg h,dO,mI,if_pos hb];split<;>omega
theorem GB{L:List Nd} {q:Int} {key:Ky} (h:¬c8 L q key≠0) (hb:c7 L q key=false):dV L q key=0:=by
 unfold dV;rw[dO,if_neg h,dO,mI,hb];rfl
theorem GL{L:List Nd} {q:Int} {key:Ky} (h:(aT L q key 123 123).1>=0):jn L q key=true:=decide_eq_true h
theorem O2{L:List Nd} {q:Int} {key:Ky} (h:¬(aT L q key 123 123).1>=0):jn L q key=false:=decide_eq_false h
theorem Sn(c:Bool) (l:List V) (q:Int) (key:gA) (hp:cR l) (hc:¬(dV (al l) q key≠0)):OK 46 ([.agg [.list c 4 l,.int .i64 q],.str key]) ([]) (.tuple [.agg (spB (iR (al l) q key)),.bool (c7 (al l) q key)]) (none):=by
 refine aq (C:=gE [(94,AM)] [(45,j7),(42,mT)]) (ig ⟨JP,trivial⟩ ⟨jx,oq,trivial⟩) (fn:=Tryz.f46) fun hw hs=>?_;have hl:=vv hp q key;repeat'((conv=>whnf);first|with_reducible refine cM ?_ (fun h=>?_) fun h=>?_|apply af|apply aK|(apply av<;>intro h))
 all_goals try conv=>whnf
 all_goals try(refine ae.mk ?_;try dsimp only)
 all_goals try first
  |exact hp
  |exact hl
 . exact hc (by rw[zi_1 (by assumption)];assumption)
 . exact hc (by rw[GA (by assumption) (BU (by assumption))];assumption)
 . rw[show iR (al l) q key=(jK (bO (al l) q key)).2 from if_pos (BU (by assumption)),BU (by assumption)];refine ab.mk [] ?_<;>(repeat' first|trivial)
 . rw[show iR (al l) q key=[] from if_neg (by rw[GN (by assumption)];exact Bool.false_ne_true),GN (by assumption)];refine ab.mk [] ?_<;>(repeat' first|trivial)
theorem WG(c:Bool) (l:List V) (q:Int) (key:gA) (hp:cR l) (hc:dV (al l) q key≠0):jq 46 ([.agg [.list c 4 l,.int .i64 q],.str key]) ([]) (.iface 58 (.int .i64 (dV (al l) q key))) (none):=by
 refine jA (C:=gE [(94,AM)] [(45,j7),(42,mT)]) (ig ⟨JP,trivial⟩ ⟨jx,oq,trivial⟩) (fn:=Tryz.f46) rfl rfl rfl rfl fun hw hs=>?_;have hl:=vv hp q key;repeat'((conv=>whnf);first|with_reducible refine cM ?_ (fun h=>?_) fun h=>?_|apply af|apply fE|apply aK)
 all_goals try conv=>whnf
 all_goals try(refine ae.mk ?_;try dsimp only)
 all_goals try first
  |exact hp
  |exact hl
 . rw[zi_1 (by assumption)]
 . (refine bC.mk [] ?_<;>(repeat' first|trivial|rfl|apply ah);done)
 . cases hB:c7 (al l) q key with
   |true=>rfl
   |false=>exact absurd (GB (by assumption) hB) hc
 . have hB:c7 (al l) q key=true:=by
     cases hB:c7 (al l) q key with
     |true=>rfl
     |false=>exact absurd (GB (by assumption) hB) hc
   rw[GA (by assumption) hB]
 . (refine bC.mk [] ?_<;>(repeat' first|trivial|rfl|apply ah);done)
 . have hB:c7 (al l) q key=true:=by
     cases hB:c7 (al l) q key with
     |true=>rfl
     |false=>exact absurd (GB (by assumption) hB) hc
   rw[GA (by assumption) hB] at hc;exact hc (Decidable.not_not.1 (by assumption))
def Ad:dL:=fun args σ=>match args,σ with
 |[.agg [.list c 4 l,.int .i64 q],.str key],[]=>some (cR l,dV (al l) q key≠0,.iface 58 (.int .i64 (dV (al l) q key)),none,.tuple [.agg (spB (iR (al l) q key)),.bool (c7 (al l) q key)],none)
 |_,_=>none
theorem Ku:dX 46 (Ad):=by
 intro args sg pre c u r x r2 he hp;unfold Ad at he;split at he<;>cases he
 . exact⟨fun hc=>⟨_,rfl,WG (hp:=hp) (hc:=hc) ..⟩,fun hc=>Sn (hp:=hp) (hc:=hc) ..⟩
theorem Ir(hp:True):OK 47 ([.int .i64 2]) ([]) (.str vn) (none):=by
 refine aq (C:=cx []) (ar trivial) (fn:=Tryz.f47) fun hw hs=>?_;all_goals try conv=>whnf
 all_goals try(refine ae.mk ?_;try dsimp only)
 refine ab.mk [] ?_<;>(repeat' first|trivial)
theorem Is(hp:True):OK 47 ([.int .i64 3]) ([]) (.str vk) (none):=by
 refine aq (C:=cx []) (ar trivial) (fn:=Tryz.f47) fun hw hs=>?_;all_goals try conv=>whnf
 all_goals try(refine ae.mk ?_;try dsimp only)
 refine ab.mk [] ?_<;>(repeat' first|trivial)
theorem Iu(hp:True):OK 47 ([.int .i64 4]) ([]) (.str vm) (none):=by
 refine aq (C:=cx []) (ar trivial) (fn:=Tryz.f47) fun hw hs=>?_;all_goals try conv=>whnf
 all_goals try(refine ae.mk ?_;try dsimp only)
 refine ab.mk [] ?_<;>(repeat' first|trivial)
theorem Iv(hp:True):OK 47 ([.int .i64 5]) ([]) (.str vl) (none):=by
 refine aq (C:=cx []) (ar trivial) (fn:=Tryz.f47) fun hw hs=>?_;all_goals try conv=>whnf
 all_goals try(refine ae.mk ?_;try dsimp only)
 refine ab.mk [] ?_<;>(repeat' first|trivial)
def Bk:Sm:=fun args σ=>match args,σ with
 |[.int .i64 2],[]=>some (True,.str vn,none)
 |[.int .i64 3],[]=>some (True,.str vk,none)
 |[.int .i64 4],[]=>some (True,.str vm,none)
 |[.int .i64 5],[]=>some (True,.str vl,none)
 |_,_=>none
theorem Kl:ax 47 Bk:=by
 intro args sg pre x r he hp;unfold Bk at he;split at he<;>cases he
 . exact Ir (hp:=hp) ..
 . exact Is (hp:=hp) ..
 . exact Iu (hp:=hp) ..
 . exact Iv (hp:=hp) ..
theorem O0(s:Ky):(gQ s=2↔s=vn)/\(gQ s=3↔s=vk)/\(gQ s=4↔s=vm)/\(gQ s=5↔s=vl)/\(gQ s=0\/gQ s=2\/gQ s=3\/gQ s=4\/gQ s=5):=by
 by_cases h2:s=vn
 . subst h2;decide
 by_cases h3:s=vk
 . subst h3;decide
 by_cases h4:s=vm
 . subst h4;decide
 by_cases h5:s=vl
 . subst h5;decide
 have e:gQ s=0:=by unfold gQ;rw[if_neg h2,if_neg h3,if_neg h4,if_neg h5]
 rw[e];exact⟨⟨fun q=>by omega,fun q=>absurd q h2⟩,⟨fun q=>by omega,fun q=>absurd q h3⟩,⟨fun q=>by omega,fun q=>absurd q h4⟩,⟨fun q=>by omega,fun q=>absurd q h5⟩,.inl rfl⟩
theorem zk_1{L:List Nd} {q:Int} (h:c8 L q cJ≠0):gP L q=c8 L q cJ:=if_pos h
theorem zk_2{L:List Nd} {q:Int} (h:¬c8 L q cJ≠0):gP L q=if c7 L q cJ=true/\gQ (bO L q cJ) =0 then 7 else 0:=by
 unfold gP;rw[dO,if_neg h,dO,mI];split<;>rename_i h<;>first|rfl|omega
theorem zk_b{L:List Nd} {q:Int} (h:c7 L q cJ=false):gp L q=0:=by
 unfold gp;rw[h];rfl
theorem zk_c{L:List Nd} {q:Int} (h:¬c8 L q cJ≠0) (hb:c7 L q cJ=true):(gP L q=if gQ (bO L q cJ) =0 then 7 else 0)/\gp L q=gQ (bO L q cJ):=by
 rw[zk_2 h];unfold gp;rw[hb];exact⟨by simp only[true_and],rfl⟩
theorem zk_d{L:List Nd} {q:Int} (h:¬c8 L q cJ≠0) (hc:gP L q≠0):c7 L q cJ=true:=by
 cases hB:c7 L q cJ with
 |true=>rfl
 |false=>rw[zk_2 h,hB] at hc;exact absurd rfl hc
theorem Sq(c:Bool) (l:List V) (q:Int) (hp:cR l) (hc:¬(gP (al l) q≠0)):OK 18 ([.agg [.list c 4 l,.int .i64 q]]) ([]) (.int .i64 (gp (al l) q)) (none):=by
 refine aq (C:=gE [(47,Bk)] [(45,j7),(42,mT)]) (ig ⟨Kl,trivial⟩ ⟨jx,oq,trivial⟩) (fn:=Tryz.f18) fun hw hs=>?_;repeat'((conv=>whnf);first|with_reducible refine cM ?_ (fun h=>?_) fun h=>?_|apply aK|(apply av<;>intro h))
 all_goals try conv=>whnf
 all_goals try(refine ae.mk ?_;try dsimp only)
 . exact hp
 . exact hc (by rw[zk_1 (by assumption)];assumption)
 . have hb:=BU (L:=al l) (q:=q) (key:=cJ) (by assumption);obtain⟨hE,hV⟩:=zk_c (L:=al l) (q:=q) (by assumption) hb;rw[hE] at hc;have hW:=O0 (bO (al l) q cJ);refine aZ.mk Nat (fun i=>2<=i/\i<=6/\(gQ (bO (al l) q cJ) =0\/(i:Int)<=gQ (bO (al l) q cJ))) (fun i=>⟨23,[(3,.str (bO (al l) q cJ)),(5,.int .i64 i)],[],[]⟩) (fun i=>6-i) [] 2 ⟨cb _,by decide,by omega⟩ ?_ (fun i ⟨h2,h6,hi⟩ _ _=>?_)
   . apply ay<;>(repeat' first|trivial)
   obtain⟨m,hm⟩:∃m,m=i+1:=⟨_,rfl⟩
   have h5:i=2\/i=3\/i=4\/i=5\/i=6:=by omega
   generalize bO (al l) q cJ=t at*;have hW0:gQ t≠6:=fun q=>by omega
   rcases h5 with rfl|rfl|rfl|rfl|rfl
   all_goals
    repeat'((conv=>whnf);first|with_reducible refine cM ?_ (fun h=>?_) fun h=>?_|apply af|(apply gI<;>intro h))
    all_goals try conv=>whnf
    all_goals try(refine ae.mk ?_;try dsimp only)
    all_goals try
     (refine⟨[],m,⟨by omega,by omega,?_⟩,?_,by omega⟩
      . have hn:¬t=_:=fun q=>absurd q.symm (by assumption);simp only[<-hW.1,<-hW.2.1,<-hW.2.2.1,<-hW.2.2.2.1] at hn;omega
      . subst hm;apply ay<;>(repeat' first|trivial)
        done)
   all_goals skip
   . rw[hV,hW.1.2 (by symm;assumption)];refine ab.mk [] ?_<;>(repeat' first|trivial)
   . rw[hV,hW.2.1.2 (by symm;assumption)];refine ab.mk [] ?_<;>(repeat' first|trivial)
   . rw[hV,hW.2.2.1.2 (by symm;assumption)];refine ab.mk [] ?_<;>(repeat' first|trivial)
   . rw[hV,hW.2.2.2.1.2 (by symm;assumption)];refine ab.mk [] ?_<;>(repeat' first|trivial)
   . exact hc (by rw[if_pos (by omega)];decide)
   . exact absurd (by decide) ‹¬(7:Int)≠0›
 . rw[zk_b (GN (by assumption))];refine ab.mk [] ?_<;>(repeat' first|trivial)
theorem WH(c:Bool) (l:List V) (q:Int) (hp:cR l) (hc:gP (al l) q≠0):jq 18 ([.agg [.list c 4 l,.int .i64 q]]) ([]) (.iface 58 (.int .i64 (gP (al l) q))) (none):=by
 refine jA (C:=gE [(47,Bk)] [(45,j7),(42,mT)]) (ig ⟨Kl,trivial⟩ ⟨jx,oq,trivial⟩) (fn:=Tryz.f18) rfl rfl rfl rfl fun hw hs=>?_;repeat'((conv=>whnf);first|with_reducible refine cM ?_ (fun h=>?_) fun h=>?_|apply af|apply fE|apply aK)
 all_goals try conv=>whnf
 all_goals try(refine ae.mk ?_;try dsimp only)
 . exact hp
 . rw[zk_1 (by assumption)]
 . (refine bC.mk [] ?_<;>(repeat' first|trivial|rfl|apply ah);done)
 . exact zk_d (by assumption) hc
 . have hb:=zk_d (by assumption) hc;obtain⟨hE,hV⟩:=zk_c (L:=al l) (q:=q) (by assumption) hb;rw[hE] at hc;have hW:=O0 (bO (al l) q cJ);refine aZ.mk Nat (fun i=>2<=i/\i<=6/\(gQ (bO (al l) q cJ) =0\/(i:Int)<=gQ (bO (al l) q cJ))) (fun i=>⟨23,[(3,.str (bO (al l) q cJ)),(5,.int .i64 i)],[],[]⟩) (fun i=>6-i) [] 2 ⟨cb _,by decide,by omega⟩ ?_ (fun i ⟨h2,h6,hi⟩ _ _=>?_)
   . apply ay<;>(repeat' first|trivial)
   obtain⟨m,hm⟩:∃m,m=i+1:=⟨_,rfl⟩
   have h5:i=2\/i=3\/i=4\/i=5\/i=6:=by omega
   generalize bO (al l) q cJ=t at*;have hW0:gQ t≠6:=fun q=>by omega
   rcases h5 with rfl|rfl|rfl|rfl|rfl
   all_goals
    repeat'((conv=>whnf);first|with_reducible refine cM ?_ (fun h=>?_) fun h=>?_|apply af|(apply gI<;>intro h))
    all_goals try conv=>whnf
    all_goals try(refine ae.mk ?_;try dsimp only)
    all_goals try
     (refine⟨[],m,⟨by omega,by omega,?_⟩,?_,by omega⟩
      . have hn:¬t=_:=fun q=>absurd q.symm (by assumption);simp only[<-hW.1,<-hW.2.1,<-hW.2.2.1,<-hW.2.2.2.1] at hn;omega
      . subst hm;apply ay<;>(repeat' first|trivial)
        done)
   all_goals skip
   . exact hc (if_neg (by rw[hW.1.2 (by symm;assumption)];decide))
   . exact hc (if_neg (by rw[hW.2.1.2 (by symm;assumption)];decide))
   . exact hc (if_neg (by rw[hW.2.2.1.2 (by symm;assumption)];decide))
   . exact hc (if_neg (by rw[hW.2.2.2.1.2 (by symm;assumption)];decide))
   . rw[hE,if_pos (by omega)]
   . (refine bC.mk [] ?_<;>(repeat' first|trivial|rfl|apply ah);done)
   . exact absurd (by decide) ‹¬(7:Int)≠0›
def E9:dL:=fun args σ=>match args,σ with
 |[.agg [.list c 4 l,.int .i64 q]],[]=>some (cR l,gP (al l) q≠0,.iface 58 (.int .i64 (gP (al l) q)),none,.int .i64 (gp (al l) q),none)
 |_,_=>none
theorem V5:dX 18 (E9):=by
 intro args sg pre c u r x r2 he hp;unfold E9 at he;split at he<;>cases he
 . exact⟨fun hc=>⟨_,rfl,WH (hp:=hp) (hc:=hc) ..⟩,fun hc=>Sq (hp:=hp) (hc:=hc) ..⟩
theorem zh_1{L:List Nd} {q:Int} (h:eS L q bz≠0):gO L q=eS L q bz:=if_pos h
theorem zh_2{L:List Nd} {q:Int} (h:¬eS L q bz≠0) (h2:eS L q eP≠0):gO L q=eS L q eP:=by
 unfold gO;rw[dO,if_neg h,dO,if_pos h2]
theorem Gz{L:List Nd} {q:Int} (h:¬eS L q bz≠0) (h2:¬eS L q eP≠0):gO L q=(dn (fw L q bz) (fw L q eP)).1:=by
 unfold gO;rw[dO,if_neg h,dO,if_neg h2,dO,mI];show(if(dn (fw L q bz) (fw L q eP)).1≠0 then _ else(0:Int)) =_;split
 . rfl
 . omega
theorem SH(c:Bool) (l:List V) (q:Int) (x0 x1 x2 x3 x4 x5 x6 x7 x8 x9 x10 x11 x12 x13 x14 x15 x16 x17 x18 x19 x20 x21 x22 x23 x24 x25 x26 x27 x28 x29 x30 x31 kd s0 e0 cd:Int) (st nm nt:gA) (c1 c2 c3:Bool) (z1 z2 z3:Nat) (l1 l2 l3:List V) (hp:cR l) (hc:¬(gO (al l) q≠0)):OK 19 ([.agg [.list c 4 l,.int .i64 q],.ptr 0 0]) ([.cells (.int .u8 x0::.int .u8 x1::.int .u8 x2::.int .u8 x3::.int .u8 x4::.int .u8 x5::.int .u8 x6::.int .u8 x7::.int .u8 x8::.int .u8 x9::.int .u8 x10::.int .u8 x11::.int .u8 x12::.int .u8 x13::.int .u8 x14::.int .u8 x15::.int .u8 x16::.int .u8 x17::.int .u8 x18::.int .u8 x19::.int .u8 x20::.int .u8 x21::.int .u8 x22::.int .u8 x23::.int .u8 x24::.int .u8 x25::.int .u8 x26::.int .u8 x27::.int .u8 x28::.int .u8 x29::.int .u8 x30::.int .u8 x31::.str st::.str nm::.int .i64 kd::.int .u64 s0::.int .u64 e0::.list c1 z1 l1::.list c2 z2 l2::.list c3 z3 l3::.int .i64 cd::.str nt::[])]) (.tuple []) (some [.cells (.int .u8 x0::.int .u8 x1::.int .u8 x2::.int .u8 x3::.int .u8 x4::.int .u8 x5::.int .u8 x6::.int .u8 x7::.int .u8 x8::.int .u8 x9::.int .u8 x10::.int .u8 x11::.int .u8 x12::.int .u8 x13::.int .u8 x14::.int .u8 x15::.int .u8 x16::.int .u8 x17::.int .u8 x18::.int .u8 x19::.int .u8 x20::.int .u8 x21::.int .u8 x22::.int .u8 x23::.int .u8 x24::.int .u8 x25::.int .u8 x26::.int .u8 x27::.int .u8 x28::.int .u8 x29::.int .u8 x30::.int .u8 x31::.str st::.str nm::.int .i64 kd::.int .u64 (dm (al l) q).2.1::.int .u64 (dm (al l) q).2.2::.list c1 z1 l1::.list c2 z2 l2::.list c3 z3 l3::.int .i64 cd::.str nt::[])]):=by
 refine aq (C:=gE [(49,Bb)] [(45,j7),(48,uF)]) (ig ⟨Kb,trivial⟩ ⟨jx,zB,trivial⟩) (fn:=Tryz.f19) fun hw hs=>?_;repeat'((conv=>whnf);first|with_reducible refine cM ?_ (fun h=>?_) fun h=>?_|apply af)
 all_goals try conv=>whnf
 all_goals try(refine ae.mk ?_;try dsimp only)
 all_goals try exact hp
 . exact hc (by rw[zh_1 (by assumption)];assumption)
 . exact hc (by rw[zh_2 (by assumption) (by assumption)];assumption)
 . exact hc (by rw[Gz (by assumption) (by assumption)];assumption)
 . refine ab.mk [] ?_<;>(repeat' first|trivial)
theorem WQ(c:Bool) (l:List V) (q:Int) (x0 x1 x2 x3 x4 x5 x6 x7 x8 x9 x10 x11 x12 x13 x14 x15 x16 x17 x18 x19 x20 x21 x22 x23 x24 x25 x26 x27 x28 x29 x30 x31 kd s0 e0 cd:Int) (st nm nt:gA) (c1 c2 c3:Bool) (z1 z2 z3:Nat) (l1 l2 l3:List V) (hp:cR l) (hc:gO (al l) q≠0):jq 19 ([.agg [.list c 4 l,.int .i64 q],.ptr 0 0]) ([.cells (.int .u8 x0::.int .u8 x1::.int .u8 x2::.int .u8 x3::.int .u8 x4::.int .u8 x5::.int .u8 x6::.int .u8 x7::.int .u8 x8::.int .u8 x9::.int .u8 x10::.int .u8 x11::.int .u8 x12::.int .u8 x13::.int .u8 x14::.int .u8 x15::.int .u8 x16::.int .u8 x17::.int .u8 x18::.int .u8 x19::.int .u8 x20::.int .u8 x21::.int .u8 x22::.int .u8 x23::.int .u8 x24::.int .u8 x25::.int .u8 x26::.int .u8 x27::.int .u8 x28::.int .u8 x29::.int .u8 x30::.int .u8 x31::.str st::.str nm::.int .i64 kd::.int .u64 s0::.int .u64 e0::.list c1 z1 l1::.list c2 z2 l2::.list c3 z3 l3::.int .i64 cd::.str nt::[])]) (.iface 58 (.int .i64 (gO (al l) q))) (none):=by
 refine jA (C:=gE [(49,Bb)] [(45,j7),(48,uF)]) (ig ⟨Kb,trivial⟩ ⟨jx,zB,trivial⟩) (fn:=Tryz.f19) rfl rfl rfl rfl fun hw hs=>?_;repeat'((conv=>whnf);first|with_reducible refine cM ?_ (fun h=>?_) fun h=>?_|apply af)
 all_goals try conv=>whnf
 all_goals try(refine ae.mk ?_;try dsimp only)
 all_goals try exact hp
 . rw[zh_1 (by assumption)]
 . (refine bC.mk [] ?_<;>(repeat' first|trivial|rfl|apply ah);done)
 . rw[zh_2 (by assumption) (by assumption)]
 . (refine bC.mk [] ?_<;>(repeat' first|trivial|rfl|apply ah);done)
 . rw[Gz (by assumption) (by assumption)]
 . (refine bC.mk [] ?_<;>(repeat' first|trivial|rfl|apply ah);done)
 . exact absurd (by rw[Gz (by assumption) (by assumption)];exact Decidable.not_not.1 (by assumption)) hc
def Eg:dL:=fun args σ=>match args,σ with
 |[.agg [.list c 4 l,.int .i64 q],.ptr 0 0],[.cells (.int .u8 x0::.int .u8 x1::.int .u8 x2::.int .u8 x3::.int .u8 x4::.int .u8 x5::.int .u8 x6::.int .u8 x7::.int .u8 x8::.int .u8 x9::.int .u8 x10::.int .u8 x11::.int .u8 x12::.int .u8 x13::.int .u8 x14::.int .u8 x15::.int .u8 x16::.int .u8 x17::.int .u8 x18::.int .u8 x19::.int .u8 x20::.int .u8 x21::.int .u8 x22::.int .u8 x23::.int .u8 x24::.int .u8 x25::.int .u8 x26::.int .u8 x27::.int .u8 x28::.int .u8 x29::.int .u8 x30::.int .u8 x31::.str st::.str nm::.int .i64 kd::.int .u64 s0::.int .u64 e0::.list c1 z1 l1::.list c2 z2 l2::.list c3 z3 l3::.int .i64 cd::.str nt::[])]=>some (cR l,gO (al l) q≠0,.iface 58 (.int .i64 (gO (al l) q)),none,.tuple [],some [.cells (.int .u8 x0::.int .u8 x1::.int .u8 x2::.int .u8 x3::.int .u8 x4::.int .u8 x5::.int .u8 x6::.int .u8 x7::.int .u8 x8::.int .u8 x9::.int .u8 x10::.int .u8 x11::.int .u8 x12::.int .u8 x13::.int .u8 x14::.int .u8 x15::.int .u8 x16::.int .u8 x17::.int .u8 x18::.int .u8 x19::.int .u8 x20::.int .u8 x21::.int .u8 x22::.int .u8 x23::.int .u8 x24::.int .u8 x25::.int .u8 x26::.int .u8 x27::.int .u8 x28::.int .u8 x29::.int .u8 x30::.int .u8 x31::.str st::.str nm::.int .i64 kd::.int .u64 (dm (al l) q).2.1::.int .u64 (dm (al l) q).2.2::.list c1 z1 l1::.list c2 z2 l2::.list c3 z3 l3::.int .i64 cd::.str nt::[])])
 |_,_=>none
theorem V9:dX 19 (Eg):=by
 intro args sg pre c u r x r2 he hp;unfold Eg at he;split at he<;>cases he
 . exact⟨fun hc=>⟨_,rfl,WQ (hp:=hp) (hc:=hc) ..⟩,fun hc=>SH (hp:=hp) (hc:=hc) ..⟩
theorem zs_1{L:List Nd} {q:Int} {key:Ky} (h:km L q key≠0):er L q key=km L q key:=if_pos h
theorem BT{L:List Nd} {q:Int} {key:Ky} (h:¬km L q key≠0) (hb:jn L q key=true):er L q key=c8 L (cB L q key) jw/\cV L q key=bO L (cB L q key) jw:=by
 unfold er cV;rw[dO,if_neg h,dO,mI,hb];refine⟨?_,rfl⟩;show(if c8 L (cB L q key) jw≠0 then _ else(0:Int)) =_;split
 . rfl
 . omega
theorem zs_3{L:List Nd} {q:Int} {key:Ky} (h:¬km L q key≠0) (hb:jn L q key=false):er L q key=0/\cV L q key=[]:=by
 unfold er cV;rw[dO,if_neg h,dO,mI,hb];exact⟨rfl,rfl⟩
theorem GM{L:List Nd} {q:Int} {key:Ky} (h:¬km L q key≠0) (hc:er L q key≠0):jn L q key=true:=by
 cases hB:jn L q key with
 |true=>rfl
 |false=>exact absurd (zs_3 h hB).1 hc
theorem SB(c:Bool) (l:List V) (q:Int) (key:gA) (hp:cR l) (hc:¬(er (al l) q key≠0)):OK 20 ([.agg [.list c 4 l,.int .i64 q],.str key]) ([]) (.str (cV (al l) q key)) (none):=by
 refine aq (C:=gE [(50,uQ)] [(45,j7),(42,mT)]) (ig ⟨zm,trivial⟩ ⟨jx,oq,trivial⟩) (fn:=Tryz.f20) fun hw hs=>?_;repeat'((conv=>whnf);first|with_reducible refine cM ?_ (fun h=>?_) fun h=>?_|apply af|apply aK|(apply av<;>intro h))
 all_goals try conv=>whnf
 all_goals try(refine ae.mk ?_;try dsimp only)
 all_goals try first
  |exact hp.1
  |exact hp
 . exact hc (by rw[zs_1 (by assumption)];assumption)
 . exact hc (by rw[(BT (by assumption) (GL (by assumption))).1];assumption)
 . rw[(BT (by assumption) (GL (by assumption))).2];refine ab.mk [] ?_<;>(repeat' first|trivial)
 . rw[(zs_3 (by assumption) (O2 (by assumption))).2];refine ab.mk [] ?_<;>(repeat' first|trivial)
theorem WK(c:Bool) (l:List V) (q:Int) (key:gA) (hp:cR l) (hc:er (al l) q key≠0):jq 20 ([.agg [.list c 4 l,.int .i64 q],.str key]) ([]) (.iface 58 (.int .i64 (er (al l) q key))) (none):=by
 refine jA (C:=gE [(50,uQ)] [(45,j7),(42,mT)]) (ig ⟨zm,trivial⟩ ⟨jx,oq,trivial⟩) (fn:=Tryz.f20) rfl rfl rfl rfl fun hw hs=>?_;repeat'((conv=>whnf);first|with_reducible refine cM ?_ (fun h=>?_) fun h=>?_|apply af|apply fE|apply aK)
 all_goals try conv=>whnf
 all_goals try(refine ae.mk ?_;try dsimp only)
 all_goals try first
  |exact hp.1
  |exact hp
 . rw[zs_1 (by assumption)];rfl
 . (refine bC.mk [] ?_<;>(repeat' first|trivial|rfl|apply ah);done)
 . exact GM (by assumption) hc
 . rw[(BT (by assumption) (GM (by assumption) hc)).1];rfl
 . (refine bC.mk [] ?_<;>(repeat' first|trivial|rfl|apply ah);done)
 . exact absurd (by rw[(BT (by assumption) (GM (by assumption) hc)).1];exact Decidable.not_not.1 (by assumption)) hc
def Ed:dL:=fun args σ=>match args,σ with
 |[.agg [.list c 4 l,.int .i64 q],.str key],[]=>some (cR l,er (al l) q key≠0,.iface 58 (.int .i64 (er (al l) q key)),none,.str (cV (al l) q key),none)
 |_,_=>none
theorem V7:dX 20 (Ed):=by
 intro args sg pre c u r x r2 he hp;unfold Ed at he;split at he<;>cases he
 . exact⟨fun hc=>⟨_,rfl,WK (hp:=hp) (hc:=hc) ..⟩,fun hc=>SB (hp:=hp) (hc:=hc) ..⟩
end Go.Proofs.YtchllohbglebiaaGreatDoor
