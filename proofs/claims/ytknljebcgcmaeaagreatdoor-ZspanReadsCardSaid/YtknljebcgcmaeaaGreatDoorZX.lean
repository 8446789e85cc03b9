/-
  A part of the proof.
-/
import Derived.Test.YtknljebcgcmaeaaGreatDoorZSj
import Derived.Test.YtknljebcgcmaeaaGreatDoorZSo
import Derived.Test.YtknljebcgcmaeaaGreatDoorZSu
import Derived.Test.YtknljebcgcmaeaaGreatDoorTRo
set_option linter.unusedSimpArgs false
set_option linter.unusedVariables false
set_option maxHeartbeats 4000000
set_option maxRecDepth 100000
namespace Go.Proofs.YtknljebcgcmaeaaGreatDoor
open Go Go.VG
theorem KB{l:List az} {i:Nat} (h:i<l.length):l.getD i default=l[i]:=by
 rw[ac,am h];rfl
theorem get_at{l:List az} {key:Ky} {i:Nat} (h:eN l) (hi:i<l.length) (e:(l.getD i default).key=key):less l key=i:=by
 rcases Nat.lt_trichotomy (less l key) i with q|q|q
 . have h1:=CM (l:=l) (k:=key) (by omega);have h2:=List.pairwise_iff_getElem.1 h (less l key) i (by omega) hi q;rw[KB (by omega)] at h1;rw[KB hi] at e;rw[e] at h2;exact absurd h2 h1
 . exact q
 . have h1:=CP q;rw[e] at h1;exact absurd h1 (rk _)
theorem J0{l:List az} {key:Ky} {i:Nat} (h:eN l) (hi:i<l.length) (e:(l.getD i default).key=key):fI l key=true/\iT l key=(l.getD i default).value:=by
 have h1:=get_at h hi e;have h2:fI l key=true:=decide_eq_true (by rw[h1];exact⟨hi,e⟩);exact⟨h2,by unfold iT;rw[if_pos h2,h1]⟩
theorem S7{l:List az} {key:Ky} (h:∀j,j<l.length->(l.getD j default).key≠key):fI l key=false/\iT l key=default:=by
 have h2:fI l key=false:=decide_eq_false fun q=>h _ q.1 q.2;exact⟨h2,by unfold iT;rw[if_neg (by rw[h2];exact Bool.false_ne_true)]⟩
theorem Ix(l:List az) (key:Ky) (hl:l.length<=1000000) (hr:eN l):OK 78 [.list false 7 (aS l),.str key] [] (.tuple [ev (iT l key),.bool (fI l key)]) none:=by
 by_cases hh:fI l key=true
 . refine ai (C:=cx []) (ak trivial) (fn:=Tryz.f78) fun hw _=>?_;have e1:=cY l;refine aM.mk Nat (fun i=>i<=l.length/\∀j,j<i->(l.getD j default).key≠key) (fun i=>⟨26,[(0,.list false 7 (aS l)),(1,.str key),(4,.ptr 0 0),(6,.int .i64 i)],[.cells [.int .u8 0,.str [],.int .i64 0,.int .u64 0,.list true 0 [],.list true 0 []]],[]⟩) (fun i=>l.length-i) [] 0 ⟨ci _,fun _ h=>by omega⟩ ?_ (fun i ⟨hi,hj⟩ _ _=>?_)
   . apply ao<;>(repeat' first|trivial)
   have hg:=fun h=>J0 (i:=i) (key:=key) hr h;repeat'((conv=>whnf);first|apply af|((first|apply aj|apply dr)<;>intro h)|with_reducible refine mM ?_ ?_)
   all_goals try conv=>whnf
   all_goals try(refine ae.mk ?_;try dsimp only)
   all_goals first|refine stay ?_|omega|skip
   . obtain⟨g1,g2⟩:=hg (by omega) (by assumption);rw[g1,g2];refine ab.mk [] ?_<;>(repeat' first|trivial)
   . have he:(l.getD i default).key≠key:=by assumption
     refine⟨[],i+1,⟨by omega,fun j q=>?_⟩,?_,by omega⟩
     . by_cases z:j=i
       . subst z;exact he
       . exact hj j (by omega)
     . apply ao<;>(repeat' first|trivial|apply ah|apply aC)
       (simp(discharger:=omega) only[wR];omega)
   . exfalso;rw[(S7 fun j q=>hj j (by omega)).1] at hh;cases hh
 . refine eH.res (x:=.tuple [.agg [.int .u8 0,.str [],.int .i64 0,.int .u64 0,.list true 0 [],.list true 0 []],.bool false]) ?_ ?_
   . refine ai (C:=cx []) (ak trivial) (fn:=Tryz.f78) fun hw _=>?_;have e1:=cY l;refine aM.mk Nat (fun i=>i<=l.length/\∀j,j<i->(l.getD j default).key≠key) (fun i=>⟨26,[(0,.list false 7 (aS l)),(1,.str key),(4,.ptr 0 0),(6,.int .i64 i)],[.cells [.int .u8 0,.str [],.int .i64 0,.int .u64 0,.list true 0 [],.list true 0 []]],[]⟩) (fun i=>l.length-i) [] 0 ⟨ci _,fun _ h=>by omega⟩ ?_ (fun i ⟨hi,hj⟩ _ _=>?_)
     . apply ao<;>(repeat' first|trivial)
     have hg:=fun h=>J0 (i:=i) (key:=key) hr h;repeat'((conv=>whnf);first|apply af|((first|apply aj|apply dr)<;>intro h)|with_reducible refine mM ?_ ?_)
     all_goals try conv=>whnf
     all_goals try(refine ae.mk ?_;try dsimp only)
     all_goals first|refine stay ?_|omega|skip
     . exact absurd (hg (by omega) (by assumption)).1 hh
     . have he:(l.getD i default).key≠key:=by assumption
       refine⟨[],i+1,⟨by omega,fun j q=>?_⟩,?_,by omega⟩
       . by_cases z:j=i
         . subst z;exact he
         . exact hj j (by omega)
       . apply ao<;>(repeat' first|trivial|apply ah|apply aC)
         (simp(discharger:=omega) only[wR];omega)
     . refine ab.mk [] ?_<;>(repeat' first|trivial)
   . rw[show iT l key=default from if_neg hh,show fI l key=false by simpa using hh];exact Wk.tuple (aP.cons (Wk.agg (aP.cons (Wk.refl _) (aP.cons (Wk.refl _) (aP.cons (Wk.refl _) (aP.cons (Wk.refl _) (aP.cons (Wk.nil (.inl rfl)) (aP.cons (Wk.nil (.inl rfl)) aP.nil))))))) (aP.cons (Wk.refl _) aP.nil))
def Ah:Sm:=fun args σ=>match args,σ with
 |[.agg [.int .u8 1,.str t,.int .i64 n,.int .u64 b,.list c1 z1 l,.list c2 z2 m]],[]=>some (True,.str t,none)
 |[.agg [.int .u8 0,.str [],.int .i64 n,.int .u64 b,.list c1 z1 l,.list c2 z2 m]],[]=>some (True,.str [],none)
 |_,_=>none
theorem Kh:aq 172 Ah:=by
 intro args sg pre x r he hp;unfold Ah at he;split at he<;>cases he
 . rename_i t n b c1 z1 l c2 z2 m;refine ai (C:=cx []) (ak trivial) (fn:=Tryz.f172) fun hw hs=>?_;all_goals try conv=>whnf
   all_goals try(refine ae.mk ?_;try dsimp only)
   refine ab.mk [] ?_<;>(repeat' first|trivial)
 . rename_i n b c1 z1 l c2 z2 m;refine ai (C:=cx []) (ak trivial) (fn:=Tryz.f172) fun hw hs=>?_;all_goals try conv=>whnf
   all_goals try(refine ae.mk ?_;try dsimp only)
   refine ab.mk [] ?_<;>(repeat' first|trivial)
def Af:Sm:=fun args σ=>match args,σ with
 |[.agg [.int .u8 1,.str t,.int .i64 n,.int .u64 b,.list c1 z1 l,.list c2 z2 m]],[]=>some (True,.str t,none)
 |[.agg [.int .u8 0,.str [],.int .i64 n,.int .u64 b,.list c1 z1 l,.list c2 z2 m]],[]=>some (True,.str [],none)
 |_,_=>none
theorem Kg:aq 128 Af:=by
 intro args sg pre x r he hp;unfold Af at he;split at he<;>cases he
 . rename_i t n b c1 z1 l c2 z2 m;refine ai (C:=cx [(172,Ah)]) (ak ⟨Kh,trivial⟩) (fn:=Tryz.f128) fun hw hs=>?_;repeat'((conv=>whnf);apply af)
   all_goals try conv=>whnf
   all_goals try(refine ae.mk ?_;try dsimp only)
   refine ab.mk [] ?_<;>(repeat' first|trivial)
 . rename_i n b c1 z1 l c2 z2 m;refine ai (C:=cx [(172,Ah)]) (ak ⟨Kh,trivial⟩) (fn:=Tryz.f128) fun hw hs=>?_;repeat'((conv=>whnf);apply af)
   all_goals try conv=>whnf
   all_goals try(refine ae.mk ?_;try dsimp only)
   refine ab.mk [] ?_<;>(repeat' first|trivial)
theorem QU(l:List az) (key:Ky) (hl:l.length<=1000000) (hr:eN l) (ht:iu l):OK 79 [.list false 7 (aS l),.str key] [] (.str (gb l key)) none:=by
 have hg:aq 78 (pY l key (iT l key)):=by
  intro args sg pre x r he hp;unfold pY at he;split at he<;>cases he;rw[hp.1,hp.2];exact Ix l key hl hr
 have hv:=Nb ht key;unfold gb;generalize iT l key=v at*;obtain⟨k,t,n,b,L,M⟩:=v;rcases hv with h|h
 . have h:k=1:=h;subst h;refine ai (C:=cx [(78,pY l key (.mk 1 t n b L M)),(128,Af)]) (ak ⟨hg,Kg,trivial⟩) (fn:=Tryz.f79) fun hw _=>?_;repeat'((conv=>whnf);apply af)
   all_goals try conv=>whnf
   all_goals try(refine ae.mk ?_;try dsimp only)
   . exact⟨rfl,rfl⟩
   . refine ab.mk [] ?_<;>(repeat' first|trivial)
 . cases h;refine ai (C:=cx [(78,pY l key default),(128,Af)]) (ak ⟨hg,Kg,trivial⟩) (fn:=Tryz.f79) fun hw _=>?_;repeat'((conv=>whnf);apply af)
   all_goals try conv=>whnf
   all_goals try(refine ae.mk ?_;try dsimp only)
   . exact⟨rfl,rfl⟩
   . refine ab.mk [] ?_<;>(repeat' first|trivial)
def zB(m:List az->Ky->V) (p:List az->Prop):Sm:=fun args σ=>match args,σ with
 |[.list false 7 x,.str key],[]=>some (p4 x/\p (bJ x),m (bJ x) key,none)
 |_,_=>none
theorem Mv{f:Nat} {m:List az->Ky->V} {p:List az->Prop} (h:∀l key,l.length<=1000000->eN l->p l->OK f [.list false 7 (aS l),.str key] [] (m l key) none):aq f (zB m p):=by
 intro args sg pre x r he hp;unfold zB at he;split at he<;>cases he;obtain⟨⟨h1,h2,h3⟩,ht⟩:=hp;have h4:=congrArg List.length h1;rw[cY] at h4;have:=h _ ‹Ky› (by omega) h3 ht;rw[<-h1] at this;exact this
-- #name r26Get truchmanref26.Get
-- #name r26Text truchmanref26.Text
def MC:Sm:=zB (fun l key=>.tuple [ev (iT l key),.bool (fI l key)]) fun _=>True
def MD:Sm:=zB (fun l key=>.str (gb l key)) iu
theorem U7:aq 78 MC:=Mv fun l key h1 h2 _=>Ix l key h1 h2
theorem U8:aq 79 MD:=Mv fun l key h1 h2 h3=>QU l key h1 h2 h3
def zz:Sm:=fun args σ=>match args,σ with
 |[.list false 7 x,.list c 1 y],[]=>some ((x=aS (bJ x)/\x.length<=1000000)/\StM y,.list false 7 (aS (eQ (bJ x) (y.map kz))),none)
 |_,_=>none
theorem Mu{f:Nat} (h:∀l c ks,l.length<=1000000->ks.length<=1000000->OK f [.list false 7 (aS l),.list c 1 (ks.map V.str)] [] (.list false 7 (aS (eQ l ks))) none):aq f zz:=by
 intro args sg pre x r he hp;unfold zz at he;split at he<;>cases he;obtain⟨⟨h1,h2⟩,h3,h4⟩:=hp;rename_i x c y;have h5:=congrArg List.length h1;rw[cY] at h5;have:=h (bJ x) c (y.map kz) (by omega) (by rw[aB];exact h4);rw[<-h1,<-h3] at this;exact this
-- #name atDrop attrs.Drop
-- #name r26Drop truchmanref26.Drop
def DV:Sm:=zz
def MB:Sm:=zz
theorem JH:aq 23 DV:=Mu fun l c ks=>Pn l c ks
theorem U6:aq 33 MB:=Mu fun l c ks=>QT l c ks
def zD:Sm:=fun args σ=>match args,σ with
 |[.list false 7 x,.str key,y],[]=>some (p4 x/\pM y,.list false 7 (aS (cZ (bJ x) (.mk key (lR y)))),none)
 |_,_=>none
-- #name atPut attrs.Put
theorem JI:aq 24 zD:=by
 intro args sg pre x r he hp;unfold zD at he;split at he<;>cases he;obtain⟨⟨h1,h2,h3⟩,hv⟩:=hp;rename_i x key y;have h4:=congrArg List.length h1;rw[cY] at h4;have:=Pp (bJ x) key (lR y) (by omega) h3;rw[<-h1] at this;exact this.args (aP.cons (Wk.refl _) (aP.cons (Wk.refl _) (aP.cons hv aP.nil)))
section
variable {l:List az}
abbrev vI(l:List az) (k:Ky):Prop:=less l k<l.length/\(l.getD (less l k) default).key=k
theorem Au(h:vI l eY):mZ l=2/\n5 l=gb l eY:=by
 have e:fI l eY=true:=decide_eq_true h;unfold mZ n5;rw[e];exact⟨rfl,rfl⟩
theorem uw(h:¬vI l eY):(mZ l=if gb l jo=AI then 2 else if gb l jo=rU then 1 else 0)/\n5 l=[]:=by
 have e:fI l eY=false:=decide_eq_false h;unfold mZ n5;rw[e];exact⟨rfl,rfl⟩
theorem Av(h:¬vI l eY) (h2:gb l jo=AI):mZ l=2/\n5 l=[]:=⟨(uw h).1.trans (if_pos h2),(uw h).2⟩
theorem Aw(h:¬vI l eY) (h2:gb l jo=rU):mZ l=1/\n5 l=[]:=⟨by rw[(uw h).1,h2];decide,(uw h).2⟩
theorem Ax(h:¬vI l eY) (h2:¬gb l jo=AI) (h3:¬gb l jo=rU):mZ l=0/\n5 l=[]:=⟨by rw[(uw h).1,if_neg h2,if_neg h3],(uw h).2⟩
end
def FW:Sm:=fun args σ=>match args,σ with
 |[.list false 7 x],[]=>some (p4 x/\iu (bJ x),.agg [.int .i64 (mZ (bJ x)),.str (n5 (bJ x))],none)
 |_,_=>none
theorem Uy:aq 22 FW:=by
 intro args sg pre x r he hp;unfold FW at he;split at he<;>cases he
 . rename_i x;refine ai (C:=cx [(65,DW),(44,wM)]) (ak ⟨SE,Cp,trivial⟩) (fn:=Tryz.f22) fun hw hs=>?_;obtain⟨hR,ht⟩:=hp;repeat'((conv=>whnf);first|apply af|((first|apply aj|apply dr)<;>intro h))
   all_goals try conv=>whnf
   all_goals try(refine ae.mk ?_;try dsimp only)
   . exact hR
   . exact⟨hR,ht⟩
   . rw[(Au (l:=bJ x) (by assumption)).1,(Au (l:=bJ x) (by assumption)).2];refine ab.mk [] ?_<;>(repeat' first|trivial)
   . rw[(Av (l:=bJ x) (by assumption) (by assumption)).1,(Av (l:=bJ x) (by assumption) (by assumption)).2];refine ab.mk [] ?_<;>(repeat' first|trivial)
   . rw[(Aw (l:=bJ x) (by assumption) (by assumption)).1,(Aw (l:=bJ x) (by assumption) (by assumption)).2];refine ab.mk [] ?_<;>(repeat' first|trivial)
   . rw[(Ax (l:=bJ x) (by assumption) (by assumption) (by assumption)).1,(Ax (l:=bJ x) (by assumption) (by assumption) (by assumption)).2];refine ab.mk [] ?_<;>(repeat' first|trivial)
theorem zas0' (w:World):(Instr.typeAssert .nilIface 20 57 true).run Tryz.prog w=.ok (.tuple #[.int .i64 0,.bool false]) w:=by rfl
theorem zas1' (n:Int) (w:World):(Instr.typeAssert (.iface 57 (.int .i64 n)) 20 57 true).run Tryz.prog w=.ok (.tuple #[.int .i64 n,.bool true]) w:=by rfl
theorem zas0{ev:Operand->Value} {o:Oper} {x:Operand} (ho:o.op=.typeAssert x 20 57 true) (hx:ev x=.nilIface) (w:World):(execOp ev o).run Tryz.prog w=.ok (.value (.tuple #[.int .i64 0,.bool false])) w:=by
 simp only[execOp,ho,hx,Sem.run_bind,zas0',Result.andThen_ok,Sem.run_pure]
theorem zas1{ev:Operand->Value} {o:Oper} {x:Operand} {n:Int} (ho:o.op=.typeAssert x 20 57 true) (hx:ev x=.iface 57 (.int .i64 n)) (w:World):(execOp ev o).run Tryz.prog w=.ok (.value (.tuple #[.int .i64 n,.bool true])) w:=by
 simp only[execOp,ho,hx,Sem.run_bind,zas1',Result.andThen_ok,Sem.run_pure]
theorem GH(v1 v2 v3:Value):[v1,v2,v3].toArray++Array.replicate (13-[v1,v2,v3].toArray.size) undef=#[v1,v2,v3,undef,undef,undef,undef,undef,undef,undef,undef,undef,undef]:=by rfl
abbrev zTm(b:Bool) (n:Int):List (Nat×V):=[(4,.bool b),(3,.int .i64 n),(2,.ptr 2 0),(1,.ptr 1 0),(0,.ptr 0 0)]
theorem GU{v1 v2 v3 y4 y5 y6 y7 y8:Value} {n:Int} {b:Bool} (hn:-9223372036854775808<=n/\n<=9223372036854775807):∀(st:St) (g:aw) (n':Nat),aE st g [.ptr 0 0,.ptr 1 0,.ptr 2 0] n' [v1,v2,v3]->∀t,VR st g (lk (zTm b n) t) n' ((#[v1,v2,v3,.int .i64 n,.bool b,y4,y5,y6,y7,y8,undef,undef,undef]:Array Value).getD t undef):=by
 intro st g n' hv t;obtain⟨x1,q1,q2⟩:=jA hv (i:=0) rfl;obtain⟨x2,q3,q4⟩:=jA hv (i:=1) rfl;obtain⟨x3,q5,q6⟩:=jA hv (i:=2) rfl;cases q1;cases q3;cases q5
 match t with
 |0=>exact q2
 |1=>exact q4
 |2=>exact q6
 |3=>exact⟨rfl,hn⟩
 |4=>rfl
 |t+5=>trivial
abbrev qh(n:Int):Value:=.iface 57 (.int .i64 n)
theorem xj(σ:List O) (hσ:ga σ σ σ.length):qj Tryz.prog gE 15 [.ptr 0 0,.ptr 1 0,.ptr 2 0] σ none σ:=by
 refine uZ (C:=cx []) (ak trivial) (cfn:=Tryz.f15) (tm:=zTm false 0) rfl rfl rfl rfl (fun vs w c₀ cs Q hl hu h=>?_) ?_
 . obtain⟨v1,v2,v3,rfl⟩:∃v1 v2 v3,vs=[v1,v2,v3]:=by
     match vs,hl with
     |[v1,v2,v3],_=>exact⟨v1,v2,v3,rfl⟩
   rw[show Tryz.f15.ntmps=13 from rfl] at h⊢;rw[GH];apply wpSIn_region;show wpOpsSIn Fence.wide 0 Tryz.prog _ _ _ _ _ _;refine ME rfl rfl rfl (by simp[recoverD,hu,kh]) ?_;refine eh (v:=.tuple #[.int .i64 0,.bool false]) rfl rfl (zas0 rfl rfl w) ?_;refine eh (v:=.tuple #[.int .i64 0,.bool false]) rfl rfl (ky (x:=.tmp 7) (v:=.tuple #[.int .i64 0,.bool false]) (.inl rfl) rfl w) ?_;refine eh (v:=.int .i64 0) rfl rfl (nO (x:=.tmp 5) (i:=0) (vs:=#[.int .i64 0,.bool false]) (v:=.int .i64 0) rfl rfl rfl w) ?_;refine eh (v:=.bool false) rfl rfl (nO (x:=.tmp 5) (i:=1) (vs:=#[.int .i64 0,.bool false]) (v:=.bool false) rfl rfl rfl w) ?_;refine eh (v:=.int .i64 0) rfl rfl (ky (x:=.tmp 8) (v:=.int .i64 0) (.inr rfl) rfl w) ?_;refine eh (v:=.bool false) rfl rfl (ky (x:=.tmp 9) (v:=.bool false) (.inr rfl) rfl w) ?_;have hc0:c₀={c₀ with mode:=.returning}:=by cases c₀;simp_all[kh]
   rw[hc0];refine h _ .returning rfl rfl rfl ?_;exact GU (by decide)
 . repeat'((conv=>whnf);apply af)
   all_goals try conv=>whnf
   all_goals try(refine ae.mk ?_;try dsimp only)
   . rfl
   . exact hσ
   . exact Nat.ble_eq_true_of_le (co _)
abbrev zR0(n:Int):List O:=[.cells zZ,.cells [.str []],.cells [.int .i64 n]]
theorem uH(n:Int) (hm:-9223372036854775808<=n/\n<=9223372036854775807) (t i p:g8) (st nm nt sv:g8) (kd s0 e0 cd q:Int) (c:Bool) (l:List V):qj Tryz.prog gE 15 [.ptr 0 0,.ptr 1 0,.ptr 2 0]
   [.cells (zC t i p [.str st,.str nm,.int .i64 kd,.int .u64 s0,.int .u64 e0,.list true 0 [],.list true 0 [],.list true 0 [],.int .i64 cd,.str nt]),.cells [.str sv],.cells [.int .i64 0],.cells [.list c 4 l,.int .i64 q]]
   (some (qh n)) (zR0 n++[.cells [.list c 4 l,.int .i64 q]]):=by
 refine uZ (C:=cx []) (ak trivial) (cfn:=Tryz.f15) (tm:=zTm true n) rfl rfl rfl rfl (fun vs w c₀ cs Q hl hu h=>?_) ?_
 . obtain⟨v1,v2,v3,rfl⟩:∃v1 v2 v3,vs=[v1,v2,v3]:=by
     match vs,hl with
     |[v1,v2,v3],_=>exact⟨v1,v2,v3,rfl⟩
   rw[show Tryz.f15.ntmps=13 from rfl] at h⊢;rw[GH];apply wpSIn_region;show wpOpsSIn Fence.wide 0 Tryz.prog _ _ _ _ _ _;refine G0 (v:=qh n) (cs':={c₀ with mode:=.panicking [{v:=qh n,recovered:=true}]}::cs) rfl rfl rfl (by simp[recoverD,hu,kh]) ?_;refine eh (v:=.tuple #[.int .i64 n,.bool true]) rfl rfl (zas1 rfl rfl w) ?_;refine eh (v:=.tuple #[.int .i64 n,.bool true]) rfl rfl (ky (x:=.tmp 7) (v:=.tuple #[.int .i64 n,.bool true]) (.inl rfl) rfl w) ?_;refine eh (v:=.int .i64 n) rfl rfl (nO (x:=.tmp 5) (i:=0) (vs:=#[.int .i64 n,.bool true]) (v:=.int .i64 n) rfl rfl rfl w) ?_;refine eh (v:=.bool true) rfl rfl (nO (x:=.tmp 5) (i:=1) (vs:=#[.int .i64 n,.bool true]) (v:=.bool true) rfl rfl rfl w) ?_;refine eh (v:=.int .i64 n) rfl rfl (ky (x:=.tmp 8) (v:=.int .i64 n) (.inr rfl) rfl w) ?_;refine eh (v:=.bool true) rfl rfl (ky (x:=.tmp 9) (v:=.bool true) (.inr rfl) rfl w) ?_;refine h _ (.panicking [{v:=qh n,recovered:=true}]) rfl rfl rfl ?_;exact GU hm
 . repeat'((conv=>whnf);apply af)
   all_goals try conv=>whnf
   all_goals try(refine ae.mk ?_;try dsimp only)
   . rfl
   . (repeat' first|trivial|rfl|refine And.intro ?_ ?_)
   . rfl
theorem Za(n:Int) (hm:-9223372036854775808<=n/\n<=9223372036854775807) (t i p:g8) (st nm nt sv:g8) (kd s0 e0 cd q:Int) (c:Bool) (l aG:List V):qj Tryz.prog gE 15 [.ptr 0 0,.ptr 1 0,.ptr 2 0]
   [.cells (zC t i p [.str st,.str nm,.int .i64 kd,.int .u64 s0,.int .u64 e0,.list true 0 [],.buf 4,.list true 0 [],.int .i64 cd,.str nt]),.cells [.str sv],.cells [.int .i64 0],.cells [.list c 4 l,.int .i64 q],.buf 3 0 aG]
   (some (qh n)) (zR0 n++[.cells [.list c 4 l,.int .i64 q],.buf 3 0 aG]):=by
 refine uZ (C:=cx []) (ak trivial) (cfn:=Tryz.f15) (tm:=zTm true n) rfl rfl rfl rfl (fun vs w c₀ cs Q hl hu h=>?_) ?_
 . obtain⟨v1,v2,v3,rfl⟩:∃v1 v2 v3,vs=[v1,v2,v3]:=by
     match vs,hl with
     |[v1,v2,v3],_=>exact⟨v1,v2,v3,rfl⟩
   rw[show Tryz.f15.ntmps=13 from rfl] at h⊢;rw[GH];apply wpSIn_region;show wpOpsSIn Fence.wide 0 Tryz.prog _ _ _ _ _ _;refine G0 (v:=qh n) (cs':={c₀ with mode:=.panicking [{v:=qh n,recovered:=true}]}::cs) rfl rfl rfl (by simp[recoverD,hu,kh]) ?_;refine eh (v:=.tuple #[.int .i64 n,.bool true]) rfl rfl (zas1 rfl rfl w) ?_;refine eh (v:=.tuple #[.int .i64 n,.bool true]) rfl rfl (ky (x:=.tmp 7) (v:=.tuple #[.int .i64 n,.bool true]) (.inl rfl) rfl w) ?_;refine eh (v:=.int .i64 n) rfl rfl (nO (x:=.tmp 5) (i:=0) (vs:=#[.int .i64 n,.bool true]) (v:=.int .i64 n) rfl rfl rfl w) ?_;refine eh (v:=.bool true) rfl rfl (nO (x:=.tmp 5) (i:=1) (vs:=#[.int .i64 n,.bool true]) (v:=.bool true) rfl rfl rfl w) ?_;refine eh (v:=.int .i64 n) rfl rfl (ky (x:=.tmp 8) (v:=.int .i64 n) (.inr rfl) rfl w) ?_;refine eh (v:=.bool true) rfl rfl (ky (x:=.tmp 9) (v:=.bool true) (.inr rfl) rfl w) ?_;refine h _ (.panicking [{v:=qh n,recovered:=true}]) rfl rfl rfl ?_;exact GU hm
 . repeat'((conv=>whnf);apply af)
   all_goals try conv=>whnf
   all_goals try(refine ae.mk ?_;try dsimp only)
   . rfl
   . (repeat' first|trivial|rfl|refine And.intro ?_ ?_)
   . rfl
abbrev mr(L:List Nd) (q:Int):List V:=zC (lj L q) (lg L q) (iO L q) [.str [],.str (lh L q),.int .i64 0,.int .u64 0,.int .u64 0,.list true 0 [],.list true 0 [],.list true 0 [],.int .i64 0,.str []]
def ZP(L:List Nd) (q e:Int) (t i p:g8) (n:Ky):Prop:=cT L q=e/\lj L q=t/\lg L q=i/\iO L q=p/\lh L q=n
section
variable {L:List Nd} {q:Int}
theorem GI(h:aW L q bq≠0):ZP L q (aW L q bq) [] [] [] []:=by
 unfold ZP lh cT lj lg iO iw jk jy;simp[aJ,nn,h]
theorem GJ(h1:¬aW L q bq≠0) (h:bh L q bq=false):ZP L q 9 [] [] [] []:=by
 unfold ZP lh cT lj lg iO iw jk jy;simp[aJ,nn,h1,h]
theorem GK(h1:¬aW L q bq≠0) (h2:¬bh L q bq=false) (h:(cO (aU L q bq)).1≠0):ZP L q (cO (aU L q bq)).1 [] [] [] []:=by
 unfold ZP lh cT lj lg iO iw jk jy;simp[aJ,nn,h1,h2,h]
theorem GL(h1:¬aW L q bq≠0) (h2:¬bh L q bq=false) (h3:¬(cO (aU L q bq)).1≠0) (h:eG L q bP≠0):ZP L q (eG L q bP) (cO (aU L q bq)).2 [] [] []:=by
 unfold ZP lh cT lj lg iO iw jk jy;simp[aJ,nn,h1,h2,h3,h]
theorem GM(h1:¬aW L q bq≠0) (h2:¬bh L q bq=false) (h3:¬(cO (aU L q bq)).1≠0) (h4:¬eG L q bP≠0) (h:bh L q bP=false):ZP L q 9 (cO (aU L q bq)).2 (j4 L q bP) [] []:=by
 unfold ZP lh cT lj lg iO iw jk jy;simp[aJ,nn,h1,h2,h3,h4,h]
theorem GN(h1:¬aW L q bq≠0) (h2:¬bh L q bq=false) (h3:¬(cO (aU L q bq)).1≠0) (h4:¬eG L q bP≠0) (h5:¬bh L q bP=false) (h:eG L q da≠0):ZP L q (eG L q da) (cO (aU L q bq)).2 (j4 L q bP) [] []:=by
 unfold ZP lh cT lj lg iO iw jk jy;simp[aJ,nn,h1,h2,h3,h4,h5,h]
theorem GO(h1:¬aW L q bq≠0) (h2:¬bh L q bq=false) (h3:¬(cO (aU L q bq)).1≠0) (h4:¬eG L q bP≠0) (h5:¬bh L q bP=false) (h6:¬eG L q da≠0) (h:aW L q lF≠0):ZP L q (aW L q lF) (cO (aU L q bq)).2 (j4 L q bP) (j4 L q da) []:=by
 unfold ZP lh cT lj lg iO iw jk jy;simp[aJ,nn,h1,h2,h3,h4,h5,h6,h]
theorem zn_8(h1:¬aW L q bq≠0) (h2:¬bh L q bq=false) (h3:¬(cO (aU L q bq)).1≠0) (h4:¬eG L q bP≠0) (h5:¬bh L q bP=false) (h6:¬eG L q da≠0) (h7:¬aW L q lF≠0):ZP L q 0 (cO (aU L q bq)).2 (j4 L q bP) (j4 L q da) (aU L q lF):=by
 unfold ZP lh cT lj lg iO iw jk jy;simp[aJ,nn,h1,h2,h3,h4,h5,h6,h7]
end
theorem RC(c:Bool) (l:List V) (q:Int) (x:List V) (hp:cE l/\x=zZ) (hc:¬(cT (al l) q≠0)):OK 16 ([.agg [.list c 4 l,.int .i64 q],.ptr 0 0]) ([.cells x]) (.tuple []) (some [.cells (mr (al l) q)]):=by
 refine ai (C:=gy [(54,zL)] [(55,iL),(53,tZ),(56,zg),(52,mg)]) (gW ⟨JP,trivial⟩ ⟨jb,yF,KA,nC,trivial⟩) (fn:=Tryz.f16) fun hw hs=>?_;obtain⟨hp,rfl⟩:=hp;have hl:=qi hp q;repeat'((conv=>whnf);first|with_reducible refine cK ?_ (fun h=>?_) fun h=>?_|apply af)
 all_goals try conv=>whnf
 all_goals try(refine ae.mk ?_;try dsimp only)
 all_goals (try dsimp only[List.toList_toArray] at*)
 all_goals try first
  |exact hp
  |exact hl _
 . exact hc (by rw[(GI (by with_reducible assumption)).1];with_reducible assumption)
 . exact hc (by rw[(GJ (by with_reducible assumption) (by with_reducible assumption)).1];decide)
 . exact hc (by rw[(GK (by with_reducible assumption) (by with_reducible assumption) (by with_reducible assumption)).1];with_reducible assumption)
 . exact hc (by rw[(GL (by with_reducible assumption) (by with_reducible assumption) (by with_reducible assumption) (by with_reducible assumption)).1];with_reducible assumption)
 . exact hc (by rw[(GM (by with_reducible assumption) (by with_reducible assumption) (by with_reducible assumption) (by with_reducible assumption) (by with_reducible assumption)).1];decide)
 . exact hc (by rw[(GN (by with_reducible assumption) (by with_reducible assumption) (by with_reducible assumption) (by with_reducible assumption) (by with_reducible assumption) (by with_reducible assumption)).1];with_reducible assumption)
 . exact hc (by rw[(GO (by with_reducible assumption) (by with_reducible assumption) (by with_reducible assumption) (by with_reducible assumption) (by with_reducible assumption) (by with_reducible assumption) (by with_reducible assumption)).1];with_reducible assumption)
 . obtain⟨_,ht,hi,hq,hn⟩:=zn_8 (by with_reducible assumption) (by with_reducible assumption) (by with_reducible assumption) (by with_reducible assumption) (by with_reducible assumption) (by with_reducible assumption) (by with_reducible assumption);simp only[mr,ht,hi,hq,hn];refine ab.mk [] ?_<;>(repeat' first|trivial)
theorem Wg(c:Bool) (l:List V) (q:Int) (x:List V) (hp:cE l/\x=zZ) (hc:cT (al l) q≠0):j6 16 ([.agg [.list c 4 l,.int .i64 q],.ptr 0 0]) ([.cells x]) (.iface 57 (.int .i64 (cT (al l) q))) (some [.cells (mr (al l) q)]):=by
 refine je (C:=gy [(54,zL)] [(55,iL),(53,tZ),(56,zg),(52,mg)]) (gW ⟨JP,trivial⟩ ⟨jb,yF,KA,nC,trivial⟩) (fn:=Tryz.f16) rfl rfl rfl rfl fun hw hs=>?_;obtain⟨hp,rfl⟩:=hp;have hl:=qi hp q;repeat'((conv=>whnf);first|with_reducible refine cK ?_ (fun h=>?_) fun h=>?_|apply af)
 all_goals try conv=>whnf
 all_goals try(refine ae.mk ?_;try dsimp only)
 all_goals (try dsimp only[List.toList_toArray] at*)
 all_goals try first
  |exact hp
  |exact hl _
 . rw[(GI (by with_reducible assumption)).1]
 . obtain⟨_,ht,hi,hq,hn⟩:=GI (by with_reducible assumption);simp only[mr,ht,hi,hq,hn]
   (refine bI.mk [] ?_<;>(repeat' first|trivial|rfl|apply ah);done)
 . rw[(GJ (by with_reducible assumption) (by with_reducible assumption)).1]
 . obtain⟨_,ht,hi,hq,hn⟩:=GJ (by with_reducible assumption) (by with_reducible assumption);simp only[mr,ht,hi,hq,hn]
   (refine bI.mk [] ?_<;>(repeat' first|trivial|rfl|apply ah);done)
 . rw[(GK (by with_reducible assumption) (by with_reducible assumption) (by with_reducible assumption)).1]
 . obtain⟨_,ht,hi,hq,hn⟩:=GK (by with_reducible assumption) (by with_reducible assumption) (by with_reducible assumption);simp only[mr,ht,hi,hq,hn]
   (refine bI.mk [] ?_<;>(repeat' first|trivial|rfl|apply ah);done)
 . rw[(GL (by with_reducible assumption) (by with_reducible assumption) (by with_reducible assumption) (by with_reducible assumption)).1]
 . obtain⟨_,ht,hi,hq,hn⟩:=GL (by with_reducible assumption) (by with_reducible assumption) (by with_reducible assumption) (by with_reducible assumption);simp only[mr,ht,hi,hq,hn]
   (refine bI.mk [] ?_<;>(repeat' first|trivial|rfl|apply ah);done)
 . rw[(GM (by with_reducible assumption) (by with_reducible assumption) (by with_reducible assumption) (by with_reducible assumption) (by with_reducible assumption)).1]
 . obtain⟨_,ht,hi,hq,hn⟩:=GM (by with_reducible assumption) (by with_reducible assumption) (by with_reducible assumption) (by with_reducible assumption) (by with_reducible assumption);simp only[mr,ht,hi,hq,hn]
   (refine bI.mk [] ?_<;>(repeat' first|trivial|rfl|apply ah);done)
 . rw[(GN (by with_reducible assumption) (by with_reducible assumption) (by with_reducible assumption) (by with_reducible assumption) (by with_reducible assumption) (by with_reducible assumption)).1]
 . obtain⟨_,ht,hi,hq,hn⟩:=GN (by with_reducible assumption) (by with_reducible assumption) (by with_reducible assumption) (by with_reducible assumption) (by with_reducible assumption) (by with_reducible assumption);simp only[mr,ht,hi,hq,hn]
   (refine bI.mk [] ?_<;>(repeat' first|trivial|rfl|apply ah);done)
 . rw[(GO (by with_reducible assumption) (by with_reducible assumption) (by with_reducible assumption) (by with_reducible assumption) (by with_reducible assumption) (by with_reducible assumption) (by with_reducible assumption)).1]
 . obtain⟨_,ht,hi,hq,hn⟩:=GO (by with_reducible assumption) (by with_reducible assumption) (by with_reducible assumption) (by with_reducible assumption) (by with_reducible assumption) (by with_reducible assumption) (by with_reducible assumption);simp only[mr,ht,hi,hq,hn]
   (refine bI.mk [] ?_<;>(repeat' first|trivial|rfl|apply ah);done)
 . exact hc (zn_8 (by with_reducible assumption) (by with_reducible assumption) (by with_reducible assumption) (by with_reducible assumption) (by with_reducible assumption) (by with_reducible assumption) (by with_reducible assumption)).1
def Dk:dL:=fun args σ=>match args,σ with
 |[.agg [.list c 4 l,.int .i64 q],.ptr 0 0],[.cells x]=>some (cE l/\x=zZ,cT (al l) q≠0,.iface 57 (.int .i64 (cT (al l) q)),some [.cells (mr (al l) q)],.tuple [],some [.cells (mr (al l) q)])
 |_,_=>none
theorem UR:dR 16 (Dk):=by
 intro args sg pre c u r x r2 he hp;unfold Dk at he;split at he<;>cases he
 . exact⟨fun hc=>⟨_,rfl,Wg (hp:=hp) (hc:=hc) ..⟩,fun hc=>RC (hp:=hp) (hc:=hc) ..⟩
section
variable {L:List Nd} {q:Int}
abbrev mq(L:List Nd) (q:Int):Prop:=0<=q/\q<L.length/\(L.getD q.toNat default).k.toNat=123
theorem uG(h:¬mq L q):zE L q=7:=by
 unfold zE;rw[if_neg h];rfl
theorem zE_1(h0:mq L q) (h:cT L q≠0):zE L q=cT L q:=by
 unfold zE;rw[if_pos h0];simp[aJ,h]
theorem zE_2(h0:mq L q) (h1:¬cT L q≠0) (h:cD L q≠0):zE L q=cD L q:=by
 unfold zE;rw[if_pos h0];simp[aJ,h1,h]
theorem zE_3(h0:mq L q) (h1:¬cT L q≠0) (h2:¬cD L q≠0) (h:dJ L q≠0):zE L q=dJ L q:=by
 unfold zE;rw[if_pos h0];simp[aJ,h1,h2,h]
theorem zE_4(h0:mq L q) (h1:¬cT L q≠0) (h2:¬cD L q≠0) (h3:¬dJ L q≠0) (h:cU L q fU≠0):zE L q=cU L q fU:=by
 unfold zE;rw[if_pos h0];simp[aJ,h1,h2,h3,h]
theorem zE_5(h0:mq L q) (h1:¬cT L q≠0) (h2:¬cD L q≠0) (h3:¬dJ L q≠0) (h4:¬cU L q fU≠0) (h:cU L q ja≠0):zE L q=cU L q ja:=by
 unfold zE;rw[if_pos h0];simp[aJ,h1,h2,h3,h4,h]
theorem zE_6(h0:mq L q) (h1:¬cT L q≠0) (h2:¬cD L q≠0) (h3:¬dJ L q≠0) (h4:¬cU L q fU≠0) (h5:¬cU L q ja≠0) (h:fq L q≠0):zE L q=fq L q:=by
 unfold zE;rw[if_pos h0];simp[aJ,h1,h2,h3,h4,h5,h]
theorem zE_7(h0:mq L q) (h1:¬cT L q≠0) (h2:¬cD L q≠0) (h3:¬dJ L q≠0) (h4:¬cU L q fU≠0) (h5:¬cU L q ja≠0) (h6:¬fq L q≠0) (h:gj L q≠0):zE L q=gj L q:=by
 unfold zE;rw[if_pos h0];simp[aJ,h1,h2,h3,h4,h5,h6,h]
theorem zE_8(h0:mq L q) (h1:¬cT L q≠0) (h2:¬cD L q≠0) (h3:¬dJ L q≠0) (h4:¬cU L q fU≠0) (h5:¬cU L q ja≠0) (h6:¬fq L q≠0) (h7:¬gj L q≠0):zE L q=0:=by
 unfold zE;rw[if_pos h0];simp[aJ,h1,h2,h3,h4,h5,h6,h7]
end
abbrev AM(L:List Nd) (q:Int) (A:List az):V:=.agg (zC (lj L q) (lg L q) (iO L q) [.str [],.str (lh L q),.int .i64 (jj L q),.int .u64 (mw L q).2.1,.int .u64 (mw L q).2.2,.list false 7 (aS A),.list false 3 ((o9 L q).map kQ),.list true 0 [],.int .i64 (mZ (fF L q)),.str (n5 (fF L q))])
abbrev nX(L:List Nd) (q:Int):V:=AM L q (qg L q)
theorem BM(c:Bool) (L:List Nd) (q:Int) (x:V) (hp:cE (L.map aN)) (hL:L.length<=10000) (hx:x=if zE L q=0 then .tuple [nX L q,.str (gm L q fU),.int .i64 0] else .tuple [.agg zZ,.str [],.int .i64 (zE L q)]):OK 6 [.list c 4 (L.map aN),.int .i64 q] [] x none:=by
 refine S1 (C:=cxr [(22,FW),(23,DV),(25,uv),(24,zD)] [(16,Dk),(17,Dj),(18,Dn),(19,Dl),(20,Di),(21,Dm)] []) (yb ⟨Uy,JH,yy,JI,trivial⟩ ⟨UR,UQ,UU,US,UP,UT,trivial⟩) (gf:=15) (fn:=Tryz.f6) rfl rfl rfl rfl rfl rfl rfl rfl rfl rfl fun hw hs=>?_;have hml:(L.map aN).length=L.length:=aB _;have hup:=bX L;have hrg:∀{n:Int},Cd n->-9223372036854775808<=n/\n<=9223372036854775807:=fun h=>⟨by have:=h.1;omega,by have:=h.2;omega⟩
 have hbad:∀{n:Int},zE L q=n->n≠0->x=.tuple [.agg zZ,.str [],.int .i64 n]:=fun e h=>by rw[hx,if_neg (by rw[e];exact h),e]
 have hgd:∀{A:List az},qg L q=A->zE L q=0->x=.tuple [AM L q A,.str (gm L q fU),.int .i64 0]:=fun e h=>by rw[hx,if_pos h,<-e]
 have hgl:=NR L q;repeat'((conv=>whnf);first|with_reducible refine cK ?_ (fun h=>?_) fun h=>?_|apply af|apply aI|((first|apply aj|apply dr)<;>intro h)|with_reducible apply ig)
 all_goals try conv=>whnf
 all_goals try(refine ae.mk ?_;try dsimp only)
 all_goals (try simp only[bX,List.toList_toArray,hml] at*)
 all_goals try exact hp
 . rfl
 . have e:=hbad (uG (L:=L) (q:=q) (by omega)) (by decide);rw[e];refine ia.mk _ (xj _ ?_) rfl ?_
   . (repeat' first|trivial|rfl|refine And.intro ?_ ?_)
   refine ab.mk [] ?_<;>(repeat' first|trivial)
 . have e:=hbad (uG (L:=L) (q:=q) (by omega)) (by decide);rw[e];refine ia.mk _ (xj _ ?_) rfl ?_
   . (repeat' first|trivial|rfl|refine And.intro ?_ ?_)
   refine ab.mk [] ?_<;>(repeat' first|trivial)
 . omega
 . omega
 . exact⟨hp,rfl⟩
 . have e:=hbad (zE_1 (L:=L) (q:=q) (by omega) (by with_reducible assumption)) (by with_reducible assumption);rw[e];refine ia.mk _ (uH _ (hrg (Zi L q)) _ _ _ _ _ _ _ _ _ _ _ _ _ _) rfl ?_;refine ab.mk [] ?_<;>(repeat' first|trivial)
 . have e:=hbad (zE_2 (L:=L) (q:=q) (by omega) (by with_reducible assumption) (by with_reducible assumption)) (by with_reducible assumption);rw[e];refine ia.mk _ (uH _ (hrg (Ze L q)) _ _ _ _ _ _ _ _ _ _ _ _ _ _) rfl ?_;refine ab.mk [] ?_<;>(repeat' first|trivial)
 . have e:=hbad (zE_3 (L:=L) (q:=q) (by omega) (by with_reducible assumption) (by with_reducible assumption) (by with_reducible assumption)) (by with_reducible assumption);rw[e];refine ia.mk _ (uH _ (hrg (Zd L q)) _ _ _ _ _ _ _ _ _ _ _ _ _ _) rfl ?_;refine ab.mk [] ?_<;>(repeat' first|trivial)
 . have e:=hbad (zE_4 (L:=L) (q:=q) (by omega) (by with_reducible assumption) (by with_reducible assumption) (by with_reducible assumption) (by with_reducible assumption)) (by with_reducible assumption);rw[e];refine ia.mk _ (uH _ (hrg (NV L q _)) _ _ _ _ _ _ _ _ _ _ _ _ _ _) rfl ?_;refine ab.mk [] ?_<;>(repeat' first|trivial)
 . have e:=hbad (zE_5 (L:=L) (q:=q) (by omega) (by with_reducible assumption) (by with_reducible assumption) (by with_reducible assumption) (by with_reducible assumption) (by with_reducible assumption)) (by with_reducible assumption);rw[e];refine ia.mk _ (uH _ (hrg (NV L q _)) _ _ _ _ _ _ _ _ _ _ _ _ _ _) rfl ?_;refine ab.mk [] ?_<;>(repeat' first|trivial)
 . have e:=hbad (zE_6 (L:=L) (q:=q) (by omega) (by with_reducible assumption) (by with_reducible assumption) (by with_reducible assumption) (by with_reducible assumption) (by with_reducible assumption) (by with_reducible assumption)) (by with_reducible assumption);rw[e];refine ia.mk _ (uH _ (hrg (Zm L q)) _ _ _ _ _ _ _ _ _ _ _ _ _ _) rfl ?_;refine ab.mk [] ?_<;>(repeat' first|trivial)
 . exact⟨hp,hL⟩
 . have e:=hbad (zE_7 (L:=L) (q:=q) (by omega) (by with_reducible assumption) (by with_reducible assumption) (by with_reducible assumption) (by with_reducible assumption) (by with_reducible assumption) (by with_reducible assumption) (by with_reducible assumption)) (by with_reducible assumption);rw[e];refine ia.mk _ (Za _ (hrg (Zc L q)) _ _ _ _ _ _ _ _ _ _ _ _ _ _ _) rfl ?_;refine ab.mk [] ?_<;>(repeat' first|trivial)
 . exact⟨mC (Gz L q) (by omega),by rw[eu];exact NS L q⟩
 . exact⟨⟨by rw[eu],by rw[cY];omega⟩,rfl,by decide⟩
 . have ha:qg L q=eQ (fF L q) [eY,jo]:=if_neg (fun h=>h (by with_reducible assumption));rw[hgd ha (zE_8 (L:=L) (q:=q) (by omega) (by with_reducible assumption) (by with_reducible assumption) (by with_reducible assumption) (by with_reducible assumption) (by with_reducible assumption) (by with_reducible assumption) (by with_reducible assumption))];simp only[eu];refine ia.mk _ (xj _ ?_) rfl ?_
   . (repeat' first|trivial|rfl|refine And.intro ?_ ?_)
   refine ab.mk [.bL 4] ?_<;>(repeat' first|trivial)
 . rw[eu];refine⟨mC (Bz (Gz L q)) (Nat.le_trans (sK _ _) (by omega)),?_⟩;exact(Wk.agg (aP.cons (Wk.refl _) (aP.cons (Wk.refl _) (aP.cons (Wk.refl _) (aP.cons (Wk.refl _) (aP.cons (Wk.nil (.inl rfl)) (aP.cons (Wk.nil (.inl rfl)) aP.nil)))))))
 . have ha:qg L q=cZ (eQ (fF L q) [eY,jo]) (tA kf (gm L q ja)):=if_pos (by with_reducible assumption);rw[hgd ha (zE_8 (L:=L) (q:=q) (by omega) (by with_reducible assumption) (by with_reducible assumption) (by with_reducible assumption) (by with_reducible assumption) (by with_reducible assumption) (by with_reducible assumption) (by with_reducible assumption))];simp only[eu];refine ia.mk _ (xj _ ?_) rfl ?_
   . (repeat' first|trivial|rfl|refine And.intro ?_ ?_)
   refine ab.mk [.bL 4] ?_<;>(repeat' first|trivial)
 . have e:=hbad (uG (L:=L) (q:=q) (by omega)) (by decide);rw[e];refine ia.mk _ (xj _ ?_) rfl ?_
   . (repeat' first|trivial|rfl|refine And.intro ?_ ?_)
   refine ab.mk [] ?_<;>(repeat' first|trivial)
def pZ(L:List Nd) (q:Int) (x:V):Sm:=fun args σ=>match args,σ with
 |[.list false 4 l,.int .i64 k],[]=>some (l=L.map aN/\k=q,x,none)
 |_,_=>none
theorem Kq{L:List Nd} {q:Int} {x:V} (hp:cE (L.map aN)) (hL:L.length<=10000) (hx:x=if zE L q=0 then .tuple [nX L q,.str (gm L q fU),.int .i64 0] else .tuple [.agg zZ,.str [],.int .i64 (zE L q)]):aq 6 (pZ L q x):=by
 intro args sg pre y r he hq;unfold pZ at he;split at he<;>cases he;rw[hq.1,hq.2];exact BM _ L q x hp hL hx
def Fy:Sm:=fun args σ=>match args,σ with
 |[.list false 7 x],[]=>some (p4 x/\iu (bJ x),.agg [.int .i64 (mZ (bJ x)),.str (n5 (bJ x))],none)
 |_,_=>none
theorem Ue:aq 32 Fy:=by
 intro args sg pre x r he hp;unfold Fy at he;split at he<;>cases he
 . rename_i x;refine ai (C:=cx [(78,MC),(79,MD)]) (ak ⟨U7,U8,trivial⟩) (fn:=Tryz.f32) fun hw hs=>?_;obtain⟨hR,ht⟩:=hp;repeat'((conv=>whnf);first|apply af|((first|apply aj|apply dr)<;>intro h))
   all_goals try conv=>whnf
   all_goals try(refine ae.mk ?_;try dsimp only)
   . exact⟨hR,trivial⟩
   . rw[(Au (l:=bJ x) (by assumption)).1,(Au (l:=bJ x) (by assumption)).2];refine ab.mk [] ?_<;>(repeat' first|trivial)
   . exact⟨hR,ht⟩
   . rw[(Av (l:=bJ x) (by assumption) (by assumption)).1,(Av (l:=bJ x) (by assumption) (by assumption)).2];refine ab.mk [] ?_<;>(repeat' first|trivial)
   . exact⟨hR,ht⟩
   . rw[(Aw (l:=bJ x) (by assumption) (by assumption)).1,(Aw (l:=bJ x) (by assumption) (by assumption)).2];refine ab.mk [] ?_<;>(repeat' first|trivial)
   . rw[(Ax (l:=bJ x) (by assumption) (by assumption) (by assumption)).1,(Ax (l:=bJ x) (by assumption) (by assumption) (by assumption)).2];refine ab.mk [] ?_<;>(repeat' first|trivial)
section
variable {L:List Nd} {q:Int}
theorem ze_A(h0:mq L q) (h:¬cT L q=0):zE L q=cT L q:=zE_1 h0 h
theorem ze_B(h0:mq L q) (h1:cT L q=0) (h:¬aJ [cD L q,dJ L q]=0):zE L q=aJ [cD L q,dJ L q]:=by
 unfold zE;rw[if_pos h0];simp only[aJ] at h⊢;by_cases a:cD L q=0<;>by_cases b:dJ L q=0<;>simp_all
theorem Gu(h0:mq L q) (h1:cT L q=0) (h2:aJ [cD L q,dJ L q]=0):zE L q=aJ [aJ [cU L q fU,cU L q ja],aJ [fq L q,gj L q]]:=by
 unfold zE;rw[if_pos h0];simp only[aJ] at h2⊢;by_cases a:cD L q=0<;>by_cases b:dJ L q=0<;>by_cases c:cU L q fU=0<;>by_cases d:cU L q ja=0<;>by_cases e:fq L q=0<;>simp_all
theorem xm(h:aJ [aJ [cU L q fU,cU L q ja],aJ [fq L q,gj L q]]=0):fq L q=0/\gj L q=0:=by
 simp only[aJ] at h;by_cases c:cU L q fU=0<;>by_cases d:cU L q ja=0<;>by_cases e:fq L q=0<;>simp_all
theorem NM(h:cT L q=0):o8 L q=lj L q/\nY L q=lg L q/\nZ L q=lh L q:=by
 have h3:iw L q=0:=by
  unfold cT at h;rw[dV] at h;split at h
  . assumption
  . omega
 have h2:jk L q=0:=by
  unfold iw at h3;rw[dV] at h3;split at h3
  . assumption
  . omega
 have h1:jy L q=0:=by
  unfold jk at h2;rw[dV] at h2;split at h2
  . assumption
  . omega
 unfold o8 nY nZ lj lg lh;rw[if_pos h3,if_pos h3,if_pos h3,if_pos h1,if_pos h2,if_pos h];exact⟨rfl,rfl,rfl⟩
theorem NL(h:aJ [cD L q,dJ L q]=0):zdS L q=(mw L q).2.1/\zdF L q=(mw L q).2.2:=by
 have hk:cD L q=0/\dJ L q=0:=by
  simp only[aJ] at h;by_cases a:cD L q=0<;>by_cases b:dJ L q=0<;>simp_all
 have hw:cD L q=0/\cj L q c8=0/\cj L q fT=0:=by
  have:=hk.2;unfold dJ at this;simp only[aJ] at this;by_cases a:cj L q c8=0<;>by_cases b:cj L q fT=0<;>simp_all
 exact⟨if_pos hw,if_pos hw⟩
end
theorem QV(c:Bool) (L:List Nd) (q:Int) (x:V) (hp:cE (L.map aN)) (hL:L.length<=10000) (hx:x=if zE L q=0 then .tuple [nX L q,.str (gm L q fU),.int .i64 0] else .tuple [.agg zZ,.str [],.int .i64 (zE L q)]):OK 8 [.list c 4 (L.map aN),.int .i64 q] [] x none:=by
 refine ai (C:=cx [(26,Fw),(27,Fv),(28,Fx),(29,Fu),(30,Fz),(31,ur),(32,Fy),(33,MB),(34,Aj)]) (ak ⟨Uc,Ub,Ud,Ua,Uf,yv,Ue,U6,Kj,trivial⟩) (fn:=Tryz.f8) fun hw hs=>?_;have hml:(L.map aN).length=L.length:=aB _;have hup:=bX L;have hbad:∀{n:Int},zE L q=n->n≠0->x=.tuple [.agg zZ,.str [],.int .i64 n]:=fun e h=>by rw[hx,if_neg (by rw[e];exact h),e]
 have hgd:∀{A:List az},qg L q=A->zE L q=0->x=.tuple [AM L q A,.str (gm L q fU),.int .i64 0]:=fun e h=>by rw[hx,if_pos h,<-e]
 have hgl:=NR L q;repeat'((conv=>whnf);first|apply af|apply aI|((first|apply aj|apply dr)<;>intro h)|with_reducible apply ig)
 all_goals try conv=>whnf
 all_goals try(refine ae.mk ?_;try dsimp only)
 all_goals (try simp only[bX,List.toList_toArray,hml] at*)
 all_goals try exact hp
 . rw[hbad (uG (L:=L) (q:=q) (by omega)) (by decide)];refine ab.mk [] ?_<;>(repeat' first|trivial)
 . rw[hbad (uG (L:=L) (q:=q) (by omega)) (by decide)];refine ab.mk [] ?_<;>(repeat' first|trivial)
 . omega
 . omega
 . exact⟨hp,trivial,trivial,trivial⟩
 . exact⟨hp,hL⟩
 . obtain⟨v1,v2⟩:=xm (L:=L) (q:=q) (by with_reducible assumption);have g1:oU L q=fF L q:=if_pos v2;rw[g1];exact⟨mC (Gz L q) (by omega),by rw[eu];exact NS L q⟩
 . obtain⟨v1,v2⟩:=xm (L:=L) (q:=q) (by with_reducible assumption);have g1:oU L q=fF L q:=if_pos v2;rw[g1];exact⟨⟨by rw[eu],by rw[cY];omega⟩,rfl,by decide⟩
 . obtain⟨v1,v2⟩:=xm (L:=L) (q:=q) (by with_reducible assumption);obtain⟨n1,n2,n3⟩:=NM (L:=L) (q:=q) (by with_reducible assumption);obtain⟨k1,k2⟩:=NL (L:=L) (q:=q) (by with_reducible assumption);have g1:oU L q=fF L q:=if_pos v2;have g2:uI L q=o9 L q:=if_pos v1;have ha:qg L q=eQ (fF L q) [eY,jo]:=if_neg (fun h=>h (by with_reducible assumption));rw[hgd ha ((Gu (L:=L) (q:=q) (by omega) (by with_reducible assumption) (by with_reducible assumption)).trans (by with_reducible assumption))];simp only[eu,n1,n2,n3,k1,k2,g1,g2];refine ab.mk [] ?_<;>(repeat' first|trivial)
 . obtain⟨v1,v2⟩:=xm (L:=L) (q:=q) (by with_reducible assumption);have g1:oU L q=fF L q:=if_pos v2;rw[g1,eu];exact⟨mO _,by rw[cY];exact Nat.le_trans (sK _ _) (by omega)⟩
 . obtain⟨v1,v2⟩:=xm (L:=L) (q:=q) (by with_reducible assumption);obtain⟨n1,n2,n3⟩:=NM (L:=L) (q:=q) (by with_reducible assumption);obtain⟨k1,k2⟩:=NL (L:=L) (q:=q) (by with_reducible assumption);have g1:oU L q=fF L q:=if_pos v2;have g2:uI L q=o9 L q:=if_pos v1;have ha:qg L q=cZ (eQ (fF L q) [eY,jo]) (tA kf (gm L q ja)):=if_pos (by with_reducible assumption);rw[hgd ha ((Gu (L:=L) (q:=q) (by omega) (by with_reducible assumption) (by with_reducible assumption)).trans (by with_reducible assumption))];simp only[eu,n1,n2,n3,k1,k2,g1,g2];refine ab.mk [] ?_<;>(repeat' first|trivial)
 . have hne:¬aJ [aJ [cU L q fU,cU L q ja],aJ [fq L q,gj L q]]=0:=by with_reducible assumption
   have e:=Gu (L:=L) (q:=q) (by omega) (by with_reducible assumption) (by with_reducible assumption);rw[hbad e hne];refine ab.mk [] ?_<;>(repeat' first|trivial)
 . rw[hbad (ze_B (L:=L) (q:=q) (by omega) (by with_reducible assumption) (by with_reducible assumption)) (by with_reducible assumption)];refine ab.mk [] ?_<;>(repeat' first|trivial)
 . rw[hbad (ze_A (L:=L) (q:=q) (by omega) (by with_reducible assumption)) (by with_reducible assumption)];refine ab.mk [] ?_<;>(repeat' first|trivial)
 . rw[hbad (uG (L:=L) (q:=q) (by omega)) (by decide)];refine ab.mk [] ?_<;>(repeat' first|trivial)
theorem Kk{L:List Nd} {q:Int} {x:V} (hp:cE (L.map aN)) (hL:L.length<=10000) (hx:x=if zE L q=0 then .tuple [nX L q,.str (gm L q fU),.int .i64 0] else .tuple [.agg zZ,.str [],.int .i64 (zE L q)]):aq 8 (pZ L q x):=by
 intro args sg pre y r he hq;unfold pZ at he;split at he<;>cases he;rw[hq.1,hq.2];exact QV _ L q x hp hL hx
def gG(k:Int):Int:=if k=0 then 0 else if k=2 then 1 else if k=3 then 2 else if k=4 then 3 else if k=5 then 4 else if k=6 then 5 else if k=7 then 6 else-1
theorem Sz(k:Int):(gG k=-1/\k≠0/\k≠2/\k≠3/\k≠4/\k≠5/\k≠6/\k≠7)\/(gG k=0/\k=0)\/(gG k=1/\k=2)\/(gG k=2/\k=3)\/(gG k=3/\k=4)\/(gG k=4/\k=5)\/(gG k=5/\k=6)\/(gG k=6/\k=7):=by
 unfold gG;repeat' split
 all_goals omega
def FF:Sm:=fun args σ=>match args,σ with
 |[.list c 1 [.int .u8 0,.int .u8 2,.int .u8 3,.int .u8 4,.int .u8 5,.int .u8 6,.int .u8 7],.int .u8 k],[]=>some (True,.int .i64 (gG k),none)
 |_,_=>none
theorem Uk:aq 154 FF:=by
 intro args sg pre x r he hp;unfold FF at he;split at he<;>cases he
 . rename_i c k;refine ai (C:=cx []) (ak trivial) (fn:=Tryz.f154) fun hw hs=>?_;have hix:=Sz k;all_goals try conv=>whnf
   all_goals try(refine ae.mk ?_;try dsimp only)
   refine aM.mk Nat (fun i=>i<=7/\(gG k=-1\/(i:Int)<=gG k)) (fun i=>⟨19,[(0,.list c 1 [.int .u8 0,.int .u8 2,.int .u8 3,.int .u8 4,.int .u8 5,.int .u8 6,.int .u8 7]),(1,.int .u8 k),(6,.list c 1 [.int .u8 0,.int .u8 2,.int .u8 3,.int .u8 4,.int .u8 5,.int .u8 6,.int .u8 7]),(7,.int .i64 7),(8,.int .i64 i)],[],[]⟩) (fun i=>7-i) [] 0 ⟨ci _,by omega⟩ ?_ (fun i ⟨hi,hj⟩ _ _=>?_)
   . apply ao<;>(repeat' first|trivial)
   obtain⟨m,hm⟩:∃m,m=i+1:=⟨_,rfl⟩
   have h5:i=0\/i=1\/i=2\/i=3\/i=4\/i=5\/i=6\/i=7:=by omega
   rcases h5 with rfl|rfl|rfl|rfl|rfl|rfl|rfl|rfl
   all_goals
    repeat'((conv=>whnf);first|apply af|(apply aj<;>intro h)|with_reducible refine iz.mk _ rfl ?_)
    all_goals try conv=>whnf
    all_goals try(refine ae.mk ?_;try dsimp only)
    all_goals try exact Int.natCast_nonneg _
    all_goals try
     (refine⟨[],m,⟨by omega,by omega⟩,?_,by omega⟩
      subst hm;apply ao<;>(repeat' first|trivial)
      done)
   all_goals
    first
     |rw[show gG k=0 by omega]
     |rw[show gG k=1 by omega]
     |rw[show gG k=2 by omega]
     |rw[show gG k=3 by omega]
     |rw[show gG k=4 by omega]
     |rw[show gG k=5 by omega]
     |rw[show gG k=6 by omega]
     |rw[show gG k=-1 by omega]
    refine ab.mk [] ?_<;>(repeat' first|trivial)
def FC:Sm:=fun args σ=>match args,σ with
 |[.list c 1 [.int .u8 0,.int .u8 2,.int .u8 3,.int .u8 4,.int .u8 5,.int .u8 6,.int .u8 7],.int .u8 k],[]=>some (True,.bool (decide (gG k>=0)),none)
 |_,_=>none
theorem Uh:aq 100 FC:=by
 intro args sg pre x r he hp;unfold FC at he;split at he<;>cases he
 . rename_i c k;refine ai (C:=cx [(154,FF)]) (ak ⟨Uk,trivial⟩) (fn:=Tryz.f100) fun hw hs=>?_;repeat'((conv=>whnf);apply af)
   all_goals try conv=>whnf
   all_goals try(refine ae.mk ?_;try dsimp only)
   refine ab.mk [] ?_<;>(repeat' first|trivial)
theorem Po(l:List az) (hl:l.length<=1000000) (ht:iu l):OK 45 [.list false 7 (aS l),.list true 1 [.int .u8 0,.int .u8 2,.int .u8 3,.int .u8 4,.int .u8 5,.int .u8 6,.int .u8 7]] [] (.list false 7 (aS l)) none:=by
 refine ai (C:=cx [(100,FC)]) (ak ⟨Uh,trivial⟩) (fn:=Tryz.f45) fun hw _=>?_;have e1:=cY l;refine aM.mk Nat (fun i=>i<=l.length) (fun i=>⟨29,[(1,.list true 1 [.int .u8 0,.int .u8 2,.int .u8 3,.int .u8 4,.int .u8 5,.int .u8 6,.int .u8 7]),(5,.buf 0),(8,.list false 7 (aS l)),(9,.int .i64 l.length),(10,.int .i64 i)],[.buf 7 0 ((l.take i).map ea)],[0]⟩) (fun i=>l.length-i) [.tm 5 7] 0 (ci _) ?_ (fun i hi _ _=>?_)
 . apply ao<;>(repeat' first|trivial|apply ah|apply aC)
   exact congrArg Nat.cast e1
 have hk:=fun h=>ht _ (IV (l:=l) (i:=i) h);have hsn:=fun h=>rO (l:=l) (i:=i) (d:=default) h;have hlm:((l.take i).map ea).length=i:=by rw[aB,eo];omega
 repeat'((conv=>whnf);first|apply af|(apply aj<;>intro h)|with_reducible refine mM ?_ ?_)
 all_goals try conv=>whnf
 all_goals try(refine ae.mk ?_;try dsimp only)
 all_goals first|refine stay ?_|omega|(simp only[du];omega)|skip
 . have h1:gG (l.getD i default).value.kind>=0:=by assumption
   rw[hk (by omega)] at h1;exact absurd h1 (by decide)
 . have h1:gG (l.getD i default).value.kind>=0:=by assumption
   rw[hk (by omega)] at h1;exact absurd h1 (by decide)
 . refine⟨[],i+1,by omega,?_,by omega⟩;rw[hsn (by omega)];apply ao<;>(repeat' first|trivial|apply ah|apply aC|apply bg)
   all_goals first
    |(rw[bz];omega)
    |(rw[gq];rfl)
 . obtain rfl:i=l.length:=by omega
   rw[List.take_length];refine ab.mk [.bL 0] ?_<;>(repeat' first|trivial|apply ah|apply kT)
   exact(jF _).symm
def lK(a:List az):List az:=if gb a kf≠[] then eQ a [kf] else a
def la(a:List az) (cd:Int) (nt:Ky):List az:=if cd=1 then cZ (lK a) (tA jo rU) else if cd=2 then cZ (lK a) (tA eY nt) else lK a
theorem Ys{a:List az} (hr:eN a) (ht:iu a):eN (lK a)/\iu (lK a)/\(lK a).length<=a.length:=by
 unfold lK;split
 . exact⟨Bz hr,HY ht,sK _ _⟩
 . exact⟨hr,ht,co _⟩
def DX:Sm:=fun args σ=>match args,σ with
 |[.list false 7 x,.list true 1 [.int .u8 0,.int .u8 2,.int .u8 3,.int .u8 4,.int .u8 5,.int .u8 6,.int .u8 7]],[]=>some ((x=aS (bJ x)/\x.length<=1000000)/\iu (bJ x),.list false 7 x,none)
 |_,_=>none
-- #name atPlain attrs.Plain
theorem SF:aq 45 DX:=by
 intro args sg pre x r he hp;unfold DX at he;split at he<;>cases he;obtain⟨⟨h1,h2⟩,h3⟩:=hp;have h5:=congrArg List.length h1;rw[cY] at h5;have:=Po _ (by omega) h3;rw[<-h1] at this;exact this
theorem yj(t:Ky):pM (.agg [.int .u8 1,.str t,.int .i64 0,.int .u64 0,.list true 0 [],.list true 0 []]):=by
 unfold pM;exact Wk.agg (aP.cons (Wk.refl _) (aP.cons (Wk.refl _) (aP.cons (Wk.refl _) (aP.cons (Wk.refl _) (aP.cons (Wk.nil (.inl rfl)) (aP.cons (Wk.nil (.inl rfl)) aP.nil))))))
theorem RG(a:List az) (ha:a.length<=900000) (hr:eN a) (ht:iu a) (x0 x1 x2 x3 x4 x5 x6 x7 x8 x9 x10 x11 x12 x13 x14 x15 x16 x17 x18 x19 x20 x21 x22 x23 x24 x25 x26 x27 x28 x29 x30 x31 kd s0 e0 cd:Int) (st nm nt:g8) (c2 c3:Bool) (z2 z3:Nat) (l2 l3:List V):OK 12 [.agg (.int .u8 x0::.int .u8 x1::.int .u8 x2::.int .u8 x3::.int .u8 x4::.int .u8 x5::.int .u8 x6::.int .u8 x7::.int .u8 x8::.int .u8 x9::.int .u8 x10::.int .u8 x11::.int .u8 x12::.int .u8 x13::.int .u8 x14::.int .u8 x15::.int .u8 x16::.int .u8 x17::.int .u8 x18::.int .u8 x19::.int .u8 x20::.int .u8 x21::.int .u8 x22::.int .u8 x23::.int .u8 x24::.int .u8 x25::.int .u8 x26::.int .u8 x27::.int .u8 x28::.int .u8 x29::.int .u8 x30::.int .u8 x31::.str st::.str nm::.int .i64 kd::.int .u64 s0::.int .u64 e0::.list false 7 (aS a)::.list c2 z2 l2::.list c3 z3 l3::.int .i64 cd::.str nt::[])] [] (.list false 7 (aS (la a cd nt))) none:=by
 refine ai (C:=cx [(44,wM),(23,DV),(25,uv),(24,zD),(45,DX)]) (ak ⟨Cp,JH,yy,JI,SF,trivial⟩) (fn:=Tryz.f12) fun hw _=>?_;have hR:=mC hr (by omega:a.length<=1000000);have hd:=eu a;obtain⟨b1,b2,b3⟩:=Ys hr ht;have hil:=fun(X:List az) (x:az) (h:X.length<=900000) =>Nat.le_trans (Jt X x) (by omega:X.length+1<=1000000);have hdr:=Bz (ks:=[kf]) hr;have hdt:=HY (ks:=[kf]) ht;have hdl:=sK a [kf];repeat'((conv=>whnf);first|apply af|apply aI|((first|apply aj|apply dr)<;>intro h))
 all_goals try conv=>whnf
 all_goals try(refine ae.mk ?_;try dsimp only)
 all_goals (try simp only[eu] at*)
 . exact⟨hR,ht⟩
 . exact⟨hR,yj _⟩
 . exact⟨⟨by first|rfl|trivial,by rw[cY];exact hil a _ ha⟩,vJ ht rfl⟩
 . have e:la a cd nt=cZ a (tA jo rU):=by
     unfold la lK;rw[if_pos (by assumption),if_neg (fun q=>q (by assumption))]
   rw[e];refine ab.mk [] ?_<;>(repeat' first|trivial)
 . exact⟨hR,yj _⟩
 . exact⟨⟨by first|rfl|trivial,by rw[cY];exact hil a _ ha⟩,vJ ht rfl⟩
 . have e:la a cd nt=cZ a (tA eY nt):=by
     unfold la lK;rw[if_neg (by assumption),if_pos (by assumption),if_neg (fun q=>q (by assumption))]
   rw[e];refine ab.mk [] ?_<;>(repeat' first|trivial)
 . exact⟨⟨by first|rfl|trivial,by rw[cY];exact(by omega)⟩,ht⟩
 . have e:la a cd nt=a:=by
     unfold la lK;rw[if_neg (by assumption),if_neg (by assumption),if_neg (fun q=>q (by assumption))]
   rw[e];refine ab.mk [] ?_<;>(repeat' first|trivial)
 . exact⟨⟨by first|rfl|trivial,by rw[cY];omega⟩,rfl,by decide⟩
 . exact⟨mC hdr (Nat.le_trans hdl (by omega)),yj _⟩
 . exact⟨⟨by first|rfl|trivial,by rw[cY];exact hil _ _ (Nat.le_trans hdl ha)⟩,vJ hdt rfl⟩
 . have e:la a cd nt=cZ (eQ a [kf]) (tA jo rU):=by
     unfold la lK;rw[if_pos (by assumption),if_pos (by assumption)]
   rw[e];refine ab.mk [] ?_<;>(repeat' first|trivial)
 . exact⟨mC hdr (Nat.le_trans hdl (by omega)),yj _⟩
 . exact⟨⟨by first|rfl|trivial,by rw[cY];exact hil _ _ (Nat.le_trans hdl ha)⟩,vJ hdt rfl⟩
 . have e:la a cd nt=cZ (eQ a [kf]) (tA eY nt):=by
     unfold la lK;rw[if_neg (by assumption),if_pos (by assumption),if_pos (by assumption)]
   rw[e];refine ab.mk [] ?_<;>(repeat' first|trivial)
 . exact⟨⟨by first|rfl|trivial,by rw[cY];exact Nat.le_trans hdl (by omega)⟩,hdt⟩
 . have e:la a cd nt=eQ a [kf]:=by
     unfold la lK;rw[if_neg (by assumption),if_neg (by assumption),if_pos (by assumption)]
   rw[e];refine ab.mk [] ?_<;>(repeat' first|trivial)
abbrev qf:V:=.agg (.int .u8 0::.int .u8 0::.int .u8 0::.int .u8 0::.int .u8 0::.int .u8 0::.int .u8 0::.int .u8 0::.int .u8 0::.int .u8 0::.int .u8 0::.int .u8 0::.int .u8 0::.int .u8 0::.int .u8 0::.int .u8 255::.int .u8 0::.int .u8 0::.int .u8 0::.int .u8 0::.int .u8 0::.int .u8 0::.int .u8 0::.int .u8 1::.int .u8 0::.int .u8 0::.int .u8 0::.int .u8 0::.int .u8 0::.int .u8 0::.int .u8 0::.int .u8 0::.str []::.str []::.int .i64 0::.int .u64 0::.int .u64 0::.list false 7 (aS [])::.list false 3 ([].map kQ)::.list true 0 []::.int .i64 2::.str [120]::[])
abbrev rY:List az:=[tA eY [120]]
theorem Z4:la [] 2 [120]=rY:=rfl
def Ao:Sm:=fun args σ=>match args,σ with
 |[x],[]=>some (x=qf,.list false 7 (aS rY),none)
 |_,_=>none
-- #name zTagsX zspan.Tags
theorem Kr:aq 12 Ao:=by
 intro args sg pre x r he hp;unfold Ao at he;split at he<;>cases he;subst hp;rw[<-Z4];exact RG [] (ci _) List.Pairwise.nil (fun _ h=>by cases h) ..
abbrev qd:Ky:=[115,104,111,112]
def wX1(w:WS):WS:=mem (mem (w.begin 123 125) bq (eM [byte 0,byte 0,byte 0,byte 0,byte 0,byte 0,byte 0,byte 0,byte 0,byte 0,byte 0,byte 0,byte 0,byte 0,byte 0,byte 255])) bP (eM [byte 0,byte 0,byte 0,byte 0,byte 0,byte 0,byte 0,byte 1])
def wX2(w:WS):WS:=lU (lU (kj (kj (wX1 w) c8 (sn 0 0)) fT (tG 0 0)) fU qd) ja (gb [] kf)
def wX3(w:WS):WS:=((qo (wX2 w) []).key bH).begin 123 125
def wX(w:WS):WS:=(mem (wX3 w) eY (gb rY eY)).fin.fin
section
variable {X:WS} {m:Nat} {k s:Ky}
theorem De(h:Wb X m) (hm:m<=890000000):okW (bl X.out) (X.l.map ef)/\X.out.length<=1900000000/\X.l.length<=900:=⟨h.ok (by omega),h.pre (by omega)⟩
theorem preB(h:Wb X m) (hm:m<=890000000) (hk:k.length<=100000000) (hs:s.length<=100000000):okW (bl X.out) (X.l.map ef)/\Wb X 1000000000/\k.length<=100000000/\s.length<=100000000:=⟨h.ok (by omega),h.mono (by omega),hk,hs⟩
theorem preC(h:Wb X m) (hm:m<=890000000) (hk:k.length<=100000000):okW (bl X.out) (X.l.map ef)/\Wb X 1000000000/\k.length<=100000000:=⟨h.ok (by omega),h.mono (by omega),hk⟩
theorem preD(h:Wb X m) (hm:m<=890000000) (hk:k.length<=10000) (hs:s.length<=1000000):okW (bl X.out) (X.l.map ef)/\Wb X 900000000/\k.length<=10000/\s.length<=1000000:=⟨h.ok (by omega),h.mono (by omega),hk,hs⟩
end
abbrev xSt(v:WS):AS:=⟨100,[(0,.ptr 0 0),(2,.str qd),(4,.ptr 3 0),(6,.ptr 4 0)],eW v++[.cells (.int .u8 0::.int .u8 0::.int .u8 0::.int .u8 0::.int .u8 0::.int .u8 0::.int .u8 0::.int .u8 0::.int .u8 0::.int .u8 0::.int .u8 0::.int .u8 0::.int .u8 0::.int .u8 0::.int .u8 0::.int .u8 255::.int .u8 0::.int .u8 0::.int .u8 0::.int .u8 0::.int .u8 0::.int .u8 0::.int .u8 0::.int .u8 1::.int .u8 0::.int .u8 0::.int .u8 0::.int .u8 0::.int .u8 0::.int .u8 0::.int .u8 0::.int .u8 0::.str []::.str []::.int .i64 0::.int .u64 0::.int .u64 0::.list false 7 (aS [])::.list false 3 ([].map kQ)::.list true 0 []::.int .i64 2::.str [120]::[]),.cells [.int .u64 0,.int .u64 0]],[1,2]⟩
def gx(y:WS):Nat->WS
 |0=>y
 |_+1=>mem y eY (gb rY eY)
theorem RO(w:WS) (hp:Wb w 1000):OK 42 [.ptr 0 0,qf,.str qd] (eW w) (.tuple []) (some (eW (wX w))):=by
 refine C6 (C:=cx [(97,rJ),(88,wS),(98,wQ),(90,Eg),(91,Ee),(93,ET),(94,EU),(57,FX),(92,An),(89,xa),(95,FU),(96,FT),(44,wM),(12,Ao)]) (ak ⟨vM,Ct,Cs,SR,SQ,Ts,Tt,Uz,Kp,Cz,Ux,Uw,Cp,Kr,trivial⟩) (fn:=Tryz.f42) rfl rfl rfl rfl fun hw _=>?_;refine na.cut 8 WS (fun v=>v=wX1 w/\Wb v 2000) xSt rfl ?_ (fun v ⟨hv,hb⟩=>?_)
 . repeat'((conv=>whnf);apply af)
   all_goals try conv=>whnf
   all_goals try(refine ae.mk ?_;try dsimp only)
   all_goals (try simp only[dg,eu,List.toList_toArray] at*)
   . exact De hp (by omega)
   . exact preB hp.obj (by omega) (by decide) (by simp only[List.length_cons,List.length_nil,ns];omega)
   . exact preB (hp.obj.mem _ _) (by simp only[List.length_cons,List.length_nil,ns];omega) (by decide) (by simp only[List.length_cons,List.length_nil,ns];omega)
   . refine⟨[],wX1 w,⟨rfl,((hp.obj.mem _ _).mem _ _).mono (by simp only[List.length_cons,List.length_nil,ns];omega)⟩,?_⟩;apply ao<;>(repeat' first|trivial)
 refine na.cut 5 WS (fun x=>x=qo (lU (lU (kj (kj v c8 (sn 0 0)) fT (tG 0 0)) fU qd) ja (gb [] kf)) []/\Wb x 6000) xSt rfl ?_ (fun x ⟨hx,hb2⟩=>?_)
 . have hn:=(hb.kj c8 (sn 0 0) (by decide)).kj fT (tG 0 0) (by decide);have he:=hn.lU fU qd;have he2:=he.lU ja (gb [] kf);have ht:(gb [] kf).length=0:=rfl;simp only[List.length_cons,List.length_nil,ht] at hn he he2;repeat'((conv=>whnf);apply af)
   all_goals try conv=>whnf
   all_goals try(refine ae.mk ?_;try dsimp only)
   all_goals (try simp only[dg,eu,List.toList_toArray] at*)
   . exact preC hb (by omega) (by decide)
   . exact preC (hb.kj _ _ (by decide)) (by simp only[List.length_cons,List.length_nil,ns];omega) (by decide)
   . exact preD hn (by omega) (by decide) (by decide)
   . exact⟨mC List.Pairwise.nil (by decide),fun _ h=>by cases h⟩
   . exact preD he (by omega) (by decide) (by decide)
   . exact⟨he2.ok (by omega),rfl,⟨_,he2,by show _+0+_<=_;omega⟩,fun _ h=>by cases h⟩
   . refine⟨[],_,⟨rfl,(he2.ann (fun _ h=>by cases h)).mono (by show _+0+_<=_;omega)⟩,?_⟩;apply ao<;>(repeat' first|trivial)
 refine .vc ?_;repeat'((conv=>whnf);apply af)
 all_goals try conv=>whnf
 all_goals try(refine ae.mk ?_;try dsimp only)
 all_goals (try simp only[dg,eu,List.toList_toArray] at*)
 . exact⟨hb2.ok (by omega),hb2.pre (by omega),by decide⟩
 . exact⟨(hb2.key bH).ok (by decide),(hb2.key bH).pre (by decide)⟩
 generalize hy:(x.key [116,97,103,115]).begin 123 125=y;have hb3:Wb y 7000:=by rw[<-hy];exact(hb2.key bH).obj.mono (by decide)
 refine aM.mk Nat (fun i=>i<=1) (fun i=>⟨100,[(0,.ptr 0 0),(8,.list false 7 (aS rY)),(81,.list false 7 (aS rY)),(82,.int .i64 1),(83,.int .i64 i)],eW (gx y i),[1,2]⟩) (fun i=>1-i) [] 0 (ci _) ?_ (fun i hi _ _=>?_)
 . apply ao<;>(repeat' first|trivial)
 obtain rfl|rfl:i=0\/i=1:=by omega
 . repeat'((conv=>whnf);first|apply af|with_reducible refine iz.mk _ rfl ?_)
   all_goals try conv=>whnf
   all_goals try(refine ae.mk ?_;try dsimp only)
   all_goals (try simp only[dg,eu,List.toList_toArray] at*)
   . decide
   . exact⟨mC (List.pairwise_singleton _ _) (by decide),fun _ h=>by rw[List.mem_singleton.1 h];rfl⟩
   . exact preB (X:=y) hb3 (by omega) (by decide) (by decide)
   . refine⟨[],1,by omega,?_,by omega⟩;apply ao<;>(repeat' first|trivial)
 . have hb4:Wb (gx y 1) 8000:=(hb3.mem eY (gb rY eY)).mono (by decide);repeat'((conv=>whnf);apply af)
   all_goals try conv=>whnf
   all_goals try(refine ae.mk ?_;try dsimp only)
   all_goals (try simp only[dg,eu,List.toList_toArray] at*)
   . exact De hb4 (by omega)
   . exact De hb4.fin (by omega)
   . have e:(gx y 1).fin.fin=wX w:=by
       subst hy hx hv;rfl
     rw[e];refine ab.mk [] ?_<;>(repeat' first|trivial)
def FY:Sm:=fun args σ=>match args,σ with
 |[.ptr 0 0,x,.str s],[.cells [.buf 1,.buf 2,.bool h,.int .i64 cc,.func (.func 87) [] []],.buf 1 0 o,.buf 3 0 l]=>some (x=qf/\s=qd/\okW o l/\Wb (cy o l h cc) 1000,.tuple [],some (eW (wX (cy o l h cc))))
 |_,_=>none
-- #name zWriteX zspan.Write
theorem UA:aq 42 FY:=by
 intro args sg pre x r he hp;unfold FY at he;split at he<;>cases he;obtain⟨h1,h2,h3,h4⟩:=hp;subst h1 h2;rename_i h cc o l;have:=RO (cy o l h cc) h4;rw[kD h3];exact this
def yA:g8:=[123,34,116,114,97,99,101,73,100,34,58,34,48,48,48,48,48,48,48,48,48,48,48,48,48,48,102,102,34,44,34,105,100,34,58,34,48,48,48,48,48,48,48,48,48,48,48,48,48,48,48,49,34,44,34,116,97,103,115,34,58,123,34,101,114,114,111,114,34,58,34,120,34,125,125]
def yB:g8:=[123,34,116,114,97,99,101,73,100,34,58,34,49,34,125]
instance:DecidableEq Nd:=fun a b=>
 if h:a.k=b.k/\a.key=b.key/\a.t=b.t/\a.sz=b.sz then isTrue (by cases a;cases b;simp_all) else isFalse (by rintro rfl;exact h ⟨rfl,rfl,rfl,rfl⟩)
def mA:List Nd:=[⟨123,[],[],5⟩,⟨115,[116,114,97,99,101,73,100],[48,48,48,48,48,48,48,48,48,48,48,48,48,48,102,102],1⟩,⟨115,[105,100],[48,48,48,48,48,48,48,48,48,48,48,48,48,48,48,49],1⟩,⟨123,[116,97,103,115],[],2⟩,⟨115,[101,114,114,111,114],[120],1⟩]
def mB:List Nd:=[⟨123,[],[],2⟩,⟨115,[116,114,97,99,101,73,100],[49],1⟩]
theorem NF:jY yA=0/\ly yA=mA:=by decide+kernel
theorem NG:jY yB=0/\ly yB=mB:=by decide+kernel
theorem mA_ok:cE (mA.map aN):=⟨⟨mc,by rw[bX];exact⟨by decide+kernel,by decide⟩⟩,by rw[bX];decide+kernel⟩
theorem mB_ok:cE (mB.map aN):=⟨⟨mc,by rw[bX];exact⟨by decide+kernel,by decide⟩⟩,by rw[bX];decide+kernel⟩
theorem mA_e:zE mA 0=0:=by decide+kernel
theorem mB_e:zE mB 0=3:=by decide+kernel
theorem mA_1:lj mA 0=[0,0,0,0,0,0,0,0,0,0,0,0,0,0,0,255]/\lg mA 0=[0,0,0,0,0,0,0,1]/\iO mA 0=[]/\lh mA 0=[]/\jj mA 0=0/\(mw mA 0).2=(0,0):=by decide+kernel
theorem mA_2:(qg mA 0).length=0/\(o9 mA 0).length=0/\mZ (fF mA 0) =2/\n5 (fF mA 0) =[120]/\gm mA 0 fU=[]:=by decide+kernel
theorem mA_v:nX mA 0=qf:=by
 obtain⟨h1,h2,h3,h4,h5,h6⟩:=mA_1;obtain⟨k1,k2,k3,k4,_⟩:=mA_2;unfold nX AM;rw[h1,h2,h3,h4,h5,h6,k3,k4,d5 k1,d5 k2];rfl
abbrev xSpO:O:=match qf with
 |.agg l=>.cells l
 |_=>.dead
def FV:Sm:=fun args σ=>match args,σ with
 |[.list false 4 [a,b,c,d,e],.int .i64 k],[]=>some ([a,b,c,d,e]=mA.map aN/\k=0,.tuple [qf,.str [],.int .i64 0],none)
 |[.list false 4 [a,b],.int .i64 k],[]=>some ([a,b]=mB.map aN/\k=0,.tuple [.agg zZ,.str [],.int .i64 3],none)
 |_,_=>none
-- #name zR2 zspan.Read
theorem k_zR2:aq 6 FV:=by
 intro args sg pre x r he hp;unfold FV at he;split at he<;>cases he
 . rw[hp.1,hp.2];exact BM _ mA 0 _ mA_ok (by decide) (by rw[if_pos mA_e,mA_v,mA_2.2.2.2.2])
 . rw[hp.1,hp.2];exact BM _ mB 0 _ mB_ok (by decide) (by rw[if_neg (by rw[mB_e];decide),mB_e])
def wN:WS:=wX .new
def tX:g8:=[123,34,116,114,97,99,101,73,100,34,58,34,48,48,48,48,48,48,48,48,48,48,48,48,48,48,48,48,48,48,48,48,48,48,48,48,48,48,48,48,48,48,102,102,34,44,34,105,100,34,58,34,48,48,48,48,48,48,48,48,48,48,48,48,48,48,48,49,34,44,34,116,105,109,101,115,116,97,109,112,34,58,48,44,34,100,117,114,97,116,105,111,110,34,58,48,44,34,108,111,99,97,108,69,110,100,112,111,105,110,116,34,58,123,34,115,101,114,118,105,99,101,78,97,109,101,34,58,34,115,104,111,112,34,125,44,34,116,97,103,115,34,58,123,34,101,114,114,111,114,34,58,34,120,34,125,125]
theorem YV:wN.done=(tX,0):=by decide+kernel
theorem RP:OK 11 [qf,.str qd] [] (.tuple [.str tX,.int .i64 0]) none:=by
 refine ai (C:=cx [(41,EP),(42,FY),(43,EN)]) (ak ⟨To,UA,Tm,trivial⟩) (fn:=Tryz.f11) fun hw _=>?_;repeat'((conv=>whnf);apply af)
 all_goals try conv=>whnf
 all_goals try(refine ae.mk ?_;try dsimp only)
 all_goals (try simp only[dg] at*)
 . exact⟨trivial,trivial,lH (by decide) (by decide),⟨by decide,by decide⟩⟩
 . exact⟨lH (by decide+kernel) (by decide+kernel),trivial⟩
 . rw[show(wX WS.new).done=(tX,0) from YV];refine ab.mk [] ?_<;>(repeat' first|trivial)
def FZ:Sm:=fun args σ=>match args,σ with
 |[x,.str s],[]=>some (x=qf/\s=qd,.tuple [.str tX,.int .i64 0],none)
 |_,_=>none
-- #name zWritten truchmanlaw41.written
theorem UB:aq 11 FZ:=by
 intro args sg pre x r he hp;unfold FZ at he;split at he<;>cases he;rw[hp.1,hp.2];exact RP
theorem RN{R:g8->Int×List Nd} (hR:∀s,R s=(eO s,fi s)):OK 4 [] [] (.bool true) none:=by
 refine C6 (C:=qu [(10,FJ R),(6,FV),(11,FZ),(12,Ao)] [(2,[.bL 0]),(4,[.bL 2])]) (ak ⟨Uo hR,k_zR2,UB,Kr,trivial⟩) (fn:=Tryz.f4) rfl rfl rfl rfl fun hw hs=>?_;have a1:R yA=(0,mA):=by rw[hR,<-(uA (s:=yA) (by decide)).1,<-(uA (s:=yA) (by decide)).2,NF.1,NF.2]
 have a2:R yB=(0,mB):=by rw[hR,<-(uA (s:=yB) (by decide)).1,<-(uA (s:=yB) (by decide)).2,NG.1,NG.2]
 refine na.cut 2 Unit (fun _=>True) (fun _=>⟨86,[(1,.buf 0),(2,.int .i64 0)],[iB mA],[0]⟩) rfl ?_ (fun _ _=>?_)
 . repeat'((conv=>whnf);apply af)
   all_goals try conv=>whnf
   all_goals try(refine ae.mk ?_;try dsimp only)
   . decide
   . refine⟨[],(),trivial,?_⟩
     erw [a1]
     apply ao<;>(repeat' first|trivial)
 refine na.cut 2 Unit (fun _=>True) (fun _=>⟨86,[(3,.ptr 1 0),(4,.str []),(5,.int .i64 0),(6,.buf 2),(7,.int .i64 0)],[.dead,xSpO,iB mB],[0,1,2]⟩) rfl ?_ (fun _ _=>?_)
 . repeat'((conv=>whnf);apply af)
   all_goals try conv=>whnf
   all_goals try(refine ae.mk ?_;try dsimp only)
   . exact⟨rfl,rfl⟩
   . decide
   . refine⟨[],(),trivial,?_⟩
     erw [a2]
     apply ao<;>(repeat' first|trivial)
 refine .vc ?_;repeat'((conv=>whnf);apply af)
 all_goals try conv=>whnf
 all_goals try(refine ae.mk ?_;try dsimp only)
 . exact⟨rfl,rfl⟩
 . exact⟨rfl,rfl⟩
 . decide
 . refine ab.mk [] ?_<;>(repeat' first|trivial)
def xb:Sm:=fun args σ=>match args,σ with
 |[],[]=>some (True,.bool true,none)
 |_,_=>none
theorem CA:aq 4 xb:=by
 intro args sg pre x r he hp;unfold xb at he;split at he<;>cases he
 . exact RN (R:=fun s=>(eO s,fi s)) fun _=>rfl
theorem N2{s:g8} (h:s.length<=800):cE ((fi s).map aN)/\(fi s).length<=801:=by
 have hl:=Yz (s:=s) (by omega);unfold cE;rw[bX];by_cases h0:eO s=0
 . obtain⟨x,h1,h2,h3⟩:=YA (s:=s) (by omega) h0;have h5:=h1.sz;exact⟨⟨⟨mc,fun z hz=>⟨(h5 z hz).1,(h5 z hz).2,by have:=(h2 z hz).1;omega,by have:=(h2 z hz).2;omega⟩,by omega⟩,fun z hz=>by have:=(h2 z hz).2;omega⟩,by omega⟩
 . have e:fi s=[]:=by unfold fi;rw[if_neg h0]
   rw[e];exact⟨⟨⟨mc,fun _ hz=>(by cases hz),ci _⟩,fun _ hz=>by cases hz⟩,ci _⟩
theorem Ql(c:Bool) (L:List Nd) (hl:L.length<=100000):OK 7 [.list c 4 (L.map aN)] [] (.list false 4 (L.map aN)) none:=by
 refine ai (C:=cx []) (ak trivial) (fn:=Tryz.f7) fun hw _=>?_;have hml:(L.map aN).length=L.length:=aB _;all_goals try conv=>whnf
 all_goals try(refine ae.mk ?_;try dsimp only)
 refine aM.mk Nat (fun i=>i<=L.length) (fun i=>⟨19,[(0,.list c 4 (L.map aN)),(3,.buf 0),(4,.int .i64 i)],[iB (L.take i)],[0]⟩) (fun i=>L.length-i) [.tm 3 4] 0 (ci _) ?_ (fun i hi _ _=>?_)
 . apply ao<;>(repeat' first|trivial)
 have hml2:((L.take i).map aN).length=i:=by rw[aB,eo];omega
 have hnx:i<L.length->L.take (i+1) =L.take i++[L.getD i default]:=fun h=>by
  rw[List.take_add_one,ac,am h];rfl
 repeat'((conv=>whnf);first|apply af|(apply aj<;>intro h)|with_reducible apply j9)
 all_goals try conv=>whnf
 all_goals try(refine ae.mk ?_;try dsimp only)
 all_goals (try simp only[bX,dd] at*)
 all_goals first|refine stay ?_|omega|(simp only[du];omega)|skip
 . refine⟨[],i+1,by omega,?_,by omega⟩;rw[hnx (by omega)];apply ao<;>(repeat' first|trivial|apply ah|apply aC|apply bg)
   all_goals first
    |(first|(simp(discharger:=omega) only[wR];omega)|(simp(discharger:=omega) [-List.getD_eq_getElem?_getD,wR]<;>omega))
    |(simp;done)
 . obtain rfl:i=L.length:=by omega
   rw[List.take_length];refine ab.mk [.bL 0] ?_<;>(repeat' first|trivial)
def A7(L:List Nd):Sm:=fun args σ=>match args,σ with
 |[.list false 4 l],[]=>some (l=L.map aN,.list false 4 l,none)
 |_,_=>none
theorem K8{L:List Nd} (hl:L.length<=100000):aq 7 (A7 L):=by
 intro args sg pre x r he hp;unfold A7 at he;split at he<;>cases he;subst hp;exact Ql _ L hl
theorem JA(L:List Nd) (q:Int):r9 (nX L q):=by
 unfold r9;simp only[qw,eu];refine Wk.agg ?_
 iterate 38 refine aP.cons (Wk.refl _) ?_
 refine aP.cons (Wk.list (.inr rfl) (by simp only[aB]) ?_) (aP.cons (Wk.nil (.inl rfl)) (aP.refl _));intro i x y hx hy;rw[List.getElem?_map] at hx hy;rw[List.getElem?_map,List.getElem?_map] at hy;cases hz:(o9 L q)[i]? with
 |none=>rw[hz] at hx;cases hx
 |some e=>
   rw[hz] at hx hy;cases hx;cases hy;exact Wk.agg (aP.cons (Wk.refl _) (aP.cons (Wk.refl _) (aP.cons (Wk.nil (.inl rfl)) aP.nil)))
theorem Jz:r9 (.agg zZ):=by
 unfold r9;refine Wk.agg ?_
 iterate 37 refine aP.cons (Wk.refl _) ?_
 exact aP.cons (Wk.nil (.inl rfl)) (aP.cons (Wk.nil (.inl rfl)) (aP.cons (Wk.nil (.inl rfl)) (aP.refl _)))
theorem Yf(L:List Nd) (q:Int):(qw (nX L q)).aG.length<=L.length:=by
 show(((o9 L q).map kQ).map HL).length<=_;rw[aB,aB];show((bF L q bk).map _).length<=_;rw[aB];exact AQ L q
theorem Qi(s:g8) (q:Int) (h:¬s.length<=800):OK 3 [.str s,.int .i64 q] [] (.bool true) none:=by
 refine ai (C:=cx [(4,xb)]) (ak ⟨CA,trivial⟩) (fn:=Tryz.f3) fun hw hs=>?_;repeat'((conv=>whnf);first|apply af|(apply aj<;>intro h))
 all_goals try conv=>whnf
 all_goals try(refine ae.mk ?_;try dsimp only)
 . refine ab.mk [] ?_<;>(repeat' first|trivial)
 all_goals exact absurd (show¬(s.length:Int)>800 by assumption) (by omega)
theorem QW{R:g8->Int×List Nd} (hR:∀s,R s=(eO s,fi s)) (s:g8) (q:Int) (h:s.length<=800) (h0:zE (R s).2 q=0):OK 3 [.str s,.int .i64 q] [] (.bool true) none:=by
 obtain⟨hz,hl⟩:cE ((R s).2.map aN)/\(R s).2.length<=801:=by rw[hR];exact N2 h
 refine ai (C:=qu [(4,xb),(5,Ac R),(7,A7 (R s).2),(6,pZ (R s).2 q (.tuple [nX (R s).2 q,.str (gm (R s).2 q fU),.int .i64 0])),(8,pZ (R s).2 q (.tuple [nX (R s).2 q,.str (gm (R s).2 q fU),.int .i64 0])),(9,Ak)] [(4,[.bL 0])]) (ak ⟨CA,Ke hR,K8 (by omega),Kq hz (by omega) (if_pos h0).symm,Kk hz (by omega) (if_pos h0).symm,Km,trivial⟩) (fn:=Tryz.f3) fun hw hs=>?_;repeat'((conv=>whnf);first|apply af|((first|apply aj|apply dr)<;>intro h))
 all_goals try conv=>whnf
 all_goals try(refine ae.mk ?_;try dsimp only)
 . refine ab.mk [] ?_<;>(repeat' first|trivial)
 . omega
 . exact⟨rfl,rfl⟩
 . exact⟨rfl,rfl⟩
 . exact⟨⟨JA _ _,JA _ _⟩,rfl,Nat.le_trans (Yf _ _) (by omega),ci _⟩
 . refine ab.mk [] ?_<;>(repeat' first|trivial)
 . refine ab.mk [] ?_<;>(repeat' first|trivial)
theorem QX{R:g8->Int×List Nd} (hR:∀s,R s=(eO s,fi s)) (s:g8) (q:Int) (h:s.length<=800) (h0:¬zE (R s).2 q=0):OK 3 [.str s,.int .i64 q] [] (.bool true) none:=by
 obtain⟨hz,hl⟩:cE ((R s).2.map aN)/\(R s).2.length<=801:=by rw[hR];exact N2 h
 refine ai (C:=qu [(4,xb),(5,Ac R),(7,A7 (R s).2),(6,pZ (R s).2 q (.tuple [.agg zZ,.str [],.int .i64 (zE (R s).2 q)])),(8,pZ (R s).2 q (.tuple [.agg zZ,.str [],.int .i64 (zE (R s).2 q)])),(9,Ak)] [(4,[.bL 0])]) (ak ⟨CA,Ke hR,K8 (by omega),Kq hz (by omega) (if_neg h0).symm,Kk hz (by omega) (if_neg h0).symm,Km,trivial⟩) (fn:=Tryz.f3) fun hw hs=>?_;repeat'((conv=>whnf);first|apply af|(apply aj<;>intro h))
 all_goals try conv=>whnf
 all_goals try(refine ae.mk ?_;try dsimp only)
 . refine ab.mk [] ?_<;>(repeat' first|trivial)
 . omega
 . exact⟨rfl,rfl⟩
 . exact⟨rfl,rfl⟩
 . exact⟨⟨Jz,Jz⟩,rfl,ci _,ci _⟩
 . refine ab.mk [] ?_<;>(repeat' first|trivial)
 . refine ab.mk [] ?_<;>(repeat' first|trivial)
theorem RQ(s:g8) (q:Int):OK 3 [.str s,.int .i64 q] [] (.bool true) none:=by
 by_cases h:s.length<=800
 . by_cases h0:zE (fi s) q=0
   . exact QW (R:=fun s=>(eO s,fi s)) (fun _=>rfl) s q h h0
   . exact QX (R:=fun s=>(eO s,fi s)) (fun _=>rfl) s q h h0
 . exact Qi s q h
end Go.Proofs.YtknljebcgcmaeaaGreatDoor
