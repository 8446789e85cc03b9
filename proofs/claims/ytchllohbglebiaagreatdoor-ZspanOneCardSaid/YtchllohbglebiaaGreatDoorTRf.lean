/-
  A part of the proof.
-/
import Derived.Test.YtchllohbglebiaaGreatDoorTRe
set_option linter.unusedSimpArgs false
set_option linter.unusedVariables false
set_option maxHeartbeats 4000000
set_option maxRecDepth 100000
namespace Go.Proofs.YtchllohbglebiaaGreatDoor
open Go Go.VG
theorem sf{k:UInt8}:fI k=true↔(k.toNat=115\/k.toNat=110\/k.toNat=116\/k.toNat=102\/k.toNat=122):=by unfold fI;exact decide_eq_true_iff
theorem C5{l m:List V} {x b:V} (h:(l++x::m)[((l.length:Nat):Int).toNat]?=some b):b=x:=by
 rw[Int.toNat_natCast,dt (cb _),Nat.sub_self] at h;simpa using h.symm
theorem Ha{l m:List V} {x b:V} (h:(l++[x]++m)[((l.length:Nat):Int).toNat]?=some b):b=x:=by
 rw[eg] at h;exact C5 h
theorem Yu{l m:List V} {x y:V}:(l++x::m).set (((l.length:Nat):Int).toNat) y=l++y::m:=by
 rw[Int.toNat_natCast,List.set_append_right _ _ (cb _),Nat.sub_self];rfl
theorem YQ(l:List V) (n:Nat) (h:n<=100000001):IntKind.i64.wrap (((l.length+n:Nat):Int)-(l.length:Int)) =(n:Int):=by rw[bX];omega
theorem Gi{l m:List V} {a:Int} {key tt:gA} (h:m.length<=100000000):(l++[V.agg [.int .u8 a,.str key,.str tt,.int .i64 0]]++m).set ((l.length:Nat):Int).toNat
   (.agg [.int .u8 a,.str key,.str tt,.int .i64 (IntKind.i64.wrap (((l++[V.agg [.int .u8 a,.str key,.str tt,.int .i64 0]]++m).length:Int)-(l.length:Int)))]) =
   l++V.agg [.int .u8 a,.str key,.str tt,.int .i64 ((m.length:Int)+1)]::m:=by
 rw[eg];show(l++_::m).set _ (.agg [.int .u8 a,.str key,.str tt,.int .i64 (IntKind.i64.wrap (((l++_::m).length:Int)-_))]) =_;rw[Yu,an,List.length_cons,YQ _ _ (show m.length+1<=_ by omega)];rfl
theorem Nv{l:List V} {a:Int} {key tt:gA}:(l++[V.agg [.int .u8 a,.str key,.str tt,.int .i64 0]]).set ((l.length:Nat):Int).toNat
   (.agg [.int .u8 a,.str key,.str tt,.int .i64 (IntKind.i64.wrap (((l++[V.agg [.int .u8 a,.str key,.str tt,.int .i64 0]]).length:Int)-(l.length:Int)))]) =
   l++[V.agg [.int .u8 a,.str key,.str tt,.int .i64 1]]:=by
 have:=Gi (l:=l) (m:=[]) (a:=a) (key:=key) (tt:=tt) (bu _);rw[List.append_nil] at this;exact this
theorem S1(k0:UInt8) (tt key:gA) (c:Cu) (l:List V) (d:Int) (hp:c.live/\d=32/\(∃L:List Nd,l=L.map aW)/\l.length+(c.e-c.p)+1<=100000000) (hc:¬((gv 0 ⟨k0,tt⟩ key c).1≠0)):OK 13 ([.ptr 0 0,.agg [bv k0,.str tt],.str key,.int .i64 d]) ([.cells [.ptr 1 0,.buf 2],.cells (eC c),.buf 4 0 l]) (.tuple []) (some [.cells [.ptr 1 0,.buf 2],.cells (eC (gv 0 ⟨k0,tt⟩ key c).2.2),.buf 4 0 (l++(gv 0 ⟨k0,tt⟩ key c).2.1.map aW)]):=by
 refine aq (C:=cx []) (ar trivial) (fn:=Tryz.f13) fun hw hs=>?_;obtain⟨hp1,rfl,⟨L,hL⟩,hp4⟩:=hp;have hcc:¬(k0.toNat=123\/k0.toNat=91):=fun q=>hc (by rw[gv,if_pos q];exact(by decide:(33:Int)≠0));have hl:fI k0=true:=Decidable.byContradiction fun q=>hc (by rw[gv,if_neg hcc,if_neg q];exact(by decide:(3:Int)≠0));have hg:gv 0 ⟨k0,tt⟩ key c=(0,[⟨k0,key,tt,1⟩],c):=by rw[gv,if_neg hcc,if_pos hl]
 have hk:=sf.1 hl;repeat'((conv=>whnf);first|apply af|apply fE|(apply av<;>intro h)|with_reducible refine qn ?_ fun b hb=>?_)
 all_goals try conv=>whnf
 all_goals try(refine ae.mk ?_;try dsimp only)
 all_goals first
  |(exfalso;omega)
  |(exact⟨by omega,by rw[an];show _<((l.length+1:Nat):Int);omega⟩)
  |(show l.length+1<=_;omega)
  |(rw[an];show _<l.length+1;omega)
  |(exact beq_iff_eq.2 (by omega))
  |skip
 all_goals
  obtain rfl:=C5 hb;repeat'((conv=>whnf);apply af)
  all_goals try conv=>whnf
  all_goals try(refine ae.mk ?_;try dsimp only)
  all_goals first
   |exact bu _
   |skip
  rw[hg];refine ab.mk [] ?_<;>(repeat' first|trivial|apply ah|apply bc)
  exact Nv
theorem Wz(k0:UInt8) (tt key:gA) (c:Cu) (l:List V) (d:Int) (hp:c.live/\d=32/\(∃L:List Nd,l=L.map aW)/\l.length+(c.e-c.p)+1<=100000000) (hc:(gv 0 ⟨k0,tt⟩ key c).1≠0):jq 13 ([.ptr 0 0,.agg [bv k0,.str tt],.str key,.int .i64 d]) ([.cells [.ptr 1 0,.buf 2],.cells (eC c),.buf 4 0 l]) (.iface 52 (.int .i64 (gv 0 ⟨k0,tt⟩ key c).1)) (some [.dead,.dead,.dead,.buf 1 0 []]):=by
 refine jA (C:=cx []) (ar trivial) (fn:=Tryz.f13) rfl rfl rfl rfl fun hw hs=>?_;obtain⟨hp1,rfl,⟨L,hL⟩,hp4⟩:=hp;have hnl:¬(k0.toNat=115\/k0.toNat=110\/k0.toNat=116\/k0.toNat=102\/k0.toNat=122):=fun q=>hc (by rw[gv,if_neg (show¬(k0.toNat=123\/k0.toNat=91) by omega),if_pos (sf.2 q)]);have q33:k0.toNat=123\/k0.toNat=91->gv 0 ⟨k0,tt⟩ key c=(33,[],c):=fun q=>by rw[gv,if_pos q]
 have q3:¬(k0.toNat=123\/k0.toNat=91)->gv 0 ⟨k0,tt⟩ key c=(3,[],c):=fun q=>by rw[gv,if_neg q,if_neg (fun r=>hnl (sf.1 r))]
 repeat'((conv=>whnf);first|apply af|(apply av<;>intro h)|with_reducible refine qn ?_ fun b hb=>?_)
 all_goals try conv=>whnf
 all_goals try(refine ae.mk ?_;try dsimp only)
 all_goals first
  |(exfalso;omega)
  |(exact⟨by omega,by rw[an];show _<((l.length+1:Nat):Int);omega⟩)
  |(show l.length+1<=_;omega)
  |(rw[an];show _<l.length+1;omega)
  |(exact beq_iff_eq.2 (by omega))
  |skip
 all_goals first
  |(rw[q33 (by omega)];done)
  |(rw[q3 (by omega)];done)
  | (show bC _ _ _
     (refine bC.mk [.nw,.swap 3 4] ?_<;>(repeat' first|trivial|rfl|apply ah);done)
     done)
  |skip
def LS:dL:=fun args σ=>match args,σ with
 |[.ptr 0 0,.agg [.int .u8 n_k0,.str tt],.str key,.int .i64 d],[.cells [.ptr 1 0,.buf 2],.cells ([.str s_c,.int .i64 (.ofNat a_c),.int .i64 (.ofNat e_c),.int .i64 c_c]),.buf 4 0 l]=>some ((0<=n_k0/\n_k0<=255)/\(True/\((Cu.mk s_c a_c e_c c_c).live/\d=32/\(∃L:List Nd,l=L.map aW)/\l.length+((Cu.mk s_c a_c e_c c_c).e-(Cu.mk s_c a_c e_c c_c).p)+1<=100000000)),(gv 0 ⟨(byte n_k0),tt⟩ key (Cu.mk s_c a_c e_c c_c)).1≠0,.iface 52 (.int .i64 (gv 0 ⟨(byte n_k0),tt⟩ key (Cu.mk s_c a_c e_c c_c)).1),some [.dead,.dead,.dead,.buf 1 0 []],.tuple [],some [.cells [.ptr 1 0,.buf 2],.cells (eC (gv 0 ⟨(byte n_k0),tt⟩ key (Cu.mk s_c a_c e_c c_c)).2.2),.buf 4 0 (l++(gv 0 ⟨(byte n_k0),tt⟩ key (Cu.mk s_c a_c e_c c_c)).2.1.map aW)])
 |_,_=>none
theorem V2:dX 13 (LS):=by
 intro args sg pre c u r x r2 he hp;unfold LS at he;split at he<;>cases he
 . rw[l7 (hp).1];rw[dJ (hp.2).1];exact⟨fun hc=>⟨_,rfl,Wz (hp:=hp.2.2) (hc:=hc) ..⟩,fun hc=>S1 (hp:=hp.2.2) (hc:=hc) ..⟩
theorem S2(k:Nat) (ho:dX 38 (sx k)) (hl:dX 39 (sw k)) (k0:UInt8) (tt key:gA) (c:Cu) (l:List V) (d:Int) (hp:c.live/\d+k+1=32/\(∃L:List Nd,l=L.map aW)/\l.length+(c.e-c.p)+1<=100000000) (hc:¬((gv (k+1) ⟨k0,tt⟩ key c).1≠0)):OK 13 ([.ptr 0 0,.agg [bv k0,.str tt],.str key,.int .i64 d]) ([.cells [.ptr 1 0,.buf 2],.cells (eC c),.buf 4 0 l]) (.tuple []) (some [.cells [.ptr 1 0,.buf 2],.cells (eC (gv (k+1) ⟨k0,tt⟩ key c).2.2),.buf 4 0 (l++(gv (k+1) ⟨k0,tt⟩ key c).2.1.map aW)]):=by
 refine aq (C:=gE [] [(38,sx k),(39,sw k)]) (ig trivial ⟨ho,hl,trivial⟩) (fn:=Tryz.f13) fun hw hs=>?_;obtain⟨hp1,hp2,⟨L,hL⟩,hp4⟩:=hp;have hdl:-9223372036854775808<=d:=hw.2.2.2.1.1;have hdw:IntKind.i64.wrap (d+1) =d+1:=by rw[bX];omega
 have g1:k0.toNat=123->gv (k+1) ⟨k0,tt⟩ key c=((bG (gv k) c).1,⟨k0,key,tt,(bG (gv k) c).2.1.length+1⟩::(bG (gv k) c).2.1,(bG (gv k) c).2.2):=fun q=>by rw[gv,if_pos q]
 have g2:k0.toNat=91->gv (k+1) ⟨k0,tt⟩ key c=((bH (gv k) c).1,⟨k0,key,tt,(bH (gv k) c).2.1.length+1⟩::(bH (gv k) c).2.1,(bH (gv k) c).2.2):=fun q=>by rw[gv,if_neg (show¬k0.toNat=123 by omega),if_pos q]
 have g3:fI k0=true->gv (k+1) ⟨k0,tt⟩ key c=(0,[⟨k0,key,tt,1⟩],c):=fun q=>by
  have:=sf.1 q;rw[gv,if_neg (show¬k0.toNat=123 by omega),if_neg (show¬k0.toNat=91 by omega),if_pos q]
 have g4:¬k0.toNat=123->¬k0.toNat=91->¬fI k0=true->gv (k+1) ⟨k0,tt⟩ key c=(3,[],c):=fun q q2 q3=>by rw[gv,if_neg q,if_neg q2,if_neg q3]
 have l1:(bG (gv k) c).1=0->(bG (gv k) c).2.1.length<=100000000:=fun q=>by
  obtain⟨f,h⟩:=CW (j0 k) hp1 q;have h2:=f.live.1.1;rw[f.e] at h2;omega
 have l2:(bH (gv k) c).1=0->(bH (gv k) c).2.1.length<=100000000:=fun q=>by
  obtain⟨f,h⟩:=CV (j0 k) hp1 q;have h2:=f.live.1.1;rw[f.e] at h2;omega
 have hl:¬k0.toNat=123->¬k0.toNat=91->fI k0=true:=fun q q2=>Decidable.byContradiction fun q3=>hc (by rw[g4 q q2 q3];exact(by decide:(3:Int)≠0));have hk:¬k0.toNat=123->¬k0.toNat=91->_:=fun q q2=>sf.1 (hl q q2);repeat'((conv=>whnf);first|with_reducible refine cM ?_ (fun h=>?_) fun h=>?_|apply af|apply fE|(apply av<;>intro h)|with_reducible refine qn ?_ fun b hb=>?_)
 all_goals try conv=>whnf
 all_goals try(refine ae.mk ?_;try dsimp only)
 all_goals (try simp only[aV] at*)
 all_goals first
  |(exfalso;omega)
  |(exact⟨by omega,by rw[an];show _<((l.length+1:Nat):Int);omega⟩)
  |(show l.length+1<=_;omega)
  |(rw[an];show _<l.length+1;omega)
  |(exact beq_iff_eq.2 (by omega))
  |skip
 all_goals first
  |(exact⟨trivial,hp1,by rw[hdw];omega,uw (a:=[⟨k0,key,tt,0⟩]) hL,by rw[an];show l.length+1+_<=_;omega⟩)
  |(exact⟨by omega,by rw[an,an];show _<((l.length+1+_:Nat):Int);omega⟩)
  |(rw[an,an];show _<l.length+1+_;omega)
  |skip
 . exact hc (by rw[g1 (by omega)];exact ‹(bG (gv k) c).1≠0›)
 . obtain rfl:=Ha hb;repeat'((conv=>whnf);apply af)
   all_goals try conv=>whnf
   all_goals try(refine ae.mk ?_;try dsimp only)
   . exact bu _
   have h0:(bG (gv k) c).1=0:=Decidable.not_not.1 (by assumption);rw[g1 (by omega)];refine ab.mk [] ?_<;>(repeat' first|trivial|apply ah|apply bc)
   rw[Gi (by rw[aA];exact l1 h0),aA];rfl
 . exact hc (by rw[g2 (by omega)];exact ‹(bH (gv k) c).1≠0›)
 . obtain rfl:=Ha hb;repeat'((conv=>whnf);apply af)
   all_goals try conv=>whnf
   all_goals try(refine ae.mk ?_;try dsimp only)
   . exact bu _
   have h0:(bH (gv k) c).1=0:=Decidable.not_not.1 (by assumption);rw[g2 (by omega)];refine ab.mk [] ?_<;>(repeat' first|trivial|apply ah|apply bc)
   rw[Gi (by rw[aA];exact l2 h0),aA];rfl
 all_goals
  obtain rfl:=C5 hb;repeat'((conv=>whnf);apply af)
  all_goals try conv=>whnf
  all_goals try(refine ae.mk ?_;try dsimp only)
  all_goals first
   |exact bu _
   |skip
  rw[g3 (hl (by omega) (by omega))];refine ab.mk [] ?_<;>(repeat' first|trivial|apply ah|apply bc)
  exact Nv
theorem WD(k:Nat) (ho:dX 38 (sx k)) (hl:dX 39 (sw k)) (k0:UInt8) (tt key:gA) (c:Cu) (l:List V) (d:Int) (hp:c.live/\d+k+1=32/\(∃L:List Nd,l=L.map aW)/\l.length+(c.e-c.p)+1<=100000000) (hc:(gv (k+1) ⟨k0,tt⟩ key c).1≠0):jq 13 ([.ptr 0 0,.agg [bv k0,.str tt],.str key,.int .i64 d]) ([.cells [.ptr 1 0,.buf 2],.cells (eC c),.buf 4 0 l]) (.iface 52 (.int .i64 (gv (k+1) ⟨k0,tt⟩ key c).1)) (some [.dead,.dead,.dead,.buf 1 0 []]):=by
 refine jA (C:=gE [] [(38,sx k),(39,sw k)]) (ig trivial ⟨ho,hl,trivial⟩) (fn:=Tryz.f13) rfl rfl rfl rfl fun hw hs=>?_;obtain⟨hp1,hp2,⟨L,hL⟩,hp4⟩:=hp;have hdl:-9223372036854775808<=d:=hw.2.2.2.1.1;have hdw:IntKind.i64.wrap (d+1)=d+1:=by rw[bX];omega
 have g1:k0.toNat=123->gv (k+1) ⟨k0,tt⟩ key c=((bG (gv k) c).1,⟨k0,key,tt,(bG (gv k) c).2.1.length+1⟩::(bG (gv k) c).2.1,(bG (gv k) c).2.2):=fun q=>by rw[gv,if_pos q]
 have g2:k0.toNat=91->gv (k+1) ⟨k0,tt⟩ key c=((bH (gv k) c).1,⟨k0,key,tt,(bH (gv k) c).2.1.length+1⟩::(bH (gv k) c).2.1,(bH (gv k) c).2.2):=fun q=>by rw[gv,if_neg (show¬k0.toNat=123 by omega),if_pos q]
 have g3:fI k0=true->gv (k+1) ⟨k0,tt⟩ key c=(0,[⟨k0,key,tt,1⟩],c):=fun q=>by
  have:=sf.1 q;rw[gv,if_neg (show¬k0.toNat=123 by omega),if_neg (show¬k0.toNat=91 by omega),if_pos q]
 have g4:¬k0.toNat=123->¬k0.toNat=91->¬fI k0=true->gv (k+1) ⟨k0,tt⟩ key c=(3,[],c):=fun q q2 q3=>by rw[gv,if_neg q,if_neg q2,if_neg q3]
 have l1:(bG (gv k) c).1=0->(bG (gv k) c).2.1.length<=100000000:=fun q=>by
  obtain⟨f,h⟩:=CW (j0 k) hp1 q;have h2:=f.live.1.1;rw[f.e] at h2;omega
 have l2:(bH (gv k) c).1=0->(bH (gv k) c).2.1.length<=100000000:=fun q=>by
  obtain⟨f,h⟩:=CV (j0 k) hp1 q;have h2:=f.live.1.1;rw[f.e] at h2;omega
 have hnl:¬k0.toNat=123->¬k0.toNat=91->¬fI k0=true:=fun q q2 q3=>hc (by rw[g3 q3]);have hk:¬k0.toNat=123->¬k0.toNat=91->¬_:=fun q q2 r=>hnl q q2 (sf.2 r);repeat'((conv=>whnf);first|with_reducible refine cM ?_ (fun h=>?_) fun h=>?_|apply af|(apply av<;>intro h)|with_reducible refine qn ?_ fun b hb=>?_)
 all_goals try conv=>whnf
 all_goals try(refine ae.mk ?_;try dsimp only)
 all_goals (try simp only[aV] at*)
 all_goals first
  |(exfalso;omega)
  |(exact⟨by omega,by rw[an];show _<((l.length+1:Nat):Int);omega⟩)
  |(show l.length+1<=_;omega)
  |(rw[an];show _<l.length+1;omega)
  |(exact beq_iff_eq.2 (by omega))
  |skip
 all_goals first
  |(exact⟨trivial,hp1,by rw[hdw];omega,uw (a:=[⟨k0,key,tt,0⟩]) hL,by rw[an];show l.length+1+_<=_;omega⟩)
  |(exact⟨by omega,by rw[an,an];show _<((l.length+1+_:Nat):Int);omega⟩)
  |(rw[an,an];show _<l.length+1+_;omega)
  |skip
 all_goals first
  |(rw[g1 (by omega)];done)
  |(rw[g2 (by omega)];done)
  |(rw[g4 (by omega) (by omega) (hnl (by omega) (by omega))];done)
  | (show bC _ _ _
     (refine bC.mk [.nw,.swap 3 4] ?_<;>(repeat' first|trivial|rfl|apply ah);done)
     done)
  |(exfalso;exact hc (by rw[g1 (by omega)];exact Decidable.not_not.1 ‹¬(bG (gv k) c).1≠0›))
  |(exfalso;exact hc (by rw[g2 (by omega)];exact Decidable.not_not.1 ‹¬(bH (gv k) c).1≠0›))
def LU(k:Nat):dL:=fun args σ=>match args,σ with
 |[.ptr 0 0,.agg [.int .u8 n_k0,.str tt],.str key,.int .i64 d],[.cells [.ptr 1 0,.buf 2],.cells ([.str s_c,.int .i64 (.ofNat a_c),.int .i64 (.ofNat e_c),.int .i64 c_c]),.buf 4 0 l]=>some ((0<=n_k0/\n_k0<=255)/\(True/\((Cu.mk s_c a_c e_c c_c).live/\d+k+1=32/\(∃L:List Nd,l=L.map aW)/\l.length+((Cu.mk s_c a_c e_c c_c).e-(Cu.mk s_c a_c e_c c_c).p)+1<=100000000)),(gv (k+1) ⟨(byte n_k0),tt⟩ key (Cu.mk s_c a_c e_c c_c)).1≠0,.iface 52 (.int .i64 (gv (k+1) ⟨(byte n_k0),tt⟩ key (Cu.mk s_c a_c e_c c_c)).1),some [.dead,.dead,.dead,.buf 1 0 []],.tuple [],some [.cells [.ptr 1 0,.buf 2],.cells (eC (gv (k+1) ⟨(byte n_k0),tt⟩ key (Cu.mk s_c a_c e_c c_c)).2.2),.buf 4 0 (l++(gv (k+1) ⟨(byte n_k0),tt⟩ key (Cu.mk s_c a_c e_c c_c)).2.1.map aW)])
 |_,_=>none
theorem V3(k:Nat) (ho:dX 38 (sx k)) (hl:dX 39 (sw k)):dX 13 (LU k):=by
 intro args sg pre c u r x r2 he hp;unfold LU at he;split at he<;>cases he
 . rw[l7 (hp).1];rw[dJ (hp.2).1];exact⟨fun hc=>⟨_,rfl,WD (ho:=ho) (hl:=hl) (hp:=hp.2.2) (hc:=hc) ..⟩,fun hc=>S2 (ho:=ho) (hl:=hl) (hp:=hp.2.2) (hc:=hc) ..⟩
theorem Kt:∀k,dX 13 (lM k)
 |0=>by
   intro args sg pre c u r x r2 he hp;unfold lM at he;split at he<;>cases he;exact V2 _ _ _ _ _ _ _ _ rfl ⟨hp.1,trivial,hp.2.1,by have:=hp.2.2.1;omega,hp.2.2.2⟩
 |k+1=>by
   have hv:=Kt k;intro args sg pre c u r x r2 he hp;unfold lM at he;split at he<;>cases he;exact V3 k (V0 k hv) (UZ k hv) _ _ _ _ _ _ _ _ rfl ⟨hp.1,trivial,hp.2.1,by have:=hp.2.2.1;omega,hp.2.2.2⟩
end Go.Proofs.YtchllohbglebiaaGreatDoor
