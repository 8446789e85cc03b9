/-
  A part of the proof.
-/
import Derived.Test.YtchllohbglebiaaGreatDoorVgZ
import Derived.RecoverIn
set_option linter.unusedSimpArgs false
set_option linter.unusedVariables false
namespace Go.VG
open Go
theorem KM{P:Program} {fn:Func} {tmps:Array Value} {R:Ending->World->Prop} {u:FrameMode} (hu:u≠.run) {rest:List Deferred}:∀(Ds:List Nat) (w:World),Ds.Nodup->(∀D∈Ds,w.heap[D]?=some (.deferred (some [])))->
   LeavesInM Fence.wide 0 P fn tmps R rest u (shut w Ds)->LeavesInM Fence.wide 0 P fn tmps R (Ds.map (fun D=>{target:=.collected D,args:=#[]})++rest) u w
 |[],w,_,_,h=>h
 |D::Ds,w,hn,hD,h=>by
   refine⟨hu,.inl ⟨D,w.putObj D (.deferred none),rfl,run_takeDeferred (hD D List.mem_cons_self),?_⟩⟩;have hn:=List.nodup_cons.1 hn;refine KM hu Ds _ hn.2 (fun D' h'=>?_) h;rw[World.putObj_heap_other (fun e=>hn.1 (by rw[<-e];exact h'))];exact hD D' (d5 _ h')
theorem BG{C:Ctx} {E:Env} {n:Nat} {st0:St} {g0:au} {s:AS} {a:Act} {w0:World} (hgo:eD C E n st0 g0 s a w0):
   ∃st' g' w',Rel E st' g' s {a with defers:=E.ds} w'/\aL C.gl st'/\n8 n st0 g0 st' g' s/\
    ∀(fn:Func) (tmps:Array Value) (R:Ending->World->Prop) (u:FrameMode),u≠.run->LeavesInM Fence.wide 0 C.P fn tmps R E.ds u w'->LeavesInM Fence.wide 0 C.P fn tmps R a.defers u w0:=by
 obtain⟨E',hE',st',g',R0',hg',B⟩:=hgo;obtain⟨Ds,hDs,hnd,hDall⟩:=hE'.ds;have hdf:a.defers=Ds.map (fun D=>{target:=.collected D,args:=#[]})++E.ds:=by rw[R0'.df,hDs]
 have hDh:∀D∈Ds,w0.heap[D]?=some (.deferred (some [])):=fun D hD=>(R0'.wr.fr D (hDall D hD).2.1).trans (hDall D hD).2.2;obtain⟨w',hw'⟩:∃w',w'=shut w0 Ds:=⟨_,rfl⟩
 obtain⟨q1,q2,q3,q4⟩:=Ax Ds w0;rw[<-hw'] at q1 q2 q3 q4;have hheap:∀b,b∉Ds->w'.heap[b]?=w0.heap[b]?:=fun b hb=>by rw[hw'];exact Aw Ds w0 b hb
 have RW:aF E st' g' s.sg w':=by
  have R1:=hE'.whole R0'.wr;refine R1.env (q2.trans R1.os) (q3.trans R1.tape) (q4.trans R1.output) (by rw[q1];exact R1.size) R1.gnew R1.sub R1.stG (fun i b hi hb=>(R1.cH hi hb).2) (fun b hb=>hheap b fun hD=>?_) (by rw[q1];exact cb _) (fun b hb=>?_)
  . rcases hb with ⟨i,hi,hb⟩|⟨o,v,hv⟩
    . exact(hDall b hD).2.1 (R0'.wr.cH hi hb).2
    . obtain⟨c,el,fr,hc⟩:=R0'.wr.Bo hv;rw[hDh b hD] at hc;cases hc
  . rw[hheap b fun hD=>hb (hDall b hD).1];exact R1.fr b hb
 refine⟨st',g',w',⟨R0'.nt,rfl,R0'.tm,RW⟩,hg',B,fun fn tmps R u hu h=>?_⟩;rw[hdf];refine KM hu Ds w0 hnd hDh ?_;rw[<-hw'];exact h
section
variable {C:Ctx} {E:Env} {st:St} {g:au} {s:AS} {a:Act} {w:World}
theorem NL(R:Rel E st g s a w) (hg:aL C.gl st) (G:cq C) {id:Nat} {mk df:Oper} {gf:FuncId} {cs:Array Operand} {t9:Tmp} {Q:Exit->Act->World->Prop}
   (hmk:mk.op=.makeFunc (.func gf) #[] cs) (hmd:mk.dst=some t9) (hmg:mk.guard=none) (hdf:df.op=.defer {callee:=.value (.tmp t9),args:=#[],argTypes:=#[]}) (hdd:df.dst=none) (hdg:df.guard=none) (hds:e9 s (some t9) =true)
   (hQ:∀(a':Act) (w':World) (st':St) (g':au) (ca:Array Value),aC st' g' (s.evs C cs.toList) s.sg.length ca.toList->cm st g s st' g' (s.app (some t9) (pe (.func (.func gf) [] (s.evs C cs.toList))))->aL C.gl st'->
    Rel {E with ds:={target:=.fn (.func gf) ca,args:=#[]}::E.ds} st' g' (s.app (some t9) (pe (.func (.func gf) [] (s.evs C cs.toList)))) a' w'->Q .normal a' w'):(Code.region id #[mk,df] false).wp C.P Q a w:=by
 refine wp_region ?_;show wpOps C.P #[mk,df] Q [0,1] a w;rw[wpOps_cons];refine G3 (s:=s) (o:=mk) (e:=pe (.func (.func gf) [] (s.evs C cs.toList))) G R hg (by simp) (by rw[hmd];exact hds) ?_ fun a1 w1 hgo=>?_
 . unfold stepT;rw[hmg];simp only;unfold cL;rw[hmk];simp only[u6];rfl
 rw[hmd] at hgo;obtain⟨st1,g1,R1,hg1,A⟩:=hgo;have h9:=R1.tm t9;have hlk:lk (s.app (some t9) (pe (.func (.func gf) [] (s.evs C cs.toList)))).tm t9=.func (.func gf) [] (s.evs C cs.toList):=by
  rw[ka,if_pos rfl];rfl
 rw[hlk] at h9;simp only[VR] at h9;obtain⟨fa,ca,h1,h2,h3⟩:=h9;have hfa:fa=#[]:=by
  have:=eN h2;simp at this;exact Array.eq_empty_of_size_eq_zero this.symm
 subst hfa;rw[wpOps_cons];unfold wpOp;show(if Region.wanted df (yielded #[mk,df] a1.tmps) then df.wp C.P a1 w1 (wpOps C.P #[mk,df] Q []) Q\/(df.asks C.P a1 w1/\LetsOut Q) else _);rw[if_pos (by simp[Region.wanted,hdg])];left;unfold Oper.wp;have hx:(execOp a1.eval df).run C.P w1=.ok (.defer {target:=.fn (.func gf) ca,args:=#[]}) w1:=by
  have e1:a1.eval (.tmp t9) =.func (.func gf) #[] ca:=h1;simp only[execOp,hdf,resolve,Sem.run_bind,e1,Deferred.ofValue,Sem.run_pure,Result.andThen_ok];simp
 rw[hx,Oper.upon_defer,hdd];exact hQ _ _ st1 g1 ca (by have:=A.len;exact h3) A hg1 ⟨R1.nt,by show _::a1.defers=_;rw[R1.df],R1.tm,R1.wr.ds _⟩
end
def kL:Option Value->FrameMode
 |none=>.returning
 |some v=>.panicking [{v:=v,recovered:=false}]
def rf(P:Program) (gl:Nat->Option (List V)) (gf:FuncId) (args:List V) (σ:List O) (m:Option Value) (σ':List O):Prop:=
 n9 P gf/\∀(E:Env) (st:St) (g:au) (w:World) (vs:List Value),aF E st g σ w->aL gl st->aC st g args σ.length vs->
  CallsDIn Fence.wide 0 P gf vs.toArray (kL m) w fun e u' w'=>∃v st' g',e=.returned v/\settle u'=.returning/\aF E st' g' σ' w'/\(∀b o v,st b o=some v->st' b o=some v)/\(∀i,i<σ.length->g' i=g i)/\σ.length<=σ'.length
def vM:List V->List Nat->Bool
 |[],_=>true
 |.ptr i _::vs,kl=>!aH i kl&&vM vs kl
 |_,_=>false
theorem Cc:∀{vs:List V} {kl:List Nat},vM vs kl=true->∀i,V.iF i vs=true->aH i kl=false
 |[],_,_,i,h=>by simp[V.iF] at h
 |v::vs,kl,hc,i,h=>by
   cases v with
   |ptr j o=>
     simp only[vM,zza,Bool.not_eq_true'] at hc;simp only[V.iF,V.has,Bool.or_eq_true] at h;rcases h with h|h
     . have:j=i:=by
         first
          |exact aB h
          |exact(aB h).symm
          |simpa using h
       rw[<-this];exact hc.1
     . exact Cc hc.2 i h
   |_=>simp[vM] at hc
def nK(P:AS->Prop) (ex:Ex) (s:AS):Prop:=match ex with
 |.norm=>P s
 |_=>False
inductive iC (C:Ctx) (rs:List ResultVar) (σ:List O) (x:V) (r:Option (List O)) (gf:FuncId) (cap:List V) (m:Option Value) (s:AS):Prop where
 |mk (σ':List O) (hc:rf C.P C.gl gf cap s.sg m σ') (hk:vM cap s.kl=true) (h:ab C.ti rs σ x r ⟨s.nt,s.tm,σ',s.kl⟩)
def Aj(C:Ctx) (rs:List ResultVar) (σ:List O) (x:V) (r:Option (List O)) (gf:FuncId) (cap:List V) (ex:Ex) (s:AS):Prop:=match ex with
 |.norm=>iC C rs σ x r gf cap none s
 |.ret=>iC C rs σ x r gf cap none s
 |.pan u=>iC C rs σ x r gf cap (some u) s
 |_=>False
theorem OC{C:Ctx} (G:cq C) {f gf:FuncId} {fn:Func} {c0 c1 M:Code} {id:Nat} {mk df:Oper} {cs:Array Operand} {t9:Tmp} {args:List V} {σ:List O} {x:V} {r:Option (List O)} (hf:C.P.funcs[f]?=some fn)
   (hb:fn.body=some (.seq c0 (.seq c1 (.seq (.region id #[mk,df] false) M)))) (hn:(fn.name== "runtime.NumGoroutine") =false)
   (hmk:mk.op=.makeFunc (.func gf) #[] cs) (hmd:mk.dst=some t9) (hmg:mk.guard=none) (hdf:df.op=.defer {callee:=.value (.tmp t9),args:=#[],argTypes:=#[]}) (hdd:df.dst=none) (hdg:df.guard=none)
   (hnt:Nat.ble args.length fn.ntmps=true) (h:V.eK args->iz σ->vc C σ.length c0 ⟨fn.ntmps,hP args 0,σ,[]⟩ (nK fun s1=>vc C σ.length c1 s1 (nK fun s2=>e9 s2 (some t9) =true/\s2.kl=[]/\
    vc C s2.sg.length M (s2.app (some t9) (pe (.func (.func gf) [] (s2.evs C cs.toList)))) (Aj C fn.results.toList σ x r gf (s2.evs C cs.toList)))))
   (hy:C.yd=fun _ _ _ _=>none) {E:Env} (hds:E.ds=[]) (st:St) (g:au) (w:World) (vs:List Value) (W:aF E st g σ w) (hg:aL C.gl st) (hv:aC st g args σ.length vs):
   Calls C.P f vs.toArray w fun e w'=>∃v st' g',e=.returned v/\aF E st' g' (r.getD σ) w'/\VR st' g' x (r.getD σ).length v/\(∀b o v,st b o=some v->st' b o=some v)/\
    σ.length<=(r.getD σ).length/\∀i o,σ[i]?=some o->(r=none\/fg (r.getD []) =true\/o.gJ=false)->g' i=g i:=by
 have hlen:=eN hv;have hnt':=d6 hnt;have hvc:=h (pQ hv) W.wf;have R:Rel E st g ⟨fn.ntmps,hP args 0,σ,[]⟩ {tmps:=vs.toArray++Array.replicate (fn.ntmps-vs.toArray.size) undef,defers:=[]} w:=by
  refine⟨by simp;omega,hds.symm,fun t=>?_,W⟩;show VR st g (lk (hP args 0) t) σ.length _;rw[we,if_pos (bu _),Nat.sub_zero];rcases d7 t args.length with h1|h1
  . have h2:args[t]?=some args[t]:=am h1;obtain⟨v,h3,h4⟩:=jQ hv h2;have h5:(vs.toArray++Array.replicate (fn.ntmps-vs.toArray.size) undef).getD t undef=v:=by
     rw[Array.getD_eq_getD_getElem?,Array.getElem?_append_left (by simp;omega)];simp[h3]
    rw[ac,h2];show VR st g args[t] σ.length ((vs.toArray++Array.replicate (fn.ntmps-vs.toArray.size) undef).getD t undef);rw[h5];exact h4
  . rw[ac,ci h1];simp[VR]
 have hY:∀(E':Env) (n:Nat) (st:St) (g:au),iD C E' n st g:=fun _ _ _ _=>iD.none hy;refine callsIn_wide.1 (callsIn_of_wp_marks (F:=Fence.wide) (n:=0) hf hb trivial (wpIn_wide.2 (wp_seq (pH G (fun _ _=>hY _ _ _ _) c0 _ _ w _ _ ⟨E,jo.refl W.gnew,st,g,R,hg,⟨fun _ _ _ h=>h,fun _ _ _=>rfl,cb _⟩⟩ hvc fun ex s1 a1 w1 hk hgo1=>?_))));cases ex with
 |ret=>exact hk.elim
 |exit id=>exact hk.elim
 |goto l=>exact hk.elim
 |pan v=>exact hk.elim
 |norm=>
 show Code.wp C.P (.seq c1 (.seq (.region id #[mk,df] false) M)) _ a1 w1;refine wp_seq (pH G (fun _ _=>hY _ _ _ _) c1 _ _ w1 _ _ hgo1 hk fun ex s2 a2 w2 hk2 hgo2=>?_);cases ex with
 |ret=>exact hk2.elim
 |exit id=>exact hk2.elim
 |goto l=>exact hk2.elim
 |pan v=>exact hk2.elim
 |norm=>
 show Code.wp C.P (.seq (.region id #[mk,df] false) M) _ a2 w2;obtain⟨hds2,hkl2,hM⟩:=hk2;obtain⟨E2,hE2,st2,g2,R2,hg2,B2⟩:=hgo2;refine wp_seq (NL R2 hg2 G hmk hmd hmg hdf hdd hdg hds2 fun a3 w3 st3 g3 ca hca A3 hg3 R3=>?_);show Code.wp C.P M _ a3 w3;refine pH G (fun _ _=>hY _ _ _ _) M _ _ w3 _ _ ⟨_,jo.refl R3.wr.gnew,st3,g3,R3,hg3,⟨fun _ _ _ h=>h,fun _ _ _=>rfl,cb _⟩⟩ hM fun ex s4 a4 w4 hk4 hgo4=>?_;have key:∀m,iC C fn.results.toList σ x r gf (s2.evs C cs.toList) m s4->LeavesInM Fence.wide 0 C.P fn a4.tmps (fun e w'=>∃v st' g',e=.returned v/\aF E st' g' (r.getD σ) w'/\VR st' g' x (r.getD σ).length v/\(∀b o v,st b o=some v->st' b o=some v)/\
    σ.length<=(r.getD σ).length/\∀i o,σ[i]?=some o->(r=none\/fg (r.getD []) =true\/o.gJ=false)->g' i=g i) a4.defers (kL m) w4:=by
  rintro m ⟨σ',hclo,hcap,ps,hend⟩;have hm:kL m≠.run:=by cases m<;>simp[kL]
  obtain⟨st5,g5,w5,R5,hg5,B5,hL⟩:=BG hgo4;refine hL fn a4.tmps _ _ hm ⟨hm,.inr ⟨fun q=>(by cases q),.func gf,ca,gf,ca,rfl,?_,fun _ _=>trivial,?_⟩⟩
  . show(invoke (.fn (.func gf) ca) #[]).run C.P w5=_;simp only[invoke];rw[show(#[]++ca:Array Value) =ca by simp];exact Am hclo.1 ca w5
  have hn3:(s2.app (some t9) (pe (.func (.func gf) [] (s2.evs C cs.toList)))).sg.length=s2.sg.length:=by
   rw[jt (by rfl)]
  have hca5:aC st5 g5 (s2.evs C cs.toList) s4.sg.length ca.toList:=la B5.mono (fun i hi hlt=>⟨by have:=B5.len;omega,B5.aO i hlt (Cc hcap i hi)⟩) hca;refine CallsDIn.mono (hclo.2 _ st5 g5 w5 ca.toList R5.wr hg5 hca5) ?_;rintro e u' w6 ⟨v,st6,g6,rfl,hset,W6,hm6,hk6,hl6⟩;show LeavesInM Fence.wide 0 C.P fn a4.tmps _ E2.ds (settle u') w6;rw[hset];have hgo6:eD C E σ.length st g ⟨s4.nt,s4.tm,σ',s4.kl⟩ {a4 with defers:=E2.ds} w6:=by
   refine⟨E2,hE2,st6,g6,⟨R5.nt,rfl,fun t=>?_,W6.sP⟩,hg5.mono hm6,⟨fun b o v q=>hm6 _ _ _ (B5.mono _ _ _ (A3.mono _ _ _ (B2.mono _ _ _ q))),fun i hi hkl=>?_,?_⟩⟩
   . exact gC hm6 (fun i _ hlt=>⟨Nat.lt_of_lt_of_le hlt hl6,hk6 i hlt⟩) (R5.tm t)
   . have b2:σ.length<=s2.sg.length:=B2.len;have b5:s2.sg.length<=s4.sg.length:=by have:=B5.len;rw[hn3] at this;exact this
     have hi2:i<σ.length:=hi;rw[hk6 i (by omega),B5.aO i (by rw[hn3];omega) hkl,A3.aO i (by omega) (by show aH i (gW [] s2.kl) =false;rw[hkl2];rfl),B2.aO i hi (by rw[hkl2];rfl)]
   . have b2:σ.length<=s2.sg.length:=B2.len;have b5:s2.sg.length<=s4.sg.length:=by have:=B5.len;rw[hn3] at this;exact this
     show σ.length<=σ'.length;omega
  replace hgo6:=hgo6.dq ps;generalize AS.dq ⟨s4.nt,s4.tm,σ',s4.kl⟩ ps=s7 at hgo6 hend;obtain⟨st7,g7,w7,R7,hg7,B7,hL7⟩:=BG hgo6;refine hL7 fn a4.tmps _ .returning (by simp) ?_;rw[hds];have hends:∀(x':V) (σ':List O),pw C.ti s7 fn.results.toList=some x'->x'.il σ'.length=true->gm s7.sg σ' σ'.length->∃v,(results fn a4.tmps).run C.P w7=.ok v w7/\aF E st7 g7 σ' w7/\VR st7 g7 x' σ'.length v:=fun x' σ' h1 h2 h3=>by
   obtain⟨v,h4,h5⟩:=Ak G.toGood R7 h1;exact⟨v,h4,R7.wr.sK h3,gC (fun _ _ _ h=>h) (fun i hi _=>⟨rY h2 hi,rfl⟩) h5⟩
  have hkeep:∀aO,nx σ aO s7.kl=true->∀i o,σ[i]?=some o->(aO=true\/o.gJ=false)->g7 i=g i:=fun aO hkl i o ho hor=>by
   refine B7.aO i ?_ (xb hkl i o ho hor);exact(gt.1 ho).1
  unfold y0 at hend;cases hres:pw C.ti s7 fn.results.toList with
  |none=>rw[hres] at hend;exact hend.elim
  |some y=>
  rw[hres] at hend;simp only[iu] at hend;cases r with
  |none=>
    obtain⟨h1,h2,h3,h4⟩:=hend;subst h1;obtain⟨v,q1,q2,q3⟩:=hends y σ hres h2 h3;exact⟨v,q1,v,st7,g7,rfl,q2,q3,B7.mono,cb _,fun i o ho _=>hkeep true h4 i o ho (.inl rfl)⟩
  |some σ2=>
    obtain⟨h1,h2,h3,h4,h5⟩:=hend;subst h1;obtain⟨v,q1,q2,q3⟩:=hends y σ2 hres h2 h3;exact⟨v,q1,v,st7,g7,rfl,q2,q3,B7.mono,d6 h5,fun i o ho hor=>hkeep (fg σ2) h4 i o ho (hor.resolve_left (by simp))⟩
 cases ex with
 |norm=>exact key none hk4
 |ret=>exact key none hk4
 |exit id=>exact hk4.elim
 |goto l=>exact hk4.elim
 |pan u=>exact key (some u) hk4
theorem SX{C:Ctx} (G:cq C) {f gf:FuncId} {fn:Func} {c0 c1 M:Code} {id:Nat} {mk df:Oper} {cs:Array Operand} {t9:Tmp} {args:List V} {σ:List O} {x:V} {r:Option (List O)} (hf:C.P.funcs[f]?=some fn)
   (hb:fn.body=some (.seq c0 (.seq c1 (.seq (.region id #[mk,df] false) M)))) (hn:(fn.name== "runtime.NumGoroutine") =false)
   (hmk:mk.op=.makeFunc (.func gf) #[] cs) (hmd:mk.dst=some t9) (hmg:mk.guard=none) (hdf:df.op=.defer {callee:=.value (.tmp t9),args:=#[],argTypes:=#[]}) (hdd:df.dst=none) (hdg:df.guard=none)
   (hnt:Nat.ble args.length fn.ntmps=true) (h:V.eK args->iz σ->vc C σ.length c0 ⟨fn.ntmps,hP args 0,σ,[]⟩ (nK fun s1=>vc C σ.length c1 s1 (nK fun s2=>e9 s2 (some t9) =true/\s2.kl=[]/\
    vc C s2.sg.length M (s2.app (some t9) (pe (.func (.func gf) [] (s2.evs C cs.toList)))) (Aj C fn.results.toList σ x r gf (s2.evs C cs.toList)))))
   (hy:C.yd=fun _ _ _ _=>none:=by rfl):eU C.P C.gl f args σ x r:=by
 refine⟨⟨fn,hf,hn,by rw[hb];rfl⟩,fun E st g w vs W hg hv=>?_⟩;refine Calls.mono (OC G hf hb hn hmk hmd hmg hdf hdd hdg hnt h hy (E:={E with ds:=[]}) rfl st g w vs (W.ds []) hg hv) ?_;rintro e w' ⟨v,st',g',h1,h2,h3,h4,h5,h6⟩;exact⟨v,st',g',h1,h2.sP,h3,h4,h5,h6⟩
theorem OD{C:Ctx} (G:cq C) {f gf:FuncId} {fn:Func} {c1 M:Code} {id:Nat} {mk df:Oper} {cs:Array Operand} {t9:Tmp} {args:List V} {σ:List O} {x:V} {r:Option (List O)} (hf:C.P.funcs[f]?=some fn)
   (hb:fn.body=some (.seq c1 (.seq (.region id #[mk,df] false) M))) (hn:(fn.name== "runtime.NumGoroutine") =false)
   (hmk:mk.op=.makeFunc (.func gf) #[] cs) (hmd:mk.dst=some t9) (hmg:mk.guard=none) (hdf:df.op=.defer {callee:=.value (.tmp t9),args:=#[],argTypes:=#[]}) (hdd:df.dst=none) (hdg:df.guard=none)
   (hnt:Nat.ble args.length fn.ntmps=true) (h:V.eK args->iz σ->vc C σ.length c1 ⟨fn.ntmps,hP args 0,σ,[]⟩ (nK fun s2=>e9 s2 (some t9) =true/\s2.kl=[]/\
    vc C s2.sg.length M (s2.app (some t9) (pe (.func (.func gf) [] (s2.evs C cs.toList)))) (Aj C fn.results.toList σ x r gf (s2.evs C cs.toList))))
   (hy:C.yd=fun _ _ _ _=>none) {E:Env} (hds:E.ds=[]) (st:St) (g:au) (w:World) (vs:List Value) (W:aF E st g σ w) (hg:aL C.gl st) (hv:aC st g args σ.length vs):
   Calls C.P f vs.toArray w fun e w'=>∃v st' g',e=.returned v/\aF E st' g' (r.getD σ) w'/\VR st' g' x (r.getD σ).length v/\(∀b o v,st b o=some v->st' b o=some v)/\
    σ.length<=(r.getD σ).length/\∀i o,σ[i]?=some o->(r=none\/fg (r.getD []) =true\/o.gJ=false)->g' i=g i:=by
 have hlen:=eN hv;have hnt':=d6 hnt;have hvc:=h (pQ hv) W.wf;have R:Rel E st g ⟨fn.ntmps,hP args 0,σ,[]⟩ {tmps:=vs.toArray++Array.replicate (fn.ntmps-vs.toArray.size) undef,defers:=[]} w:=by
  refine⟨by simp;omega,hds.symm,fun t=>?_,W⟩;show VR st g (lk (hP args 0) t) σ.length _;rw[we,if_pos (bu _),Nat.sub_zero];rcases d7 t args.length with h1|h1
  . have h2:args[t]?=some args[t]:=am h1;obtain⟨v,h3,h4⟩:=jQ hv h2;have h5:(vs.toArray++Array.replicate (fn.ntmps-vs.toArray.size) undef).getD t undef=v:=by
     rw[Array.getD_eq_getD_getElem?,Array.getElem?_append_left (by simp;omega)];simp[h3]
    rw[ac,h2];show VR st g args[t] σ.length ((vs.toArray++Array.replicate (fn.ntmps-vs.toArray.size) undef).getD t undef);rw[h5];exact h4
  . rw[ac,ci h1];simp[VR]
 have hY:∀(E':Env) (n:Nat) (st:St) (g:au),iD C E' n st g:=fun _ _ _ _=>iD.none hy;refine callsIn_wide.1 (callsIn_of_wp_marks (F:=Fence.wide) (n:=0) hf hb trivial (wpIn_wide.2 (wp_seq (pH G (fun _ _=>hY _ _ _ _) c1 _ _ w _ _ ⟨E,jo.refl W.gnew,st,g,R,hg,⟨fun _ _ _ h=>h,fun _ _ _=>rfl,cb _⟩⟩ hvc fun ex s2 a2 w2 hk2 hgo2=>?_))));cases ex with
 |ret=>exact hk2.elim
 |exit id=>exact hk2.elim
 |goto l=>exact hk2.elim
 |pan v=>exact hk2.elim
 |norm=>
 show Code.wp C.P (.seq (.region id #[mk,df] false) M) _ a2 w2;obtain⟨hds2,hkl2,hM⟩:=hk2;obtain⟨E2,hE2,st2,g2,R2,hg2,B2⟩:=hgo2;refine wp_seq (NL R2 hg2 G hmk hmd hmg hdf hdd hdg hds2 fun a3 w3 st3 g3 ca hca A3 hg3 R3=>?_);show Code.wp C.P M _ a3 w3;refine pH G (fun _ _=>hY _ _ _ _) M _ _ w3 _ _ ⟨_,jo.refl R3.wr.gnew,st3,g3,R3,hg3,⟨fun _ _ _ h=>h,fun _ _ _=>rfl,cb _⟩⟩ hM fun ex s4 a4 w4 hk4 hgo4=>?_;have key:∀m,iC C fn.results.toList σ x r gf (s2.evs C cs.toList) m s4->LeavesInM Fence.wide 0 C.P fn a4.tmps (fun e w'=>∃v st' g',e=.returned v/\aF E st' g' (r.getD σ) w'/\VR st' g' x (r.getD σ).length v/\(∀b o v,st b o=some v->st' b o=some v)/\
    σ.length<=(r.getD σ).length/\∀i o,σ[i]?=some o->(r=none\/fg (r.getD []) =true\/o.gJ=false)->g' i=g i) a4.defers (kL m) w4:=by
  rintro m ⟨σ',hclo,hcap,ps,hend⟩;have hm:kL m≠.run:=by cases m<;>simp[kL]
  obtain⟨st5,g5,w5,R5,hg5,B5,hL⟩:=BG hgo4;refine hL fn a4.tmps _ _ hm ⟨hm,.inr ⟨fun q=>(by cases q),.func gf,ca,gf,ca,rfl,?_,fun _ _=>trivial,?_⟩⟩
  . show(invoke (.fn (.func gf) ca) #[]).run C.P w5=_;simp only[invoke];rw[show(#[]++ca:Array Value) =ca by simp];exact Am hclo.1 ca w5
  have hn3:(s2.app (some t9) (pe (.func (.func gf) [] (s2.evs C cs.toList)))).sg.length=s2.sg.length:=by
   rw[jt (by rfl)]
  have hca5:aC st5 g5 (s2.evs C cs.toList) s4.sg.length ca.toList:=la B5.mono (fun i hi hlt=>⟨by have:=B5.len;omega,B5.aO i hlt (Cc hcap i hi)⟩) hca;refine CallsDIn.mono (hclo.2 _ st5 g5 w5 ca.toList R5.wr hg5 hca5) ?_;rintro e u' w6 ⟨v,st6,g6,rfl,hset,W6,hm6,hk6,hl6⟩;show LeavesInM Fence.wide 0 C.P fn a4.tmps _ E2.ds (settle u') w6;rw[hset];have hgo6:eD C E σ.length st g ⟨s4.nt,s4.tm,σ',s4.kl⟩ {a4 with defers:=E2.ds} w6:=by
   refine⟨E2,hE2,st6,g6,⟨R5.nt,rfl,fun t=>?_,W6.sP⟩,hg5.mono hm6,⟨fun b o v q=>hm6 _ _ _ (B5.mono _ _ _ (A3.mono _ _ _ (B2.mono _ _ _ q))),fun i hi hkl=>?_,?_⟩⟩
   . exact gC hm6 (fun i _ hlt=>⟨Nat.lt_of_lt_of_le hlt hl6,hk6 i hlt⟩) (R5.tm t)
   . have b2:σ.length<=s2.sg.length:=B2.len;have b5:s2.sg.length<=s4.sg.length:=by have:=B5.len;rw[hn3] at this;exact this
     have hi2:i<σ.length:=hi;rw[hk6 i (by omega),B5.aO i (by rw[hn3];omega) hkl,A3.aO i (by omega) (by show aH i (gW [] s2.kl) =false;rw[hkl2];rfl),B2.aO i hi (by rw[hkl2];rfl)]
   . have b2:σ.length<=s2.sg.length:=B2.len;have b5:s2.sg.length<=s4.sg.length:=by have:=B5.len;rw[hn3] at this;exact this
     show σ.length<=σ'.length;omega
  replace hgo6:=hgo6.dq ps;generalize AS.dq ⟨s4.nt,s4.tm,σ',s4.kl⟩ ps=s7 at hgo6 hend;obtain⟨st7,g7,w7,R7,hg7,B7,hL7⟩:=BG hgo6;refine hL7 fn a4.tmps _ .returning (by simp) ?_;rw[hds];have hends:∀(x':V) (σ':List O),pw C.ti s7 fn.results.toList=some x'->x'.il σ'.length=true->gm s7.sg σ' σ'.length->∃v,(results fn a4.tmps).run C.P w7=.ok v w7/\aF E st7 g7 σ' w7/\VR st7 g7 x' σ'.length v:=fun x' σ' h1 h2 h3=>by
   obtain⟨v,h4,h5⟩:=Ak G.toGood R7 h1;exact⟨v,h4,R7.wr.sK h3,gC (fun _ _ _ h=>h) (fun i hi _=>⟨rY h2 hi,rfl⟩) h5⟩
  have hkeep:∀aO,nx σ aO s7.kl=true->∀i o,σ[i]?=some o->(aO=true\/o.gJ=false)->g7 i=g i:=fun aO hkl i o ho hor=>by
   refine B7.aO i ?_ (xb hkl i o ho hor);exact(gt.1 ho).1
  unfold y0 at hend;cases hres:pw C.ti s7 fn.results.toList with
  |none=>rw[hres] at hend;exact hend.elim
  |some y=>
  rw[hres] at hend;simp only[iu] at hend;cases r with
  |none=>
    obtain⟨h1,h2,h3,h4⟩:=hend;subst h1;obtain⟨v,q1,q2,q3⟩:=hends y σ hres h2 h3;exact⟨v,q1,v,st7,g7,rfl,q2,q3,B7.mono,cb _,fun i o ho _=>hkeep true h4 i o ho (.inl rfl)⟩
  |some σ2=>
    obtain⟨h1,h2,h3,h4,h5⟩:=hend;subst h1;obtain⟨v,q1,q2,q3⟩:=hends y σ2 hres h2 h3;exact⟨v,q1,v,st7,g7,rfl,q2,q3,B7.mono,d6 h5,fun i o ho hor=>hkeep (fg σ2) h4 i o ho (hor.resolve_left (by simp))⟩
 cases ex with
 |norm=>exact key none hk4
 |ret=>exact key none hk4
 |exit id=>exact hk4.elim
 |goto l=>exact hk4.elim
 |pan u=>exact key (some u) hk4
theorem SY{C:Ctx} (G:cq C) {f gf:FuncId} {fn:Func} {c1 M:Code} {id:Nat} {mk df:Oper} {cs:Array Operand} {t9:Tmp} {args:List V} {σ:List O} {x:V} {r:Option (List O)} (hf:C.P.funcs[f]?=some fn)
   (hb:fn.body=some (.seq c1 (.seq (.region id #[mk,df] false) M))) (hn:(fn.name== "runtime.NumGoroutine") =false)
   (hmk:mk.op=.makeFunc (.func gf) #[] cs) (hmd:mk.dst=some t9) (hmg:mk.guard=none) (hdf:df.op=.defer {callee:=.value (.tmp t9),args:=#[],argTypes:=#[]}) (hdd:df.dst=none) (hdg:df.guard=none)
   (hnt:Nat.ble args.length fn.ntmps=true) (h:V.eK args->iz σ->vc C σ.length c1 ⟨fn.ntmps,hP args 0,σ,[]⟩ (nK fun s2=>e9 s2 (some t9) =true/\s2.kl=[]/\
    vc C s2.sg.length M (s2.app (some t9) (pe (.func (.func gf) [] (s2.evs C cs.toList)))) (Aj C fn.results.toList σ x r gf (s2.evs C cs.toList))))
   (hy:C.yd=fun _ _ _ _=>none:=by rfl):eU C.P C.gl f args σ x r:=by
 refine⟨⟨fn,hf,hn,by rw[hb];rfl⟩,fun E st g w vs W hg hv=>?_⟩;refine Calls.mono (OD G hf hb hn hmk hmd hmg hdf hdd hdg hnt h hy (E:={E with ds:=[]}) rfl st g w vs (W.ds []) hg hv) ?_;rintro e w' ⟨v,st',g',h1,h2,h3,h4,h5,h6⟩;exact⟨v,st',g',h1,h2.sP,h3,h4,h5,h6⟩
def Cp(σ σ':List O) (s:AS):Prop:=s.kl=[]/\gm s.sg σ' σ'.length/\Nat.ble σ.length σ'.length=true
def cloK(C:Ctx) (ops:List Oper) (t9:Tmp) (σ σ':List O) (m:Option Value) (s:AS):Prop:=match m with
 |none=>lk s.tm t9=.bool false/\Cp σ σ' s
 |some _=>lk s.tm t9=.bool true/\gG C ops false ops s (nK (Cp σ σ'))
theorem vN{C:Ctx} (G:cq C) {gf:FuncId} {cfn:Func} {idr id1 id2:Nat} {rops ops1 ops2:Array Oper} {t9:Tmp} {args:List V} {σ σ':List O} {m:Option Value} {tm:List (Nat×V)} (hcf:C.P.funcs[gf]?=some cfn)
   (hcb:cfn.body=some (.seq (.region idr rops false) (.seq (.region id1 ops1 false) (.cond (.tmp t9) (.region id2 ops2 false) .skip)))) (hcn:(cfn.name== "runtime.NumGoroutine") =false) (hres:cfn.results=#[])
   (hreg:∀(vs:List Value) (w:World) (c₀:Frame) (cs:List Frame) (Q:Exit->Act->List Frame->World->Prop),vs.length=args.length->c₀.mode=kL m->
    (∀(a':Act) (u':FrameMode),settle u'=.returning->a'.defers=[]->a'.tmps.size=cfn.ntmps->(∀st g n,aC st g args n vs->∀t,VR st g (lk tm t) n (a'.tmps.getD t undef))->Q .normal a' ({c₀ with mode:=u'}::cs) w)->
    (Code.region idr rops false).wpSIn Fence.wide 0 C.P Q {tmps:=vs.toArray++Array.replicate (cfn.ntmps-vs.toArray.size) undef,defers:=[]} (c₀::cs) w)
   (hev:gG C ops1.toList false ops1.toList ⟨cfn.ntmps,tm,σ,[]⟩ (nK (cloK C ops2.toList t9 σ σ' m))) (hy:C.yd=fun _ _ _ _=>none:=by rfl):rf C.P C.gl gf args σ m σ':=by
 refine⟨⟨cfn,hcf,hcn,by rw[hcb];rfl⟩,fun E st g w vs W hg hv=>callsDIn_of_wpSIn hcf hcb trivial fun c₀ cs hu=>wpSIn_seq (hreg vs w c₀ cs _ (eN hv).symm hu fun a' u' hset hd hsz htm=>?_)⟩;have R:Rel {E with ds:=[]} st g ⟨cfn.ntmps,tm,σ,[]⟩ a' w:=⟨hsz,hd,htm st g _ hv,W.ds []⟩
 have hfin:∀s2 a2 w2,Cp σ σ' s2->Go C {E with ds:=[]} st g ⟨cfn.ntmps,tm,σ,[]⟩ s2 a2 w2->bodyPostS C.P cfn c₀ cs (fun e u' w'=>∃v st' g',e=.returned v/\settle u'=.returning/\aF E st' g' σ' w'/\(∀b o v,st b o=some v->st' b o=some v)/\(∀i,i<σ.length->g' i=g i)/\σ.length<=σ'.length) .normal a2 ({c₀ with mode:=u'}::cs) w2:=by
  rintro s2 a2 w2 ⟨hk,hs,hl⟩ ⟨st2,g2,R2,hg2,A⟩;obtain⟨v,h1,_⟩:=Ak (fn:=cfn) (x:=.tuple []) G.toGood R2 (by rw[hres];rfl);exact⟨R2.df,u',rfl,v,h1,v,st2,g2,rfl,hset,(R2.wr.sK hs).sP,A.mono,fun i hi=>A.aO i hi (by rw[hk];rfl),d6 hl⟩
 have B:n8 0 st g st g ⟨cfn.ntmps,tm,σ,[]⟩:=⟨fun _ _ _ h=>h,fun _ h=>absurd h (Nat.not_lt_zero _),bu _⟩
 refine wpSIn_seq (wpSIn_of_wpIn rfl (wpIn_wide.2 (El (n0:=0) (st0:=st) (g0:=g) (iD.none hy) R hg G B hev (fun s1 a1 w1 hk hgo=>?_) (fun u s1 a1 w1 hk _=>hk.elim))));show Code.wpSIn Fence.wide 0 C.P (.cond (.tmp t9) (.region id2 ops2 false) .skip) _ a1 _ w1;have hb:∀b,lk s1.tm t9=.bool b->a1.eval (.tmp t9) =.bool b:=fun b hb=>by
  obtain⟨st1,g1,R1,hg1,A1⟩:=hgo;have h:=R1.tm t9;rw[hb] at h;simp only[VR] at h;exact h
 cases m with
 |none=>
   obtain⟨h9,hdn⟩:=hk;refine wpSIn_cond (t:=false) (hb _ h9) ?_;exact wpSIn_of_wpIn rfl (wpIn_skip (hfin _ _ _ hdn hgo))
 |some v=>
   obtain⟨h9,he⟩:=hk;refine wpSIn_cond (t:=true) (hb _ h9) ?_;obtain⟨st1,g1,R1,hg1,A1⟩:=hgo;refine wpSIn_of_wpIn rfl (wpIn_wide.2 (El (n0:=0) (st0:=st1) (g0:=g1) (iD.none hy) R1 hg1 G ⟨fun _ _ _ h=>h,fun _ h=>absurd h (Nat.not_lt_zero _),bu _⟩ he (fun s2 a2 w2 hk2 hgo2=>?_) (fun u s2 a2 w2 hk2 _=>hk2.elim)));exact hfin _ _ _ hk2 (hgo2.trans A1)
end Go.VG
