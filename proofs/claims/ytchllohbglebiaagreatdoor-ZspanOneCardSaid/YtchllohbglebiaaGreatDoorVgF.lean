/-
  A part of the proof.
-/
import Derived.Test.YtchllohbglebiaaGreatDoorVgD
set_option linter.unusedSimpArgs false
set_option linter.unusedVariables false
namespace Go.VG
open Go

def aj{α:Type} (t:Tr α):Prop:=∀K:α->Prop,t K->∃a,K a/\∀K':α->Prop,K' a->t K'

section
variable {α β:Type}
theorem aj.ret(a:α):aj (ret a):=fun _ h=>⟨a,h,fun _ h=>h⟩
theorem aj.fail:aj (fail:Tr α):=fun _ h=>h.elim
theorem aj.aI{A:Prop} {t:Tr α} (h:aj t):aj (aI A t):=fun K hk=>let ⟨a,h1,h2⟩:=h K hk.2;⟨a,h1,fun K' k=>⟨hk.1,h2 K' k⟩⟩
theorem aj.when{b:Bool} {t:Tr α} (h:aj t):aj (bp b t):=fun K hk=>by
 cases b with
 |false=>exact hk.elim
 |true=>exact h K hk
theorem aj.opt{o:Option α} {f:α->Tr β} (h:∀a,aj (f a)):aj (eH o f):=fun K hk=>by
 cases o with
 |none=>exact hk.elim
 |some a=>exact h a K hk
theorem aj.dY{b:Bool} {t u:Tr α} (ht:aj t) (hu:aj u):aj (nh b t u):=fun K hk=>by
 cases b with
 |false=>exact hu K hk
 |true=>exact ht K hk
theorem aj.gb{o:Option α} {h:α->Tr β} {u:Tr β} (hf:∀a,aj (h a)) (hu:aj u):aj (gb o h u):=fun K hk=>by
 cases o with
 |none=>obtain⟨a,h1,h2⟩:=hu K (hk.2 rfl);exact⟨a,h1,fun K' k=>⟨fun _ q=>(by cases q),fun _=>h2 K' k⟩⟩
 |some x=>obtain⟨a,h1,h2⟩:=hf x K (hk.1 x rfl);exact⟨a,h1,fun K' k=>⟨fun _ q=>(by cases q;exact h2 K' k),fun q=>(by cases q)⟩⟩
theorem aj.idx{l:List α} {n:Nat} {f:α->Tr β} (h:∀a,aj (f a)):aj (qw l n f):=by rw[nq];exact aj.opt h
theorem aj.bind{t:Tr α} {f:α->Tr β} (ht:aj t) (hf:∀a,aj (f a)):aj (fA t f):=fun K hk=>by
 obtain⟨a,h1,h2⟩:=ht _ hk;obtain⟨b,h3,h4⟩:=hf a K h1;exact⟨b,h3,fun K' k=>h2 _ (h4 K' k)⟩
theorem aj.ex{f:α->Tr β} (h:∀a,aj (f a)):aj (tU f):=fun K ⟨a,hk⟩=>let ⟨b,h1,h2⟩:=h a K hk;⟨b,h1,fun K' k=>⟨a,h2 K' k⟩⟩
theorem aj.force{x:V} {f:V->Tr α} (h:∀x,aj (f x)):aj (force x f):=by rw[force_eq];exact h x
theorem aj.cY{x:Nat} {f:Nat->Tr α} (h:∀x,aj (f x)):aj (cY x f):=by rw[dN];exact h x
theorem aj.ia{x:List V} {f:List V->Tr α} (h:∀x,aj (f x)):aj (qi x f):=by rw[u6];exact h x
theorem aj.cut{a:List α} {r:Option Int×Option Int} {f:List α->Tr β} (h:∀x,aj (f x)):aj (tq a r f):=by rw[tu];exact h _
theorem aj.lp(r:Option (Prop×Ef)):aj (lp r):=by
 refine aj.opt fun p=>aj.aI fun K hk=>?_;rw[lD] at hk;exact⟨p.2,hk,fun K' k=>by rw[lD];exact k⟩
end

theorem Ib(C:Ctx) (op:BinOp) (t:TypeId) (x y:V):aj (oT C op t x y):=by
 unfold oT;repeat' first
  |with_reducible first
    |exact aj.ret _
    |exact aj.fail
    |refine aj.aI ?_
    |refine aj.when ?_
    |refine aj.opt fun _=>?_
    |refine aj.idx fun _=>?_
    |refine aj.ia fun _=>?_
    |refine aj.cY fun _=>?_
  |split
theorem Ij(op:UnOp) (x:V):aj (wv op x):=by
 unfold wv;split<;>first|with_reducible exact aj.ret _|with_reducible exact aj.fail
theorem nz(agg:Bool) (size:Nat) (cs:List V) (off:Nat):aj (kN agg size cs off):=by
 unfold kN;split<;>exact aj.opt fun _=>aj.ret _
theorem lz(s:AS) (x:V):aj (elems s x):=by
 unfold elems;repeat' first
  |with_reducible first
    |exact aj.ret _
    |exact aj.fail
  |split
theorem Po(C:Ctx) (s:AS) (e:TypeId) (x:V) (ys:List V) (rd:List Nat):aj (qa C s e x ys rd):=by
 unfold qa;repeat' first
  |with_reducible first
    |exact aj.ret _
    |exact aj.fail
    |refine aj.aI ?_
    |refine aj.when ?_
    |refine aj.opt fun _=>?_
    |refine aj.idx fun _=>?_
    |refine aj.ia fun _=>?_
    |refine aj.cY fun _=>?_
  |split
theorem Pn(C:Ctx) (s:AS) (e:TypeId) (sz:Nat) (x:V) (ys:List V) (rd:List Nat):aj (qb C s e sz x ys rd):=by
 unfold qb;split
 . repeat' first
  |with_reducible exact aj.ret _
  |with_reducible refine aj.aI ?_
  |with_reducible refine aj.when ?_
  |(with_reducible refine aj.cY fun _=>?_)
 . exact Po _ _ _ _ _ _
theorem zY{C:Ctx} {s:AS} {t:TypeId} {m:V} {F:Nat->Bool->List Sc->List (V×Int)->List Nat->Nat->Tr Ef} (h:∀i ag sh es bs ck,aj (F i ag sh es bs ck)):aj (gL C s t m F):=by
 unfold gL;refine aj.opt fun p=>?_;split
 . split
   . exact aj.when (h _ _ _ _ _ _)
   . exact aj.fail
 . exact aj.fail
theorem Pr(C:Ctx) (s:AS) (b:Builtin) (ts:List TypeId) (args:List V):aj (nk C s b ts args):=by
 unfold nk;repeat' first
  |with_reducible first
    |exact Pn _ _ _ _ _ _ _
    |exact aj.ret _
    |exact aj.fail
    |exact aj.lp _
    |refine aj.aI ?_
    |refine aj.when ?_
    |refine aj.opt fun _=>?_
    |refine aj.idx fun _=>?_
    |refine aj.ia fun _=>?_
    |refine aj.cY fun _=>?_
    |refine aj.ex fun _=>?_
    |refine aj.force fun _=>?_
    |refine aj.dY ?_ ?_
    |refine aj.cut fun _=>?_
    |refine aj.gb (fun _=>?_) ?_
    |refine zY fun _ _ _ _ _ _=>?_
    |refine aj.bind (nz _ _ _ _) fun _=>?_
    |refine aj.bind (oV _ _ _ _ _) fun _=>?_
    |refine aj.bind (lz _ _) fun _=>?_
  |unfold rG
  |split
theorem Ie(C:Ctx) (s:AS) (a b:TypeId) (x:V):aj (lX C s a b x):=by
 unfold lX;repeat' first
  |with_reducible first
    |exact aj.ret _
    |exact aj.fail
    |exact aj.lp _
    |refine aj.aI ?_
    |refine aj.when ?_
    |refine aj.opt fun _=>?_
    |refine aj.idx fun _=>?_
    |refine aj.ia fun _=>?_
    |refine aj.cY fun _=>?_
    |refine aj.ex fun _=>?_
    |refine aj.force fun _=>?_
    |refine aj.dY ?_ ?_
    |refine aj.cut fun _=>?_
    |refine aj.gb (fun _=>?_) ?_
    |refine zY fun _ _ _ _ _ _=>?_
    |refine aj.bind (nz _ _ _ _) fun _=>?_
    |refine aj.bind (oV _ _ _ _ _) fun _=>?_
    |refine aj.bind (lz _ _) fun _=>?_
  |split
theorem oV(C:Ctx) (s:AS) (len:Nat) (lo hi:Option Operand):aj (kz C s len lo hi):=by
 unfold kz;repeat' first
  |with_reducible first
    |exact aj.ret _
    |exact aj.fail
    |refine aj.aI ?_
    |refine aj.when ?_
    |refine aj.opt fun _=>?_
    |refine aj.idx fun _=>?_
    |refine aj.ia fun _=>?_
    |refine aj.cY fun _=>?_
  |split
theorem wj(C:Ctx) (s:AS) (t:TypeId) (len:Nat) (parts:Array (Nat×Operand)):aj (lW C s t len parts):=by
 unfold lW;repeat' first
  |with_reducible first
    |exact aj.ret _
    |exact aj.fail
    |exact aj.lp _
    |refine aj.aI ?_
    |refine aj.when ?_
    |refine aj.opt fun _=>?_
    |refine aj.idx fun _=>?_
    |refine aj.ia fun _=>?_
    |refine aj.cY fun _=>?_
    |refine aj.ex fun _=>?_
    |refine aj.force fun _=>?_
    |refine aj.dY ?_ ?_
    |refine aj.cut fun _=>?_
    |refine aj.gb (fun _=>?_) ?_
    |refine zY fun _ _ _ _ _ _=>?_
    |refine aj.bind (nz _ _ _ _) fun _=>?_
    |refine aj.bind (oV _ _ _ _ _) fun _=>?_
    |refine aj.bind (lz _ _) fun _=>?_
  |split
theorem Ps(C:Ctx) (s:AS) (c:Call):aj (rF C s c):=by
 unfold rF;split
 . exact aj.ia fun _=>Pr _ _ _ _ _
 . exact aj.opt fun _=>aj.lp _
 . split
   . exact aj.ex fun _=>aj.aI (aj.lp _)
   . exact aj.fail
theorem Pp(C:Ctx) (s:AS) (dst:Option Nat) (t:TypeId) (len:Nat) (parts:Array (Nat×Operand)):aj (oS C s dst t len parts):=by
 unfold oS;split
 . rename_i d;cases C.lits d
   . exact wj _ _ _ _ _
   . simp only[cond_true,tQ];refine aj.bind (wj _ _ _ _ _) fun e=>?_;split
     . exact aj.cY fun _=>aj.ret _
     . exact aj.fail
 . exact wj _ _ _ _ _
theorem Pt(C:Ctx) (s:AS) (a b:TypeId) (x:V):aj (qd C s a b x):=by
 unfold qd;split
 . cases Nat.beq a b
   . exact Ie _ _ _ _ _
   . simp only[cond_true];split
     . split
       . split
         . exact aj.ret _
         . exact aj.fail
       . exact aj.fail
     . exact aj.fail
 . exact Ie _ _ _ _ _
theorem Pq(C:Ctx) (c:Bool) (op:BinOp) (t:TypeId) (u v:V):aj (cond c (rP C op t) (fA (oT C op t u v) fun v=>ret (pe v))):=by
 cases c with
 |false=>
   show aj (fA (oT C op t u v) fun v=>ret (pe v));exact aj.bind (Ib C op t u v) fun _=>aj.ret _
 |true=>
   show aj (rP C op t);unfold rP;split
   . exact aj.ret _
   . exact aj.ret _
   . exact aj.fail
theorem tS(C:Ctx) (s:AS) (o:Oper):aj (cL C s o):=by
 unfold cL;split;all_goals try first
  |exact Pp _ _ _ _ _ _
  |exact Pq _ _ _ _ _ _
  |exact Pt _ _ _ _ _
  |exact Ps _ _ _
  |exact aj.bind (Ij _ _) fun _=>aj.ret _
 all_goals repeat' first
  |with_reducible first
    |exact aj.ret _
    |exact aj.fail
    |exact aj.lp _
    |refine aj.aI ?_
    |refine aj.when ?_
    |refine aj.opt fun _=>?_
    |refine aj.idx fun _=>?_
    |refine aj.ia fun _=>?_
    |refine aj.cY fun _=>?_
    |refine aj.ex fun _=>?_
    |refine aj.force fun _=>?_
    |refine aj.dY ?_ ?_
    |refine aj.cut fun _=>?_
    |refine aj.gb (fun _=>?_) ?_
    |refine zY fun _ _ _ _ _ _=>?_
    |refine aj.bind (nz _ _ _ _) fun _=>?_
    |refine aj.bind (oV _ _ _ _ _) fun _=>?_
    |refine aj.bind (lz _ _) fun _=>?_
  |unfold wu
  |unfold o5
  |unfold nZ
  |unfold tN
  |unfold qc
  |unfold rR
  |unfold rQ
  |unfold wq
  |unfold rN
  |unfold qe
  |unfold rJ
  |unfold rI
  |unfold tP
  |unfold wo
  |unfold wi
  |unfold wm
  |unfold rK
  |unfold rL
  |unfold tR
  |unfold qf
  |unfold wg
  |unfold rM
  |unfold np
  |unfold rO
  |unfold oU
  |unfold rH
  |unfold tO
  |(cases zj C o.dst<;>unfold cond)
  |split

structure Rel(E:Env) (st:St) (g:au) (s:AS) (a:Act) (w:World):Prop where
 nt:a.tmps.size=s.nt
 df:a.defers=E.ds
 tm:∀t,VR st g (lk s.tm t) s.sg.length (a.tmps.getD t undef)
 wr:aF E st g s.sg w

theorem Zt{k:IntKind} {n:Int} (h:ze k n=true):k.min<=n/\n<=k.max:=by
 unfold ze at h;split at h
 . cases k<;>simp only[Lf] at h<;>have h':=d6 h<;>simp[IntKind.min,IntKind.max,IntKind.signed,IntKind.bits]<;>omega
 . cases k<;>simp only[Li] at h<;>first
  |(have h':=d6 h;simp[IntKind.min,IntKind.max,IntKind.signed,IntKind.bits];omega)
  |cases h

theorem LC{st:St} {g:au} {n:Nat} (v:Value):VR st g (zX v) n v:=by
 unfold zX;split
 . rename_i k m;cases h:ze k m with
   |true=>simpa[VR] using Zt h
   |false=>simp[VR]
 . simp[VR]
 . rename_i s;cases h:Nat.ble s.data.toList.length 1048576 with
   |true=>
     have:=d6 h;simp only[cond_true,VR];have h3:s.data.toList.length<=maxLen:=by unfold maxLen;omega
     simpa[VR] using h3
   |false=>simp[VR]
 . simp only[VR];exact⟨none,0,by simp,by simp,by simp[maxLen],by simp,.inl trivial⟩
 . simp[VR]
 . simp[VR]
 . simp[VR]
 . simp[VR]
 . simp[VR]
theorem LD{st:St} {g:au} {n:Nat}:∀vs:List Value,aC st g (DS vs) n vs
 |[]=>dM
 |v::vs=>cy (LC v) (LD vs)
theorem We{st:St} {g:au} {n:Nat} (v:Value):VR st g (DR v) n v:=by
 unfold DR;split
 . rename_i cs;simp only[VR];exact⟨cs,rfl,LD _⟩
 . exact LC v

theorem aR{E:Env} {st:St} {g:au} {s:AS} {a:Act} {w:World} {C:Ctx} (R:Rel E st g s a w) (hg:aL C.gl st) (x:Operand):VR st g (s.ev C x) s.sg.length (a.eval x):=by
 cases x with
 |tmp t=>exact R.tm t
 |const v=>exact We v
 |global b=>
   simp only[AS.ev,Act.eval];split
   . rename_i cs h;obtain⟨vs,h1,h2⟩:=hg b cs h g;simp only[VR];exact⟨b,0,vs,rfl,h1,fun j hj=>by rw[Nat.zero_add];exact h2 j hj⟩
   . simp[VR]
 |func f=>
   simp only[AS.ev,Act.eval,VR];exact⟨#[],#[],rfl,dM,dM⟩
theorem tT{E:Env} {st:St} {g:au} {s:AS} {a:Act} {w:World} {C:Ctx} (R:Rel E st g s a w) (hg:aL C.gl st):∀xs:List Operand,aC st g (s.evs C xs) s.sg.length (xs.map a.eval)
 |[]=>dM
 |x::xs=>cy (aR R hg x) (tT R hg xs)

theorem qE:∀(up:List (Nat×O)) (sg:List O),(dd sg up).length=sg.length
 |[],sg=>rfl
 |(i,o)::r,sg=>by simp only[dd];rw[qE r,jD];simp
theorem KN(s:AS) (d:Option Nat) (e:Ef):(s.app d e).sg.length=s.sg.length+e.nw.length:=by
 simp[AS.app,yj,qE,sc]

theorem vA{E:Env} {st st':St} {g g':au} {n n':Nat} {ks:List Nat} (A:kn E st g n st' g' n' ks) {x:V} {v:Value} (h:VR st g x n v):VR st' g' (x.kill ks) n' v:=
 gC A.mono (fun i hi hn=>⟨Nat.lt_of_lt_of_le hn A.len,A.aO i hn (qp hi).1⟩) (yg h)

theorem Rel.app{E:Env} {st st':St} {g g':au} {s:AS} {a:Act} {w w':World} {d:Option Nat} {e:Ef} {v:Value} (R:Rel E st g s a w) (hd:e9 s d=true)
   (A:kn E st g s.sg.length st' g' (s.app d e).sg.length e.ks) (W:aF E st' g' (s.app d e).sg w') (hv:VR st' g' e.v (s.app d e).sg.length v):Rel E st' g' (s.app d e) (a.put d v) w' where
 nt:=by
  cases d with
  |none=>exact R.nt
  |some d=>simp[Act.put,AS.app,R.nt]
 df:=by cases d<;>exact R.df
 wr:=W
 tm:=fun t=>by
   cases d with
   |none=>
     have h1:lk (s.app none e).tm t=(lk s.tm t).kill e.ks:=by simp only[AS.app];exact pf _ _ _
     rw[h1];exact vA A (R.tm t)
   |some d=>
     have hlt:d<s.nt:=by simpa[e9] using hd
     have h1:lk (s.app (some d) e).tm t=cond (Nat.beq d t) e.v ((lk s.tm t).kill e.ks):=by simp only[AS.app,lk];rw[pf]
     rw[h1];by_cases hdt:d=t
     . subst hdt;rw[show Nat.beq d d=true from Nat.beq_refl d];simp only[cond_true,Act.put];rw[show(a.tmps.setIfInBounds d v).getD d undef=v by simp[R.nt,hlt]];exact hv
     . rw[show Nat.beq d t=false from by cases hb:Nat.beq d t with|false=>rfl|true=>exact absurd (aB hb) hdt];simp only[cond_false,Act.put];rw[show(a.tmps.setIfInBounds d v).getD t undef=a.tmps.getD t undef by simp[hdt]];exact vA A (R.tm t)

structure Good(C:Ctx):Prop where
 ti:∀t,lS C.P t (C.ti t)
 mt:∀t m f,C.mt t m f->∀(v:Value) (w:World),(method (C.P.types.size+Made.depth) t v m).run C.P w=.ok (f,v) w
 hm:C.P.follows .mixedOrders=true

def az(C:Ctx) (E:Env) (st:St) (g:au) (s:AS) (a:Act) (w:World) (o:Oper) (e:Ef):Prop:=
 ∀(next:Act->World->Prop) (Q:Exit->Act->World->Prop),(∀st' g' w' v,kn E st g s.sg.length st' g' (s.app o.dst e).sg.length e.ks->aF E st' g' (s.app o.dst e).sg w'->
  VR st' g' e.v (s.app o.dst e).sg.length v->next (a.put o.dst v) w')->o.wp C.P a w next Q

section
variable {C:Ctx} {E:Env} {st:St} {g:au} {s:AS} {a:Act} {w:World} {o:Oper}

theorem az.val{e:Ef} (v:Value) (w':World) (st':St) (g':au) (hr:(execOp a.eval o).run C.P w=.ok (.value v) w')
   (A:kn E st g s.sg.length st' g' (s.app o.dst e).sg.length e.ks) (W:aF E st' g' (s.app o.dst e).sg w') (hv:VR st' g' e.v (s.app o.dst e).sg.length v):az C E st g s a w o e:=by
 intro next Q h
 unfold Oper.wp;rw[hr];exact h st' g' w' v A W hv

theorem az.skip{e:Ef} (w':World) (st':St) (g':au) (hr:(execOp a.eval o).run C.P w=.ok .skip w')
   (A:kn E st g s.sg.length st' g' (s.app o.dst e).sg.length e.ks) (W:aF E st' g' (s.app o.dst e).sg w') (hv:VR st' g' e.v (s.app o.dst e).sg.length undef):az C E st g s a w o e:=by
 intro next Q h
 unfold Oper.wp;rw[hr];exact h st' g' w' undef A W hv

theorem jr(s:AS) (d:Option Nat) (x:V):(s.app d (pe x)).sg=s.sg:=by simp[AS.app,pe,ir,dd,jS]
theorem pU(s:AS) (d:Option Nat) (x:V) (rd:List Nat):(s.app d ⟨x,[],[],[],rd⟩).sg=s.sg:=by simp[AS.app,ir,dd,jS]

theorem az.pure{x:V} {rd:List Nat} (R:Rel E st g s a w) (v:Value) (w':World) (hr:(execOp a.eval o).run C.P w=.ok (.value v) w') (hw:aQ w w') (hv:VR st g x s.sg.length v):
   az C E st g s a w o ⟨x,[],[],[],rd⟩:=by
 refine az.val v w' st g hr ⟨fun _ _ _ h=>h,fun _ _ _=>rfl,?_⟩ ?_ ?_
 . rw[pU];exact cb _
 . rw[pU];exact R.wr.same hw
 . rw[pU];exact hv
end
end Go.VG
namespace Go.VG
open Go

section
variable {C:Ctx} {E:Env} {st:St} {g:au} {s:AS} {a:Act} {w:World} {o:Oper} {e:Ef}

theorem pT(s:AS) (d:Option Nat) (x:V) (rd:List Nat) (ob:O):(s.app d ⟨x,[],[],[ob],rd⟩).sg=s.sg++[ob]:=by simp[AS.app,ir,dd,jS]

theorem az.new{x:V} {rd:List Nat} {ob:O} (R:Rel E st g s a w) (v:Value) (w1:World) (hw:aQ w w1) (gi:Gh) (oj:Obj)
   (hr:(execOp a.eval o).run C.P w=.ok (.value v) (w1.alloc oj)) (hb:∀b,gi.blk=some b->b=w1.heap.size)
   (ho:dK E st (aX g s.sg.length gi) (s.sg.length+1) (w1.alloc oj) gi ob)
   (hv:VR st (aX g s.sg.length gi) x (s.sg.length+1) v):az C E st g s a w o ⟨x,[],[],[ob],rd⟩:=by
 refine az.val v _ st (aX g s.sg.length gi) hr ⟨fun _ _ _ h=>h,fun i hi _=>cK (Nat.ne_of_lt hi),?_⟩ ?_ ?_
 . rw[pT];simp
 . rw[pT];exact(R.wr.same hw).Oh oj gi ob hb ho
 . rw[pT];simpa using hv

theorem az.Lj{rd:List Nat} {cs:List V} (R:Rel E st g s a w) (vs:Array Value) (el:TypeId)
   (hr:(execOp a.eval o).run C.P w=.ok (.value (.pointer (some ⟨w.heap.size,0,none⟩))) (w.alloc (.cells vs el))) (hc:aC st g cs s.sg.length vs.toList):
   az C E st g s a w o ⟨.ptr s.sg.length 0,[],[],[.cells cs],rd⟩:=by
 refine az.new R _ w (aQ.refl w) ⟨some w.heap.size,none,0,0,0⟩ _ hr (by simp) ?_ ?_
 . refine⟨w.heap.size,vs,el,(0,0),rfl,R.wr.gnew _ R.wr.size,heap_alloc_new,?_,⟨by simp,by intro o _;simp⟩,R.wr.mX⟩;exact la (fun _ _ _ h=>h) (fun i _ hi=>⟨by omega,cK (Nat.ne_of_lt hi)⟩) hc
 . simp only[VR];exact⟨by omega,w.heap.size,by simp,rfl⟩

def aa{α:Type} (p:α->Prop) (t:Tr α):Prop:=∀e,t (fun b=>b=e)->p e
section
variable {α β:Type} {p:α->Prop}
theorem aa.ret{x:α} (h:p x):aa p (ret x):=by rintro _ ⟨⟩;exact h
theorem aa.fail:aa p fail:=fun _ h=>h.elim
theorem aa.aI{A:Prop} {t:Tr α} (h:A->aa p t):aa p (aI A t):=fun e he=>h he.1 e he.2
theorem aa.when{b:Bool} {t:Tr α} (h:b=true->aa p t):aa p (bp b t):=fun e he=>by
 cases b with
 |false=>exact he.elim
 |true=>exact h rfl e he
theorem aa.opt{x:Option β} {f:β->Tr α} (h:∀y,x=some y->aa p (f y)):aa p (eH x f):=fun e he=>by
 cases x with
 |none=>exact he.elim
 |some y=>exact h y rfl e he
theorem aa.dY{b:Bool} {t u:Tr α} (ht:b=true->aa p t) (hu:b=false->aa p u):aa p (nh b t u):=fun e he=>by
 cases b with
 |false=>exact hu rfl e he
 |true=>exact ht rfl e he
theorem aa.gb{x:Option β} {f:β->Tr α} {u:Tr α} (h:∀y,x=some y->aa p (f y)) (hu:x=none->aa p u):aa p (gb x f u):=fun e he=>by
 cases hx:x with
 |none=>exact hu hx e (he.2 hx)
 |some y=>exact h y hx e (he.1 y hx)
theorem aa.ex{f:β->Tr α} (h:∀y,aa p (f y)):aa p (tU f):=fun e ⟨y,he⟩=>h y e he
theorem aa.bind{t:Tr β} {f:β->Tr α} (ht:aj t) (h:∀y,(∀K:β->Prop,K y->t K)->aa p (f y)):aa p (fA t f):=fun e he=>by
 obtain⟨y,h1,h2⟩:=ht _ he;exact h y h2 e h1
end
abbrev cw(C:Ctx) (E:Env) (st:St) (g:au) (s:AS) (a:Act) (w:World) (o:Oper) (t:Tr Ef):Prop:=aa (az C E st g s a w o) t

theorem Ml{x:Operand} (R:Rel E st g s a w) (hg:aL C.gl st) (ho:o.op=.move x\/o.op=.assign x):cw C E st g s a w o (force (s.ev C x) fun x=>ret (pe x)):=by
 rw[force_eq];exact aa.ret (az.pure R (a.eval x) w (by rcases ho with ho|ho<;>simp[execOp,ho]) (aQ.refl w) (aR R hg x))

theorem Yg{c x y:Operand} (R:Rel E st g s a w) (hg:aL C.gl st) (ho:o.op=.pick c x y):cw C E st g s a w o (wu C s c x y):=by
 unfold wu;have hc:=aR R hg c;split
 . rename_i t ht;rw[ht] at hc;simp only[VR] at hc;simp only[force_eq];have hx:=aR R hg x;have hy:=aR R hg y;have hr:(execOp a.eval o).run C.P w=.ok (.value (if t then a.eval x else a.eval y)) w:=by simp[execOp,ho,hc,asBool]
   split
   . rename_i bx bY h1 h2;refine aa.ret (az.pure R _ w hr (aQ.refl w) ?_);rw[h1] at hx;rw[h2] at hy;cases t
     . simpa[VR] using hy
     . simpa[VR] using hx
   . refine aa.dY (fun h=>?_) (fun h=>?_)
     . subst h;exact aa.ret (az.pure R _ w hr (aQ.refl w) (by simpa using hx))
     . subst h;exact aa.ret (az.pure R _ w hr (aQ.refl w) (by simpa using hy))
 . exact aa.fail

theorem Mk{t:TypeId} (R:Rel E st g s a w) (G:Good C) (ho:o.op=.alloc t):cw C E st g s a w o (nZ C s t):=by
 unfold nZ;split
 . exact aa.fail
 . rename_i hk;simp only[force_eq,dN];refine aa.when fun hu=>aa.ret ?_;obtain⟨z,hz,hz'⟩:=Ap w (G.ti t) (fun h=>hk h);refine az.Lj R z.cells t ?_ (kp (hz' st g _) (by simpa using hu));simp[execOp,ho,Instr.alloc,hz,newVar,newRow]

theorem s_box{t:TypeId} {x:Operand} (R:Rel E st g s a w) (hg:aL C.gl st) (ho:o.op=.box t x):
   cw C E st g s a w o (force (s.ev C x) fun x=>cY s.sg.length fun n=>bp (!x.eZ) (ret ⟨.ptr n 0,[],[],[.cells x.cells],[]⟩)):=by
 simp only[force_eq,dN];refine aa.when fun hu=>aa.ret ?_;refine az.Lj R (a.eval x).cells t ?_ (kp (aR R hg x) (by simpa using hu));simp[execOp,ho,Instr.box,newVar,newRow]

theorem LL{agg:Bool} {size off:Nat} {cs:List V} {v:V} (h:∀K:V->Prop,K v->kN agg size cs off K):
   (agg=true/\(size=0\/off+size<=cs.length)/\v=.agg ((cs.drop off).take size))\/(agg=false/\cs[off]?=some v):=by
 have h:=h (fun x=>x=v) rfl;unfold kN at h;cases agg
 . cases hr:mJ cs off with
   |none=>simp only[eH,hr,iu] at h
   |some r=>
     simp only[eH,hr,iu] at h;rw[yZ] at hr;cases h;exact .inr ⟨rfl,hr⟩
 . cases hr:jO (ly cs off) size with
   |none=>simp only[eH,hr,iu] at h
   |some r=>
     simp only[eH,hr,iu] at h;obtain⟨h1,h2⟩:=Bv hr;rw[vW] at h1 h2;subst h1;cases h;simp only[d9] at h2;exact .inl ⟨rfl,by omega,rfl⟩

theorem Ao{t:TypeId} {b o:Nat} {cs:List V} {vs:List Value} {v:V} {n:Nat} (G:Good C) (hk:(C.ti t).k≠.other) (hc:aC st g cs n vs)
   (hw:∀j,j<vs.length->w.cell? ⟨b,o+j,none⟩=vs[j]?) {off:Nat} (h:∀K:V->Prop,K v->kN (C.ti t).k.isAgg (C.ti t).size cs off K):
   ∃u,(loadVar t ⟨b,o+off,none⟩).run C.P w=.ok u w/\VR st g v n u:=by
 rcases LL h with ⟨h1,h2,rfl⟩|⟨h1,h2⟩
 . have hl:=eN hc;have hlen:(C.ti t).size=((vs.drop off).take (C.ti t).size).length:=by simp;omega
   refine⟨.agg ((vs.drop off).take (C.ti t).size).toArray,?_,?_⟩
   . have:=run_loadCells_list (P:=C.P) w ⟨b,o+off,none⟩ ((vs.drop off).take (C.ti t).size) (fun j v hj=>by
       rw[Addr.add_lit];rw[List.getElem?_take] at hj;split at hj
       . rw[List.getElem?_drop] at hj;have hlt:off+j<vs.length:=by
          rcases d7 (off+j) vs.length with h'|h'
          . exact h'
          . simp[ci h'] at hj
         have:=hw (off+j) hlt;rw[hj] at this;rw[Nat.add_assoc];exact this
       . cases hj)
     rw[<-hlen] at this;simp[loadVar,Al w (G.ti t) hk,h1,gj w (G.ti t) hk,this]
   . simp only[VR];exact⟨_,rfl,by simpa using vG (vD hc)⟩
 . obtain⟨u,h3,h4⟩:=jQ hc h2;have hlt:off<vs.length:=by
    rcases d7 off vs.length with h'|h'
    . exact h'
    . simp[ci h'] at h3
   refine⟨u,?_,h4⟩;have:=hw off hlt;rw[h3] at this;simp[loadVar,Al w (G.ti t) hk,h1,this]

theorem Mj{t:TypeId} {cs:List V} {vs:Array Value} {v:V} {n off:Nat} (G:Good C) (hk:(C.ti t).k≠.other) (hc:aC st g cs n vs.toList)
   (h:∀K:V->Prop,K v->kN (C.ti t).k.isAgg (C.ti t).size cs off K):∃u,(part t vs off).run C.P w=.ok u w/\VR st g v n u:=by
 rcases LL h with ⟨h1,h2,rfl⟩|⟨h1,h2⟩
 . refine⟨.agg (vs.extract off (off+(C.ti t).size)),?_,?_⟩
   . simp[part,Al w (G.ti t) hk,h1,gj w (G.ti t) hk]
   . simp only[VR];refine⟨_,rfl,?_⟩;rw[Array.toList_extract,List.extract_eq_take_drop];simpa using vG (vD hc)
 . obtain⟨u,h3,h4⟩:=jQ hc h2;refine⟨u,?_,h4⟩;have h3':vs[off]?=some u:=by simpa using h3
   simp[part,Al w (G.ti t) hk,h1,h3']

theorem yx{E:Env} {sg:List O} (W:aF E st g sg w) {i:Nat} {cs:List V} (hi:sg[i]?=some (.cells cs)):∃b c el fr,(g i).blk=some b/\E.G b/\w.heap[b]?=some (.cells c el fr)/\aC st g cs sg.length c.toList/\qg c fr/\∀o,st b o=none:=
 W.ob i _ hi

theorem Y4{t:TypeId} {x:Operand} (R:Rel E st g s a w) (hg:aL C.gl st) (G:Good C) (ho:o.op=.load t x):cw C E st g s a w o (qc C s t x):=by
 unfold qc;simp only[nq];split
 . exact aa.fail
 rename_i hk;have hk:(C.ti t).k≠.other:=fun h=>hk h;have hx:=aR R hg x;split
 . rename_i cs off he;rw[he] at hx;simp only[VR] at hx;obtain⟨b,of,vs,h1,h2,h3⟩:=hx;refine aa.bind (nz _ _ _ _) fun v hv=>?_;rw[force_eq];have hcell:∀j,j<vs.length->w.cell? ⟨b,of+j,none⟩=vs[j]?:=fun j hj=>by
    have h4:=h3 j hj;rw[am hj] at h4⊢;exact R.wr.stw _ _ _ h4
   obtain⟨u,h5,h6⟩:=Ao (w:=w) (b:=b) (o:=of) G hk h2 hcell hv;refine aa.ret (az.pure R u w ?_ (aQ.refl w) (gC (fun _ _ _ h=>h) (fun i _ hi=>absurd hi (Nat.not_lt_zero _)) h6));simp[execOp,ho,Instr.loadAt,h1,Instr.sureAddr,h5]
 . rename_i i off he;rw[he] at hx;simp only[VR] at hx;obtain⟨hi,b,hb,h1⟩:=hx;split
   . rename_i cs hs;obtain⟨hs1,_⟩:=eY hs (by simp);obtain⟨b',c,el,fr,k1,k2,k3,k4,k5,k6⟩:=yx R.wr hs1;rw[hb] at k1;cases k1;refine aa.bind (nz _ _ _ _) fun v hv=>?_;rw[force_eq];have hcell:∀j,j<c.toList.length->w.cell? ⟨b,0+j,none⟩=c.toList[j]?:=fun j hj=>by rw[gZ k3];simp
     obtain⟨u,h5,h6⟩:=Ao (w:=w) (b:=b) (o:=0) G hk k4 hcell hv;refine aa.ret (az.pure R u w ?_ (aQ.refl w) h6);rw[Nat.zero_add] at h5;simp[execOp,ho,Instr.loadAt,h1,Instr.sureAddr,h5]
   . exact aa.fail
 . rename_i i idx off he;rw[he] at hx;simp only[VR] at hx;obtain⟨hi,b,hb,h1⟩:=hx;split
   . rename_i sz pre l hs;obtain⟨hs1,_⟩:=eY hs (by simp);obtain⟨q1,q2,q3,q4,q5,q6,q7⟩:=R.wr.ob i _ hs1;refine aa.opt fun y hy=>aa.when fun hu=>aa.bind (nz _ _ _ _) fun v hv=>?_;rw[force_eq];rcases q7 with ⟨_,q7⟩|⟨b',c,el,fr,k1,k2,k3,k4,k5,k6,_⟩
     . rw[hb] at q7;cases q7
     . rw[hb] at k1;cases k1;obtain⟨u,r1,r2,r3,r4⟩:=gV.1 k6 idx y hy;have r5:=kp r1 (by simpa using hu);have hcell:∀j,j<u.cells.toList.length->w.cell? ⟨b,idx*sz+j,none⟩=u.cells.toList[j]?:=fun j hj=>by
        rw[gZ k4];have:=r4 j (by rw[<-r2];simpa using hj);rw[Nat.zero_add] at this;simpa using this
       obtain⟨u',h5,h6⟩:=Ao (w:=w) (b:=b) (o:=idx*sz) G hk r5 hcell hv;refine aa.ret (az.pure R u' w ?_ (aQ.refl w) (gC (fun _ _ _ h=>h) (fun i _ hi=>absurd hi (Nat.not_lt_zero _)) h6));rw[q2] at h1;simp[execOp,ho,Instr.loadAt,h1,Instr.sureAddr,h5]
   . exact aa.fail
 . exact aa.fail

theorem Yf{x:Operand} (R:Rel E st g s a w) (hg:aL C.gl st) (ho:o.op=.nilCheck x):cw C E st g s a w o (rQ C s x):=by
 unfold rQ;have hx:=aR R hg x;split;all_goals first
  |exact aa.fail
  |skip
 all_goals
  rename_i he;rw[he] at hx;have hx':=hx;simp only[VR] at hx
 . obtain⟨_,b,_,h1⟩:=hx;exact aa.ret (az.pure R (a.eval x) w (by simp[execOp,ho,h1]) (aQ.refl w) hx')
 . obtain⟨_,b,_,h1⟩:=hx;exact aa.ret (az.pure R (a.eval x) w (by simp[execOp,ho,h1]) (aQ.refl w) hx')
 . obtain⟨b,_,_,h1,_⟩:=hx;exact aa.ret (az.pure R (a.eval x) w (by simp[execOp,ho,h1]) (aQ.refl w) hx')
 . obtain⟨b,_,h1,_⟩:=hx;exact aa.ret (az.pure R (a.eval x) w (by simp[execOp,ho,h1]) (aQ.refl w) hx')
 . obtain⟨b,h1,_⟩:=hx;exact aa.ret (az.pure R (a.eval x) w (by simp[execOp,ho,h1]) (aQ.refl w) hx')

theorem Y7{t:TypeId} {x:Operand} (R:Rel E st g s a w) (hg:aL C.gl st) (G:Good C) (ho:o.op=.makeInterface t x):cw C E st g s a w o (wq C s t x):=by
 unfold wq;split
 . exact aa.fail
 . exact aa.fail
 . rename_i h1 h2;rw[force_eq];refine aa.when fun hu=>aa.ret ?_;refine az.pure R (.iface t (a.eval x)) w ?_ (aQ.refl w) (by simp only[VR];exact⟨_,rfl,aR R hg x⟩);obtain⟨h3,_⟩:=(G.ti t).of (fun h=>h1 h);cases hk':(C.ti t).k<;>rw[hk'] at h3<;>simp only[TK.ok] at h3
   case struct fs=>obtain⟨f,h3,_⟩:=h3;simp[execOp,ho,Instr.makeInterface,run_underlying h3]
   case iface=>exact absurd hk' (fun h=>h2 h)
   case func=>obtain⟨p,q,r,h3⟩:=h3;simp[execOp,ho,Instr.makeInterface,run_underlying h3]
   all_goals simp[execOp,ho,Instr.makeInterface,run_underlying h3]

theorem Y6{fn:Fn} {xs ys:Array Operand} (R:Rel E st g s a w) (hg:aL C.gl st) (ho:o.op=.makeFunc fn xs ys):
   cw C E st g s a w o (qi (s.evs C xs.toList) fun a=>qi (s.evs C ys.toList) fun b=>ret (pe (.func fn a b))):=by
 simp only[u6];refine aa.ret (az.pure R (.func fn (xs.map a.eval) (ys.map a.eval)) w (by simp[execOp,ho,Instr.makeFunc]) (aQ.refl w) ?_);simp only[VR];exact⟨_,_,rfl,by simpa using tT R hg xs.toList,by simpa using tT R hg ys.toList⟩

theorem XX{x:Operand} {i:Nat} (R:Rel E st g s a w) (hg:aL C.gl st) (ho:o.op=.extract x i):cw C E st g s a w o (wm C s x i):=by
 unfold wm;have hx:=aR R hg x;split
 . rename_i vs he;rw[he] at hx;simp only[VR] at hx;obtain⟨us,h1,h2⟩:=hx;refine aa.opt fun v hv=>?_;rw[force_eq];rw[yZ] at hv;obtain⟨u,h3,h4⟩:=jQ h2 hv;have h3':us[i]?=some u:=by simpa using h3
   exact aa.ret (az.pure R u w (by simp[execOp,ho,h1,Instr.extract,h3']) (aQ.refl w) h4)
 . exact aa.fail

theorem IW:∀{fs:List (Nat×TypeId)} {i:Nat} {x:Nat×TypeId},oa fs i=some x->fs[i]?=some x
 |[],i,x,h=>by simp[oa] at h
 |y::ys,0,x,h=>by simpa[oa] using h
 |y::ys,i+1,x,h=>by simpa[oa] using IW (fs:=ys) (by simpa[oa] using h)
theorem CE{fields:Array Field} {fs:List (Nat×TypeId)} (h:fields.toList.map (fun f=>(f.offset,f.type)) =fs) {i:Nat} {x:Nat×TypeId} (hx:oa fs i=some x):
   ∃f,fields[i]?=some f/\f.offset=x.1/\f.type=x.2:=by
 have:=IW hx;rw[<-h,List.getElem?_map] at this;cases hf:fields.toList[i]? with
 |none=>rw[hf] at this;cases this
 |some f=>rw[hf] at this;cases this;exact⟨f,by simpa using hf,rfl,rfl⟩

theorem XY{t:TypeId} {x:Operand} {f:Nat} (R:Rel E st g s a w) (hg:aL C.gl st) (G:Good C) (ho:o.op=.field t x f):cw C E st g s a w o (rI C s t x f):=by
 unfold rI;have hx:=aR R hg x;split
 . rename_i fs cs hk he;rw[he] at hx;simp only[VR] at hx;obtain⟨us,h1,h2⟩:=hx;obtain⟨h3,_⟩:=(G.ti t).of (by rw[hk];simp);rw[hk] at h3;obtain⟨fields,h3,h4,_⟩:=h3;refine aa.opt fun ft hft=>?_;split
   . exact aa.fail
   rename_i hk2;refine aa.bind (nz _ _ _ _) fun v hv=>?_;rw[force_eq];obtain⟨fd,h5,h6,h7⟩:=CE h4 hft;obtain⟨u,h8,h9⟩:=Mj (w:=w) G (fun h=>hk2 h) h2 hv;refine aa.ret (az.pure R u w ?_ (aQ.refl w) h9);simp[execOp,ho,Instr.field,run_underlying h3,h5,h1,asAgg,h6,h7,h8]
 . exact aa.fail

theorem XZ{t:TypeId} {x:Operand} {f:Nat} (R:Rel E st g s a w) (hg:aL C.gl st) (G:Good C) (ho:o.op=.fieldAddr t x f):cw C E st g s a w o (rJ C s t x f):=by
 unfold rJ;have hx:=aR R hg x;split
 . rename_i fs hk;obtain⟨h3,_⟩:=(G.ti t).of (by rw[hk];simp);rw[hk] at h3;obtain⟨fields,h3,h4,_⟩:=h3;refine aa.opt fun ft hft=>?_;split
   . exact aa.fail
   rename_i hk2;refine aa.when fun hsz=>?_;obtain⟨fd,h5,h6,h7⟩:=CE h4 hft;have hsz':=d6 hsz;have hs0:¬(C.ti fd.type).size=0:=by rw[h7];omega
   have hrs:=gj w (G.ti fd.type) (by rw[h7];exact fun h=>hk2 h);have hr:∀ad:Addr,a.eval x=.pointer (some ad)->(execOp a.eval o).run C.P w=.ok (.value (.pointer (some (ad.add ft.1)))) w:=fun ad had=>by
    simp[execOp,ho,Instr.fieldAt,run_underlying h3,h5,had,Instr.sureAddr,fieldPlace,hrs,hs0,h6]
   split
   . rename_i i off he;rw[he] at hx;simp only[VR] at hx;obtain⟨hi,b,hb,h1⟩:=hx;rw[dN];refine aa.ret (az.pure R _ w (hr _ h1) (aQ.refl w) ?_);simp only[VR];exact⟨hi,b,hb,by rw[Addr.add_lit]⟩
   . rename_i i j off he;rw[he] at hx;simp only[VR] at hx;obtain⟨hi,b,hb,h1⟩:=hx;rw[dN];refine aa.ret (az.pure R _ w (hr _ h1) (aQ.refl w) ?_);simp only[VR];exact⟨hi,b,hb,by rw[Addr.add_lit,Nat.add_assoc]⟩
   . rename_i cs off he;rw[he] at hx;simp only[VR] at hx;obtain⟨b,of,vs,h1,h2,h8⟩:=hx;rw[dN];refine aa.ret (az.pure R _ w (hr _ h1) (aQ.refl w) ?_);simp only[VR];exact⟨b,of,vs,by rw[Addr.add_lit,Nat.add_assoc],h2,h8⟩
   . exact aa.fail
 . exact aa.fail
end
end Go.VG
