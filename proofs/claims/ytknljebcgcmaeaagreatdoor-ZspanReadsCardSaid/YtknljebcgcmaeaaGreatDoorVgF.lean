/-
  A part of the proof.
-/
import Derived.WalkKit
import Derived.RangeFuncSeq
import Derived.RangeFuncLeaves
import Derived.TacticsIn
import Derived.WideKeyMaps
import Derived.WideKeyEntry
set_option linter.unusedSimpArgs false
set_option linter.unusedVariables false
namespace Go.VG
open Go
set_option linter.defProp false
def ac:=@List.getD_eq_getElem?_getD
def am:=@List.getElem?_eq_getElem
def an:=@List.length_append
def aA:=@Bool.and_eq_true
def aB:=@List.length_map
def cb:=@Nat.eq_of_beq_eq_true
def ci:=@Nat.zero_le
def co:=@Nat.le_refl
def dl:=@List.getElem?_eq_none
def d5:=@List.eq_nil_of_length_eq_zero
def d6:=@List.getElem?_append_left
def d7:=@List.getElem?_append_right
def d8:=@List.mem_cons_of_mem
def d9:=@Nat.le_of_ble_eq_true
def eg:=@Nat.lt_or_ge
def eo:=@List.length_take
def fo:=@List.length_drop
def gc:=@List.append_assoc
def gg:=@List.take_of_length_le
def gq:=@List.map_append
def gt:=@List.length_singleton
def gA:=@Nat.mul_le_mul_right
def gB:=@List.getElem?_eq_some_iff
abbrev g8:=List UInt8

inductive V where
 |undef
 |int (k:IntKind) (n:Int)
 |bool (b:Bool)
 |str (s:g8)
 |agg (cs:List V)
 |tuple (vs:List V)
 |list (clip:Bool) (sz:Nat) (l:List V)
 |nilptr
 |box (cs:List V) (off:Nat)
 |ptr (i off:Nat)
 |bptr (i idx off:Nat)
 |view (i off n:Nat)
 |buf (i:Nat)
 |iface (t:TypeId) (v:V)
 |nilIface
 |func (fn:Fn) (first captured:List V)
 |nilFunc
 |map (i:Nat)
 |nilmap

instance:Inhabited V:=⟨.undef⟩

def V.cells:V->List V
 |.agg cs=>cs
 |x=>[x]

abbrev St:=Nat->Nat->Option Value
structure Gh where
 blk:Option Nat
 base:Option Addr
 len:Nat
 cap:Nat
 sz:Nat
abbrev aw:=Nat->Gh

mutual
def VR(st:St) (g:aw):V->Nat->Value->Prop
 |.undef,_,_=>True
 |.int k m,_,v=>v=.int k m/\k.min<=m/\m<=k.max
 |.bool b,_,v=>v=.bool b
 |.str s,_,v=>v=.string ⟨s.toArray⟩/\s.length<=maxLen
 |.agg cs,n,v=>∃vs,v=.agg vs/\aE st g cs n vs.toList
 |.tuple cs,n,v=>∃vs,v=.tuple vs/\aE st g cs n vs.toList
 |.list clip sz l,_,v=>∃base cap,v=.slice base l.length cap/\l.length<=cap/\l.length<=maxLen/\(clip=true->cap=l.length)/\
  (l=[]\/∃b o,base=some ⟨b,o,none⟩/\0<sz/\cq st g l sz (st b) o)
 |.nilptr,_,v=>v=.pointer none
 |.box cs off,_,v=>∃b o vs,v=.pointer (some ⟨b,o+off,none⟩)/\aE st g cs 0 vs/\∀j,j<vs.length->st b (o+j) =vs[j]?
 |.ptr i off,n,v=>i<n/\∃b,(g i).blk=some b/\v=.pointer (some ⟨b,off,none⟩)
 |.bptr i idx off,n,v=>i<n/\∃b,(g i).blk=some b/\v=.pointer (some ⟨b,idx*(g i).sz+off,none⟩)
 |.view i off m,n,v=>i<n/\∃b,(g i).blk=some b/\∃of cap,(m=0\/of=off)/\v=.slice (some ⟨b,of,none⟩) m cap
 |.buf i,n,v=>i<n/\v=.slice (g i).base (g i).len (g i).cap
 |.iface t x,n,v=>∃u,v=.iface t u/\VR st g x n u
 |.nilIface,_,v=>v=.nilIface
 |.func fn fs cs,n,v=>∃a b,v=.func fn a b/\aE st g fs n a.toList/\aE st g cs n b.toList
 |.nilFunc,_,v=>v=.nilFunc
 |.map i,n,v=>i<n/\∃b,(g i).blk=some b/\v=.map (some b)
 |.nilmap,_,v=>v=.map none
def aE(st:St) (g:aw):List V->Nat->List Value->Prop
 |[],_,vs=>vs=[]
 |c::cs,n,vs=>∃u us,vs=u::us/\VR st g c n u/\aE st g cs n us
def cq(st:St) (g:aw):List V->Nat->(Nat->Option Value)->Nat->Prop
 |[],_,_,_=>True
 |x::xs,sz,look,o=>(∃u,VR st g x 0 u/\u.cells.size=sz/\(∀v∈u.cells.toList,v.oneCell'=true)/\∀j,j<sz->look (o+j) =u.cells[j]?)/\cq st g xs sz look (o+sz)
end


theorem jB{st:St} {g:aw} {n:Nat}:∀{cs:List V} {vs:List Value},aE st g cs n vs↔cs.length=vs.length/\∀(i:Nat) (c:V) (v:Value),cs[i]?=some c->vs[i]?=some v->VR st g c n v
 |[],vs=>by
   simp only[aE];constructor
   . rintro rfl;simp
   . rintro⟨h,_⟩;cases vs with
     |nil=>rfl
     |cons a b=>simp at h
 |c::cs,vs=>by
   simp only[aE];constructor
   . rintro⟨u,us,rfl,h1,h2⟩;obtain⟨hl,hh⟩:=jB.1 h2;refine⟨by simp[hl],?_⟩;intro i c' v h3 h4;cases i with
     |zero=>simp at h3 h4;subst h3;subst h4;exact h1
     |succ i=>simp at h3 h4;exact hh i c' v h3 h4
   . rintro⟨hl,hh⟩;cases vs with
     |nil=>simp at hl
     |cons u us=>
       refine⟨u,us,rfl,hh 0 c u rfl rfl,jB.2 ⟨by simpa using hl,?_⟩⟩;intro i c' v h3 h4;exact hh (i+1) c' v (by simpa using h3) (by simpa using h4)

theorem eJ{st:St} {g:aw} {n:Nat} {cs:List V} {vs:List Value} (h:aE st g cs n vs):cs.length=vs.length:=(jB.1 h).1

theorem jA{st:St} {g:aw} {n:Nat} {cs:List V} {vs:List Value} (h:aE st g cs n vs) {i:Nat} {c:V} (hc:cs[i]?=some c):
   ∃v,vs[i]?=some v/\VR st g c n v:=by
 obtain⟨hl,hh⟩:=jB.1 h;have hi:i<cs.length:=by
  rcases eg i cs.length with h'|h'
  . exact h'
  . simp[dl h'] at hc
 have hv:vs[i]?=some (vs[i]'(by omega)):=am (by omega);exact⟨_,hv,hh i c _ hc hv⟩

theorem dD{st:St} {g:aw} {n:Nat}:aE st g [] n []:=by simp[aE]
theorem cu{st:St} {g:aw} {n:Nat} {c:V} {cs:List V} {v:Value} {vs:List Value} (h:VR st g c n v) (hs:aE st g cs n vs):aE st g (c::cs) n (v::vs):=by
 simp only[aE];exact⟨v,vs,rfl,h,hs⟩

theorem uS{st:St} {g:aw} {n k:Nat} {cs:List V} {vs:List Value} (h:aE st g cs n vs):aE st g (cs.take k) n (vs.take k):=by
 obtain⟨hl,hh⟩:=jB.1 h;refine jB.2 ⟨by simp[hl],fun i c v h1 h2=>?_⟩;rw[List.getElem?_take] at h1 h2;split at h1
 . rename_i hlt;rw[if_pos hlt] at h2;exact hh i c v h1 h2
 . cases h1

theorem uP{st:St} {g:aw} {n k:Nat} {cs:List V} {vs:List Value} (h:aE st g cs n vs):aE st g (cs.drop k) n (vs.drop k):=by
 obtain⟨hl,hh⟩:=jB.1 h;refine jB.2 ⟨by simp[hl],fun i c v h1 h2=>?_⟩;rw[List.getElem?_drop] at h1 h2;exact hh _ c v h1 h2

theorem si{st:St} {g:aw} {n:Nat} {cs ds:List V} {vs us:List Value} (h:aE st g cs n vs) (k:aE st g ds n us):aE st g (cs++ds) n (vs++us):=by
 obtain⟨hl,hh⟩:=jB.1 h;obtain⟨kl,kk⟩:=jB.1 k;refine jB.2 ⟨by simp[hl,kl],fun i c v h1 h2=>?_⟩;rcases eg i cs.length with hlt|hge
 . rw[d6 hlt] at h1;rw[d6 (by omega)] at h2;exact hh i c v h1 h2
 . rw[d7 hge] at h1;rw[d7 (by omega),<-hl] at h2;exact kk _ c v h1 h2

theorem gO{st:St} {g:aw} {sz:Nat} {look:Nat->Option Value}:∀{l:List V} {o:Nat},cq st g l sz look o↔
   ∀(i:Nat) (x:V),l[i]?=some x->∃u,VR st g x 0 u/\u.cells.size=sz/\(∀v∈u.cells.toList,v.oneCell'=true)/\∀j,j<sz->look (o+i*sz+j) =u.cells[j]?
 |[],o=>by simp[cq]
 |x::xs,o=>by
   simp only[cq];constructor
   . rintro⟨h1,h2⟩ i y hy;cases i with
     |zero=>simp at hy;subst hy;simpa using h1
     |succ i=>
       simp at hy;obtain⟨u,a,b,d,c⟩:=gO.1 h2 i y hy;refine⟨u,a,b,d,fun j hj=>?_⟩;rw[<-c j hj]
       congr 1
       rw[Nat.add_mul];omega
   . intro h;refine⟨by simpa using h 0 x rfl,gO.2 fun i y hy=>?_⟩;obtain⟨u,a,b,d,c⟩:=h (i+1) y (by simpa using hy);refine⟨u,a,b,d,fun j hj=>?_⟩;rw[<-c j hj]
     congr 1
     rw[Nat.add_mul];omega

mutual
def V.has(i:Nat):V->Bool
 |.ptr j _|.bptr j _ _|.view j _ _|.buf j|.map j=>Nat.beq i j
 |.agg cs|.tuple cs=>V.ij i cs
 |.iface _ x=>V.has i x
 |.func _ fs cs=>V.ij i fs||V.ij i cs
 |_=>false
def V.ij(i:Nat):List V->Bool
 |[]=>false
 |c::cs=>V.has i c||V.ij i cs
end
mutual
def V.gX(m:Nat):V->Bool
 |.ptr j _|.bptr j _ _|.view j _ _|.buf j|.map j=>Nat.blt j m
 |.agg cs|.tuple cs=>V.nM m cs
 |.iface _ x=>V.gX m x
 |.func _ fs cs=>V.nM m fs&&V.nM m cs
 |_=>true
def V.nM(m:Nat):List V->Bool
 |[]=>true
 |c::cs=>V.gX m c&&V.nM m cs
end
def aQ(i:Nat):List Nat->Bool
 |[]=>false
 |k::ks=>Nat.beq i k||aQ i ks
mutual
def V.kill(ks:List Nat):V->V
 |.ptr j o=>cond (aQ j ks) .undef (.ptr j o)
 |.bptr j a b=>cond (aQ j ks) .undef (.bptr j a b)
 |.view j a b=>cond (aQ j ks) .undef (.view j a b)
 |.buf j=>cond (aQ j ks) .undef (.buf j)
 |.map j=>cond (aQ j ks) .undef (.map j)
 |.agg cs=>.agg (V.dH ks cs)
 |.tuple cs=>.tuple (V.dH ks cs)
 |.iface t x=>.iface t (V.kill ks x)
 |.func f fs cs=>.func f (V.dH ks fs) (V.dH ks cs)
 |.undef=>.undef|.int k n=>.int k n|.bool b=>.bool b|.str s=>.str s|.list c z l=>.list c z l
 |.nilptr=>.nilptr|.box cs o=>.box cs o|.nilIface=>.nilIface|.nilFunc=>.nilFunc|.nilmap=>.nilmap
def V.dH(ks:List Nat):List V->List V
 |[]=>[]
 |c::cs=>V.kill ks c::V.dH ks cs
end

mutual
theorem qX{m:Nat}:∀{x:V} {i:Nat},x.gX m=true->x.has i=true->i<m
 |.ptr j _,i,h,k|.bptr j _ _,i,h,k|.view j _ _,i,h,k|.buf j,i,h,k|.map j,i,h,k=>by
   simp only[V.gX,V.has] at h k;have:=cb k;subst this;exact d9 h
 |.agg cs,i,h,k|.tuple cs,i,h,k=>vH (by simpa[V.gX] using h) (by simpa[V.has] using k)
 |.iface _ x,i,h,k=>qX (by simpa[V.gX] using h) (by simpa[V.has] using k)
 |.func _ fs cs,i,h,k=>by
   simp only[V.gX,V.has,aA,Bool.or_eq_true] at h k;rcases k with k|k
   . exact vH h.1 k
   . exact vH h.2 k
 |.undef,_,_,k|.int ..,_,_,k|.bool _,_,_,k|.str _,_,_,k|.list ..,_,_,k|.nilptr,_,_,k|.box ..,_,_,k|.nilIface,_,_,k|.nilFunc,_,_,k|.nilmap,_,_,k=>by simp[V.has] at k
theorem vH{m:Nat}:∀{x:List V} {i:Nat},V.nM m x=true->V.ij i x=true->i<m
 |[],_,_,k=>by simp[V.ij] at k
 |c::cs,i,h,k=>by
   simp only[V.nM,V.ij,aA,Bool.or_eq_true] at h k;rcases k with k|k
   . exact qX h.1 k
   . exact vH h.2 k
end

mutual
theorem gw{st st':St} {g g':aw} (hst:∀b o v,st b o=some v->st' b o=some v):
   ∀{x:V} {n n':Nat} {v:Value},(∀i,x.has i=true->i<n->i<n'/\g' i=g i)->VR st g x n v->VR st' g' x n' v
 |.undef,_,_,_,_,_=>by simp[VR]
 |.int ..,_,_,_,_,h|.bool _,_,_,_,_,h|.str _,_,_,_,_,h|.nilptr,_,_,_,_,h|.nilIface,_,_,_,_,h|.nilFunc,_,_,_,_,h|.nilmap,_,_,_,_,h=>by simpa[VR] using h
 |.agg cs,n,n',v,hn,h|.tuple cs,n,n',v,hn,h=>by
   simp only[VR] at h⊢;obtain⟨vs,rfl,h⟩:=h;exact⟨vs,rfl,kE hst (fun i hi=>hn i (by simpa[V.has] using hi)) h⟩
 |.list c sz l,n,n',v,hn,h=>by
   simp only[VR] at h⊢;obtain⟨base,cap,rfl,h1,h2,h3,h4⟩:=h;refine⟨base,cap,rfl,h1,h2,h3,?_⟩;rcases h4 with h4|⟨b,o,h5,h6,h7⟩
   . exact .inl h4
   . exact .inr ⟨b,o,h5,h6,lq hst (fun k v hk=>hst b k v hk) h7⟩
 |.box cs off,n,n',v,hn,h=>by
   simp only[VR] at h⊢;obtain⟨b,o,vs,rfl,h1,h2⟩:=h;refine⟨b,o,vs,rfl,kE hst (fun i _ hi=>absurd hi (Nat.not_lt_zero _)) h1,fun j hj=>?_⟩;have h3:=h2 j hj;have h4:vs[j]?=some (vs[j]'hj):=am hj;rw[h4] at h3⊢;exact hst _ _ _ h3
 |.ptr i off,n,n',v,hn,h=>by
   simp only[VR] at h⊢;obtain⟨hi,h⟩:=h;obtain⟨h1,h2⟩:=hn i (by simp[V.has]) hi;exact⟨h1,by rw[h2];exact h⟩
 |.bptr i a off,n,n',v,hn,h|.view i a off,n,n',v,hn,h=>by
   simp only[VR] at h⊢;obtain⟨hi,h⟩:=h;obtain⟨h1,h2⟩:=hn i (by simp[V.has]) hi;exact⟨h1,by rw[h2];exact h⟩
 |.buf i,n,n',v,hn,h=>by
   simp only[VR] at h⊢;obtain⟨hi,h⟩:=h;obtain⟨h1,h2⟩:=hn i (by simp[V.has]) hi;exact⟨h1,by rw[h2];exact h⟩
 |.map i,n,n',v,hn,h=>by
   simp only[VR] at h⊢;obtain⟨hi,h⟩:=h;obtain⟨h1,h2⟩:=hn i (by simp[V.has]) hi;exact⟨h1,by rw[h2];exact h⟩
 |.iface t x,n,n',v,hn,h=>by
   simp only[VR] at h⊢;obtain⟨u,rfl,h⟩:=h;exact⟨u,rfl,gw hst (fun i hi=>hn i (by simpa[V.has] using hi)) h⟩
 |.func f fs cs,n,n',v,hn,h=>by
   simp only[VR] at h⊢;obtain⟨a,b,rfl,h1,h2⟩:=h;exact⟨a,b,rfl,kE hst (fun i hi=>hn i (by simp[V.has,hi])) h1,kE hst (fun i hi=>hn i (by simp[V.has,hi])) h2⟩
theorem kE{st st':St} {g g':aw} (hst:∀b o v,st b o=some v->st' b o=some v):
   ∀{x:List V} {n n':Nat} {v:List Value},(∀i,V.ij i x=true->i<n->i<n'/\g' i=g i)->aE st g x n v->aE st' g' x n' v
 |[],_,_,_,_,h=>by simpa[aE] using h
 |c::cs,n,n',v,hn,h=>by
   simp only[aE] at h⊢;obtain⟨u,us,rfl,h1,h2⟩:=h;exact⟨u,us,rfl,gw hst (fun i hi=>hn i (by simp[V.ij,hi])) h1,kE hst (fun i hi=>hn i (by simp[V.ij,hi])) h2⟩
theorem lq{st st':St} {g g':aw} (hst:∀b o v,st b o=some v->st' b o=some v):
   ∀{x:List V} {sz o:Nat} {look look':Nat->Option Value},(∀k v,look k=some v->look' k=some v)->cq st g x sz look o->cq st' g' x sz look' o
 |[],_,_,_,_,_,_=>by simp[cq]
 |c::cs,sz,o,look,look',hl,h=>by
   simp only[cq] at h⊢;obtain⟨⟨u,h1,h2,hd,h3⟩,h4⟩:=h;refine⟨⟨u,gw hst (fun i _ hi=>absurd hi (Nat.not_lt_zero _)) h1,h2,hd,fun j hj=>?_⟩,lq hst hl h4⟩;have h5:=h3 j hj;have h6:u.cells[j]?=some (u.cells[j]'(by omega)):=Array.getElem?_eq_getElem (by omega);rw[h6] at h5⊢;exact hl _ _ h5
end

mutual
theorem xy{st:St} {g:aw} {ks:List Nat}:∀{x:V} {n:Nat} {v:Value},VR st g x n v->VR st g (x.kill ks) n v
 |.undef,_,_,_=>by simp[VR,V.kill]
 |.int ..,_,_,h|.bool _,_,_,h|.str _,_,_,h|.nilptr,_,_,h|.nilIface,_,_,h|.nilFunc,_,_,h|.nilmap,_,_,h|.list ..,_,_,h|.box ..,_,_,h=>by simpa only[V.kill] using h
 |.ptr i _,_,_,h|.bptr i _ _,_,_,h|.view i _ _,_,_,h|.buf i,_,_,h|.map i,_,_,h=>by
   simp only[V.kill];cases aQ i ks with
   |true=>simp[VR]
   |false=>exact h
 |.agg cs,n,v,h|.tuple cs,n,v,h=>by
   simp only[VR,V.kill] at h⊢;obtain⟨vs,rfl,h⟩:=h;exact⟨vs,rfl,uQ h⟩
 |.iface t x,n,v,h=>by
   simp only[VR,V.kill] at h⊢;obtain⟨u,rfl,h⟩:=h;exact⟨u,rfl,xy h⟩
 |.func f fs cs,n,v,h=>by
   simp only[VR,V.kill] at h⊢;obtain⟨a,b,rfl,h1,h2⟩:=h;exact⟨a,b,rfl,uQ h1,uQ h2⟩
theorem uQ{st:St} {g:aw} {ks:List Nat}:∀{x:List V} {n:Nat} {v:List Value},aE st g x n v->aE st g (V.dH ks x) n v
 |[],_,_,h=>by simpa[aE,V.dH] using h
 |c::cs,n,v,h=>by
   simp only[aE,V.dH] at h⊢;obtain⟨u,us,rfl,h1,h2⟩:=h;exact⟨u,us,rfl,xy h1,uQ h2⟩
end

mutual
theorem pI{ks:List Nat}:∀{x:V} {i:Nat},(x.kill ks).has i=true->aQ i ks=false/\x.has i=true
 |.undef,_,h|.int ..,_,h|.bool _,_,h|.str _,_,h|.nilptr,_,h|.nilIface,_,h|.nilFunc,_,h|.nilmap,_,h|.list ..,_,h|.box ..,_,h=>by simp[V.kill,V.has] at h
 |.ptr j _,i,h|.bptr j _ _,i,h|.view j _ _,i,h|.buf j,i,h|.map j,i,h=>by
   simp only[V.kill] at h;cases hm:aQ j ks with
   |true=>rw[hm] at h;simp[V.has] at h
   |false=>
     rw[hm] at h;simp only[cond_false,V.has] at h⊢;have:=cb h;subst this;exact⟨hm,h⟩
 |.agg cs,i,h|.tuple cs,i,h=>by
   simp only[V.kill,V.has] at h⊢;exact pH h
 |.iface t x,i,h=>by
   simp only[V.kill,V.has] at h⊢;exact pI h
 |.func f fs cs,i,h=>by
   simp only[V.kill,V.has,Bool.or_eq_true] at h⊢;rcases h with h|h
   . exact⟨(pH h).1,.inl (pH h).2⟩
   . exact⟨(pH h).1,.inr (pH h).2⟩
theorem pH{ks:List Nat}:∀{x:List V} {i:Nat},V.ij i (V.dH ks x) =true->aQ i ks=false/\V.ij i x=true
 |[],_,h=>by simp[V.dH,V.ij] at h
 |c::cs,i,h=>by
   simp only[V.dH,V.ij,Bool.or_eq_true] at h⊢;rcases h with h|h
   . exact⟨(pI h).1,.inl (pI h).2⟩
   . exact⟨(pH h).1,.inr (pH h).2⟩
end

end Go.VG
namespace Go.VG
open Go

def fV:IntKind->IntKind->Bool
 |.i8,.i8|.i16,.i16|.i32,.i32|.i64,.i64|.u8,.u8|.u16,.u16|.u32,.u32|.u64,.u64=>true
 |_,_=>false

inductive Sc where
 |kB|kI (k:IntKind)|kS
def kb:Sc->V->Bool
 |.kB,.bool _=>true
 |.kI k,.int k' _=>fV k k'
 |.kS,.str _=>true
 |_,_=>false
def cQ:List Sc->List V->Bool
 |[],[]=>true
 |k::ks,x::xs=>kb k x&&cQ ks xs
 |_,_=>false
def kU(ag:Bool) (sh:List Sc):V->Bool
 |.agg cs=>cond ag (cQ sh cs) false
 |x=>cond ag false (cQ sh [x])
def ra:V->V->Bool
 |.int _ a,.int _ b=>a==b
 |.str a,.str b=>a==b
 |.bool a,.bool b=>a==b
 |_,_=>false
def vP:List V->List V->Bool
 |[],[]=>true
 |x::xs,y::ys=>ra x y&&vP xs ys
 |_,_=>false
def kZ:V->V->Bool
 |.agg a,.agg b=>vP a b
 |x,y=>ra x y
def bN:List (V×Int)->V->Option (Nat×Int)
 |[],_=>none
 |(y,q)::es,x=>cond (kZ y x) (some (0,q)) (match bN es x with
   |some (j,q) =>some (j+1,q)
   |none=>none)
def getM(es:List (V×Int)) (x:V):Int:=match bN es x with
 |some (_,q) =>q
 |none=>0
def iZ:List (V×Int)->Nat->Int->List (V×Int)
 |[],_,_=>[]
 |(y,_)::es,0,q=>(y,q)::es
 |e::es,n+1,q=>e::iZ es n q
def ji:V->Value
 |.int k n=>.int k n
 |.bool b=>.bool b
 |.str s=>.string ⟨s.toArray⟩
 |_=>.nilIface
def tO:V->Prop
 |.int k n=>k.min<=n/\n<=k.max
 |.str s=>s.length<=maxLen
 |_=>True
def dB:V->Value
 |.agg cs=>.agg (cs.map ji).toArray
 |x=>ji x
def mR:V->Prop
 |.agg cs=>∀c∈cs,tO c
 |x=>tO x
def gn(ag:Bool) (sh:List Sc):List (V×Int)->List Nat->List MapEntry->Prop
 |[],[],[]=>True
 |(x,q)::es,s::bs,e::l=>(kU ag sh x=true/\mR x/\e.key=dB x/\e.val=.int .i64 q/\(IntKind.i64.min<=q/\q<=IntKind.i64.max)/\e.born=s)/\gn ag sh es bs l
 |_,_,_=>False
def sc(bs:List Nat) (ck:Nat):Prop:=bs.Nodup/\∀s∈bs,s<ck
def nD(bs:List Nat) (seen:Array Nat):List Nat:=(List.range bs.length).filter fun j=>!(seen.toList.contains (bs.getD j 0))

inductive O where
 |dead
 |cells (cs:List V)
 |buf (sz pre:Nat) (l:List V)
 |siter (s:g8) (pos:Nat)
 |map (ag:Bool) (sh:List Sc) (es:List (V×Int)) (bs:List Nat) (ck:Nat)
 |miter (m:V) (bs:List Nat) (ck:Nat) (left:List Nat) (last:Nat)
instance:Inhabited O:=⟨.dead⟩

def O.has(i:Nat):O->Bool
 |.cells cs=>V.ij i cs
 |.miter m _ _ _ _=>m.has i
 |_=>false
def O.gX(m:Nat):O->Bool
 |.cells cs=>V.nM m cs
 |.miter x _ _ _ _=>x.gX m
 |_=>true
def O.kill(ks:List Nat):O->O
 |.cells cs=>.cells (V.dH ks cs)
 |.dead=>.dead|.buf a b l=>.buf a b l|.siter s p=>.siter s p|.map a sh es bs ck=>.map a sh es bs ck
 |.miter m bs ck l x=>.miter (m.kill ks) bs ck l x

structure Env where
 G:Nat->Prop
 w0:World
 st0:St
 ds:List Deferred

def px(c:Array Value) (fr:Nat×Nat):Prop:=fr.1<=fr.2/\∀o,o<c.size->¬(fr.1<=o/\o<fr.2)

def dK(E:Env) (st:St) (g:aw) (n:Nat) (w:World) (gi:Gh):O->Prop
  |.dead=>∀b,gi.blk=some b->b<w.heap.size/\E.G b
  |.cells cs=>∃b c el fr,gi.blk=some b/\E.G b/\w.heap[b]?=some (.cells c el fr)/\aE st g cs n c.toList/\px c fr/\∀o,st b o=none
  |.buf sz pre l=>0<sz/\gi.sz=sz/\pre<=l.length/\l.length<=maxLen/\gi.len=l.length/\l.length<=gi.cap/\
   ((gi.cap=0/\gi.blk=none)\/∃b c el fr,gi.blk=some b/\gi.base=some ⟨b,0,none⟩/\E.G b/\w.heap[b]?=some (.cells c el fr)/\c.size=gi.cap*sz/\
     cq st g l sz (fun o=>c[o]?) 0/\px c fr/\∀o v,st b o=some v->o<pre*sz)
  |.siter s pos=>s.length<=maxLen/\∃b,gi.blk=some b/\E.G b/\w.heap[b]?=some (.stringIter ⟨s.toArray⟩ pos)
  |.map ag sh es bs ck=>∃b arr,gi.blk=some b/\E.G b/\w.heap[b]?=some (.map arr ck)/\gn ag sh es bs arr.toList/\sc bs ck/\(es.map fun e=>dB e.1).Nodup
  |.miter m bs ck left last=>∃b b' seen,gi.blk=some b/\E.G b/\w.heap[b]?=some (.mapIter (some b') ck seen ck)/\VR st g m n (.map (some b'))/\left=nD bs seen/\
   ((seen=#[]/\bs.length<=last)\/(seen.back?=some (bs.getD last 0)/\last<bs.length))

structure aO(E:Env) (st:St) (g:aw) (sg:List O) (w:World):Prop where
 os:w.os=E.w0.os
 tape:w.tape=E.w0.tape
 output:w.output=E.w0.output
 size:E.w0.heap.size<=w.heap.size
 gnew:∀b,E.w0.heap.size<=b->E.G b
 sub:∀b o v,E.st0 b o=some v->st b o=some v
 stG:∀b o v,st b o=some v->E.st0 b o=some v\/E.G b
 stw:∀b o v,st b o=some v->w.cell? ⟨b,o,none⟩=some v
 fr:∀b,¬E.G b->w.heap[b]?=E.w0.heap[b]?
 ob:∀i o,sg[i]?=some o->dK E st g sg.length w (g i) o
 inj:∀i j b,i<sg.length->j<sg.length->(g i).blk=some b->(g j).blk=some b->i=j

theorem qq{w w':World} {b o:Nat} (h:w'.heap[b]?=w.heap[b]?):w'.cell? ⟨b,o,none⟩=w.cell? ⟨b,o,none⟩:=by
 simp only[World.cell?,h]

theorem gS{w:World} {b o:Nat} {c:Array Value} {el:TypeId} {fr:Nat×Nat} (h:w.heap[b]?=some (.cells c el fr)):w.cell? ⟨b,o,none⟩=c[o]?:=by
 simp[World.cell?,h]

theorem IS{w:World} {b o:Nat} {c:Array Value} {el:TypeId} {fr:Nat×Nat} (h:w.heap[b]?=some (.cells c el fr)) (hf:px c fr) (ho:o<c.size):w.frozen? ⟨b,o,none⟩=false:=by
 have:=hf.2 o ho;obtain⟨lo,hi⟩:=fr;simp only[World.frozen?,h];simp only[Bool.and_eq_false_iff,decide_eq_false_iff_not];simp only at this;omega

theorem mE{w:World} {b:Nat} {o:Obj} (h:w.heap[b]?=some o):b<w.heap.size:=by
 rcases eg b w.heap.size with h'|h'
 . exact h'
 . simp[Array.getElem?_eq_none h'] at h

theorem dK.cF{E:Env} {st:St} {g:aw} {n:Nat} {w:World} {gi:Gh} {o:O} (h:dK E st g n w gi o) {b:Nat} (hb:gi.blk=some b):b<w.heap.size/\E.G b:=by
 cases o with
 |dead=>exact h b hb
 |cells cs=>
   obtain⟨b',c,el,fr,h1,h2,h3,_⟩:=h;rw[hb] at h1;cases h1;exact⟨mE h3,h2⟩
 |buf sz pre l=>
   obtain⟨_,_,_,_,_,_,h⟩:=h;rcases h with ⟨_,h⟩|⟨b',c,el,fr,h1,_,h2,h3,_⟩
   . rw[hb] at h;cases h
   . rw[hb] at h1;cases h1;exact⟨mE h3,h2⟩
 |siter s p=>
   obtain⟨_,b',h1,h2,h3⟩:=h;rw[hb] at h1;cases h1;exact⟨mE h3,h2⟩
 |map ag sh es bs ck=>
   obtain⟨b',arr,h1,h2,h3,_⟩:=h;rw[hb] at h1;cases h1;exact⟨mE h3,h2⟩
 |miter m bs ck l x=>
   obtain⟨b',_,_,h1,h2,h3,_⟩:=h;rw[hb] at h1;cases h1;exact⟨mE h3,h2⟩

theorem aO.cF{E:Env} {st:St} {g:aw} {sg:List O} {w:World} (h:aO E st g sg w) {i b:Nat} (hi:i<sg.length) (hb:(g i).blk=some b):b<w.heap.size/\E.G b:=
 (h.ob i _ (am hi)).cF hb

theorem dK.aX{E:Env} {st st':St} {g g':aw} {n n':Nat} {w w':World} {gi:Gh} {o:O} (h:dK E st g n w gi o)
   (hb:∀b,gi.blk=some b->w'.heap[b]?=w.heap[b]?)
   (hst:∀b o v,st b o=some v->st' b o=some v)
   (hnew:∀b,gi.blk=some b->∀o v,st' b o=some v->st b o=some v)
   (hn:∀i,o.has i=true->i<n->i<n'/\g' i=g i):dK E st' g' n' w' gi o:=by
 cases o with
 |dead=>
   intro b hb';obtain⟨h1,h2⟩:=h b hb';refine⟨?_,h2⟩;have h3:=hb b hb';rw[Array.getElem?_eq_getElem h1] at h3;exact mE h3
 |cells cs=>
   obtain⟨b,c,el,fr,h1,h2,h3,h4,h5,h6⟩:=h;refine⟨b,c,el,fr,h1,h2,by rw[hb b h1];exact h3,kE hst (fun i hi=>hn i (by simpa[O.has] using hi)) h4,h5,fun o=>?_⟩;cases hs:st' b o with
   |none=>rfl
   |some v=>have:=hnew b h1 o v hs;rw[h6 o] at this;cases this
 |buf sz pre l=>
   obtain⟨h1,h2,h3,h4,h5,h6,h7⟩:=h;refine⟨h1,h2,h3,h4,h5,h6,?_⟩;rcases h7 with h7|⟨b,c,el,fr,k1,k2,k3,k4,k5,k6,k7,k8⟩
   . exact .inl h7
   . exact .inr ⟨b,c,el,fr,k1,k2,k3,by rw[hb b k1];exact k4,k5,lq hst (fun _ _ hk=>hk) k6,k7,fun o v hv=>k8 o v (hnew b k1 o v hv)⟩
 |siter s p=>
   obtain⟨h1,b,h2,h3,h4⟩:=h;exact⟨h1,b,h2,h3,by rw[hb b h2];exact h4⟩
 |map ag sh es bs ck=>
   obtain⟨b,arr,h1,h2,h3,h4⟩:=h;exact⟨b,arr,h1,h2,by rw[hb b h1];exact h3,h4⟩
 |miter m bs ck l x=>
   obtain⟨b,b',seen,h1,h2,h3,h4,h5⟩:=h;exact⟨b,b',seen,h1,h2,by rw[hb b h1];exact h3,gw hst (fun i hi=>hn i (by simpa[O.has] using hi)) h4,h5⟩

theorem dK.kill{E:Env} {st:St} {g:aw} {n:Nat} {w:World} {gi:Gh} {o:O} {ks:List Nat} (h:dK E st g n w gi o):dK E st g n w gi (o.kill ks):=by
 cases o with
 |cells cs=>
   obtain⟨b,c,el,fr,h1,h2,h3,h4,h5,h6⟩:=h;exact⟨b,c,el,fr,h1,h2,h3,uQ h4,h5,h6⟩
 |miter m bs ck l x=>
   obtain⟨b,b',seen,h1,h2,h3,h4,h5⟩:=h;exact⟨b,b',seen,h1,h2,h3,xy h4,h5⟩
 |_=>exact h

theorem O.pI{ks:List Nat} {o:O} {i:Nat} (h:(o.kill ks).has i=true):aQ i ks=false/\o.has i=true:=by
 cases o with
 |cells cs=>exact pH (by simpa[O.kill,O.has] using h)
 |miter m bs ck l x=>exact VG.pI (by simpa[O.kill,O.has] using h)
 |_=>simp[O.kill,O.has] at h

structure dm(E:Env) (st st':St) (w w':World) (B:Nat->Prop):Prop where
 os:w'.os=w.os
 tape:w'.tape=w.tape
 output:w'.output=w.output
 size:w.heap.size<=w'.heap.size
 aX:∀b,b<w.heap.size->¬B b->w'.heap[b]?=w.heap[b]?
 own:∀b,B b->E.G b
 mono:∀b o v,st b o=some v->st' b o=some v
 newst:∀b o v,st' b o=some v->st b o=some v\/(E.G b/\w'.cell? ⟨b,o,none⟩=some v)
 oldst:∀b o v,B b->st b o=some v->w'.cell? ⟨b,o,none⟩=some v

theorem HA{w:World} {b o:Nat} {v:Value} (h:w.cell? ⟨b,o,none⟩=some v):b<w.heap.size:=by
 rcases eg b w.heap.size with h'|h'
 . exact h'
 . simp[World.cell?,Array.getElem?_eq_none h'] at h

theorem aO.step{E:Env} {st st':St} {g g':aw} {sg sg':List O} {w w':World} {B:Nat->Prop} (h:aO E st g sg w) (c:dm E st st' w w' B)
   (ob:∀i o,sg'[i]?=some o->dK E st' g' sg'.length w' (g' i) o)
   (inj:∀i j b,i<sg'.length->j<sg'.length->(g' i).blk=some b->(g' j).blk=some b->i=j):aO E st' g' sg' w' where
 os:=c.os.trans h.os
 tape:=c.tape.trans h.tape
 output:=c.output.trans h.output
 size:=Nat.le_trans h.size c.size
 gnew:=h.gnew
 sub:=fun b o v hv=>c.mono _ _ _ (h.sub _ _ _ hv)
 stG:=fun b o v hv=>by
  rcases c.newst _ _ _ hv with h1|h1
  . exact h.stG _ _ _ h1
  . exact .inr h1.1
 stw:=fun b o v hv=>by
  rcases c.newst _ _ _ hv with h1|h1
  . by_cases hB:B b
    . exact c.oldst _ _ _ hB h1
    . have h2:=h.stw _ _ _ h1;rw[qq (c.aX b (HA h2) hB)];exact h2
  . exact h1.2
 fr:=fun b hb=>by
  have hlt:b<E.w0.heap.size:=by
   rcases eg b E.w0.heap.size with h'|h'
   . exact h'
   . exact absurd (h.gnew b h') hb
  rw[c.aX b (Nat.lt_of_lt_of_le hlt h.size) (fun hB=>hb (c.own b hB))];exact h.fr b hb
 ob:=ob
 inj:=inj

def br(g:aw) (i:Nat) (x:Gh):aw:=fun j=>if j=i then x else g j
@[simp] theorem dP(g:aw) (i:Nat) (x:Gh):br g i x i=x:=by simp[br]
theorem cI{g:aw} {i j:Nat} {x:Gh} (h:j≠i):br g i x j=g j:=by simp[br,h]

structure aY(w w':World):Prop where
 heap:w'.heap=w.heap
 os:w'.os=w.os
 tape:w'.tape=w.tape
 output:w'.output=w.output
theorem aY.refl(w:World):aY w w:=⟨rfl,rfl,rfl,rfl⟩

theorem dm.same{E:Env} {st:St} {w w':World} (h:aY w w'):dm E st st w w' (fun _=>False) where
 os:=h.os
 tape:=h.tape
 output:=h.output
 size:=by rw[h.heap];exact co _
 aX:=fun b _ _=>by rw[h.heap]
 own:=fun _ hb=>hb.elim
 mono:=fun _ _ _ hv=>hv
 newst:=fun _ _ _ hv=>.inl hv
 oldst:=fun _ _ _ hb=>hb.elim

theorem dK.same{E:Env} {st:St} {g:aw} {n:Nat} {w w':World} {gi:Gh} {o:O} (h:dK E st g n w gi o) (hw:aY w w'):dK E st g n w' gi o:=
 h.aX (fun b _=>by rw[hw.heap]) (fun _ _ _ hv=>hv) (fun _ _ _ _ hv=>hv) (fun _ _ hi=>⟨hi,rfl⟩)

theorem aO.same{E:Env} {st:St} {g:aw} {sg:List O} {w w':World} (h:aO E st g sg w) (hw:aY w w'):aO E st g sg w':=
 h.step (dm.same hw) (fun i o ho=>(h.ob i o ho).same hw) h.inj

theorem pJ{w:World} {o:Obj} {b:Nat} (h:b<w.heap.size):(w.alloc o).heap[b]?=w.heap[b]?:=by
 simp only[World.alloc,Array.getElem?_push];rw[if_neg (by omega)]
theorem heap_alloc_new{w:World} {o:Obj}:(w.alloc o).heap[w.heap.size]?=some o:=by
 show(w.heap.push o)[w.heap.size]?=some o;simp

theorem dm.alloc{E:Env} {st:St} {w:World} (o:Obj):dm E st st w (w.alloc o) (fun _=>False) where
 os:=rfl
 tape:=rfl
 output:=rfl
 size:=by simp
 aX:=fun b hb _=>pJ hb
 own:=fun _ hb=>hb.elim
 mono:=fun _ _ _ hv=>hv
 newst:=fun _ _ _ hv=>.inl hv
 oldst:=fun _ _ _ hb=>hb.elim

def kF(st:St) (b:Nat) (c:Array Value) (k:Nat):St:=fun b' o=>if b'=b then(if o<k then c[o]? else none) else st b' o

theorem aO.ml{E:Env} {st:St} {g:aw} {sg:List O} {w:World} (h:aO E st g sg w) (o:Nat):st w.heap.size o=none:=by
 cases hs:st w.heap.size o with
 |none=>rfl
 |some v=>exact absurd (HA (h.stw _ _ _ hs)) (Nat.lt_irrefl _)

theorem p8{st:St} {b:Nat} {c:Array Value} {k:Nat} (h:∀o,st b o=none):∀b' o v,st b' o=some v->kF st b c k b' o=some v:=by
 intro b' o v hv;by_cases hb:b'=b
 . subst hb;rw[h o] at hv;cases hv
 . simp[kF,hb,hv]

theorem dm.kF{E:Env} {st:St} {g:aw} {sg:List O} {w:World} (h:aO E st g sg w) (c:Array Value) (el:TypeId) (fr:Nat×Nat) (k:Nat):
   dm E st (kF st w.heap.size c k) w (w.alloc (.cells c el fr)) (fun _=>False) where
 os:=rfl
 tape:=rfl
 output:=rfl
 size:=by simp
 aX:=fun b hb _=>pJ hb
 own:=fun _ hb=>hb.elim
 mono:=p8 h.ml
 newst:=fun b o v hv=>by
  by_cases hb:b=w.heap.size
  . subst hb;simp only[VG.kF,if_true] at hv;split at hv
    . exact .inr ⟨h.gnew _ h.size,by rw[gS heap_alloc_new];exact hv⟩
    . cases hv
  . simp[VG.kF,hb] at hv;exact .inl hv
 oldst:=fun _ _ _ hb=>hb.elim

theorem aO.B6{E:Env} {st:St} {g:aw} {sg:List O} {w:World} (h:aO E st g sg w) (c:Array Value) (el:TypeId) (fr:Nat×Nat) (k:Nat):
   aO E (kF st w.heap.size c k) g sg (w.alloc (.cells c el fr)):=
 h.step (dm.kF h c el fr k) (fun i o ho=>(h.ob i o ho).aX
  (fun b hb=>pJ ((h.ob i o ho).cF hb).1) (p8 h.ml)
  (fun b hb o' v hv=>by
   have:=((h.ob i o ho).cF hb).1;simpa[kF,Nat.ne_of_lt this] using hv)
  (fun _ _ hi=>⟨hi,rfl⟩)) h.inj

theorem aO.O2{E:Env} {st:St} {g:aw} {sg:List O} {w:World} (h:aO E st g sg w) (ob:Obj) (gi:Gh) (o:O)
   (hb:∀b,gi.blk=some b->b=w.heap.size)
   (ho:dK E st (br g sg.length gi) (sg.length+1) (w.alloc ob) gi o):
   aO E st (br g sg.length gi) (sg++[o]) (w.alloc ob):=by
 refine h.step (dm.alloc ob) ?_ ?_
 . intro i o' hi;rw[an,gt];rcases Nat.lt_trichotomy i sg.length with hlt|heq|hgt
   . rw[d6 hlt] at hi;rw[cI (Nat.ne_of_lt hlt)];exact(h.ob i o' hi).aX (fun b hb=>pJ ((h.ob i o' hi).cF hb).1) (fun _ _ _ hv=>hv) (fun _ _ _ _ hv=>hv)
      (fun j _ hj=>⟨by omega,cI (Nat.ne_of_lt hj)⟩)
   . subst heq;rw[d7 (co _)] at hi;simp at hi;subst hi;rw[dP];exact ho
   . rw[dl (by simp;omega)] at hi;cases hi
 . intro i j b hi hj h1 h2;rw[an,gt] at hi hj;by_cases e1:i=sg.length<;>by_cases e2:j=sg.length
   . omega
   . subst e1;rw[dP] at h1;rw[cI e2] at h2;have:=(h.cF (by omega) h2).1;have:=hb b h1;omega
   . subst e2;rw[dP] at h2;rw[cI e1] at h1;have:=(h.cF (by omega) h1).1;have:=hb b h2;omega
   . rw[cI e1] at h1;rw[cI e2] at h2;exact h.inj i j b (by omega) (by omega) h1 h2

theorem aO.iM{E:Env} {st st':St} {g:aw} {sg:List O} {w w':World} (h:aO E st g sg w) (i:Nat) (hi:i<sg.length) (ks:List Nat) (gi:Gh) (o:O)
   (c:dm E st st' w w' (fun b=>(g i).blk=some b))
   (hks:gi=g i\/aQ i ks=true)
   (hblk:∀b,gi.blk=some b->(g i).blk=some b\/b=w.heap.size)
   (hnew:∀j b,j<sg.length->j≠i->(g j).blk=some b->∀o v,st' b o=some v->st b o=some v)
   (ho:dK E st' (br g i gi) sg.length w' gi o):
   aO E st' (br g i gi) ((sg.map (O.kill ks)).set i o) w':=by
 have hlen:((sg.map (O.kill ks)).set i o).length=sg.length:=by simp
 refine h.step c ?_ ?_
 . intro j o' hj;rw[hlen];by_cases e:j=i
   . subst e;rw[List.getElem?_set_self (by simpa using hi)] at hj;cases hj;rw[dP];exact ho
   . rw[List.getElem?_set_ne (Ne.symm e),List.getElem?_map] at hj;cases hs:sg[j]? with
     |none=>rw[hs] at hj;cases hj
     |some o₀=>
       rw[hs] at hj;cases hj;have hjl:j<sg.length:=by
        rcases eg j sg.length with h'|h'
        . exact h'
        . simp[dl h'] at hs
       rw[cI e];have h0:=h.ob j o₀ hs;refine(h0.kill (ks:=ks)).aX (fun b hb=>?_) c.mono (fun b hb=>hnew j b hjl e hb) (fun k hk hkn=>⟨hkn,?_⟩)
       . exact c.aX b (h0.cF hb).1 (fun hB=>e (h.inj j i b hjl hi hb hB))
       . by_cases ek:k=i
         . subst ek;rw[dP];rcases hks with hks|hks
           . exact hks
           . have:=(O.pI hk).1;rw[hks] at this;cases this
         . exact cI ek
 . intro j k b hj hk h1 h2;rw[hlen] at hj hk;by_cases e1:j=i<;>by_cases e2:k=i
   . omega
   . subst e1;rw[dP] at h1;rw[cI e2] at h2;rcases hblk b h1 with h3|h3
     . exact h.inj j k b hj hk h3 h2
     . have:=(h.cF hk h2).1;omega
   . subst e2;rw[dP] at h2;rw[cI e1] at h1;rcases hblk b h2 with h3|h3
     . exact h.inj j k b hj hk h1 h3
     . have:=(h.cF hj h1).1;omega
   . rw[cI e1] at h1;rw[cI e2] at h2;exact h.inj j k b hj hk h1 h2

def ga:List O->List O->Nat->Prop
 |_,[],_=>True
 |[],_::_,_=>False
 |_::os,.dead::ps,n=>ga os ps n
 |o::os,p::ps,n=>(o=p/\p.gX n=true)/\ga os ps n

theorem MN:∀{os ps:List O} {n i:Nat} {p:O},ga os ps n->ps[i]?=some p->∃o,os[i]?=some o/\(p=.dead\/(o=p/\p.gX n=true))
 |_,[],_,_,_,_,h=>by simp at h
 |[],_::_,_,_,_,h,_=>by simp[ga] at h
 |o::os,q::ps,n,i,p,h,hp=>by
   cases i with
   |zero=>
     simp at hp;subst hp;refine⟨o,rfl,?_⟩;cases q<;>first|exact .inl rfl|(simp only[ga] at h;exact .inr h.1)
   |succ i=>
     have h':ga os ps n:=by cases q<;>simp only[ga] at h<;>first|exact h|exact h.2
     obtain⟨o',h1,h2⟩:=MN h' (by simpa using hp);exact⟨o',by simpa using h1,h2⟩

theorem MO:∀{os ps:List O} {n:Nat},ga os ps n->ps.length<=os.length
 |_,[],_,_=>by simp
 |[],_::_,_,h=>by simp[ga] at h
 |o::os,q::ps,n,h=>by
   have h':ga os ps n:=by cases q<;>simp only[ga] at h<;>first|exact h|exact h.2
   have:=MO h';simp;omega

theorem XZ{n:Nat} {p:O} (h:p.gX n=true) {i:Nat} (hi:p.has i=true):i<n:=by
 cases p with
 |cells cs=>exact vH (by simpa[O.gX] using h) (by simpa[O.has] using hi)
 |miter m bs ck l x=>exact qX (by simpa[O.gX] using h) (by simpa[O.has] using hi)
 |_=>simp[O.has] at hi

theorem aO.rM{E:Env} {st:St} {g:aw} {sg ps:List O} {w:World} (h:aO E st g sg w) (hs:ga sg ps ps.length):aO E st g ps w:=by
 have hl:=MO hs;refine h.step (dm.same (aY.refl w)) (fun i p hp=>?_) (fun i j b hi hj=>h.inj i j b (by omega) (by omega));obtain⟨o,ho,hd⟩:=MN hs hp;have h0:=h.ob i o ho;rcases hd with rfl|⟨rfl,hsc⟩
 . intro b hb;exact h0.cF hb
 . exact h0.aX (fun _ _=>rfl) (fun _ _ _ hv=>hv) (fun _ _ _ _ hv=>hv) (fun k hk _=>⟨XZ hsc hk,rfl⟩)

end Go.VG
namespace Go.VG
open Go

structure AS where
 nt:Nat
 tm:List (Nat×V)
 sg:List O
 kl:List Nat

def lk:List (Nat×V)->Nat->V
 |[],_=>.undef
 |(k,x)::r,t=>cond (Nat.beq k t) x (lk r t)
def vX(ks:List Nat):List (Nat×V)->List (Nat×V)
 |[]=>[]
 |(k,x)::r=>(k,x.kill ks)::vX ks r
def yC(ks:List Nat):List O->List O
 |[]=>[]
 |o::os=>o.kill ks::yC ks os
def fZ:List O->Nat->O->List O
 |[],_,_=>[]
 |_::os,0,o=>o::os
 |p::os,i+1,o=>p::fZ os i o
def dk:List O->List (Nat×O)->List O
 |sg,[]=>sg
 |sg,(i,o)::r=>dk (fZ sg i o) r
def aH:List O->Nat->O
 |[],_=>.dead
 |o::_,0=>o
 |_::os,i+1=>aH os i
def m6:List V->Nat->Option V
 |[],_=>none
 |x::_,0=>some x
 |_::xs,i+1=>m6 xs i
def jv:List V->Nat->Option (List V)
 |_,0=>some []
 |[],_+1=>none
 |x::xs,n+1=>match jv xs n with
   |some r=>some (x::r)
   |none=>none
def kP:List V->Nat->List V
 |xs,0=>xs
 |[],_+1=>[]
 |_::xs,n+1=>kP xs n
def jr:List V->Nat->List V->Option (List V)
 |xs,_,[]=>some xs
 |[],_,_::_=>none
 |_::xs,0,y::ys=>match jr xs 0 ys with
   |some r=>some (y::r)
   |none=>none
 |x::xs,n+1,ys=>match jr xs n ys with
   |some r=>some (x::r)
   |none=>none

structure Ef where
 v:V
 ks:List Nat
 up:List (Nat×O)
 nw:List O
 rd:List Nat

def kg:List Nat->List (Nat×V)->List (Nat×V)
 |[],tm=>tm
 |k::ks,tm=>vX (k::ks) tm
def gY:List Nat->List O->List O
 |[],sg=>sg
 |k::ks,sg=>yC (k::ks) sg
def jC:List O->List O->List O
 |sg,[]=>sg
 |sg,o::os=>sg++(o::os)
def gP:List Nat->List Nat->List Nat
 |[],l=>l
 |k::ks,l=>cond (aQ k l) (gP ks l) (k::gP ks l)

def AS.app(s:AS) (d:Option Nat) (e:Ef):AS:=
 ⟨s.nt,match d with
  |some d=>(d,e.v)::kg e.ks s.tm
  |none=>kg e.ks s.tm,jC (dk (gY e.ks s.sg) e.up) e.nw,gP e.ks s.kl⟩

def dS(b:Bool) (A B:Prop):Prop:=match b with
 |true=>A
 |false=>B
def hJ{α:Type} (o:Option α) (K:α->Prop):Prop:=match o with
 |some a=>K a
 |none=>False
def lN(b:Bool) (A:Prop):Prop:=match b with
 |true=>A
 |false=>False

def Tr(α:Type):Type:=(α->Prop)->Prop
def ret{α:Type} (a:α):Tr α:=fun K=>K a
def fail{α:Type}:Tr α:=fun _=>False
def aR{α:Type} (A:Prop) (t:Tr α):Tr α:=fun K=>A/\t K
def bE{α:Type} (b:Bool) (t:Tr α):Tr α:=fun K=>lN b (t K)
def ey{α β:Type} (o:Option α) (f:α->Tr β):Tr β:=fun K=>hJ o fun a=>f a K
def mF{α:Type} (b:Bool) (t u:Tr α):Tr α:=fun K=>dS b (t K) (u K)
inductive iz {α:Type} (l:List α) (n:Nat) (K:α->Prop):Prop where
 |mk (a:α) (h:l[n]?=some a) (k:K a)
def pL{α β:Type} (l:List α) (n:Nat) (f:α->Tr β):Tr β:=fun K=>iz l n fun a=>f a K
theorem mL{α β:Type} (l:List α) (n:Nat) (f:α->Tr β):pL l n f=ey (l[n]?) f:=by
 funext K
 apply propext;constructor
 . rintro⟨a,h,k⟩;show hJ (l[n]?) _;rw[h];exact k
 . intro h;have h:hJ (l[n]?) fun a=>f a K:=h;cases hl:l[n]? with
   |none=>rw[hl] at h;exact h.elim
   |some a=>rw[hl] at h;exact⟨a,hl,h⟩
def fy{α β:Type} (t:Tr α) (f:α->Tr β):Tr β:=fun K=>t fun a=>f a K
def tc{α β:Type} (f:α->Tr β):Tr β:=fun K=>∃a,f a K

def force{α:Type} (x:V) (K:V->Tr α):Tr α:=match x with
 |.undef=>K .undef|.int k n=>K (.int k n)|.bool b=>K (.bool b)|.str a=>K (.str a)|.agg cs=>K (.agg cs)|.tuple vs=>K (.tuple vs)
 |.list c z l=>K (.list c z l)|.nilptr=>K .nilptr|.box cs o=>K (.box cs o)|.ptr i o=>K (.ptr i o)|.bptr i a o=>K (.bptr i a o)|.view i a o=>K (.view i a o)
 |.buf i=>K (.buf i)|.iface t v=>K (.iface t v)|.nilIface=>K .nilIface|.func f a b=>K (.func f a b)|.nilFunc=>K .nilFunc
 |.map i=>K (.map i)|.nilmap=>K .nilmap
@[simp] theorem force_eq{α:Type} (x:V) (K:V->Tr α):force x K=K x:=by cases x<;>rfl
def dh{α:Type} (n:Nat) (K:Nat->Tr α):Tr α:=match n with
 |0=>K 0|1=>K 1|2=>K 2|3=>K 3|4=>K 4|5=>K 5|6=>K 6|7=>K 7|8=>K 8|9=>K 9|10=>K 10|11=>K 11|12=>K 12
 |13=>K 13|14=>K 14|15=>K 15|16=>K 16|17=>K 17|18=>K 18|19=>K 19|20=>K 20|n=>K n
@[simp] theorem dN{α:Type} (n:Nat) (K:Nat->Tr α):dh n K=K n:=by unfold dh;split<;>rfl
mutual
def lX{α:Type} (x:V) (K:V->α):α:=match x with
 |.undef=>K .undef|.int k n=>K (.int k n)|.bool b=>K (.bool b)|.str a=>K (.str a)|.agg cs=>gV cs fun cs=>K (.agg cs)|.tuple vs=>gV vs fun vs=>K (.tuple vs)
 |.list c z l=>K (.list c z l)|.nilptr=>K .nilptr|.box cs o=>K (.box cs o)|.ptr i o=>K (.ptr i o)|.bptr i a o=>K (.bptr i a o)|.view i a o=>K (.view i a o)
 |.buf i=>K (.buf i)|.iface t v=>lX v fun v=>K (.iface t v)|.nilIface=>K .nilIface|.func f a b=>gV a fun a=>gV b fun b=>K (.func f a b)|.nilFunc=>K .nilFunc
 |.map i=>K (.map i)|.nilmap=>K .nilmap
def gV{α:Type} (l:List V) (K:List V->α):α:=match l with
 |[]=>K []
 |x::xs=>lX x fun x=>gV xs fun xs=>K (x::xs)
end
mutual
theorem pA{α:Type}:∀(x:V) (K:V->α),lX x K=K x
 |.undef,_|.int ..,_|.bool _,_|.str _,_|.list ..,_|.nilptr,_|.box ..,_|.ptr ..,_|.bptr ..,_|.view ..,_|.buf _,_|.nilIface,_|.nilFunc,_|.map _,_|.nilmap,_=>by simp only[lX]
 |.agg cs,K|.tuple cs,K=>by simp only[lX];exact lY cs _
 |.iface t v,K=>by simp only[lX];exact pA v _
 |.func f a b,K=>by simp only[lX];rw[lY a];exact lY b _
theorem lY{α:Type}:∀(l:List V) (K:List V->α),gV l K=K l
 |[],_=>by simp only[gV]
 |x::xs,K=>by simp only[gV];rw[pA x];exact lY xs _
end
def pB{α:Type} (l:List V) (f:List V->Tr α):Tr α:=fun K=>gV l fun l=>f l K
@[simp] theorem tp{α:Type} (l:List V) (f:List V->Tr α):pB l f=f l:=by funext K;exact lY l _
def xX{α:Type} (o:O) (K:O->α):α:=match o with
 |.dead=>K .dead|.cells cs=>gV cs fun cs=>K (.cells cs)|.buf a b l=>K (.buf a b l)|.siter s p=>K (.siter s p)|.map a sh es bs ck=>K (.map a sh es bs ck)
 |.miter m bs ck l x=>lX m fun m=>K (.miter m bs ck l x)
@[simp] theorem IJ{α:Type} (o:O) (K:O->α):xX o K=K o:=by cases o<;>simp only[xX,lY,pA]
def kX{α:Type} (l:List O) (K:List O->α):α:=match l with
 |[]=>K []
 |x::xs=>xX x fun x=>kX xs fun xs=>K (x::xs)
@[simp] theorem tq{α:Type}:∀(l:List O) (K:List O->α),kX l K=K l
 |[],_=>by simp only[kX]
 |x::xs,K=>by simp only[kX];rw[IJ x];exact tq xs _
def ow(l:List (Nat×V)) (K:List (Nat×V)->Prop):Prop:=match l with
 |[]=>K []
 |(t,x)::xs=>lX x fun x=>ow xs fun xs=>K ((t,x)::xs)
@[simp] theorem RV:∀(l:List (Nat×V)) (K:List (Nat×V)->Prop),ow l K=K l
 |[],_=>by simp only[ow]
 |(t,x)::xs,K=>by simp only[ow];rw[pA x];exact RV xs _
def ke{α:Type} (l:List α) (K:List α->Prop):Prop:=match l with
 |[]=>K []
 |x::xs=>ke xs fun xs=>K (x::xs)
@[simp] theorem vD{α:Type}:∀(l:List α) (K:List α->Prop),ke l K=K l
 |[],_=>by simp only[ke]
 |x::xs,K=>by simp only[ke];exact vD xs _
def vE(l:List (Nat×O)) (K:List (Nat×O)->Prop):Prop:=match l with
 |[]=>K []
 |(t,x)::xs=>xX x fun x=>vE xs fun xs=>K ((t,x)::xs)
@[simp] theorem IK:∀(l:List (Nat×O)) (K:List (Nat×O)->Prop),vE l K=K l
 |[],_=>by simp only[vE]
 |(t,x)::xs,K=>by simp only[vE];rw[IJ x];exact IK xs _
def kc(e:Ef) (K:Ef->Prop):Prop:=match e with
 |⟨v,ks,up,nw,rd⟩=>lX v fun v=>ke ks fun ks=>vE up fun up=>kX nw fun nw=>ke rd fun rd=>K ⟨v,ks,up,nw,rd⟩
@[simp] theorem kW(e:Ef) (K:Ef->Prop):kc e K=K e:=by cases e;simp only[kc,pA,vD,IK,tq]

def fM(s:AS) (d:Option Nat) (e:Ef) (K:AS->Prop):Prop:=match s,d,e with
 |⟨nt,tm,sg,kl⟩,some d,⟨v,[],[],[],_⟩=>K ⟨nt,(d,v)::tm,sg,kl⟩
 |⟨nt,tm,sg,kl⟩,none,⟨_,[],[],[],_⟩=>K ⟨nt,tm,sg,kl⟩
 |⟨nt,tm,sg,kl⟩,some d,⟨v,[],up,nw,_⟩=>kX (jC (dk sg up) nw) fun sg=>K ⟨nt,(d,v)::tm,sg,kl⟩
 |⟨nt,tm,sg,kl⟩,none,⟨_,[],up,nw,_⟩=>kX (jC (dk sg up) nw) fun sg=>K ⟨nt,tm,sg,kl⟩
 |⟨nt,tm,sg,kl⟩,some d,⟨v,ks,up,nw,_⟩=>ow (kg ks tm) fun tm=>kX (jC (dk (gY ks sg) up) nw) fun sg=>ke (gP ks kl) fun kl=>K ⟨nt,(d,v)::tm,sg,kl⟩
 |⟨nt,tm,sg,kl⟩,none,⟨_,ks,up,nw,_⟩=>ow (kg ks tm) fun tm=>kX (jC (dk (gY ks sg) up) nw) fun sg=>ke (gP ks kl) fun kl=>K ⟨nt,tm,sg,kl⟩
@[simp] theorem gQ(s:AS) (d:Option Nat) (e:Ef) (K:AS->Prop):fM s d e K=K (s.app d e):=by
 obtain⟨nt,tm,sg,kl⟩:=s;obtain⟨v,ks,up,nw,rd⟩:=e;cases d<;>cases ks<;>cases up<;>cases nw<;>simp[fM,AS.app,kg,gY,gP,dk,jC]

inductive TK where
 |bool|int (k:IntKind)|string
 |slice (e:TypeId)|array (n:Nat) (e:TypeId)|ptr (e:TypeId)
 |struct (fs:List (Nat×TypeId))|iface|func|map (k e:TypeId)|other
structure TI where
 k:TK
 size:Nat
 bytes:Nat
 zero:V
 feq:List Sc

inductive gu where
 |tm (t sz:Nat)
 |cell (i off sz:Nat)
 |swap (i j:Nat)
 |nw
 |bL (i:Nat)
 |fbx (i:Nat)
 |res
structure Ctx where
 P:Program
 ti:TypeId->TI
 gl:Nat->Option (List V)
 Γ:FuncId->List V->List O->Option (Prop×V×Option (List O))
 mt:TypeId->String->FuncId->Prop
 hint:Nat->List gu
 lits:Nat->Bool
 yd:Nat->List V->List O->List Nat->Option (Prop×V×List O×List Nat):=fun _ _ _ _=>none
 pn:FuncId->List V->List O->Option (Prop×Prop×V×Option (List O)×V×Option (List O)):=fun _ _ _=>none
 pdr:Nat->Bool:=fun _=>false
 rsv:Nat->Option Nat:=fun _=>none
def Ctx.ko(C:Ctx):Ctx:={C with Γ:=fun f a s=>match C.pn f a s with
 |some (pre,c,u,r,_,_) =>some (pre/\c,u,r)
 |none=>none}
def Ctx.mf(C:Ctx):Ctx:={C with Γ:=fun f a s=>match C.pn f a s with
 |some (pre,c,_,_,x,r) =>some (pre/\¬c,x,r)
 |none=>none}
def me:V->Option Value
 |.iface t (.int k n) =>some (.iface t (.int k n))
 |_=>none

def TK.isAgg:TK->Bool
 |.struct _|.array _ _=>true
 |_=>false

def Ld(k:IntKind) (m:Nat):Bool:=match k with
 |.i8=>Nat.ble m 127|.i16=>Nat.ble m 32767|.i32=>Nat.ble m 2147483647|.i64=>Nat.ble m 9223372036854775807
 |.u8=>Nat.ble m 255|.u16=>Nat.ble m 65535|.u32=>Nat.ble m 4294967295|.u64=>Nat.ble m 18446744073709551615
def Lg(k:IntKind) (m:Nat):Bool:=match k with
 |.i8=>Nat.ble m 127|.i16=>Nat.ble m 32767|.i32=>Nat.ble m 2147483647|.i64=>Nat.ble m 9223372036854775807
 |_=>false
def yh(k:IntKind) (n:Int):Bool:=match n with
 |.ofNat m=>Ld k m
 |.negSucc m=>Lg k m

def z7:Value->V
 |.int k n=>cond (yh k n) (.int k n) .undef
 |.bool b=>.bool b
 |.string s=>cond (Nat.ble s.data.toList.length 1048576) (.str s.data.toList) .undef
 |.slice none 0 0=>.list true 0 []
 |.pointer none=>.nilptr
 |.nilIface=>.nilIface
 |.nilFunc=>.nilFunc
 |.map none=>.nilmap
 |_=>.undef
def D5:List Value->List V
 |[]=>[]
 |v::vs=>z7 v::D5 vs
def D4:Value->V
 |.agg cs=>.agg (D5 cs.toList)
 |v=>z7 v

def AS.ev(C:Ctx) (s:AS):Operand->V
 |.tmp t=>lk s.tm t
 |.const v=>D4 v
 |.global g=>match C.gl g with
   |some cs=>.box cs 0
   |none=>.undef
 |.func f=>.func (.func f) [] []
def AS.aG(C:Ctx) (s:AS):List Operand->List V
 |[]=>[]
 |x::xs=>s.ev C x::AS.aG C s xs

def bv(b:UInt8):V:=.int .u8 b.toNat
def bl:g8->List V
 |[]=>[]
 |b::s=>bv b::bl s

def pK(k:IntKind) (a b:Int):Int:=k.wrap (BitVec.ofInt k.bits a&&&BitVec.ofInt k.bits b).toNat
def kY(k:IntKind) (a b:Int):Int:=k.wrap (BitVec.ofInt k.bits a|||BitVec.ofInt k.bits b).toNat
def iXor(k:IntKind) (a b:Int):Int:=k.wrap (BitVec.ofInt k.bits a^^^BitVec.ofInt k.bits b).toNat
def Sj(k:IntKind) (a b:Int):Int:=k.wrap (BitVec.ofInt k.bits a&&&~~~BitVec.ofInt k.bits b).toNat
def lD(k:IntKind) (a b:Int):Int:=k.wrap (a*2^(min b.toNat k.bits))
def lE(k:IntKind) (a b:Int):Int:=a.fdiv (2^(min b.toNat k.bits))

def qB:V->V->Option Bool
 |.int k a,.int k' b=>cond (fV k k') (some (a==b)) none
 |.str a,.str b=>some (a==b)
 |.bool a,.bool b=>some (a==b)
 |_,_=>none
def eqs:List V->List V->Option Bool
 |[],[]=>some true
 |[x],[y]=>qB x y
 |x::xs,y::ys=>match qB x y,eqs xs ys with
   |some a,some b=>some (a&&b)
   |_,_=>none
 |_,_=>none

def BT:List Sc->List V->Bool
 |[],_=>false
 |k::ks,xs=>cQ (k::ks) xs
def om(C:Ctx) (op:BinOp) (t:TypeId) (x y:V):Tr V:=
 match x,y with
 |.int k a,.int k' b=>match op with
   |.shl=>aR (0<=b) (ret (.int k (lD k a b)))
   |.shr=>aR (0<=b) (ret (.int k (lE k a b)))
   |.add=>bE (fV k k') (ret (.int k (k.wrap (a+b))))
   |.sub=>bE (fV k k') (ret (.int k (k.wrap (a-b))))
   |.mul=>bE (fV k k') (ret (.int k (k.wrap (a*b))))
   |.quo=>bE (fV k k') (aR (b≠0) (ret (.int k (k.wrap (a.tdiv b)))))
   |.rem=>bE (fV k k') (aR (b≠0) (ret (.int k (a.tmod b))))
   |.and=>bE (fV k k') (ret (.int k (pK k a b)))
   |.or=>bE (fV k k') (ret (.int k (kY k a b)))
   |.xor=>bE (fV k k') (ret (.int k (iXor k a b)))
   |.andNot=>bE (fV k k') (ret (.int k (Sj k a b)))
   |.eql=>bE (fV k k') (ret (.bool (a==b)))
   |.neq=>bE (fV k k') (ret (.bool (a !=b)))
   |.lss=>bE (fV k k') (ret (.bool (decide (a<b))))
   |.leq=>bE (fV k k') (ret (.bool (decide (a<=b))))
   |.gtr=>bE (fV k k') (ret (.bool (decide (a>b))))
   |.geq=>bE (fV k k') (ret (.bool (decide (a>=b))))
 |.str a,.str b=>match op with
   |.add=>aR (a.length+b.length<=4294967296) (ret (.str (a++b)))
   |.eql=>ret (.bool (a==b))
   |.neq=>ret (.bool (!(a==b)))
   |.lss=>ret (.bool (Op.bytesLess a b))
   |.leq=>ret (.bool (Op.bytesLess a b||a==b))
   |.gtr=>ret (.bool (!(Op.bytesLess a b||a==b)))
   |.geq=>ret (.bool (!(Op.bytesLess a b)))
   |_=>fail
 |.bool a,.bool b=>match op,(C.ti t).k with
   |.eql,.bool=>ret (.bool (a==b))
   |.neq,.bool=>ret (.bool (!(a==b)))
   |_,_=>fail
 |.agg a,.agg b=>match (C.ti t).k with
   |.other|.map _ _=>fail
   |_=>bE (BT (C.ti t).feq a&&(BT (C.ti t).feq b&&Nat.beq a.length (C.ti t).size)) (ey (eqs a b) fun r=>match op with
     |.eql=>ret (.bool r)
     |.neq=>ret (.bool (!r))
     |_=>fail)
 |.nilptr,.nilptr=>match op,(C.ti t).k with
   |.eql,.ptr _=>ret (.bool true)
   |.neq,.ptr _=>ret (.bool false)
   |_,_=>fail
 |.ptr _ _,.nilptr|.nilptr,.ptr _ _|.bptr _ _ _,.nilptr|.nilptr,.bptr _ _ _|.box _ _,.nilptr|.nilptr,.box _ _=>match op,(C.ti t).k with
   |.eql,.ptr _=>ret (.bool false)
   |.neq,.ptr _=>ret (.bool true)
   |_,_=>fail
 |.iface _ _,.nilIface|.nilIface,.iface _ _=>match op,(C.ti t).k with
   |.eql,.iface=>ret (.bool false)
   |.neq,.iface=>ret (.bool true)
   |_,_=>fail
 |_,_=>fail

def vz(op:UnOp) (x:V):Tr V:=
 match op,x with
 |.neg,.int k n=>ret (.int k (k.wrap (0-n)))
 |.xor,.int k n=>ret (.int k (iXor k (if k.signed then-1 else k.max) n))
 |.not,.bool b=>ret (.bool (!b))
 |_,_=>fail

def kn(agg:Bool) (size:Nat) (cs:List V) (off:Nat):Tr V:=
 match agg with
 |true=>ey (jv (kP cs off) size) fun r=>ret (.agg r)
 |false=>ey (m6 cs off) ret

def elems(s:AS) (x:V):Tr (Nat×List V×List Nat):=
 match x with
 |.list _ sz l=>ret (sz,l,[])
 |.str b=>ret (1,bl b,[])
 |.buf i=>match aH s.sg i with
   |.buf sz _ l=>ret (sz,l,[i])
   |_=>fail
 |_=>fail

def ju(sz esz:Nat) (l:List V):Bool:=
 match Nat.beq sz esz with
 |true=>true
 |false=>match l with
   |[]=>true
   |_=>false
def V.one:V->Bool
 |.agg _|.tuple _|.undef=>false
 |_=>true
def ew:List V->Bool
 |[]=>true
 |c::cs=>c.one&&ew cs

def V.eX:V->Bool
 |.undef=>true
 |_=>false
mutual
def V.pure:V->Bool
 |.undef|.ptr _ _|.bptr _ _ _|.view _ _ _|.buf _|.map _=>false
 |.agg cs|.tuple cs=>V.fX cs
 |.iface _ x=>V.pure x
 |.func _ fs cs=>V.fX fs&&V.fX cs
 |_=>true
def V.fX:List V->Bool
 |[]=>true
 |c::cs=>V.pure c&&V.fX cs
end

def tY:List (Nat×V)->Nat->Nat->Option (List V)
 |[],_,_=>some []
 |(i,x)::r,k,sz=>match Nat.beq i k,Nat.beq x.cells.length sz,x.pure&&ew x.cells with
   |true,true,true=>match tY r (k+1) sz with
     |some l=>some (x::l)
     |none=>none
   |_,_,_=>none

def tf(place:Nat->Option (Nat×Nat)):List (Nat×V)->List V->Option (List V)
  |[],cs=>some cs
  |(i,x)::r,cs=>match place i with
    |none=>none
    |some (off,size) =>match Nat.beq x.cells.length size&&Nat.blt 0 size,x.eX with
      |true,false=>match jr cs off x.cells with
        |some cs'=>tf place r cs'
        |none=>none
      |_,_=>none
def nr:List (Nat×TypeId)->Nat->Option (Nat×TypeId)
 |[],_=>none
 |x::_,0=>some x
 |_::xs,i+1=>nr xs i
def placeOf(C:Ctx) (fs:List (Nat×TypeId)) (i:Nat):Option (Nat×Nat):=match nr fs i with
 |some (off,t) =>match (C.ti t).k with
   |.other=>none
   |_=>some (off,(C.ti t).size)
 |none=>none

def jI(C:Ctx) (s:AS):List (Nat×Operand)->List (Nat×V)
 |[]=>[]
 |(i,x)::r=>(i,s.ev C x)::jI C s r

def pe(v:V):Ef:=⟨v,[],[],[],[]⟩

def idxOf(i:Nat):List Nat->Nat->Option Nat
 |[],_=>none
 |k::ks,n=>cond (Nat.beq k i) (some n) (idxOf i ks (n+1))
mutual
def V.bZ(f:Nat->Option Nat):V->V
 |.ptr i o=>match f i with
   |some j=>.ptr j o
   |none=>.undef
 |.bptr i a o=>match f i with
   |some j=>.bptr j a o
   |none=>.undef
 |.view i a o=>match f i with
   |some j=>.view j a o
   |none=>.undef
 |.buf i=>match f i with
   |some j=>.buf j
   |none=>.undef
 |.map i=>match f i with
   |some j=>.map j
   |none=>.undef
 |.agg cs=>.agg (V.ku f cs)
 |.tuple cs=>.tuple (V.ku f cs)
 |.iface t x=>.iface t (V.bZ f x)
 |.func g fs cs=>.func g (V.ku f fs) (V.ku f cs)
 |.undef=>.undef|.int k n=>.int k n|.bool b=>.bool b|.str s=>.str s|.list c z l=>.list c z l
 |.nilptr=>.nilptr|.box cs o=>.box cs o|.nilIface=>.nilIface|.nilFunc=>.nilFunc|.nilmap=>.nilmap
def V.ku(f:Nat->Option Nat):List V->List V
 |[]=>[]
 |c::cs=>V.bZ f c::V.ku f cs
end
def O.bZ(f:Nat->Option Nat):O->O
 |.cells cs=>.cells (V.ku f cs)
 |.dead=>.dead|.buf a b l=>.buf a b l|.siter s p=>.siter s p|.map a sh es bs ck=>.map a sh es bs ck
 |.miter m bs ck l x=>.miter (m.bZ f) bs ck l x
mutual
def V.names:V->List Nat->List Nat
 |.ptr i _,acc|.bptr i _ _,acc|.view i _ _,acc|.buf i,acc|.map i,acc=>cond (aQ i acc) acc (acc++[i])
 |.agg cs,acc|.tuple cs,acc=>V.fK cs acc
 |.iface _ x,acc=>V.names x acc
 |.func _ fs cs,acc=>V.fK cs (V.fK fs acc)
 |_,acc=>acc
def V.fK:List V->List Nat->List Nat
 |[],acc=>acc
 |c::cs,acc=>V.fK cs (V.names c acc)
end
def O.names:O->List Nat->List Nat
 |.cells cs,acc=>V.fK cs acc
 |.miter m _ _ _ _,acc=>V.names m acc
 |_,acc=>acc
def reach(sg:List O):Nat->List Nat->List Nat->List Nat
 |0,_,acc=>acc
 |_+1,[],acc=>acc
 |fuel+1,i::todo,acc=>
   let acc':=(aH sg i).names acc
   reach sg fuel (todo++acc'.drop acc.length) acc'
def locals(sg:List O) (f:Nat->Option Nat):List Nat->List O
 |[]=>[]
 |i::is=>(aH sg i).bZ f::locals sg f is
def dE:List Nat->Nat->Nat->Nat->Option Nat
 |i::_,_,_,0=>some i
 |_::th,n,k,j+1=>dE th n k j
 |[],n,k,j=>cond (Nat.blt j k) (some (n+j)) none
def kH(sg:List O):List Nat->List Nat
 |[]=>[]
 |i::is=>match aH sg i with
   |.buf _ _ _=>i::kH sg is
   |_=>kH sg is
def lO(f:Nat->Option Nat):List Nat->List O->List (Nat×O)
 |i::is,o::os=>(i,o.bZ f)::lO f is os
 |_,_=>[]
def l5(f:Nat->Option Nat):List O->List O
 |[]=>[]
 |o::os=>o.bZ f::l5 f os

def fA:List O->Nat->List O
 |xs,0=>xs
 |[],_+1=>[]
 |_::xs,n+1=>fA xs n

def jK:List Nat->Bool
 |[]=>true
 |k::ks=>cond (aQ k ks) false (jK ks)
def jV(sg:List O):List Nat->Bool
 |[]=>true
 |i::is=>match aH sg i with
   |.dead=>false
   |_=>jV sg is
mutual
def V.within(th:List Nat):V->Bool
 |.ptr j _|.bptr j _ _|.view j _ _|.buf j|.map j=>aQ j th
 |.agg cs|.tuple cs=>V.qe th cs
 |.iface _ x=>V.within th x
 |.func _ fs cs=>V.qe th fs&&V.qe th cs
 |_=>true
def V.qe(th:List Nat):List V->Bool
 |[]=>true
 |c::cs=>V.within th c&&V.qe th cs
end
def jX(sg:List O) (th:List Nat):List Nat->Bool
 |[]=>true
 |i::is=>match aH sg i with
   |.cells cs=>V.qe th cs&&jX sg th is
   |.miter m _ _ _ _=>V.within th m&&jX sg th is
   |_=>jX sg th is

def qU{α:Type} (l:List Nat) (K:List Nat->α):α:=match l with
 |[]=>K []
 |x::xs=>qU xs fun xs=>K (x::xs)
theorem pC{α:Type}:∀(l:List Nat) (K:List Nat->α),qU l K=K l
 |[],_=>by simp only[qU]
 |x::xs,K=>by simp only[qU];exact pC xs _
def eZ:List O->Bool
 |[]=>false
 |.dead::[]=>true
 |_::os=>eZ os
def vr(C:Ctx) (sg:List O) (f:FuncId) (args:List V) (th:List Nat):Option (Prop×Ef):=
 cond (jK th&&jV sg th) (gV (V.ku (fun i=>idxOf i th 0) args) fun args'=>kX (locals sg (fun i=>idxOf i th 0) th) fun lo=>match C.Γ f args' lo with
  |none=>none
  |some (pre,v,none) =>cond (jX sg th th) (some (pre,⟨v.bZ (dE th 0 0),[],[],[],th⟩)) none
  |some (pre,v,some sg') =>
    some (pre,⟨v.bZ (dE th sg.length (fA sg' th.length).length),cond (eZ sg') [] (kH sg th),lO (dE th sg.length (fA sg' th.length).length) th sg',l5 (dE th sg.length (fA sg' th.length).length) (fA sg' th.length),th⟩)) none
def gU(C:Ctx) (sg:List O) (f:FuncId) (args:List V):Option (Prop×Ef):=
 qU (V.fK args []) fun a0=>qU (reach sg 256 a0 a0) fun th=>vr C sg f args th

def target(C:Ctx) (s:AS) (c:Call):Option (FuncId×List V):=
 match c.callee with
 |.value f=>match s.ev C f with
   |.func (.func g) first captured=>some (g,first++s.aG C c.args.toList++captured)
   |_=>none
 |_=>none

def pj(C:Ctx) (s:AS) (e:TypeId) (x:V) (ys:List V) (rd:List Nat):Tr Ef:=
 match x with
 |.list true sz0 l=>bE (ju sz0 (C.ti e).size l) (aR (l.length+ys.length<=4294967296) (aR (l=[]\/ys≠[])
  (dh s.sg.length fun i=>dh (C.ti e).size fun sz=>ret ⟨.buf i,[],[],[.buf sz 0 (l++ys)],rd⟩)))
 |.buf i=>match aH s.sg i with
   |.buf sz0 pre l=>bE (Nat.beq sz0 (C.ti e).size&&!aQ i rd) (aR (l.length+ys.length<=4294967296) (ret ⟨.buf i,[i],[(i,.buf sz0 pre (l++ys))],[],i::rd⟩))
   |_=>fail
 |_=>fail
def pk(C:Ctx) (s:AS) (e:TypeId) (sz:Nat) (x:V) (ys:List V) (rd:List Nat):Tr Ef:=
 match sz,x,ys with
 |0,.list true sz0 (a::l),[]=>bE (ju sz0 (C.ti e).size (a::l)) (aR (l.length<=4294967295) (dh (C.ti e).size fun sz=>ret ⟨.list true sz0 (a::l),[],[],[.buf sz 0 []],rd⟩))
 |_,x,ys=>pj C s e x ys rd

def fW{α β:Type} (o:Option α) (f:α->Tr β) (g:Tr β):Tr β:=fun K=>(∀a,o=some a->f a K)/\(o=none->g K)
def DI:Sc->Sc->Bool
 |.kB,.kB=>true
 |.kI k,.kI k'=>fV k k'
 |.kS,.kS=>true
 |_,_=>false
def uf:List Sc->List Sc->Bool
 |[],[]=>true
 |a::r,b::q=>DI a b&&uf r q
 |_,_=>false
def xF(a b:Bool):Bool:=cond a b (!b)
def yQ(C:Ctx) (t:TypeId):Option (Bool×List Sc):=match (C.ti t).k with
 |.map k e=>match (C.ti k).k,(C.ti e).k,(C.ti t).feq with
   |.other,_,_=>none
   |_,_,[]=>none
   |kk,.int .i64,sh=>match (C.ti e).zero with
     |.int .i64 (.ofNat 0) =>some (kk.isAgg,sh)
     |_=>none
   |_,_,_=>none
 |_=>none
def gI(C:Ctx) (s:AS) (t:TypeId) (m:V) (F:Nat->Bool->List Sc->List (V×Int)->List Nat->Nat->Tr Ef):Tr Ef:=
 ey (yQ C t) fun p=>match m with
   |.map i=>match aH s.sg i with
     |.map ag sh es bs ck=>bE (xF ag p.1&&uf sh p.2) (F i ag sh es bs ck)
     |_=>fail
   |_=>fail
def qK(C:Ctx) (s:AS) (t:TypeId):Tr Ef:=
 ey (yQ C t) fun p=>dh s.sg.length fun n=>ret ⟨.map n,[],[],[.map p.1 p.2 [] [] 0],[]⟩
def mI(C:Ctx) (s:AS) (t:TypeId) (m x:Operand) (ok:Bool):Tr Ef:=
 gI C s t (s.ev C m) fun i ag sh es _ _=>force (s.ev C x) fun x=>bE (kU ag sh x) (match ok with
  |true=>fW (bN es x) (fun r=>ret ⟨.tuple [.int .i64 r.2,.bool true],[],[],[],[i]⟩) (ret ⟨.tuple [.int .i64 0,.bool false],[],[],[],[i]⟩)
  |false=>ret ⟨.int .i64 (getM es x),[],[],[],[i]⟩)
def qM(C:Ctx) (s:AS) (t:TypeId) (m x y:Operand):Tr Ef:=
  gI C s t (s.ev C m) fun i ag sh es bs ck=>force (s.ev C x) fun x=>bE (kU ag sh x) (match s.ev C y with
   |.int .i64 q=>fW (bN es x) (fun r=>ret ⟨.undef,[],[(i,.map ag sh (iZ es r.1 q) bs ck)],[],[i]⟩)
    (ret ⟨.undef,[],[(i,.map ag sh (es++[(x,q)]) (bs++[ck]) (ck+1))],[],[i]⟩)
   |_=>fail)
def oq(C:Ctx) (s:AS) (t:TypeId) (m x:Operand):Tr Ef:=
 gI C s t (s.ev C m) fun i ag sh es bs ck=>force (s.ev C x) fun x=>bE (kU ag sh x) (aR (ck<=9223372036854775807)
  (fW (bN es x) (fun r=>ret ⟨.tuple [.int .i64 r.2,.int .i64 (bs.getD r.1 0:Nat)],[],[(i,.map ag sh es bs ck)],[],[i]⟩)
   (ret ⟨.tuple [.int .i64 0,.int .i64 ck],[],[(i,.map ag sh (es++[(x,0)]) (bs++[ck]) (ck+1))],[],[i]⟩)))
def qF(C:Ctx) (s:AS) (t:TypeId) (m b y:Operand):Tr Ef:=
 gI C s t (s.ev C m) fun i ag sh es bs ck=>match s.ev C b,s.ev C y with
  |.int .i64 b,.int .i64 q=>tc fun j=>aR (0<=b/\bs[j]?=some b.toNat) (ret ⟨.undef,[],[(i,.map ag sh (iZ es j q) bs ck)],[],[i]⟩)
  |_,_=>fail
def qE(C:Ctx) (s:AS) (t:TypeId) (m x:V):Tr Ef:=
 gI C s t m fun i ag sh es bs ck=>force x fun x=>bE (kU ag sh x)
  (fW (bN es x) (fun r=>ret ⟨.tuple [],[],[(i,.map ag sh (es.eraseIdx r.1) (bs.eraseIdx r.1) ck)],[],[i]⟩) (ret ⟨.tuple [],[],[(i,.map ag sh es bs ck)],[],[i]⟩))
def qJ(C:Ctx) (s:AS) (t:TypeId) (m:V):Tr Ef:=
 gI C s t m fun i _ _ _ bs ck=>dh s.sg.length fun n=>ret ⟨.ptr n 0,[],[],[.miter (.map i) bs ck (List.range bs.length) bs.length],[i]⟩
def keyV:V->V
 |.str s=>.str s
 |_=>.undef
def sV(C:Ctx) (s:AS) (x:Operand):Tr Ef:=
 match s.ev C x with
 |.ptr k 0=>match aH s.sg k with
   |.miter (.map i) bs ck _ last=>match aH s.sg i with
     |.map _ _ es bs' ck'=>aR (bs'=bs/\ck'=ck) (pL es last fun e=>ret ⟨.tuple [keyV e.1,.int .i64 e.2],[],[],[],[k,i]⟩)
     |_=>fail
   |_=>fail
 |_=>fail

def mH(C:Ctx) (s:AS) (b:Builtin) (ts:List TypeId) (args:List V):Tr Ef:=
  match b,ts,args with
  |.len,[t],[x]=>match (C.ti t).k with
    |.array n _=>bE (Nat.ble n 4294967296) (ret (pe (.int .i64 n)))
    |.string=>match x with
      |.str a=>ret (pe (.int .i64 a.length))
      |_=>fail
    |.slice _=>match x with
      |.list _ _ l=>ret (pe (.int .i64 l.length))
      |.buf i=>match aH s.sg i with
        |.buf _ _ l=>ret ⟨.int .i64 l.length,[],[],[],[i]⟩
        |_=>fail
      |_=>fail
    |_=>fail
  |.append,[t,t2],[x,y]=>match (C.ti t).k,(C.ti t2).k with
    |_,.int _=>fail
    |_,.other=>fail
    |.slice e,_=>match (C.ti e).k with
      |.other=>fail
      |_=>bE (Nat.ble (C.ti e).bytes 4096&&Nat.blt 0 (C.ti e).size&&!(C.ti e).zero.eX&&Nat.beq (C.ti e).zero.cells.length (C.ti e).size) (fy (elems s y) fun r=>match r with
        |(sz,ys,rd) =>bE (ju sz (C.ti e).size ys) (pk C s e sz x ys rd))
    |_,_=>fail
  |.copy,[t,_],[x,y]=>match (C.ti t).k,x with
    |.slice e,.buf i=>match (C.ti e).k with
      |.other=>fail
      |_=>match aH s.sg i with
        |.buf sz0 0 l=>fy (elems s y) fun r=>match r with
          |(sz,ys,rd) =>bE (ju sz sz0 ys&&Nat.beq sz0 (C.ti e).size&&!aQ i rd)
            (ret ⟨.int .i64 (min ys.length l.length:Nat),[],[(i,.buf sz0 0 (ys.take l.length++l.drop ys.length))],[],i::rd⟩)
        |_=>fail
    |.slice e,.view i off n=>match (C.ti e).k with
      |.other=>fail
      |_=>match aH s.sg i with
        |.cells cs=>fy (elems s y) fun r=>match r with
          |(sz,ys,rd) =>bE (ju sz 1 ys&&Nat.beq (C.ti e).size 1&&!aQ i rd&&ew ys) (ey (jr cs off (ys.take n)) fun cs'=>
            ret ⟨.int .i64 (min ys.length n:Nat),[],[(i,.cells cs')],[],i::rd⟩)
        |.buf sz0 0 l=>fy (elems s y) fun r=>match r with
          |(sz,ys,rd) =>bE (ju sz sz0 ys&&Nat.beq sz0 (C.ti e).size&&!aQ i rd) (tc fun k=>aR (off=k*sz0/\k+n=l.length)
            (ret ⟨.int .i64 (min ys.length n:Nat),[],[(i,.buf sz0 0 (l.take k++(ys.take n++l.drop (k+ys.length))))],[],i::rd⟩))
        |_=>fail
    |_,_=>fail
  |.delete,t::_,[m,x]=>qE C s t m x
  |.max,_,[.int k a,.int k' b]=>bE (fV k k') (ret (pe (.int k (if b>a then b else a))))
  |.min,_,[.int k a,.int k' b]=>bE (fV k k') (ret (pe (.int k (if b<a then b else a))))
  |_,_,_=>fail

def lA(C:Ctx) (s:AS) (src dst:TypeId) (x:V):Tr Ef:=
 match (C.ti src).k,(C.ti dst).k,x with
 |.other,_,_=>fail
 |_,.int k,.int _ n=>ret (pe (.int k (k.wrap n)))
 |.string,.string,.str a=>ret (pe (.str a))
 |.string,.slice e,.str a=>match (C.ti e).k with
   |.int .u8=>ret (pe (.list false 1 (bl a)))
   |_=>fail
 |.slice e,.string,x=>match (C.ti e).k,x with
   |_,.str _=>fail
   |.int .u8,_=>fy (elems s x) fun r=>match r with
     |(sz,l,rd) =>bE (ju sz 1 l) (tc fun a=>aR (l=bl a) (ret ⟨.str a,[],[],[],rd⟩))
   |_,_=>fail
 |_,_,_=>fail

def pq(C:Ctx) (s:AS) (a b:TypeId) (x:V):Tr Ef:=match x with
  |.buf i=>cond (Nat.beq a b) (match (C.ti a).k with
    |.slice e=>match (C.ti e).k with
      |.int .u8=>match aH s.sg i with
        |.buf sz pre (y::l) =>ret ⟨.buf i,[],[(i,.buf sz pre (y::l))],[],[i]⟩
        |_=>fail
      |_=>fail
    |_=>fail) (lA C s a b (.buf i))
  |x=>lA C s a b x

def kK(r:Option (Prop×Ef)):Tr Ef:=ey r fun p=>aR p.1 (fun K=>kc p.2 K)

def ka(C:Ctx) (s:AS) (len:Nat) (lo hi:Option Operand):Tr (Option Int×Option Int):=
 match lo,hi with
 |none,none=>ret (none,none)
 |some l,none=>match s.ev C l with
   |.int _ l=>aR (0<=l/\l<=len) (ret (some l,none))
   |_=>fail
 |none,some h=>match s.ev C h with
   |.int _ h=>aR (0<=h/\h<=len) (ret (none,some h))
   |_=>fail
 |some l,some h=>match s.ev C l,s.ev C h with
   |.int _ l,.int _ h=>aR (0<=l/\l<=h/\h<=len) (ret (some l,some h))
   |_,_=>fail
def sD{α:Type} (a:List α):Option Int×Option Int->List α
 |(none,none) =>a
 |(some l,none) =>a.drop l.toNat
 |(none,some h) =>a.take h.toNat
 |(some l,some h) =>(a.take h.toNat).drop l.toNat
def sy{α β:Type} (a:List α) (r:Option Int×Option Int) (K:List α->Tr β):Tr β:=match r with
 |(none,none) =>K a
 |(some l,none) =>K (a.drop l.toNat)
 |(none,some h) =>K (a.take h.toNat)
 |(some l,some h) =>K ((a.take h.toNat).drop l.toNat)
@[simp] theorem sC{α β:Type} (a:List α) (r:Option Int×Option Int) (K:List α->Tr β):sy a r K=K (sD a r):=by
 obtain⟨l,h⟩:=r;cases l<;>cases h<;>rfl

def vw(C:Ctx) (s:AS) (c a b:Operand):Tr Ef:=
 match s.ev C c with
 |.bool t=>force (s.ev C a) fun a=>force (s.ev C b) fun b=>match a,b with
   |.bool x,.bool y=>ret (pe (.bool (cond t x y)))
   |x,y=>mF t (ret (pe x)) (ret (pe y))
 |_=>fail

def nh(C:Ctx) (s:AS) (t:TypeId):Tr Ef:=
 match (C.ti t).k with
 |.other=>fail
 |_=>force (C.ti t).zero fun z=>dh s.sg.length fun n=>bE (!z.eX) (ret ⟨.ptr n 0,[],[],[.cells z.cells],[]⟩)

def ni(C:Ctx) (s:AS) (d:Option Nat) (t:TypeId):Tr Ef:=match d with
  |some d=>match C.rsv d with
    |some k=>match aH s.sg k with
      |.dead=>match (C.ti t).k with
        |.other=>fail
        |_=>force (C.ti t).zero fun z=>bE (Nat.blt k s.sg.length&&!z.eX&&V.fX z.cells) (ret ⟨.ptr k 0,[k],[(k,.cells z.cells)],[],[]⟩)
      |_=>fail
    |none=>nh C s t
  |none=>nh C s t

def sU(C:Ctx) (s:AS) (t:TypeId) (parts:Array (Nat×Operand)):Tr Ef:=
 match (C.ti t).k with
 |.struct fs=>bE (!(C.ti t).zero.eX) (ey (tf (placeOf C fs) (jI C s parts.toList) (C.ti t).zero.cells) fun cs=>ret (pe (.agg cs)))
 |.array _ e=>match (C.ti e).k with
   |.other=>fail
   |_=>bE (!(C.ti t).zero.eX) (ey (tf (fun i=>some (i*(C.ti e).size,(C.ti e).size)) (jI C s parts.toList) (C.ti t).zero.cells) fun cs=>ret (pe (.agg cs)))
 |_=>fail

def lz(C:Ctx) (s:AS) (t:TypeId) (len:Nat) (parts:Array (Nat×Operand)):Tr Ef:=
 match (C.ti t).k with
 |.slice e=>match (C.ti e).k with
   |.other=>fail
   |_=>bE (Nat.beq len parts.toList.length&&Nat.blt 0 (C.ti e).size&&Nat.ble (len*(C.ti e).size) 16777216)
     (ey (tY (jI C s parts.toList) 0 (C.ti e).size) fun l=>pB l fun l=>dh (C.ti e).size fun sz=>ret (pe (.list true sz l)))
 |_=>fail

def sX(C:Ctx) (s:AS) (t:TypeId) (len:Nat) (parts:Array (Nat×Operand)):Tr Ef:=
 fy (lz C s t len parts) fun e=>match e.v with
 |.list _ sz l=>dh s.sg.length fun n=>ret ⟨.buf n,[],[],[.buf sz 0 l],[]⟩
 |_=>fail
def oh(C:Ctx) (s:AS) (dst:Option Nat) (t:TypeId) (len:Nat) (parts:Array (Nat×Operand)):Tr Ef:=match dst with
 |some d=>cond (C.lits d) (sX C s t len parts) (lz C s t len parts)
 |none=>lz C s t len parts

def po(C:Ctx) (s:AS) (t:TypeId) (a:Operand):Tr Ef:=
 match (C.ti t).k with
 |.other=>fail
 |k=>match s.ev C a with
   |.box cs off=>fy (kn k.isAgg (C.ti t).size cs off) fun v=>force v fun v=>ret (pe v)
   |.ptr i off=>match aH s.sg i with
     |.cells cs=>fy (kn k.isAgg (C.ti t).size cs off) fun v=>force v fun v=>ret ⟨v,[],[],[],[i]⟩
     |_=>fail
   |.bptr i idx off=>match aH s.sg i with
     |.buf _ _ l=>pL l idx fun x=>bE (!x.eX) (fy (kn k.isAgg (C.ti t).size x.cells off) fun v=>force v fun v=>ret ⟨v,[],[],[],[i]⟩)
     |_=>fail
   |_=>fail

def qP(C:Ctx) (s:AS) (t:TypeId) (a x:Operand):Tr Ef:=
  match (C.ti t).k with
  |.other=>fail
  |_=>force (s.ev C x) fun x=>bE (Nat.beq x.cells.length (C.ti t).size&&!x.eX&&ew x.cells) (match s.ev C a with
    |.ptr i off=>match aH s.sg i with
      |.cells cs=>ey (jr cs off x.cells) fun cs'=>ret ⟨.undef,[],[(i,.cells cs')],[],[i]⟩
      |_=>fail
    |.bptr i idx off=>match aH s.sg i with
      |.buf sz pre l=>pL l idx fun y=>match y with
        |.agg cs=>bE x.pure (ey (jr cs off x.cells) fun cs'=>aR (pre<=idx) (ret ⟨.undef,[],[(i,.buf sz pre (l.set idx (.agg cs')))],[],[i]⟩))
        |_=>fail
      |_=>fail
    |_=>fail)

def qO(C:Ctx) (s:AS) (x:Operand):Tr Ef:=
 match s.ev C x with
 |.ptr i a=>ret (pe (.ptr i a))
 |.bptr i a b=>ret (pe (.bptr i a b))
 |.box cs a=>ret (pe (.box cs a))
 |.func (.func f) a b=>ret (pe (.func (.func f) a b))
 |.iface t v=>ret (pe (.iface t v))
 |_=>fail

def vv(C:Ctx) (s:AS) (t:TypeId) (x:Operand):Tr Ef:=
 match (C.ti t).k with
 |.other|.iface=>fail
 |_=>force (s.ev C x) fun x=>bE (!x.eX) (ret (pe (.iface t x)))

def qL(C:Ctx) (s:AS) (t:TypeId) (l c:Operand):Tr Ef:=
 match (C.ti t).k,s.ev C l,s.ev C c with
 |.slice e,.int _ n,.int _ m=>match (C.ti e).k with
   |.other=>fail
   |_=>bE (Nat.ble (C.ti e).bytes 4096&&Nat.blt 0 (C.ti e).size&&(C.ti e).zero.pure&&ew (C.ti e).zero.cells&&Nat.beq (C.ti e).zero.cells.length (C.ti e).size) (aR (0<=n/\n<=m/\m<=4294967296)
     (dh s.sg.length fun i=>dh (C.ti e).size fun sz=>force (C.ti e).zero fun z=>ret ⟨.buf i,[],[],[.buf sz 0 (List.replicate n.toNat z)],[]⟩))
 |_,_,_=>fail

def pr(C:Ctx) (s:AS) (t:TypeId) (x:Operand) (lo hi mx:Option Operand):Tr Ef:=
  match (C.ti t).k,s.ev C x,mx with
  |.string,.str a,none=>fy (ka C s a.length lo hi) fun r=>sy a r fun a=>ret (pe (.str a))
  |.slice e,.list _ sz a,none=>match (C.ti e).k with
    |.other=>fail
    |_=>bE (ju sz (C.ti e).size a) (fy (ka C s a.length lo hi) fun r=>sy a r fun a=>ret (pe (.list false sz a)))
  |.slice e,.buf i,none=>match (C.ti e).k with
    |.other=>fail
    |_=>match aH s.sg i,lo,hi with
      |.buf sz pre l,none,some h=>match s.ev C h with
        |.int _ h=>bE (Nat.beq sz (C.ti e).size) (aR ((pre:Int)<=h/\h<=l.length) (ret ⟨.buf i,[i],[(i,.buf sz pre (l.take h.toNat))],[],[i]⟩))
        |_=>fail
      |_,_,_=>fail
  |.slice e,.buf i,some m=>match (C.ti e).k with
    |.other=>fail
    |_=>match aH s.sg i,lo,hi with
      |.buf sz _ l,none,some h=>match s.ev C h,s.ev C m with
        |.int _ h,.int _ m=>bE (Nat.beq sz (C.ti e).size) (aR (h=l.length/\m=l.length) (ret ⟨.list true sz l,[],[(i,.buf sz l.length l)],[],[i]⟩))
        |_,_=>fail
      |_,_,_=>fail
  |.slice e,.list c sz l,some m=>match (C.ti e).k with
    |.other=>fail
    |_=>match lo,hi with
      |none,some h=>match s.ev C h,s.ev C m with
        |.int _ h,.int _ m=>bE (ju sz (C.ti e).size l) (aR (0<=h/\h=m/\m<=l.length) (ret (pe (.list c sz (l.take h.toNat)))))
        |_,_=>fail
      |_,_=>fail
  |.array m e,.ptr i a,none=>match (C.ti e).k with
    |.other=>fail
    |k=>match aH s.sg i with
      |.cells cs=>bE (Nat.beq (C.ti e).size 1&&!k.isAgg&&V.fX cs&&ew cs&&Nat.ble m 1048576) (ey (jv (kP cs a) m) fun l=>
       fy (ka C s m lo hi) fun r=>sy l r fun l=>ret ⟨.list false 1 l,[i],[(i,.dead)],[],[i]⟩)
      |_=>fail
  |.array m e,.box cs a,none=>match (C.ti e).k with
    |.other=>fail
    |k=>bE (Nat.beq (C.ti e).size 1&&!k.isAgg&&V.fX cs&&ew cs&&Nat.ble m 1048576) (ey (jv (kP cs a) m) fun l=>
     fy (ka C s m lo hi) fun r=>sy l r fun l=>ret (pe (.list false 1 l)))
  |_,_,_=>fail

def qH(C:Ctx) (s:AS) (t:TypeId) (x:Operand) (f:Nat):Tr Ef:=
 match (C.ti t).k with
 |.struct fs=>ey (nr fs f) fun ft=>match (C.ti ft.2).k with
   |.other=>fail
   |_=>bE (Nat.blt 0 (C.ti ft.2).size) (match s.ev C x with
     |.ptr i a=>dh (a+ft.1) fun a=>ret (pe (.ptr i a))
     |.bptr i j a=>dh (a+ft.1) fun a=>ret (pe (.bptr i j a))
     |.box cs a=>dh (a+ft.1) fun a=>ret (pe (.box cs a))
     |_=>fail)
 |_=>fail

def qG(C:Ctx) (s:AS) (t:TypeId) (x:Operand) (f:Nat):Tr Ef:=
 match (C.ti t).k,s.ev C x with
 |.struct fs,.agg cs=>ey (nr fs f) fun ft=>match (C.ti ft.2).k with
   |.other=>fail
   |k=>fy (kn k.isAgg (C.ti ft.2).size cs ft.1) fun v=>force v fun v=>ret (pe v)
 |_,_=>fail

def sW(C:Ctx) (s:AS) (t:TypeId) (x ix:Operand):Tr Ef:=
 match (C.ti t).k,s.ev C x,s.ev C ix with
 |.slice e,.list _ sz l,.int _ n=>match (C.ti e).k with
   |.other=>fail
   |_=>bE (Nat.beq sz (C.ti e).size) (aR (0<=n) (pL l n.toNat fun y=>bE (!y.eX) (ret (pe (.box y.cells 0)))))
 |.slice e,.buf i,.int _ n=>match (C.ti e).k with
   |.other=>fail
   |_=>match aH s.sg i with
     |.buf sz _ l=>bE (Nat.beq sz (C.ti e).size) (aR (0<=n/\n<l.length) (ret ⟨.bptr i n.toNat 0,[],[],[],[i]⟩))
     |_=>fail
 |.array m e,.ptr i a,.int _ n=>match (C.ti e).k with
   |.other=>fail
   |_=>aR (0<=n/\n<m) (dh (C.ti e).size fun sz=>ret (pe (.ptr i (a+n.toNat*sz))))
 |.array m e,.box cs a,.int _ n=>match (C.ti e).k with
   |.other=>fail
   |_=>aR (0<=n/\n<m) (dh (C.ti e).size fun sz=>ret (pe (.box cs (a+n.toNat*sz))))
 |_,_,_=>fail

def vu(C:Ctx) (s:AS) (t:TypeId) (x ix:Operand):Tr Ef:=
 match (C.ti t).k,s.ev C x,s.ev C ix with
 |.string,.str a,.int _ n=>aR (0<=n) (pL a n.toNat fun b=>ret (pe (.int .u8 b.toNat)))
 |.array m e,.agg cs,.int _ n=>match (C.ti e).k with
   |.other=>fail
   |k=>aR (0<=n/\n<m) (fy (kn k.isAgg (C.ti e).size cs (n.toNat*(C.ti e).size)) fun v=>force v fun v=>ret (pe v))
 |_,_,_=>fail

def vn(C:Ctx) (s:AS) (x:Operand) (t:TypeId) (ok:Bool):Tr Ef:=
 match (C.ti t).k,s.ev C x with
 |.other,_|.iface,_=>fail
 |_,.iface u v=>match Nat.beq u t,ok with
   |true,true=>ret (pe (.tuple [v,.bool true]))
   |true,false=>ret (pe v)
   |false,true=>force (C.ti t).zero fun z=>bE (!z.eX) (ret (pe (.tuple [z,.bool false])))
   |false,false=>fail
 |_,.nilIface=>match ok with
   |true=>force (C.ti t).zero fun z=>bE (!z.eX) (ret (pe (.tuple [z,.bool false])))
   |false=>fail
 |_,_=>fail

def vt(C:Ctx) (s:AS) (x:Operand) (i:Nat):Tr Ef:=
 match s.ev C x with
 |.tuple vs=>ey (m6 vs i) fun v=>force v fun v=>ret (pe v)
 |_=>fail

def qI(C:Ctx) (s:AS) (t:TypeId) (x:Operand):Tr Ef:=
 match (C.ti t).k,s.ev C x with
 |.string,.str a=>dh s.sg.length fun n=>ret ⟨.ptr n 0,[],[],[.siter a 0],[]⟩
 |.map _ _,m=>qJ C s t m
 |_,_=>fail

def sY(C:Ctx) (s:AS) (x:Operand) (str:Bool):Tr Ef:=
  match s.ev C x,str with
  |.ptr i 0,true=>match aH s.sg i with
    |.siter a pos=>mF (decide (pos<a.length)) (ey a[pos]? fun b=>aR (b.toNat<128) (ret ⟨.tuple [.bool true,.int .i64 pos,.int .i32 b.toNat],[],[(i,.siter a (pos+1))],[],[i]⟩))
     (ret ⟨.tuple [.bool false],[],[],[],[i]⟩)
    |_=>fail
  |_,_=>fail

def qD(C:Ctx) (s:AS) (c:Call):Tr Ef:=
 match c.callee with
 |.builtin b=>pB (s.aG C c.args.toList) fun xs=>mH C s b c.argTypes.toList xs
 |.value _=>ey (target C s c) fun p=>kK (gU C s.sg p.1 p.2)
 |.invoke r m=>match s.ev C r with
   |.iface t v=>tc fun f=>aR (C.mt t m f) (kK (gU C s.sg f (v::s.aG C c.args.toList)))
   |_=>fail

def Cm:V->Bool
 |.nilIface=>true
 |_=>false
def wi(x y:Operand) (u v:V):Bool:=match x,y with
 |.const .nilIface,_=>Cm v
 |_,.const .nilIface=>Cm u
 |_,_=>false
def qN(C:Ctx) (op:BinOp) (t:TypeId):Tr Ef:=match op,(C.ti t).k with
 |.eql,.iface=>ret (pe (.bool true))
 |.neq,.iface=>ret (pe (.bool false))
 |_,_=>fail
def yk(C:Ctx) (d:Option Nat):Bool:=match d with
 |some d=>match C.rsv d with
   |some _=>true
   |none=>false
 |none=>false
def pw(C:Ctx) (s:AS) (t:TypeId) (x:Operand) (lo hi mx:Option Operand):Tr Ef:=match (C.ti t).k,s.ev C x,hi,mx with
  |.array m e,.ptr i a,none,none=>match (C.ti e).k with
    |.other=>fail
    |_=>bE (Nat.beq (C.ti e).size 1&&Nat.blt 0 m) (match lo with
      |none=>ret (pe (.view i a m))
      |some l=>match s.ev C l with
        |.int _ l=>aR (0<=l/\l<m) (dh (a+l.toNat) fun o=>dh (m-l.toNat) fun n=>ret (pe (.view i o n)))
        |_=>fail)
  |.slice e,.buf i,none,none=>match (C.ti e).k with
    |.other=>fail
    |_=>match aH s.sg i with
      |.buf sz 0 xs=>match lo with
        |some l=>match s.ev C l with
          |.int _ l=>bE (Nat.beq sz (C.ti e).size) (aR (0<=l/\l<=xs.length/\xs≠[]) (ret ⟨.view i (l.toNat*sz) (xs.length-l.toNat),[],[],[],[i]⟩))
          |_=>fail
        |none=>fail
      |_=>fail
  |_,_,_,_=>fail
def tz:Nat->List V->Option (List V)
 |0,_=>some []
 |n+1,.int k m::l=>match tz n l with
   |some r=>some (.int k m::r)
   |none=>none
 |_,_=>none
def vm(C:Ctx) (s:AS) (t:TypeId) (x:Operand):Tr Ef:=match (C.ti t).k,s.ev C x with
 |.array n _,.list _ sz l=>bE (Nat.blt 0 n&&Nat.beq sz 1) (ey (tz n l) fun cs=>ret (pe (.box cs 0)))
 |_,_=>fail
def cJ(C:Ctx) (s:AS) (o:Oper):Tr Ef:=
 match o.op with
 |.move x|.assign x=>force (s.ev C x) fun x=>ret (pe x)
 |.pick c a b=>vw C s c a b
 |.alloc t=>ni C s o.dst t
 |.box _ x=>force (s.ev C x) fun x=>dh s.sg.length fun n=>bE (!x.eX) (ret ⟨.ptr n 0,[],[],[.cells x.cells],[]⟩)
 |.build t parts=>sU C s t parts
 |.buildSlice t len parts=>oh C s o.dst t len parts
 |.load t a=>po C s t a
 |.store t a x=>qP C s t a x
 |.nilCheck x=>qO C s x
 |.binOp op t x y _=>cond (wi x y (s.ev C x) (s.ev C y)) (qN C op t) (fy (om C op t (s.ev C x) (s.ev C y)) fun v=>ret (pe v))
 |.unOp op _ x=>fy (vz op (s.ev C x)) fun v=>ret (pe v)
 |.convert a b x=>pq C s a b (s.ev C x)
 |.makeInterface t x=>vv C s t x
 |.makeFunc fn a b=>pB (s.aG C a.toList) fun a=>pB (s.aG C b.toList) fun b=>ret (pe (.func fn a b))
 |.makeSlice t l c=>qL C s t l c
 |.slice t x lo hi mx=>cond (yk C o.dst) (pw C s t x lo hi mx) (pr C s t x lo hi mx)
 |.fieldAddr t x f=>qH C s t x f
 |.field t x f=>qG C s t x f
 |.indexAddr t x ix=>sW C s t x ix
 |.index t x ix=>vu C s t x ix
 |.typeAssert x _ t ok=>vn C s x t ok
 |.extract x i=>vt C s x i
 |.range t x=>qI C s t x
 |.next x b=>sY C s x b
 |.makeMap t none=>qK C s t
 |.lookup t m x ok=>mI C s t m x ok
 |.mapUpdate t m x y=>qM C s t m x y
 |.mapEntry t m x=>oq C s t m x
 |.entryStore t m b y=>qF C s t m b y
 |.entry x=>sV C s x
 |.sliceToArrayPointer t x=>vm C s t x
 |.call c=>qD C s c
 |_=>fail

end Go.VG
set_option linter.unusedSimpArgs false
set_option linter.unusedVariables false
namespace Go.VG
open Go

inductive Ex where
 |norm|exit (id:Nat)|ret|goto (l:Nat)|pan (v:Value)
def mW(f:AS->Prop) (K:Ex->AS->Prop) (e:Ex) (s:AS):Prop:=match e with
 |.norm=>f s
 |e=>K e s

def AS.put(s:AS) (d:Option Nat) (v:V):AS:=⟨s.nt,match d with
 |some d=>(d,v)::s.tm
 |none=>s.tm,s.sg,s.kl⟩

def AS.back(s:AS) (d:Option Nat) (x:V) (sg:List O) (ks:List Nat):AS:=
 ⟨s.nt,match d with
  |some d=>(d,x)::kg ks s.tm
  |none=>kg ks s.tm,sg,gP ks s.kl⟩

def od(s:AS) (d:Option Nat) (x:V) (sg:List O) (ks:List Nat) (K:AS->Prop):Prop:=match s,d with
 |⟨nt,tm,_,kl⟩,some d=>lX x fun x=>ow (kg ks tm) fun tm=>kX sg fun sg=>ke (gP ks kl) fun kl=>K ⟨nt,(d,x)::tm,sg,kl⟩
 |⟨nt,tm,_,kl⟩,none=>ow (kg ks tm) fun tm=>kX sg fun sg=>ke (gP ks kl) fun kl=>K ⟨nt,tm,sg,kl⟩
@[simp] theorem O8(s:AS) (d:Option Nat) (x:V) (sg:List O) (ks:List Nat) (K:AS->Prop):od s d x sg ks K=K (s.back d x sg ks):=by
 obtain⟨nt,tm,sg',kl⟩:=s;cases d<;>simp[od,AS.back,pA]

def dU(s:AS):Option Nat->Bool
 |some d=>Nat.blt d s.nt
 |none=>true

def cN:List Oper->Nat->Option Nat
 |[],_=>none
 |o::_,0=>o.dst
 |_::os,j+1=>cN os j

def mz(P:Program) (f:FuncId):Prop:=∃fn,P.funcs[f]?=some fn/\(fn.name== "runtime.NumGoroutine") =false/\fn.body.isNone=false

def aV(gl:Nat->Option (List V)) (st:St):Prop:=∀b cs,gl b=some cs->∀g:aw,∃vs,aE st g cs 0 vs/\∀j,j<vs.length->st b j=vs[j]?

structure jS(E:Env) (st:St) (g:aw) (n:Nat) (st':St) (g':aw) (n':Nat) (ks:List Nat):Prop where
 mono:∀b o v,st b o=some v->st' b o=some v
 aX:∀i,i<n->aQ i ks=false->g' i=g i
 len:n<=n'

def GW(C:Ctx) (f:FuncId) (args:List V) (sg:List O) (K:V->List O->List Nat->Prop):Prop:=
 mz C.P f/\∀(E:Env) (st:St) (g:aw) (w:World) (vs:List Value),aO E st g sg w->aV C.gl st->aE st g args sg.length vs->
  Calls C.P f vs.toArray w fun e w'=>∃v x sg' ks st' g',e=.returned v/\aO E st' g' sg' w'/\VR st' g' x sg'.length v/\jS E st g sg.length st' g' sg'.length ks/\K x sg' ks

def yieldOf(C:Ctx) (s:AS) (c:Call):Option (Nat×List V):=
 match c.callee with
 |.value x=>match s.ev C x with
   |.func (.yield l) [] []=>some (l,s.aG C c.args.toList)
   |_=>none
 |_=>none
def yW(C:Ctx) (s:AS) (x:Operand) (d:Option Nat) (K:Ef->AS->Prop):Prop:=match s.ev C x with
 |.ptr k 0=>match aH s.sg k with
   |.miter (.map i) bs ck left _=>match aH s.sg i with
     |.map _ _ _ bs' ck'=>(bs'=bs/\ck'=ck)/\(left=[]->fM s d ⟨.tuple [.bool false],[],[],[],[k,i]⟩ fun s'=>K ⟨.tuple [.bool false],[],[],[],[k,i]⟩ s')/\
      (∀j,j∈left->fM s d ⟨.tuple [.bool true,.undef,.undef],[],[(k,.miter (.map i) bs ck (left.erase j) j)],[],[k,i]⟩ fun s'=>K ⟨.tuple [.bool true,.undef,.undef],[],[(k,.miter (.map i) bs ck (left.erase j) j)],[],[k,i]⟩ s')
     |_=>False
   |_=>False
 |_=>False
def ry(s:AS) (e:Ef) (X:Value->AS->Prop):Prop:=kc e fun e=>hJ (me e.v) fun u=>fM s none ⟨.undef,e.ks,e.up,e.nw,e.rd⟩ (X u)
def Iq(C:Ctx) (ops:List Oper) (o:Oper) (s:AS) (R:Ex->AS->Prop):Prop:=
 lN (dU s o.dst) (match o.guard with
 |none=>go s
 |some (j,want) =>match cN ops j with
   |none=>False
   |some t=>match lk s.tm t with
     |.bool b=>dS b (cond want (run' (.bool true) t) (skip (.bool true) t)) (cond want (skip (.bool false) t) (run' (.bool false) t))
     |.tuple []=>skip (.tuple []) t
     |_=>False)
where
 go (s : AS) : Prop := match o.op with
   | .call c => match target C s c with
     | some (f, args) => match gU C s.sg f args with
       | some (pre, e) => pre /\ kc e fun e => fM s o.dst e (R .norm)
       | none => match gU C.ko s.sg f args, gU C.mf s.sg f args with
         | some (p, e1), some (q, e2) => (p \/ q) /\ (p -> ry s e1 fun u => R (.pan u)) /\ (q -> kc e2 fun e => fM s o.dst e (R .norm))
         | _, _ => GW C f args s.sg fun x sg ks => od s o.dst x sg ks (R .norm)
     | none => match yieldOf C s c with
       | some (l, args) => match C.yd l args s.sg s.kl with
         | some (pre, x, sg', ks) => pre /\ od s o.dst x sg' ks (R .norm)
         | none => False
       | none => cJ C s o fun e => fM s o.dst e (R .norm)
   | .next x false => yW C s x o.dst fun _ s' => R .norm s'
   | .panic x => hJ (me (s.ev C x)) fun u => R (.pan u) s
   | _ => cJ C s o fun e => fM s o.dst e (R .norm)
 run' (b : V) (t : Nat) : Prop := fM s (some t) (pe b) go
 skip (b : V) (t : Nat) : Prop := fM s (some t) (pe b) fun s => fM s o.dst (pe (.tuple [])) (R .norm)

def yN(C:Ctx) (ops:List Oper) (o:Oper) (rest:List Oper):Option (Nat×Nat):=match o.op,o.dst,rest with
  |.buildSlice t _ _,some d,o2::_=>match o2.op,o2.dst,(C.ti t).k with
    |.convert a b (.tmp d'),some d2,.slice e=>match (C.ti e).k with
      |.int .u8=>cond (Nat.beq a t&&Nat.beq b t&&Nat.beq d d'&&!C.lits d) (match o.guard,o2.guard with
        |none,none=>some (d,d2)
        |some (j,x),some (j',x') =>match cN ops j with
          |some u=>cond (Nat.beq j j'&&Bool.and (x==x') (!Nat.beq u d)) (some (d,d2)) none
          |none=>none
        |_,_=>none) none
      |_=>none
    |_,_,_=>none
  |_,_,_=>none
def jE(s:AS) (p:Option (Nat×Nat)) (K:Bool->AS->Prop):Prop:=match p with
 |none=>K false s
 |some (d,d2) =>lN (Nat.blt d2 s.nt) (lX (lk s.tm d) fun x=>K true (s.put (some d2) x))

def gD(C:Ctx) (ops:List Oper):Bool->List Oper->AS->(Ex->AS->Prop)->Prop
 |_,[],s,K=>K .norm s
 |true,_::rest,s,K=>gD C ops false rest s K
 |false,o::rest,s,K=>Iq C ops o s (mW (fun s'=>jE s' (yN C ops o rest) fun b s''=>gD C ops b rest s'' K) K)

def iD(C:Ctx) (ops:List Oper) (o:Oper) (s:AS) (K:Ef->AS->Prop) (U:AS->V->List O->List Nat->Prop) (X:Value->AS->Prop):Prop:=
 lN (dU s o.dst) (match o.guard with
 |none=>run
 |some (j,want) =>match cN ops j with
   |none=>False
   |some t=>match lk s.tm t with
     |.bool b=>dS b (cond want (run' (.bool true) t) (skip (.bool true) t)) (cond want (skip (.bool false) t) (run' (.bool false) t))
     |.tuple []=>skip (.tuple []) t
     |_=>False)
where
 go (s : AS) : Prop := match o.op with
   | .call c => match target C s c with
     | some (f, args) => match gU C s.sg f args with
       | some (pre, e) => pre /\ kc e fun e => fM s o.dst e fun s' => K e s'
       | none => match gU C.ko s.sg f args, gU C.mf s.sg f args with
         | some (p, e1), some (q, e2) => (p \/ q) /\ (p -> ry s e1 X) /\ (q -> kc e2 fun e => fM s o.dst e fun s' => K e s')
         | _, _ => GW C f args s.sg (U s)
     | none => match yieldOf C s c with
       | some (l, args) => match C.yd l args s.sg s.kl with
         | some (pre, x, sg', ks) => pre /\ U s x sg' ks
         | none => False
       | none => cJ C s o fun e => fM s o.dst e fun s' => K e s'
   | .next x false => yW C s x o.dst K
   | .panic x => hJ (me (s.ev C x)) fun u => X u s
   | _ => cJ C s o fun e => fM s o.dst e fun s' => K e s'
 run : Prop := go s
 run' (b : V) (t : Nat) : Prop := fM s (some t) (pe b) fun s => go s
 skip (b : V) (t : Nat) : Prop := fM s (some t) (pe b) fun s => fM s o.dst (pe (.tuple [])) fun s' => K (pe (.tuple [])) s'

theorem Pf(C:Ctx) (ops:List Oper) (o:Oper) (s:AS) (f:AS->Prop) (K:Ex->AS->Prop):Iq C ops o s (mW f K) =iD C ops o s (fun _ s'=>f s') (fun s x sg ks=>od s o.dst x sg ks f) (fun u s'=>K (.pan u) s'):=rfl

def nG:Option Operand->List Operand
 |some x=>[x]
 |none=>[]
def wv:List (Nat×Operand)->List Operand
 |[]=>[]
 |(_,x)::r=>x::wv r
def jR:Op->List Operand
 |.move x|.assign x|.box _ x|.load _ x|.nilCheck x|.unOp _ _ x|.convert _ _ x|.makeInterface _ x|.fieldAddr _ x _|.field _ x _|.range _ x|.next x _|.typeAssert x _ _ _|.extract x _|.sliceToArrayPointer _ x=>[x]
 |.pick c a b=>[c,a,b]
 |.makeMap _ r=>nG r
 |.lookup _ a b _|.mapEntry _ a b=>[a,b]
 |.mapUpdate _ a b c|.entryStore _ a b c=>[a,b,c]
 |.entry x=>[x]
 |.build _ ps|.buildSlice _ _ ps=>wv ps.toList
 |.store _ a v|.binOp _ _ a v _|.makeSlice _ a v|.indexAddr _ a v|.index _ a v=>[a,v]
 |.makeFunc _ a b=>a.toList++b.toList
 |.slice _ x lo hi mx=>x::(nG lo++(nG hi++nG mx))
 |.call c=>match c.callee with
   |.value f=>f::c.args.toList
   |.invoke r _=>r::c.args.toList
   |.builtin _=>c.args.toList
 |_=>[]
def tmpsOf:List Operand->List Nat
 |[]=>[]
 |.tmp t::r=>t::tmpsOf r
 |_::r=>tmpsOf r
def tw(ops:List Oper):Option (Nat×Bool)->List Nat
 |none=>[]
 |some (j,_) =>match cN ops j with
   |some t=>[t]
   |none=>[]
def looks(ops:List Oper) (o:Oper):List Nat:=tmpsOf (jR o.op)++tw ops o.guard

mutual
def V.free(ks:List Nat):V->Bool
 |.ptr j _|.bptr j _ _|.view j _ _|.buf j|.map j=>!aQ j ks
 |.agg cs|.tuple cs=>V.nq ks cs
 |.iface _ x=>V.free ks x
 |.func _ fs cs=>V.nq ks fs&&V.nq ks cs
 |_=>true
def V.nq(ks:List Nat):List V->Bool
 |[]=>true
 |c::cs=>V.free ks c&&V.nq ks cs
end
mutual
def V.oN:V->Bool
 |.undef=>false
 |.agg cs|.tuple cs=>V.nP cs
 |.iface _ x=>V.oN x
 |.func _ fs cs=>V.nP fs&&V.nP cs
 |_=>true
def V.nP:List V->Bool
 |[]=>true
 |c::cs=>V.oN c&&V.nP cs
end
def pD(ks:List Nat):List O->Bool
 |[]=>true
 |.cells cs::os=>V.nq ks cs&&pD ks os
 |.miter m _ _ _ _::os=>V.free ks m&&pD ks os
 |_::os=>pD ks os
def qa:List O->Bool
 |[]=>true
 |.cells cs::os=>V.nP cs&&qa os
 |.miter m _ _ _ _::os=>V.oN m&&qa os
 |.dead::_=>false
 |_::os=>qa os
def m9(sg:List O):List Nat->List O
 |[]=>[]
 |i::is=>aH sg i::m9 sg is

structure Rc where
 d:Option Nat
 us:List Nat
 anc:List Nat
 e:Ef
 n:Nat
 ov:List V
 oo:List O
 lu:Nat×List Nat

def quiet(e:Ef):Bool:=match e with
 |⟨_,[],[],[],_⟩=>true
 |_=>false
def ve(d:Option Nat) (us:List Nat):Bool:=match d with
 |some d=>!aQ d us
 |none=>true
def I0:Option Nat->Option Nat->Bool
 |some a,some b=>!Nat.beq a b
 |_,_=>true
def uV:List (Nat×O)->List Nat->Bool
 |[],_=>true
 |(i,_)::r,rd=>!aQ i rd&&uV r rd
def uU:List Nat->Nat->Bool
 |[],_=>true
 |i::is,n=>Nat.blt i n&&uU is n
def lG(o:Oper):Nat×List Nat:=match o.guard,o.op with
 |none,.lookup t (.tmp m) (.tmp x) false=>(1,[t,m,x])
 |none,.mapEntry t (.tmp m) (.tmp x) =>(2,[t,m,x])
 |none,.alloc _=>(3,[])
 |_,_=>(0,[])
def xT:List Nat->List Nat->Bool
 |[],[]=>true
 |a::r,b::q=>Nat.beq a b&&xT r q
 |_,_=>false
def wu(j i:Rc):Bool:=Nat.beq j.lu.1 1&&(Nat.beq i.lu.1 2&&xT j.lu.2 i.lu.2)
def Ge(j i:Rc):Bool:=match j.e,i.e with
 |⟨_,[a],_,[],_⟩,⟨_,[b],_,[],_⟩=>Nat.beq j.lu.1 3&&Nat.beq i.lu.1 3&&!Nat.beq a b
 |_,_=>false
def indep(j i:Rc):Bool:=
 ve j.d i.us&&ve i.d j.us&&I0 i.d j.d&&(wu j i||
 match quiet j.e,quiet i.e with
  |true,true=>true
  |true,false=>V.nq i.e.ks j.ov&&pD i.e.ks j.oo&&V.free i.e.ks j.e.v&&uV i.e.up j.e.rd&&uU j.e.rd i.n
  |false,true=>V.nP i.ov&&qa i.oo&&V.free j.e.ks i.e.v&&uV j.e.up i.e.rd&&uU i.e.rd j.n
  |false,false=>Ge j i)
def r7(i:Rc):List Rc->Nat->Bool
 |[],_=>true
 |j::js,k=>(aQ k i.anc||indep j i)&&r7 i js (k+1)

def fP:Ground->Bool
 |.textOnly _|.gcOnly _=>false
 |_=>true
def p9:List Rc->Nat->List Nat
 |[],_=>[]
 |r::_,0=>r.anc
 |_::rs,j+1=>p9 rs j
def sj(bC:List Rc):List Edge->List Nat->List Nat
 |[],acc=>acc
 |⟨on,gr⟩::es,acc=>cond (fP gr) (qU (gP (on::p9 bC on) acc) fun acc=>sj bC es acc) (sj bC es acc)
def oe(i:Nat):List Edge->Bool
 |[]=>true
 |⟨on,gr⟩::es=>(Nat.blt on i||!fP gr)&&oe i es

def stepT(C:Ctx) (ops:List Oper) (s:AS) (o:Oper):Tr Ef:=match o.guard with
 |none=>cJ C s o
 |some (j,want) =>match cN ops j with
   |none=>fail
   |some t=>match lk s.tm t with
     |.bool b=>cond want (mF b (cJ C s o) (ret (pe (.tuple [])))) (mF b (ret (pe (.tuple []))) (cJ C s o))
     |.tuple []=>ret (pe (.tuple []))
     |_=>fail

def kt(C:Ctx) (ops:List Oper) (bC:List Rc) (s:AS) (o:Oper) (e:Ef):Rc:=
 ⟨o.dst,looks ops o,sj bC o.after.toList [],e,s.sg.length,s.aG C (jR o.op),m9 s.sg e.rd,lG o⟩
def xY(r:Rc) (K:Rc->Prop):Prop:=match r with
 |⟨d,us,anc,e,n,ov,oo,lu⟩=>ke us fun us=>ke anc fun anc=>kc e fun e=>gV ov fun ov=>kX oo fun oo=>K ⟨d,us,anc,e,n,ov,oo,lu⟩
@[simp] theorem C4(r:Rc) (K:Rc->Prop):xY r K=K r:=by cases r;simp[xY,lY]

def sS(C:Ctx) (ops:List Oper):List Oper->Nat->List Rc->AS->(AS->Prop)->Prop
 |[],_,_,s,K=>K s
 |o::rest,i,bC,s,K=>lN (dU s o.dst&&oe i o.after.toList) (stepT C ops s o fun e=>
  kc e fun e=>xY (kt C ops bC s o e) fun r=>lN (r7 r bC 0) (ke (bC++[r]) fun bC=>fM s o.dst e fun s'=>sS C ops rest (i+1) bC s' K))

def wa(s:AS) (t:Nat) (b:Bool) (k:AS->Prop):Prop:=match s with
 |⟨nt,tm,sg,kl⟩=>k ⟨nt,(t,.bool b)::tm,sg,kl⟩
def As(C:Ctx) (ops:List Oper) (s:AS) (o:Oper) (K:Ef->AS->Prop):Prop:=match o.guard with
 |none=>cJ C s o fun e=>K e s
 |some (j,want) =>match cN ops j with
   |none=>False
   |some t=>match lk s.tm t with
     |.bool b=>cond want (dS b (wa s t true fun s=>cJ C s o fun e=>K e s) (wa s t false fun s=>K (pe (.tuple [])) s))
      (dS b (wa s t true fun s=>K (pe (.tuple [])) s) (wa s t false fun s=>cJ C s o fun e=>K e s))
     |.tuple []=>K (pe (.tuple [])) s
     |_=>False
def nj(C:Ctx) (ops:List Oper):List Oper->Nat->List Rc->AS->(AS->Prop)->Prop
 |[],_,_,s,K=>K s
 |o::rest,i,bC,s,K=>lN (dU s o.dst&&oe i o.after.toList) (As C ops s o fun e s=>
  kc e fun e=>xY (kt C ops bC s o e) fun r=>lN (r7 r bC 0) (ke (bC++[r]) fun bC=>fM s o.dst e fun s'=>nj C ops rest (i+1) bC s' K))

def l6:List Edge->List Nat
 |[]=>[]
 |⟨on,gr⟩::es=>cond (fP gr) (on::l6 es) (l6 es)
def qt(ops:List Oper):Nat->List Nat->List Nat
 |0,cl=>cl
 |k+1,cl=>qt ops k (cond (aQ k cl) (match ops[k]? with|some o=>l6 o.after.toList++cl|none=>cl) cl)
def uT(l:List Nat):Nat->Bool
 |0=>true
 |k+1=>aQ k l&&uT l k
def Ctx.both(C:Ctx):Ctx:={C with Γ:=fun f a s=>match C.Γ f a s with
 |some r=>some r
 |none=>C.mf.Γ f a s}
def CH(C:Ctx) (o:Oper) (c:Call) (K:Ex->AS->Prop) (s:AS):Prop:=match target C s c with
 |some (f,args) =>match gU C.ko s.sg f args,gU C.mf s.sg f args with
   |some (p,e1),some (q,e2) =>lN (dU s o.dst) ((p\/q)/\(p->ry s e1 fun u=>K (.pan u))/\(q->kc e2 fun e=>fM s o.dst e (K .norm)))
   |_,_=>False
 |none=>False
def Da(C:Ctx) (f:FuncId) (d:Tmp) (s:AS) (K:Ex->AS->Prop) (s':AS):Prop:=match gU C.ko s.sg f [lk s'.tm d] with
 |some (p,e1) =>p/\ry ⟨s.nt,[],s.sg,s.kl⟩ e1 fun u=>K (.pan u)
 |none=>False
def l9:List Oper->Nat->Oper->List Oper
 |[],_,_=>[]
 |_::os,0,o=>o::os
 |p::os,i+1,o=>p::l9 os i o
def qOp:Op->Bool
 |.move _|.load _ _|.fieldAddr _ _ _|.field _ _ _|.nilCheck _=>true
 |_=>false
def u6(i:Nat):List Oper->Nat->Bool
 |[],_=>true
 |o::os,k=>(Nat.beq k i||qOp o.op)&&u6 i os (k+1)
def sL(i d:Nat):List Oper->Nat->Bool
 |[],_=>true
 |o::os,k=>(Nat.beq k i||(match o.dst with|some d'=>!Nat.beq d' d|none=>true))&&sL i d os (k+1)
def uz(ops:List Oper) (i:Nat):List Oper->Nat->Bool
 |[],_=>true
 |o::os,n=>aQ i (qt ops n (l6 o.after.toList))&&uz ops i os (n+1)
inductive uL (C:Ctx) (ops:List Oper) (s:AS) (K:Ex->AS->Prop):Prop where
 |last (L:List Oper) (o:Oper) (c:Call) (hops:ops=L++[o]) (hc:o.op=.call c) (hg:o.guard=none) (he:oe L.length o.after.toList=true) (hb:uT (qt ops L.length (l6 o.after.toList)) L.length=true) (h:nj C.both L L 0 [] s (CH C o c K))
 |pan (L T:List Oper) (i:Nat) (o:Oper) (x:Operand) (d:Tmp) (f:FuncId) (c:Call) (hops:ops=L++T) (hi:L[i]?=some o) (hc:o.op=.call c) (hcv:c.callee=.value (.func f)) (hca:c.args=#[x]) (hg:o.guard=none)
  (hd:o.dst=some d) (hq:u6 i L 0=true) (hu:sL i d L 0=true) (ht:uz ops i T L.length=true) (h:nj C.both (l9 L i {o with op:=.move x}) (l9 L i {o with op:=.move x}) 0 [] s (Da C f d s K))

def Az(s:AS) (n:Nat):List (Nat×V)->Prop
 |[]=>True
 |(t,x)::r=>(lk s.tm t=x/\x.gX n=true)/\Az s n r

def xc:List Nat->List Nat->Bool
 |[],_=>true
 |k::ks,l=>aQ k l&&xc ks l
structure Sub(n:Nat) (s t:AS):Prop where
 nt:s.nt=t.nt
 tm:Az s t.sg.length t.tm
 sg:ga s.sg t.sg t.sg.length
 kl:xc s.kl t.kl=true
 len:Nat.ble n t.sg.length=true
theorem ao{n nt:Nat} {tm tm':List (Nat×V)} {sg sg':List O} {kl kl':List Nat} (h1:Az ⟨nt,tm,sg,kl⟩ sg'.length tm') (h2:ga sg sg' sg'.length) (h3:xc kl kl'=true) (h4:Nat.ble n sg'.length=true):Sub n ⟨nt,tm,sg,kl⟩ ⟨nt,tm',sg',kl'⟩:=⟨rfl,h1,h2,h3,h4⟩

mutual
def V.wf:V->Prop
 |.int k n=>k.min<=n/\n<=k.max
 |.str s=>s.length<=maxLen
 |.list _ _ l=>l.length<=maxLen/\V.eP l
 |.agg cs|.tuple cs|.box cs _=>V.eP cs
 |.iface _ x=>V.wf x
 |_=>True
def V.eP:List V->Prop
 |[]=>True
 |c::cs=>V.wf c/\V.eP cs
end
def O.wf:O->Prop
 |.cells cs=>V.eP cs
 |.buf _ _ l=>l.length<=maxLen/\V.eP l
 |.siter s _=>s.length<=maxLen
 |.map _ _ es bs _=>es.length=bs.length
 |_=>True
def nT:List (Nat×V)->List Nat->Prop
 |[],_=>True
 |(t,x)::r,seen=>(match aQ t seen with
   |true=>True
   |false=>x.wf)/\nT r (t::seen)
def i9:List O->Prop
 |[]=>True
 |o::os=>o.wf/\i9 os

def rm(s:AS) (c:Operand) (b:Bool) (K:AS->Prop):Prop:=match c,s with
 |.tmp t,⟨nt,tm,sg,kl⟩=>K ⟨nt,(t,.bool b)::tm,sg,kl⟩
 |_,s=>K s

def swp(i j k:Nat):Nat:=cond (Nat.beq k i) j (cond (Nat.beq k j) i k)
def u9(f:Nat->Option Nat):List (Nat×V)->List (Nat×V)
 |[]=>[]
 |(t,x)::r=>(t,x.bZ f)::u9 f r
def swapAt(sg:List O) (i j:Nat):List O:=fZ (fZ sg i (aH sg j)) j (aH sg i)
def mX:List V->Nat->V->List V
 |[],_,_=>[]
 |_::xs,0,y=>y::xs
 |x::xs,n+1,y=>x::mX xs n y
mutual
def V.put(i:Nat) (y:V) (z:Nat->V):V->V
 |.buf j=>cond (Nat.beq j i) y (.buf j)
 |.agg cs=>.agg (V.oH i y z cs)
 |.tuple cs=>.tuple (V.oH i y z cs)
 |.iface t x=>.iface t (V.put i y z x)
 |.func f a b=>.func f (V.oH i y z a) (V.oH i y z b)
 |.undef=>.undef|.int k n=>.int k n|.bool b=>.bool b|.str s=>.str s|.list c z l=>.list c z l
 |.nilptr=>.nilptr|.box cs o=>.box cs o|.nilIface=>.nilIface|.nilFunc=>.nilFunc|.nilmap=>.nilmap
 |.ptr j o=>cond (Nat.beq j i) (z o) (.ptr j o)
 |.bptr j a o=>.bptr j a o|.view j a o=>.view j a o|.map j=>.map j
def V.oH(i:Nat) (y:V) (z:Nat->V):List V->List V
 |[]=>[]
 |c::cs=>V.put i y z c::V.oH i y z cs
end
def O.put(i:Nat) (y:V) (z:Nat->V):O->O
 |.cells cs=>.cells (V.oH i y z cs)
 |.dead=>.dead|.buf a b l=>.buf a b l|.siter s p=>.siter s p|.map a sh es bs ck=>.map a sh es bs ck
 |.miter m bs ck l x=>.miter (V.put i y z m) bs ck l x
def kp(i:Nat) (y:V) (z:Nat->V):List O->List O
 |[]=>[]
 |o::os=>o.put i y z::kp i y z os
def pU(i:Nat) (y:V) (z:Nat->V):List (Nat×V)->List (Nat×V)
 |[]=>[]
 |(t,x)::r=>(t,V.put i y z x)::pU i y z r
def AS.mU(s:AS):gu->AS
 |.tm t sz=>match lk s.tm t,sz with
   |.list true _ [],sz+1=>⟨s.nt,(t,.buf s.sg.length)::s.tm,s.sg++[.buf (sz+1) 0 []],s.kl⟩
   |_,_=>s
 |.cell i off sz=>match aH s.sg i,sz with
   |.cells cs,sz+1=>match m6 cs off with
     |some (.list true _ []) =>⟨s.nt,s.tm,fZ s.sg i (.cells (mX cs off (.buf s.sg.length)))++[.buf (sz+1) 0 []],s.kl⟩
     |_=>s
   |_,_=>s
 |.swap i j=>match Nat.blt i s.sg.length&&Nat.blt j s.sg.length with
   |true=>⟨s.nt,u9 (fun k=>some (swp i j k)) s.tm,l5 (fun k=>some (swp i j k)) (swapAt s.sg i j),i::j::s.kl⟩
   |false=>s
 |.nw=>⟨s.nt,s.tm,s.sg++[.buf 1 0 []],s.kl⟩
 |.res=>⟨s.nt,s.tm,s.sg++[.dead],s.kl⟩
 |.bL i=>match aH s.sg i with
   |.buf sz _ l=>⟨s.nt,pU i (.list false sz l) (.ptr i) s.tm,fZ (kp i (.list false sz l) (.ptr i) s.sg) i .dead,s.kl⟩
   |_=>s
 |.fbx i=>match aH s.sg i with
   |.cells cs=>cond (V.fX cs) ⟨s.nt,pU i (.buf i) (.box cs) s.tm,fZ (kp i (.buf i) (.box cs) s.sg) i .dead,s.kl⟩ s
   |_=>s
def AS.dA(s:AS):List gu->AS
 |[]=>s
 |p::ps=>(s.mU p).dA ps

def C3(s:AS) (K:AS->Prop):Prop:=match s with
 |⟨nt,tm,sg,kl⟩=>ow tm fun tm=>kX sg fun sg=>ke kl fun kl=>K ⟨nt,tm,sg,kl⟩
@[simp] theorem Zo(s:AS) (K:AS->Prop):C3 s K=K s:=by cases s;simp[C3]
def ze(s:AS) (ps:List gu) (K:AS->Prop):Prop:=match ps with
 |[]=>K s
 |p::ps=>C3 (s.dA (p::ps)) K
theorem Df(s:AS) (ps:List gu) (K:AS->Prop):ze s ps K=K (s.dA ps):=by cases ps<;>simp[ze,AS.dA]

def uX(id:Nat) (K:Ex->AS->Prop) (e:Ex) (s:AS):Prop:=match e with
 |.exit j=>match Nat.beq j id with
   |true=>K .norm s
   |false=>K (.exit j) s
 |e=>K e s
inductive aM (n:Nat) (s:AS) (R:AS->(Ex->AS->Prop)->Prop) (K:Ex->AS->Prop):Prop where
 |mk (X:Type) (inv:X->Prop) (I:X->AS) (μ:X->Nat) (ps:List gu) (x0:X) (h0:inv x0) (hs:Sub n (s.dA ps) (I x0))
  (h:∀x,inv x->nT (I x).tm []->i9 (I x).sg->R (I x) (mW (fun s'=>∃(qs:List gu) (x':X),inv x'/\Sub n (s'.dA qs) (I x')/\μ x'<μ x) K))

def yc(l:Nat) (f:AS->Prop) (K:Ex->AS->Prop) (e:Ex) (s:AS):Prop:=match e with
 |.goto j=>match Nat.beq j l with
   |true=>f s
   |false=>False
 |e=>K e s
def pQ(K:Ex->AS->Prop) (e:Ex) (s:AS):Prop:=match e with
 |.goto _=>False
 |e=>K e s
inductive qk (n l:Nat) (s:AS) (R:AS->(Ex->AS->Prop)->Prop) (K:Ex->AS->Prop):Prop where
 |mk (X:Type) (inv:X->Prop) (I:X->AS) (μ:X->Nat) (ps:List gu) (x0:X) (h0:inv x0) (hs:Sub n (s.dA ps) (I x0))
  (h:∀x,inv x->nT (I x).tm []->i9 (I x).sg->R (I x) (yc l (fun s'=>∃(qs:List gu) (x':X),inv x'/\Sub n (s'.dA qs) (I x')/\μ x'<μ x) K))

structure my(n:Nat) (st0:St) (g0:aw) (st:St) (g:aw) (s:AS):Prop where
 mono:∀b o v,st0 b o=some v->st b o=some v
 aX:∀i,i<n->aQ i s.kl=false->g i=g0 i
 len:n<=s.sg.length
structure j5(E0 E:Env):Prop where
 G:∀b,E.G b->E0.G b
 w0:∀b,¬E0.G b->E.w0.heap[b]?=E0.w0.heap[b]?
 os:E.w0.os=E0.w0.os
 tape:E.w0.tape=E0.w0.tape
 output:E.w0.output=E0.w0.output
 size:E0.w0.heap.size<=E.w0.heap.size
 st0:E.st0=E0.st0
 gnew:∀b,E0.w0.heap.size<=b->E0.G b
 ds:∃Ds:List Nat,E.ds=Ds.map (fun D=>{target:=.collected D,args:=#[]})++E0.ds/\Ds.Nodup/\∀D∈Ds,E0.G D/\¬E.G D/\E.w0.heap[D]?=some (.deferred (some []))
abbrev YT:Type:=List V->List O->List Nat->Option (Prop×V×List O×List Nat)
def O0(C:Ctx) (E:Env) (n:Nat) (st0:St) (g0:aw) (l:Nat) (Y:YT):Prop:=∀args (s:AS) pre x sg' ks,Y args s.sg s.kl=some (pre,x,sg',ks)->pre->∀(st:St) (g:aw) (w:World) (vs:List Value),aO E st g s.sg w->aV C.gl st->aE st g args s.sg.length vs->my n st0 g0 st g s->
 YieldAt Fence.wide 0 C.P l vs.toArray w fun en w'=>∃v st' g',en=.returned v/\aO E st' g' sg' w'/\VR st' g' x sg'.length v/\jS E st g s.sg.length st' g' sg'.length ks
def oM:Code->Bool
 |.skip|.label _|.exit _|.ret|.goto _=>true
 |.region _ _ d=>!d
 |.seq a b|.cond _ a b=>oM a&&oM b
 |.block _ a|.loop a=>oM a
 |_=>false
def vc(C:Ctx) (n:Nat):Code->AS->(Ex->AS->Prop)->Prop
 |.skip,s,K=>K .norm s
 |.label _,s,K=>K .norm s
 |.region id ops false,s,K=>ze s (C.hint id) fun s=>gD C ops.toList false ops.toList s K
 |.region id ops true,s,K=>ze s (C.hint id) fun s=>cond (C.pdr id) (uL C ops.toList s K) (nj C ops.toList ops.toList 0 [] s (K .norm))
 |.seq a b,s,K=>vc C n a s (mW (fun s'=>vc C n b s' K) K)
 |.cond c x y,s,K=>match s.ev C c with
   |.bool b=>dS b (rm s c true fun s=>vc C n x s K) (rm s c false fun s=>vc C n y s K)
   |_=>False
 |.block id c,s,K=>vc C n c s (uX id K)
 |.loop c,s,K=>aM n s (vc C n c) K
 |.scope (.seq a (.seq (.label l) b)),s,K=>match findLabel a l with
   |none=>vc C n a s (mW (fun s'=>qk n l s' (vc C n b) K) (pQ K))
   |some _=>False
 |.scope c,s,K=>vc C n c s (pQ K)
 |.exit id,s,K=>K (.exit id) s
 |.goto l,s,K=>K (.goto l) s
 |.ret,s,K=>K .ret s
 |_,_,_=>False

def gT:List V->Nat->List (Nat×V)
 |[],_=>[]
 |x::xs,i=>(i,x)::gT xs (i+1)
def Db(agg:Bool) (size:Nat) (cs:List V) (off:Nat):Option V:=match agg with
 |true=>match jv (kP cs off) size with
   |some r=>some (.agg r)
   |none=>none
 |false=>m6 cs off
def pW(ti:TypeId->TI) (s:AS):List ResultVar->Option (List V)
 |[]=>some []
 |.tmp t::r=>match pW ti s r with
   |some xs=>some (lk s.tm t::xs)
   |none=>none
 |.cell b t::r=>match lk s.tm b with
   |.ptr i off=>match aH s.sg i with
     |.cells cs=>match (ti t).k with
       |.other=>none
       |k=>match Db k.isAgg (ti t).size cs off,pW ti s r with
         |some x,some xs=>some (x::xs)
         |_,_=>none
     |_=>none
   |_=>none
def oK(ti:TypeId->TI) (s:AS) (rs:List ResultVar):Option V:=match pW ti s rs with
 |some [x]=>some x
 |some xs=>some (.tuple xs)
 |none=>none

def mP(sg:List O) (aX:Bool):List Nat->Bool
 |[]=>true
 |k::ks=>(match aH sg k with
   |.buf _ _ _=>!aX
   |_=>Nat.ble sg.length k)&&mP sg aX ks

def xo(ti:TypeId->TI) (rs:List ResultVar) (sg:List O) (x:V) (r:Option (List O)) (s:AS):Prop:=hJ (oK ti s rs) fun y=>match r with
 |none=>y=x/\x.gX sg.length=true/\ga s.sg sg sg.length/\mP sg true s.kl=true
 |some sg'=>y=x/\x.gX sg'.length=true/\ga s.sg sg' sg'.length/\mP sg (eZ sg') s.kl=true/\Nat.ble sg.length sg'.length=true
inductive ab (ti:TypeId->TI) (rs:List ResultVar) (sg:List O) (x:V) (r:Option (List O)) (s:AS):Prop where
 |mk (ps:List gu) (h:xo ti rs sg x r (s.dA ps))
def Ends(ti:TypeId->TI) (rs:List ResultVar) (sg:List O) (x:V) (r:Option (List O)) (e:Ex) (s:AS):Prop:=match e with
 |.exit _=>False
 |.goto _=>False
 |.pan _=>False
 |_=>ab ti rs sg x r s
def PanQ(sg:List O) (r:Option (List O)) (s:AS):Prop:=match r with
 |none=>ga s.sg sg sg.length/\mP sg true s.kl=true
 |some sg'=>ga s.sg sg' sg'.length/\mP sg (eZ sg') s.kl=true/\Nat.ble sg.length sg'.length=true
inductive bI (sg:List O) (r:Option (List O)) (s:AS):Prop where
 |mk (ps:List gu) (h:PanQ sg r (s.dA ps))
def GY(u:Value) (sg:List O) (r:Option (List O)) (e:Ex) (s:AS):Prop:=match e with
 |.pan v=>v=u/\bI sg r s
 |_=>False

end Go.VG
namespace Go.VG
open Go

def AW(P:Program) (t:TypeId) (sh:List Sc):Prop:=∀(st:St) (g:aw) (n:Nat) (cs ds:List V) (r:Bool) (a b:Array Value) (w:World),
 cQ sh cs=true->cQ sh ds=true->eqs cs ds=some r->cs.length=P.cellsOf t->aE st g cs n a.toList->aE st g ds n b.toList->(Op.equal t (.agg a) (.agg b)).run P w=.ok r w/\P.eqGuardType P.depth t=false

def oc(P:Program) (k:TypeId):Bool:=match P.underlying k with
 |some (.struct _)|some (.array _ _) =>true
 |_=>false
def s9(P:Program) (k:TypeId) (sh:List Sc):Prop:=WideMaps.KeyLaw P k/\∀x,kU (oc P k) sh x=true->mR x->∃l,keyOf P k (dB x) =some l
def TK.BN(P:Program) (t:TypeId) (sh:List Sc):TK->Prop
 |.map k _=>s9 P k sh
 |_=>AW P t sh
def TK.ok(P:Program) (t:TypeId):TK->Prop
 |.bool=>P.underlying t=some .bool
 |.int k=>P.underlying t=some (.int k)
 |.string=>P.underlying t=some .string
 |.slice e=>P.underlying t=some (.slice e)
 |.array n e=>P.underlying t=some (.array n e)
 |.ptr e=>P.underlying t=some (.pointer e)
 |.struct fs=>∃fields,P.underlying t=some (.struct fields)/\fields.toList.map (fun f=>(f.offset,f.type)) =fs/\(fields.toList.mapM (fun f=>(P.info? f.type).map fun i=>(f.offset,i.size))).isSome=true
 |.iface=>∃ms,P.underlying t=some (.interface ms)
 |.func=>∃a b c,P.underlying t=some (.func a b c)
 |.map k e=>P.underlying t=some (.map k e)
 |.other=>False

def lp(P:Program) (t:TypeId) (i:TI):Prop:=match i.k with
 |.other=>True
 |k=>k.ok P t/\(∃info,P.info? t=some info/\info.size=i.size/\info.bytes=i.bytes/\∃z,info.zero=some z/\∀(st:St) (g:aw) (n:Nat),VR st g i.zero n z)/\
  (i.feq≠[]->i.k.BN P t i.feq)

theorem lp.of{P:Program} {t:TypeId} {i:TI} (h:lp P t i) (hk:i.k≠.other):i.k.ok P t/\(∃info,P.info? t=some info/\info.size=i.size/\info.bytes=i.bytes/\∃z,info.zero=some z/\∀(st:St) (g:aw) (n:Nat),VR st g i.zero n z)/\
     (i.feq≠[]->i.k.BN P t i.feq):=by
 unfold lp at h;split at h
 . contradiction
 . exact h

section
variable {P:Program} {t:TypeId} {i:TI} (w:World)

theorem fY(h:lp P t i) (hk:i.k≠.other):(sizeOf t).run P w=.ok i.size w:=by
 obtain⟨_,⟨info,h1,h2,_⟩,_⟩:=h.of hk;simp[sizeOf,typeInfo,h1,h2]
theorem Bm(h:lp P t i) (hk:i.k≠.other):P.cellsOf t=i.size:=by
 obtain⟨_,⟨info,h1,h2,_⟩,_⟩:=h.of hk;simp[Program.cellsOf,h1,h2]
theorem zt(h:lp P t i) (hk:i.k≠.other):∃z,(zeroValue t).run P w=.ok z w/\∀(st:St) (g:aw) (n:Nat),VR st g i.zero n z:=by
 obtain⟨_,⟨info,h1,h2,_,z,h4,h5⟩,_⟩:=h.of hk;exact⟨z,by simp[zeroValue,typeInfo,h1,h4],h5⟩
theorem zo(h:lp P t i) (hk:i.k≠.other):(isAgg t).run P w=.ok i.k.isAgg w:=by
 obtain⟨h1,_,_⟩:=h.of hk;cases hk':i.k<;>rw[hk'] at h1<;>simp only[TK.ok] at h1
 case struct fs=>obtain⟨f,h1,_⟩:=h1;simp[isAgg,run_underlying h1,TK.isAgg]
 case iface=>obtain⟨f,h1⟩:=h1;simp[isAgg,run_underlying h1,TK.isAgg]
 case func=>obtain⟨a,b,c,h1⟩:=h1;simp[isAgg,run_underlying h1,TK.isAgg]
 all_goals simp[isAgg,run_underlying h1,TK.isAgg]
end

theorem y9:∀(xs:List V) (n:Nat),m6 xs n=xs[n]?
 |[],n=>by cases n<;>simp[m6]
 |x::xs,0=>by simp[m6]
 |x::xs,n+1=>by simp[m6,y9 xs n]
theorem vb:∀(xs:List V) (n:Nat),kP xs n=xs.drop n
 |xs,0=>by simp[kP]
 |[],n+1=>by simp[kP]
 |x::xs,n+1=>by simp[kP,vb xs n]
theorem AD:∀{xs:List V} {n:Nat} {r:List V},jv xs n=some r->r=xs.take n/\n<=xs.length
 |xs,0,r,h=>by simp[jv] at h;simp[h]
 |[],n+1,r,h=>by simp[jv] at h
 |x::xs,n+1,r,h=>by
   simp only[jv] at h;split at h
   . rename_i r' hr;obtain⟨h1,h2⟩:=AD hr;cases h;subst h1;exact⟨by simp,by simpa using h2⟩
   . cases h
def over{α:Type} (xs:List α) (o:Nat) (ys:List α):List α:=xs.take o++ys++xs.drop (o+ys.length)
theorem ue:∀{xs:List V} {o:Nat} {ys r:List V},jr xs o ys=some r->r=over xs o ys/\(ys=[]\/o+ys.length<=xs.length)
 |xs,o,[],r,h=>by simp[jr] at h;simp[over,h]
 |[],_,_::_,r,h=>by simp[jr] at h
 |x::xs,0,y::ys,r,h=>by
   simp only[jr] at h;split at h
   . rename_i r' hr;obtain⟨h1,h2⟩:=ue hr;cases h;subst h1;refine⟨by simp[over],.inr ?_⟩;rcases h2 with rfl|h2
     . simp
     . simpa using h2
   . cases h
 |x::xs,n+1,y::ys,r,h=>by
   simp only[jr] at h;split at h
   . rename_i r' hr;obtain⟨h1,h2⟩:=ue hr;cases h;subst h1;refine⟨?_,.inr ?_⟩
     . simp only[over,List.take_succ_cons,List.cons_append];rw[show n+1+(y::ys).length=(n+(y::ys).length)+1 by omega,List.drop_succ_cons]
     . rcases h2 with h2|h2
       . cases h2
       . simp at h2⊢;omega
   . cases h

theorem lI{α:Type} {xs:List α} {o:Nat} {ys:List α} (h:ys=[]\/o+ys.length<=xs.length):(over xs o ys).length=xs.length:=by
 rcases h with rfl|h
 . simp[over]
 . simp[over];omega

theorem xA{st:St} {g:aw} {n o:Nat} {cs ds:List V} {vs us:List Value} (h:aE st g cs n vs) (k:aE st g ds n us):aE st g (over cs o ds) n (over vs o us):=by
 unfold over;rw[<-eJ k];exact si (si (uS h) k) (uP h)

theorem eU:∀{sg:List O} {i:Nat} {o:O},aH sg i=o->o≠.dead->sg[i]?=some o/\i<sg.length
 |[],i,o,h,hn=>by simp[aH] at h;exact absurd h.symm hn
 |p::ps,0,o,h,hn=>by simp[aH] at h;simp[h]
 |p::ps,i+1,o,h,hn=>by
   simp only[aH] at h;obtain⟨h1,h2⟩:=eU h hn;exact⟨by simpa using h1,by simpa using h2⟩
theorem Ku(ks:List Nat):∀sg:List O,yC ks sg=sg.map (O.kill ks)
 |[]=>rfl
 |o::os=>by simp[yC,Ku ks os]
theorem jg:∀(sg:List O) (i:Nat) (o:O),fZ sg i o=sg.set i o
 |[],i,o=>by simp[fZ]
 |p::ps,0,o=>by simp[fZ]
 |p::ps,i+1,o=>by simp[fZ,jg ps i o]
mutual
theorem iW:∀(x:V),x.kill []=x
 |.undef|.int .. |.bool _|.str _|.list .. |.nilptr|.box .. |.nilIface|.nilFunc|.nilmap|.ptr .. |.bptr .. |.view .. |.buf _|.map _=>by simp[V.kill,aQ]
 |.agg cs|.tuple cs=>by simp[V.kill,vV cs]
 |.iface t x=>by simp[V.kill,iW x]
 |.func f a b=>by simp[V.kill,vV a,vV b]
theorem vV:∀(x:List V),V.dH [] x=x
 |[]=>by simp[V.dH]
 |c::cs=>by simp[V.dH,iW c,vV cs]
end
theorem UI(o:O):o.kill []=o:=by cases o<;>simp[O.kill,vV,iW]
theorem rf(ks:List Nat) (sg:List O):gY ks sg=sg.map (O.kill ks):=by
 cases ks with
 |nil=>simp only[gY];rw[show(O.kill []) =id from funext UI];simp
 |cons k ks=>simp[gY,Ku]
theorem xB(a b:List O):jC a b=a++b:=by cases b<;>simp[jC]

theorem KW(ks:List Nat):∀(tm:List (Nat×V)) (t:Nat),lk (vX ks tm) t=(lk tm t).kill ks
 |[],t=>by simp[vX,lk,V.kill]
 |(k,x)::r,t=>by
   simp only[vX,lk];cases Nat.beq k t<;>simp[KW ks r t]
theorem oB(ks:List Nat) (tm:List (Nat×V)) (t:Nat):lk (kg ks tm) t=(lk tm t).kill ks:=by
 cases ks with
 |nil=>simp[kg,iW]
 |cons k ks=>simp[kg,KW]

theorem jU{st:St} {g:aw} {x:V} {n:Nat} {v:Value} (h:VR st g x n v) (hu:x.eX=false):aE st g x.cells n v.cells.toList:=by
 cases x<;>first
  |(simp[V.eX] at hu;done)
  | (simp only [VR] at h
     first
      |(obtain⟨vs,rfl,h⟩:=h;exact h)
      |(rename_i cs;obtain⟨vs,rfl,h⟩:=h;simp only[V.cells,Value.cells];refine cu ?_ dD;simp only[VR];exact⟨vs,rfl,h⟩))
  |skip
 all_goals (
  have h':=h;simp only[VR] at h;first
   |(subst h;simp only[V.cells,Value.cells];exact cu h' dD)
   |(obtain⟨rfl,_⟩:=h;simp only[V.cells,Value.cells];exact cu h' dD)
   |(obtain⟨_,_,rfl,_⟩:=h;simp only[V.cells,Value.cells];exact cu h' dD)
   |(obtain⟨_,_,_,rfl,_⟩:=h;simp only[V.cells,Value.cells];exact cu h' dD)
   |(obtain⟨_,_,_,rfl⟩:=h;simp only[V.cells,Value.cells];exact cu h' dD)
   |(obtain⟨_,_,_,_,_,_,rfl⟩:=h;simp only[V.cells,Value.cells];exact cu h' dD)
   |skip)

end Go.VG
set_option linter.unusedSimpArgs false
set_option linter.unusedVariables false
namespace Go.VG
open Go

def av{α:Type} (t:Tr α):Prop:=∀K:α->Prop,t K->∃a,K a/\∀K':α->Prop,K' a->t K'

section
variable {α β:Type}
theorem av.ret(a:α):av (ret a):=fun _ h=>⟨a,h,fun _ h=>h⟩
theorem av.fail:av (fail:Tr α):=fun _ h=>h.elim
theorem av.aR{A:Prop} {t:Tr α} (h:av t):av (aR A t):=fun K hk=>let ⟨a,h1,h2⟩:=h K hk.2;⟨a,h1,fun K' k=>⟨hk.1,h2 K' k⟩⟩
theorem av.when{b:Bool} {t:Tr α} (h:av t):av (bE b t):=fun K hk=>by
 cases b with
 |false=>exact hk.elim
 |true=>exact h K hk
theorem av.opt{o:Option α} {f:α->Tr β} (h:∀a,av (f a)):av (ey o f):=fun K hk=>by
 cases o with
 |none=>exact hk.elim
 |some a=>exact h a K hk
theorem av.dS{b:Bool} {t u:Tr α} (ht:av t) (hu:av u):av (mF b t u):=fun K hk=>by
 cases b with
 |false=>exact hu K hk
 |true=>exact ht K hk
theorem av.fW{o:Option α} {h:α->Tr β} {u:Tr β} (hf:∀a,av (h a)) (hu:av u):av (fW o h u):=fun K hk=>by
 cases o with
 |none=>obtain⟨a,h1,h2⟩:=hu K (hk.2 rfl);exact⟨a,h1,fun K' k=>⟨fun _ q=>(by cases q),fun _=>h2 K' k⟩⟩
 |some x=>obtain⟨a,h1,h2⟩:=hf x K (hk.1 x rfl);exact⟨a,h1,fun K' k=>⟨fun _ q=>(by cases q;exact h2 K' k),fun q=>(by cases q)⟩⟩
theorem av.idx{l:List α} {n:Nat} {f:α->Tr β} (h:∀a,av (f a)):av (pL l n f):=by rw[mL];exact av.opt h
theorem av.bind{t:Tr α} {f:α->Tr β} (ht:av t) (hf:∀a,av (f a)):av (fy t f):=fun K hk=>by
 obtain⟨a,h1,h2⟩:=ht _ hk;obtain⟨b,h3,h4⟩:=hf a K h1;exact⟨b,h3,fun K' k=>h2 _ (h4 K' k)⟩
theorem av.ex{f:α->Tr β} (h:∀a,av (f a)):av (tc f):=fun K ⟨a,hk⟩=>let ⟨b,h1,h2⟩:=h a K hk;⟨b,h1,fun K' k=>⟨a,h2 K' k⟩⟩
theorem av.force{x:V} {f:V->Tr α} (h:∀x,av (f x)):av (force x f):=by rw[force_eq];exact h x
theorem av.dh{x:Nat} {f:Nat->Tr α} (h:∀x,av (f x)):av (dh x f):=by rw[dN];exact h x
theorem av.gV{x:List V} {f:List V->Tr α} (h:∀x,av (f x)):av (pB x f):=by rw[tp];exact h x
theorem av.cut{a:List α} {r:Option Int×Option Int} {f:List α->Tr β} (h:∀x,av (f x)):av (sy a r f):=by rw[sC];exact h _
theorem av.kK(r:Option (Prop×Ef)):av (kK r):=by
 refine av.opt fun p=>av.aR fun K hk=>?_;rw[kW] at hk;exact⟨p.2,hk,fun K' k=>by rw[kW];exact k⟩
end

theorem Ik(C:Ctx) (op:BinOp) (t:TypeId) (x y:V):av (om C op t x y):=by
 unfold om;repeat' first
  |with_reducible first
    |exact av.ret _
    |exact av.fail
    |refine av.aR ?_
    |refine av.when ?_
    |refine av.opt fun _=>?_
    |refine av.idx fun _=>?_
    |refine av.gV fun _=>?_
    |refine av.dh fun _=>?_
  |split
theorem Ir(op:UnOp) (x:V):av (vz op x):=by
 unfold vz;split<;>first|with_reducible exact av.ret _|with_reducible exact av.fail
theorem mT(agg:Bool) (size:Nat) (cs:List V) (off:Nat):av (kn agg size cs off):=by
 unfold kn;split<;>exact av.opt fun _=>av.ret _
theorem kR(s:AS) (x:V):av (elems s x):=by
 unfold elems;repeat' first
  |with_reducible first
    |exact av.ret _
    |exact av.fail
  |split
theorem P7(C:Ctx) (s:AS) (e:TypeId) (x:V) (ys:List V) (rd:List Nat):av (pj C s e x ys rd):=by
 unfold pj;repeat' first
  |with_reducible first
    |exact av.ret _
    |exact av.fail
    |refine av.aR ?_
    |refine av.when ?_
    |refine av.opt fun _=>?_
    |refine av.idx fun _=>?_
    |refine av.gV fun _=>?_
    |refine av.dh fun _=>?_
  |split
theorem P6(C:Ctx) (s:AS) (e:TypeId) (sz:Nat) (x:V) (ys:List V) (rd:List Nat):av (pk C s e sz x ys rd):=by
 unfold pk;split
 . repeat' first
  |with_reducible exact av.ret _
  |with_reducible refine av.aR ?_
  |with_reducible refine av.when ?_
  |(with_reducible refine av.dh fun _=>?_)
 . exact P7 _ _ _ _ _ _
theorem z8{C:Ctx} {s:AS} {t:TypeId} {m:V} {F:Nat->Bool->List Sc->List (V×Int)->List Nat->Nat->Tr Ef} (h:∀i ag sh es bs ck,av (F i ag sh es bs ck)):av (gI C s t m F):=by
 unfold gI;refine av.opt fun p=>?_;split
 . split
   . exact av.when (h _ _ _ _ _ _)
   . exact av.fail
 . exact av.fail
theorem Pa(C:Ctx) (s:AS) (b:Builtin) (ts:List TypeId) (args:List V):av (mH C s b ts args):=by
 unfold mH;repeat' first
  |with_reducible first
    |exact P6 _ _ _ _ _ _ _
    |exact av.ret _
    |exact av.fail
    |exact av.kK _
    |refine av.aR ?_
    |refine av.when ?_
    |refine av.opt fun _=>?_
    |refine av.idx fun _=>?_
    |refine av.gV fun _=>?_
    |refine av.dh fun _=>?_
    |refine av.ex fun _=>?_
    |refine av.force fun _=>?_
    |refine av.dS ?_ ?_
    |refine av.cut fun _=>?_
    |refine av.fW (fun _=>?_) ?_
    |refine z8 fun _ _ _ _ _ _=>?_
    |refine av.bind (mT _ _ _ _) fun _=>?_
    |refine av.bind (ot _ _ _ _ _) fun _=>?_
    |refine av.bind (kR _ _) fun _=>?_
  |unfold qE
  |split
theorem Im(C:Ctx) (s:AS) (a b:TypeId) (x:V):av (lA C s a b x):=by
 unfold lA;repeat' first
  |with_reducible first
    |exact av.ret _
    |exact av.fail
    |exact av.kK _
    |refine av.aR ?_
    |refine av.when ?_
    |refine av.opt fun _=>?_
    |refine av.idx fun _=>?_
    |refine av.gV fun _=>?_
    |refine av.dh fun _=>?_
    |refine av.ex fun _=>?_
    |refine av.force fun _=>?_
    |refine av.dS ?_ ?_
    |refine av.cut fun _=>?_
    |refine av.fW (fun _=>?_) ?_
    |refine z8 fun _ _ _ _ _ _=>?_
    |refine av.bind (mT _ _ _ _) fun _=>?_
    |refine av.bind (ot _ _ _ _ _) fun _=>?_
    |refine av.bind (kR _ _) fun _=>?_
  |split
theorem ot(C:Ctx) (s:AS) (len:Nat) (lo hi:Option Operand):av (ka C s len lo hi):=by
 unfold ka;repeat' first
  |with_reducible first
    |exact av.ret _
    |exact av.fail
    |refine av.aR ?_
    |refine av.when ?_
    |refine av.opt fun _=>?_
    |refine av.idx fun _=>?_
    |refine av.gV fun _=>?_
    |refine av.dh fun _=>?_
  |split
theorem vo(C:Ctx) (s:AS) (t:TypeId) (len:Nat) (parts:Array (Nat×Operand)):av (lz C s t len parts):=by
 unfold lz;repeat' first
  |with_reducible first
    |exact av.ret _
    |exact av.fail
    |exact av.kK _
    |refine av.aR ?_
    |refine av.when ?_
    |refine av.opt fun _=>?_
    |refine av.idx fun _=>?_
    |refine av.gV fun _=>?_
    |refine av.dh fun _=>?_
    |refine av.ex fun _=>?_
    |refine av.force fun _=>?_
    |refine av.dS ?_ ?_
    |refine av.cut fun _=>?_
    |refine av.fW (fun _=>?_) ?_
    |refine z8 fun _ _ _ _ _ _=>?_
    |refine av.bind (mT _ _ _ _) fun _=>?_
    |refine av.bind (ot _ _ _ _ _) fun _=>?_
    |refine av.bind (kR _ _) fun _=>?_
  |split
theorem Pb(C:Ctx) (s:AS) (c:Call):av (qD C s c):=by
 unfold qD;split
 . exact av.gV fun _=>Pa _ _ _ _ _
 . exact av.opt fun _=>av.kK _
 . split
   . exact av.ex fun _=>av.aR (av.kK _)
   . exact av.fail
theorem P8(C:Ctx) (s:AS) (dst:Option Nat) (t:TypeId) (len:Nat) (parts:Array (Nat×Operand)):av (oh C s dst t len parts):=by
 unfold oh;split
 . rename_i d;cases C.lits d
   . exact vo _ _ _ _ _
   . simp only[cond_true,sX];refine av.bind (vo _ _ _ _ _) fun e=>?_;split
     . exact av.dh fun _=>av.ret _
     . exact av.fail
 . exact vo _ _ _ _ _
theorem Pc(C:Ctx) (s:AS) (a b:TypeId) (x:V):av (pq C s a b x):=by
 unfold pq;split
 . cases Nat.beq a b
   . exact Im _ _ _ _ _
   . simp only[cond_true];split
     . split
       . split
         . exact av.ret _
         . exact av.fail
       . exact av.fail
     . exact av.fail
 . exact Im _ _ _ _ _
theorem P9(C:Ctx) (c:Bool) (op:BinOp) (t:TypeId) (u v:V):av (cond c (qN C op t) (fy (om C op t u v) fun v=>ret (pe v))):=by
 cases c with
 |false=>
   show av (fy (om C op t u v) fun v=>ret (pe v));exact av.bind (Ik C op t u v) fun _=>av.ret _
 |true=>
   show av (qN C op t);unfold qN;split
   . exact av.ret _
   . exact av.ret _
   . exact av.fail
theorem sZ(C:Ctx) (s:AS) (o:Oper):av (cJ C s o):=by
 unfold cJ;split;all_goals try first
  |exact P8 _ _ _ _ _ _
  |exact P9 _ _ _ _ _ _
  |exact Pc _ _ _ _ _
  |exact Pb _ _ _
  |exact av.bind (Ir _ _) fun _=>av.ret _
 all_goals repeat' first
  |with_reducible first
    |exact av.ret _
    |exact av.fail
    |exact av.kK _
    |refine av.aR ?_
    |refine av.when ?_
    |refine av.opt fun _=>?_
    |refine av.idx fun _=>?_
    |refine av.gV fun _=>?_
    |refine av.dh fun _=>?_
    |refine av.ex fun _=>?_
    |refine av.force fun _=>?_
    |refine av.dS ?_ ?_
    |refine av.cut fun _=>?_
    |refine av.fW (fun _=>?_) ?_
    |refine z8 fun _ _ _ _ _ _=>?_
    |refine av.bind (mT _ _ _ _) fun _=>?_
    |refine av.bind (ot _ _ _ _ _) fun _=>?_
    |refine av.bind (kR _ _) fun _=>?_
  |unfold vw
  |unfold ni
  |unfold nh
  |unfold sU
  |unfold po
  |unfold qP
  |unfold qO
  |unfold vv
  |unfold qL
  |unfold pr
  |unfold qH
  |unfold qG
  |unfold sW
  |unfold vu
  |unfold vn
  |unfold vt
  |unfold qI
  |unfold qJ
  |unfold sY
  |unfold pw
  |unfold vm
  |unfold qK
  |unfold mI
  |unfold qM
  |unfold oq
  |unfold qF
  |unfold sV
  |(cases yk C o.dst<;>unfold cond)
  |split

structure Rel(E:Env) (st:St) (g:aw) (s:AS) (a:Act) (w:World):Prop where
 nt:a.tmps.size=s.nt
 df:a.defers=E.ds
 tm:∀t,VR st g (lk s.tm t) s.sg.length (a.tmps.getD t undef)
 wr:aO E st g s.sg w

theorem YX{k:IntKind} {n:Int} (h:yh k n=true):k.min<=n/\n<=k.max:=by
 unfold yh at h;split at h
 . cases k<;>simp only[Ld] at h<;>have h':=d9 h<;>simp[IntKind.min,IntKind.max,IntKind.signed,IntKind.bits]<;>omega
 . cases k<;>simp only[Lg] at h<;>first
  |(have h':=d9 h;simp[IntKind.min,IntKind.max,IntKind.signed,IntKind.bits];omega)
  |cases h

theorem Lv{st:St} {g:aw} {n:Nat} (v:Value):VR st g (z7 v) n v:=by
 unfold z7;split
 . rename_i k m;cases h:yh k m with
   |true=>simpa[VR] using YX h
   |false=>simp[VR]
 . simp[VR]
 . rename_i s;cases h:Nat.ble s.data.toList.length 1048576 with
   |true=>
     have:=d9 h;simp only[cond_true,VR];have h3:s.data.toList.length<=maxLen:=by unfold maxLen;omega
     simpa[VR] using h3
   |false=>simp[VR]
 . simp only[VR];exact⟨none,0,by simp,by simp,by simp[maxLen],by simp,.inl trivial⟩
 . simp[VR]
 . simp[VR]
 . simp[VR]
 . simp[VR]
 . simp[VR]
theorem Lw{st:St} {g:aw} {n:Nat}:∀vs:List Value,aE st g (D5 vs) n vs
 |[]=>dD
 |v::vs=>cu (Lv v) (Lw vs)
theorem VL{st:St} {g:aw} {n:Nat} (v:Value):VR st g (D4 v) n v:=by
 unfold D4;split
 . rename_i cs;simp only[VR];exact⟨cs,rfl,Lw _⟩
 . exact Lv v

theorem bn{E:Env} {st:St} {g:aw} {s:AS} {a:Act} {w:World} {C:Ctx} (R:Rel E st g s a w) (hg:aV C.gl st) (x:Operand):VR st g (s.ev C x) s.sg.length (a.eval x):=by
 cases x with
 |tmp t=>exact R.tm t
 |const v=>exact VL v
 |global b=>
   simp only[AS.ev,Act.eval];split
   . rename_i cs h;obtain⟨vs,h1,h2⟩:=hg b cs h g;simp only[VR];exact⟨b,0,vs,rfl,h1,fun j hj=>by rw[Nat.zero_add];exact h2 j hj⟩
   . simp[VR]
 |func f=>
   simp only[AS.ev,Act.eval,VR];exact⟨#[],#[],rfl,dD,dD⟩
theorem tb{E:Env} {st:St} {g:aw} {s:AS} {a:Act} {w:World} {C:Ctx} (R:Rel E st g s a w) (hg:aV C.gl st):∀xs:List Operand,aE st g (s.aG C xs) s.sg.length (xs.map a.eval)
 |[]=>dD
 |x::xs=>cu (bn R hg x) (tb R hg xs)

theorem pO:∀(up:List (Nat×O)) (sg:List O),(dk sg up).length=sg.length
 |[],sg=>rfl
 |(i,o)::r,sg=>by simp only[dk];rw[pO r,jg];simp
theorem KR(s:AS) (d:Option Nat) (e:Ef):(s.app d e).sg.length=s.sg.length+e.nw.length:=by
 simp[AS.app,xB,pO,rf]

theorem uM{E:Env} {st st':St} {g g':aw} {n n':Nat} {ks:List Nat} (A:jS E st g n st' g' n' ks) {x:V} {v:Value} (h:VR st g x n v):VR st' g' (x.kill ks) n' v:=
 gw A.mono (fun i hi hn=>⟨Nat.lt_of_lt_of_le hn A.len,A.aX i hn (pI hi).1⟩) (xy h)

theorem Rel.app{E:Env} {st st':St} {g g':aw} {s:AS} {a:Act} {w w':World} {d:Option Nat} {e:Ef} {v:Value} (R:Rel E st g s a w) (hd:dU s d=true)
   (A:jS E st g s.sg.length st' g' (s.app d e).sg.length e.ks) (W:aO E st' g' (s.app d e).sg w') (hv:VR st' g' e.v (s.app d e).sg.length v):Rel E st' g' (s.app d e) (a.put d v) w' where
 nt:=by
  cases d with
  |none=>exact R.nt
  |some d=>simp[Act.put,AS.app,R.nt]
 df:=by cases d<;>exact R.df
 wr:=W
 tm:=fun t=>by
   cases d with
   |none=>
     have h1:lk (s.app none e).tm t=(lk s.tm t).kill e.ks:=by simp only[AS.app];exact oB _ _ _
     rw[h1];exact uM A (R.tm t)
   |some d=>
     have hlt:d<s.nt:=by simpa[dU] using hd
     have h1:lk (s.app (some d) e).tm t=cond (Nat.beq d t) e.v ((lk s.tm t).kill e.ks):=by simp only[AS.app,lk];rw[oB]
     rw[h1];by_cases hdt:d=t
     . subst hdt;rw[show Nat.beq d d=true from Nat.beq_refl d];simp only[cond_true,Act.put];rw[show(a.tmps.setIfInBounds d v).getD d undef=v by simp[R.nt,hlt]];exact hv
     . rw[show Nat.beq d t=false from by cases hb:Nat.beq d t with|false=>rfl|true=>exact absurd (cb hb) hdt];simp only[cond_false,Act.put];rw[show(a.tmps.setIfInBounds d v).getD t undef=a.tmps.getD t undef by simp[hdt]];exact uM A (R.tm t)

structure Good(C:Ctx):Prop where
 ti:∀t,lp C.P t (C.ti t)
 mt:∀t m f,C.mt t m f->∀(v:Value) (w:World),(method (C.P.types.size+Made.depth) t v m).run C.P w=.ok (f,v) w
 hm:C.P.follows .mixedOrders=true

def aD(C:Ctx) (E:Env) (st:St) (g:aw) (s:AS) (a:Act) (w:World) (o:Oper) (e:Ef):Prop:=
 ∀(next:Act->World->Prop) (Q:Exit->Act->World->Prop),(∀st' g' w' v,jS E st g s.sg.length st' g' (s.app o.dst e).sg.length e.ks->aO E st' g' (s.app o.dst e).sg w'->
  VR st' g' e.v (s.app o.dst e).sg.length v->next (a.put o.dst v) w')->o.wp C.P a w next Q

section
variable {C:Ctx} {E:Env} {st:St} {g:aw} {s:AS} {a:Act} {w:World} {o:Oper}

theorem aD.val{e:Ef} (v:Value) (w':World) (st':St) (g':aw) (hr:(execOp a.eval o).run C.P w=.ok (.value v) w')
   (A:jS E st g s.sg.length st' g' (s.app o.dst e).sg.length e.ks) (W:aO E st' g' (s.app o.dst e).sg w') (hv:VR st' g' e.v (s.app o.dst e).sg.length v):aD C E st g s a w o e:=by
 intro next Q h
 unfold Oper.wp;rw[hr];exact h st' g' w' v A W hv

theorem aD.skip{e:Ef} (w':World) (st':St) (g':aw) (hr:(execOp a.eval o).run C.P w=.ok .skip w')
   (A:jS E st g s.sg.length st' g' (s.app o.dst e).sg.length e.ks) (W:aO E st' g' (s.app o.dst e).sg w') (hv:VR st' g' e.v (s.app o.dst e).sg.length undef):aD C E st g s a w o e:=by
 intro next Q h
 unfold Oper.wp;rw[hr];exact h st' g' w' undef A W hv

theorem j7(s:AS) (d:Option Nat) (x:V):(s.app d (pe x)).sg=s.sg:=by simp[AS.app,pe,gY,dk,jC]
theorem pc(s:AS) (d:Option Nat) (x:V) (rd:List Nat):(s.app d ⟨x,[],[],[],rd⟩).sg=s.sg:=by simp[AS.app,gY,dk,jC]

theorem aD.pure{x:V} {rd:List Nat} (R:Rel E st g s a w) (v:Value) (w':World) (hr:(execOp a.eval o).run C.P w=.ok (.value v) w') (hw:aY w w') (hv:VR st g x s.sg.length v):
   aD C E st g s a w o ⟨x,[],[],[],rd⟩:=by
 refine aD.val v w' st g hr ⟨fun _ _ _ h=>h,fun _ _ _=>rfl,?_⟩ ?_ ?_
 . rw[pc];exact co _
 . rw[pc];exact R.wr.same hw
 . rw[pc];exact hv
end
end Go.VG
namespace Go.VG
open Go

section
variable {C:Ctx} {E:Env} {st:St} {g:aw} {s:AS} {a:Act} {w:World} {o:Oper} {e:Ef}

theorem pb(s:AS) (d:Option Nat) (x:V) (rd:List Nat) (ob:O):(s.app d ⟨x,[],[],[ob],rd⟩).sg=s.sg++[ob]:=by simp[AS.app,gY,dk,jC]

theorem aD.new{x:V} {rd:List Nat} {ob:O} (R:Rel E st g s a w) (v:Value) (w1:World) (hw:aY w w1) (gi:Gh) (oj:Obj)
   (hr:(execOp a.eval o).run C.P w=.ok (.value v) (w1.alloc oj)) (hb:∀b,gi.blk=some b->b=w1.heap.size)
   (ho:dK E st (br g s.sg.length gi) (s.sg.length+1) (w1.alloc oj) gi ob)
   (hv:VR st (br g s.sg.length gi) x (s.sg.length+1) v):aD C E st g s a w o ⟨x,[],[],[ob],rd⟩:=by
 refine aD.val v _ st (br g s.sg.length gi) hr ⟨fun _ _ _ h=>h,fun i hi _=>cI (Nat.ne_of_lt hi),?_⟩ ?_ ?_
 . rw[pb];simp
 . rw[pb];exact(R.wr.same hw).O2 oj gi ob hb ho
 . rw[pb];simpa using hv

theorem aD.Li{rd:List Nat} {cs:List V} (R:Rel E st g s a w) (vs:Array Value) (el:TypeId)
   (hr:(execOp a.eval o).run C.P w=.ok (.value (.pointer (some ⟨w.heap.size,0,none⟩))) (w.alloc (.cells vs el))) (hc:aE st g cs s.sg.length vs.toList):
   aD C E st g s a w o ⟨.ptr s.sg.length 0,[],[],[.cells cs],rd⟩:=by
 refine aD.new R _ w (aY.refl w) ⟨some w.heap.size,none,0,0,0⟩ _ hr (by simp) ?_ ?_
 . refine⟨w.heap.size,vs,el,(0,0),rfl,R.wr.gnew _ R.wr.size,heap_alloc_new,?_,⟨by simp,by intro o _;simp⟩,R.wr.ml⟩;exact kE (fun _ _ _ h=>h) (fun i _ hi=>⟨by omega,cI (Nat.ne_of_lt hi)⟩) hc
 . simp only[VR];exact⟨by omega,w.heap.size,by simp,rfl⟩

def aa{α:Type} (p:α->Prop) (t:Tr α):Prop:=∀e,t (fun b=>b=e)->p e
section
variable {α β:Type} {p:α->Prop}
theorem aa.ret{x:α} (h:p x):aa p (ret x):=by rintro _ ⟨⟩;exact h
theorem aa.fail:aa p fail:=fun _ h=>h.elim
theorem aa.aR{A:Prop} {t:Tr α} (h:A->aa p t):aa p (aR A t):=fun e he=>h he.1 e he.2
theorem aa.when{b:Bool} {t:Tr α} (h:b=true->aa p t):aa p (bE b t):=fun e he=>by
 cases b with
 |false=>exact he.elim
 |true=>exact h rfl e he
theorem aa.opt{x:Option β} {f:β->Tr α} (h:∀y,x=some y->aa p (f y)):aa p (ey x f):=fun e he=>by
 cases x with
 |none=>exact he.elim
 |some y=>exact h y rfl e he
theorem aa.dS{b:Bool} {t u:Tr α} (ht:b=true->aa p t) (hu:b=false->aa p u):aa p (mF b t u):=fun e he=>by
 cases b with
 |false=>exact hu rfl e he
 |true=>exact ht rfl e he
theorem aa.fW{x:Option β} {f:β->Tr α} {u:Tr α} (h:∀y,x=some y->aa p (f y)) (hu:x=none->aa p u):aa p (fW x f u):=fun e he=>by
 cases hx:x with
 |none=>exact hu hx e (he.2 hx)
 |some y=>exact h y hx e (he.1 y hx)
theorem aa.ex{f:β->Tr α} (h:∀y,aa p (f y)):aa p (tc f):=fun e ⟨y,he⟩=>h y e he
theorem aa.bind{t:Tr β} {f:β->Tr α} (ht:av t) (h:∀y,(∀K:β->Prop,K y->t K)->aa p (f y)):aa p (fy t f):=fun e he=>by
 obtain⟨y,h1,h2⟩:=ht _ he;exact h y h2 e h1
end
abbrev cz(C:Ctx) (E:Env) (st:St) (g:aw) (s:AS) (a:Act) (w:World) (o:Oper) (t:Tr Ef):Prop:=aa (aD C E st g s a w o) t

theorem Me{x:Operand} (R:Rel E st g s a w) (hg:aV C.gl st) (ho:o.op=.move x\/o.op=.assign x):cz C E st g s a w o (force (s.ev C x) fun x=>ret (pe x)):=by
 rw[force_eq];exact aa.ret (aD.pure R (a.eval x) w (by rcases ho with ho|ho<;>simp[execOp,ho]) (aY.refl w) (bn R hg x))

theorem XN{c x y:Operand} (R:Rel E st g s a w) (hg:aV C.gl st) (ho:o.op=.pick c x y):cz C E st g s a w o (vw C s c x y):=by
 unfold vw;have hc:=bn R hg c;split
 . rename_i t ht;rw[ht] at hc;simp only[VR] at hc;simp only[force_eq];have hx:=bn R hg x;have hy:=bn R hg y;have hr:(execOp a.eval o).run C.P w=.ok (.value (if t then a.eval x else a.eval y)) w:=by simp[execOp,ho,hc,asBool]
   split
   . rename_i bx bY h1 h2;refine aa.ret (aD.pure R _ w hr (aY.refl w) ?_);rw[h1] at hx;rw[h2] at hy;cases t
     . simpa[VR] using hy
     . simpa[VR] using hx
   . refine aa.dS (fun h=>?_) (fun h=>?_)
     . subst h;exact aa.ret (aD.pure R _ w hr (aY.refl w) (by simpa using hx))
     . subst h;exact aa.ret (aD.pure R _ w hr (aY.refl w) (by simpa using hy))
 . exact aa.fail

theorem Md{t:TypeId} (R:Rel E st g s a w) (G:Good C) (ho:o.op=.alloc t):cz C E st g s a w o (nh C s t):=by
 unfold nh;split
 . exact aa.fail
 . rename_i hk;simp only[force_eq,dN];refine aa.when fun hu=>aa.ret ?_;obtain⟨z,hz,hz'⟩:=zt w (G.ti t) (fun h=>hk h);refine aD.Li R z.cells t ?_ (jU (hz' st g _) (by simpa using hu));simp[execOp,ho,Instr.alloc,hz,newVar,newRow]

theorem s_box{t:TypeId} {x:Operand} (R:Rel E st g s a w) (hg:aV C.gl st) (ho:o.op=.box t x):
   cz C E st g s a w o (force (s.ev C x) fun x=>dh s.sg.length fun n=>bE (!x.eX) (ret ⟨.ptr n 0,[],[],[.cells x.cells],[]⟩)):=by
 simp only[force_eq,dN];refine aa.when fun hu=>aa.ret ?_;refine aD.Li R (a.eval x).cells t ?_ (jU (bn R hg x) (by simpa using hu));simp[execOp,ho,Instr.box,newVar,newRow]

theorem LG{agg:Bool} {size off:Nat} {cs:List V} {v:V} (h:∀K:V->Prop,K v->kn agg size cs off K):
   (agg=true/\(size=0\/off+size<=cs.length)/\v=.agg ((cs.drop off).take size))\/(agg=false/\cs[off]?=some v):=by
 have h:=h (fun x=>x=v) rfl;unfold kn at h;cases agg
 . cases hr:m6 cs off with
   |none=>simp only[ey,hr,hJ] at h
   |some r=>
     simp only[ey,hr,hJ] at h;rw[y9] at hr;cases h;exact .inr ⟨rfl,hr⟩
 . cases hr:jv (kP cs off) size with
   |none=>simp only[ey,hr,hJ] at h
   |some r=>
     simp only[ey,hr,hJ] at h;obtain⟨h1,h2⟩:=AD hr;rw[vb] at h1 h2;subst h1;cases h;simp only[fo] at h2;exact .inl ⟨rfl,by omega,rfl⟩

theorem zr{t:TypeId} {b o:Nat} {cs:List V} {vs:List Value} {v:V} {n:Nat} (G:Good C) (hk:(C.ti t).k≠.other) (hc:aE st g cs n vs)
   (hw:∀j,j<vs.length->w.cell? ⟨b,o+j,none⟩=vs[j]?) {off:Nat} (h:∀K:V->Prop,K v->kn (C.ti t).k.isAgg (C.ti t).size cs off K):
   ∃u,(loadVar t ⟨b,o+off,none⟩).run C.P w=.ok u w/\VR st g v n u:=by
 rcases LG h with ⟨h1,h2,rfl⟩|⟨h1,h2⟩
 . have hl:=eJ hc;have hlen:(C.ti t).size=((vs.drop off).take (C.ti t).size).length:=by simp;omega
   refine⟨.agg ((vs.drop off).take (C.ti t).size).toArray,?_,?_⟩
   . have:=run_loadCells_list (P:=C.P) w ⟨b,o+off,none⟩ ((vs.drop off).take (C.ti t).size) (fun j v hj=>by
       rw[Addr.add_lit];rw[List.getElem?_take] at hj;split at hj
       . rw[List.getElem?_drop] at hj;have hlt:off+j<vs.length:=by
          rcases eg (off+j) vs.length with h'|h'
          . exact h'
          . simp[dl h'] at hj
         have:=hw (off+j) hlt;rw[hj] at this;rw[Nat.add_assoc];exact this
       . cases hj)
     rw[<-hlen] at this;simp[loadVar,zo w (G.ti t) hk,h1,fY w (G.ti t) hk,this]
   . simp only[VR];exact⟨_,rfl,by simpa using uS (uP hc)⟩
 . obtain⟨u,h3,h4⟩:=jA hc h2;have hlt:off<vs.length:=by
    rcases eg off vs.length with h'|h'
    . exact h'
    . simp[dl h'] at h3
   refine⟨u,?_,h4⟩;have:=hw off hlt;rw[h3] at this;simp[loadVar,zo w (G.ti t) hk,h1,this]

theorem Mc{t:TypeId} {cs:List V} {vs:Array Value} {v:V} {n off:Nat} (G:Good C) (hk:(C.ti t).k≠.other) (hc:aE st g cs n vs.toList)
   (h:∀K:V->Prop,K v->kn (C.ti t).k.isAgg (C.ti t).size cs off K):∃u,(part t vs off).run C.P w=.ok u w/\VR st g v n u:=by
 rcases LG h with ⟨h1,h2,rfl⟩|⟨h1,h2⟩
 . refine⟨.agg (vs.extract off (off+(C.ti t).size)),?_,?_⟩
   . simp[part,zo w (G.ti t) hk,h1,fY w (G.ti t) hk]
   . simp only[VR];refine⟨_,rfl,?_⟩;rw[Array.toList_extract,List.extract_eq_take_drop];simpa using uS (uP hc)
 . obtain⟨u,h3,h4⟩:=jA hc h2;refine⟨u,?_,h4⟩;have h3':vs[off]?=some u:=by simpa using h3
   simp[part,zo w (G.ti t) hk,h1,h3']

theorem xL{E:Env} {sg:List O} (W:aO E st g sg w) {i:Nat} {cs:List V} (hi:sg[i]?=some (.cells cs)):∃b c el fr,(g i).blk=some b/\E.G b/\w.heap[b]?=some (.cells c el fr)/\aE st g cs sg.length c.toList/\px c fr/\∀o,st b o=none:=
 W.ob i _ hi

theorem XB{t:TypeId} {x:Operand} (R:Rel E st g s a w) (hg:aV C.gl st) (G:Good C) (ho:o.op=.load t x):cz C E st g s a w o (po C s t x):=by
 unfold po;simp only[mL];split
 . exact aa.fail
 rename_i hk;have hk:(C.ti t).k≠.other:=fun h=>hk h;have hx:=bn R hg x;split
 . rename_i cs off he;rw[he] at hx;simp only[VR] at hx;obtain⟨b,of,vs,h1,h2,h3⟩:=hx;refine aa.bind (mT _ _ _ _) fun v hv=>?_;rw[force_eq];have hcell:∀j,j<vs.length->w.cell? ⟨b,of+j,none⟩=vs[j]?:=fun j hj=>by
    have h4:=h3 j hj;rw[am hj] at h4⊢;exact R.wr.stw _ _ _ h4
   obtain⟨u,h5,h6⟩:=zr (w:=w) (b:=b) (o:=of) G hk h2 hcell hv;refine aa.ret (aD.pure R u w ?_ (aY.refl w) (gw (fun _ _ _ h=>h) (fun i _ hi=>absurd hi (Nat.not_lt_zero _)) h6));simp[execOp,ho,Instr.loadAt,h1,Instr.sureAddr,h5]
 . rename_i i off he;rw[he] at hx;simp only[VR] at hx;obtain⟨hi,b,hb,h1⟩:=hx;split
   . rename_i cs hs;obtain⟨hs1,_⟩:=eU hs (by simp);obtain⟨b',c,el,fr,k1,k2,k3,k4,k5,k6⟩:=xL R.wr hs1;rw[hb] at k1;cases k1;refine aa.bind (mT _ _ _ _) fun v hv=>?_;rw[force_eq];have hcell:∀j,j<c.toList.length->w.cell? ⟨b,0+j,none⟩=c.toList[j]?:=fun j hj=>by rw[gS k3];simp
     obtain⟨u,h5,h6⟩:=zr (w:=w) (b:=b) (o:=0) G hk k4 hcell hv;refine aa.ret (aD.pure R u w ?_ (aY.refl w) h6);rw[Nat.zero_add] at h5;simp[execOp,ho,Instr.loadAt,h1,Instr.sureAddr,h5]
   . exact aa.fail
 . rename_i i idx off he;rw[he] at hx;simp only[VR] at hx;obtain⟨hi,b,hb,h1⟩:=hx;split
   . rename_i sz pre l hs;obtain⟨hs1,_⟩:=eU hs (by simp);obtain⟨q1,q2,q3,q4,q5,q6,q7⟩:=R.wr.ob i _ hs1;refine aa.opt fun y hy=>aa.when fun hu=>aa.bind (mT _ _ _ _) fun v hv=>?_;rw[force_eq];rcases q7 with ⟨_,q7⟩|⟨b',c,el,fr,k1,k2,k3,k4,k5,k6,_⟩
     . rw[hb] at q7;cases q7
     . rw[hb] at k1;cases k1;obtain⟨u,r1,r2,r3,r4⟩:=gO.1 k6 idx y hy;have r5:=jU r1 (by simpa using hu);have hcell:∀j,j<u.cells.toList.length->w.cell? ⟨b,idx*sz+j,none⟩=u.cells.toList[j]?:=fun j hj=>by
        rw[gS k4];have:=r4 j (by rw[<-r2];simpa using hj);rw[Nat.zero_add] at this;simpa using this
       obtain⟨u',h5,h6⟩:=zr (w:=w) (b:=b) (o:=idx*sz) G hk r5 hcell hv;refine aa.ret (aD.pure R u' w ?_ (aY.refl w) (gw (fun _ _ _ h=>h) (fun i _ hi=>absurd hi (Nat.not_lt_zero _)) h6));rw[q2] at h1;simp[execOp,ho,Instr.loadAt,h1,Instr.sureAddr,h5]
   . exact aa.fail
 . exact aa.fail

theorem XM{x:Operand} (R:Rel E st g s a w) (hg:aV C.gl st) (ho:o.op=.nilCheck x):cz C E st g s a w o (qO C s x):=by
 unfold qO;have hx:=bn R hg x;split;all_goals first
  |exact aa.fail
  |skip
 all_goals
  rename_i he;rw[he] at hx;have hx':=hx;simp only[VR] at hx
 . obtain⟨_,b,_,h1⟩:=hx;exact aa.ret (aD.pure R (a.eval x) w (by simp[execOp,ho,h1]) (aY.refl w) hx')
 . obtain⟨_,b,_,h1⟩:=hx;exact aa.ret (aD.pure R (a.eval x) w (by simp[execOp,ho,h1]) (aY.refl w) hx')
 . obtain⟨b,_,_,h1,_⟩:=hx;exact aa.ret (aD.pure R (a.eval x) w (by simp[execOp,ho,h1]) (aY.refl w) hx')
 . obtain⟨b,_,h1,_⟩:=hx;exact aa.ret (aD.pure R (a.eval x) w (by simp[execOp,ho,h1]) (aY.refl w) hx')
 . obtain⟨b,h1,_⟩:=hx;exact aa.ret (aD.pure R (a.eval x) w (by simp[execOp,ho,h1]) (aY.refl w) hx')

theorem XE{t:TypeId} {x:Operand} (R:Rel E st g s a w) (hg:aV C.gl st) (G:Good C) (ho:o.op=.makeInterface t x):cz C E st g s a w o (vv C s t x):=by
 unfold vv;split
 . exact aa.fail
 . exact aa.fail
 . rename_i h1 h2;rw[force_eq];refine aa.when fun hu=>aa.ret ?_;refine aD.pure R (.iface t (a.eval x)) w ?_ (aY.refl w) (by simp only[VR];exact⟨_,rfl,bn R hg x⟩);obtain⟨h3,_⟩:=(G.ti t).of (fun h=>h1 h);cases hk':(C.ti t).k<;>rw[hk'] at h3<;>simp only[TK.ok] at h3
   case struct fs=>obtain⟨f,h3,_⟩:=h3;simp[execOp,ho,Instr.makeInterface,run_underlying h3]
   case iface=>exact absurd hk' (fun h=>h2 h)
   case func=>obtain⟨p,q,r,h3⟩:=h3;simp[execOp,ho,Instr.makeInterface,run_underlying h3]
   all_goals simp[execOp,ho,Instr.makeInterface,run_underlying h3]

theorem XD{fn:Fn} {xs ys:Array Operand} (R:Rel E st g s a w) (hg:aV C.gl st) (ho:o.op=.makeFunc fn xs ys):
   cz C E st g s a w o (pB (s.aG C xs.toList) fun a=>pB (s.aG C ys.toList) fun b=>ret (pe (.func fn a b))):=by
 simp only[tp];refine aa.ret (aD.pure R (.func fn (xs.map a.eval) (ys.map a.eval)) w (by simp[execOp,ho,Instr.makeFunc]) (aY.refl w) ?_);simp only[VR];exact⟨_,_,rfl,by simpa using tb R hg xs.toList,by simpa using tb R hg ys.toList⟩

theorem Xu{x:Operand} {i:Nat} (R:Rel E st g s a w) (hg:aV C.gl st) (ho:o.op=.extract x i):cz C E st g s a w o (vt C s x i):=by
 unfold vt;have hx:=bn R hg x;split
 . rename_i vs he;rw[he] at hx;simp only[VR] at hx;obtain⟨us,h1,h2⟩:=hx;refine aa.opt fun v hv=>?_;rw[force_eq];rw[y9] at hv;obtain⟨u,h3,h4⟩:=jA h2 hv;have h3':us[i]?=some u:=by simpa using h3
   exact aa.ret (aD.pure R u w (by simp[execOp,ho,h1,Instr.extract,h3']) (aY.refl w) h4)
 . exact aa.fail

theorem IW:∀{fs:List (Nat×TypeId)} {i:Nat} {x:Nat×TypeId},nr fs i=some x->fs[i]?=some x
 |[],i,x,h=>by simp[nr] at h
 |y::ys,0,x,h=>by simpa[nr] using h
 |y::ys,i+1,x,h=>by simpa[nr] using IW (fs:=ys) (by simpa[nr] using h)
theorem BO{fields:Array Field} {fs:List (Nat×TypeId)} (h:fields.toList.map (fun f=>(f.offset,f.type)) =fs) {i:Nat} {x:Nat×TypeId} (hx:nr fs i=some x):
   ∃f,fields[i]?=some f/\f.offset=x.1/\f.type=x.2:=by
 have:=IW hx;rw[<-h,List.getElem?_map] at this;cases hf:fields.toList[i]? with
 |none=>rw[hf] at this;cases this
 |some f=>rw[hf] at this;cases this;exact⟨f,by simpa using hf,rfl,rfl⟩

theorem Xv{t:TypeId} {x:Operand} {f:Nat} (R:Rel E st g s a w) (hg:aV C.gl st) (G:Good C) (ho:o.op=.field t x f):cz C E st g s a w o (qG C s t x f):=by
 unfold qG;have hx:=bn R hg x;split
 . rename_i fs cs hk he;rw[he] at hx;simp only[VR] at hx;obtain⟨us,h1,h2⟩:=hx;obtain⟨h3,_⟩:=(G.ti t).of (by rw[hk];simp);rw[hk] at h3;obtain⟨fields,h3,h4,_⟩:=h3;refine aa.opt fun ft hft=>?_;split
   . exact aa.fail
   rename_i hk2;refine aa.bind (mT _ _ _ _) fun v hv=>?_;rw[force_eq];obtain⟨fd,h5,h6,h7⟩:=BO h4 hft;obtain⟨u,h8,h9⟩:=Mc (w:=w) G (fun h=>hk2 h) h2 hv;refine aa.ret (aD.pure R u w ?_ (aY.refl w) h9);simp[execOp,ho,Instr.field,run_underlying h3,h5,h1,asAgg,h6,h7,h8]
 . exact aa.fail

theorem Xw{t:TypeId} {x:Operand} {f:Nat} (R:Rel E st g s a w) (hg:aV C.gl st) (G:Good C) (ho:o.op=.fieldAddr t x f):cz C E st g s a w o (qH C s t x f):=by
 unfold qH;have hx:=bn R hg x;split
 . rename_i fs hk;obtain⟨h3,_⟩:=(G.ti t).of (by rw[hk];simp);rw[hk] at h3;obtain⟨fields,h3,h4,_⟩:=h3;refine aa.opt fun ft hft=>?_;split
   . exact aa.fail
   rename_i hk2;refine aa.when fun hsz=>?_;obtain⟨fd,h5,h6,h7⟩:=BO h4 hft;have hsz':=d9 hsz;have hs0:¬(C.ti fd.type).size=0:=by rw[h7];omega
   have hrs:=fY w (G.ti fd.type) (by rw[h7];exact fun h=>hk2 h);have hr:∀ad:Addr,a.eval x=.pointer (some ad)->(execOp a.eval o).run C.P w=.ok (.value (.pointer (some (ad.add ft.1)))) w:=fun ad had=>by
    simp[execOp,ho,Instr.fieldAt,run_underlying h3,h5,had,Instr.sureAddr,fieldPlace,hrs,hs0,h6]
   split
   . rename_i i off he;rw[he] at hx;simp only[VR] at hx;obtain⟨hi,b,hb,h1⟩:=hx;rw[dN];refine aa.ret (aD.pure R _ w (hr _ h1) (aY.refl w) ?_);simp only[VR];exact⟨hi,b,hb,by rw[Addr.add_lit]⟩
   . rename_i i j off he;rw[he] at hx;simp only[VR] at hx;obtain⟨hi,b,hb,h1⟩:=hx;rw[dN];refine aa.ret (aD.pure R _ w (hr _ h1) (aY.refl w) ?_);simp only[VR];exact⟨hi,b,hb,by rw[Addr.add_lit,Nat.add_assoc]⟩
   . rename_i cs off he;rw[he] at hx;simp only[VR] at hx;obtain⟨b,of,vs,h1,h2,h8⟩:=hx;rw[dN];refine aa.ret (aD.pure R _ w (hr _ h1) (aY.refl w) ?_);simp only[VR];exact⟨b,of,vs,by rw[Addr.add_lit,Nat.add_assoc],h2,h8⟩
   . exact aa.fail
 . exact aa.fail
end
end Go.VG
