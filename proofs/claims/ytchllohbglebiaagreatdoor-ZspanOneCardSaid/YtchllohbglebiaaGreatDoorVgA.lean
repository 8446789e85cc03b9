/-
  A part of the proof.
-/
import Derived.WalkKit
import Derived.RangeFuncSeq
import Derived.RangeFuncLeaves
import Derived.TacticsIn
set_option linter.unusedSimpArgs false
set_option linter.unusedVariables false
namespace Go.VG
open Go
set_option linter.defProp false
def ac:=@List.getD_eq_getElem?_getD
def am:=@List.getElem?_eq_getElem
def an:=@List.length_append
def zza:=@Bool.and_eq_true
def aA:=@List.length_map
def aB:=@Nat.eq_of_beq_eq_true
def bu:=@Nat.zero_le
def cb:=@Nat.le_refl
def ci:=@List.getElem?_eq_none
def co:=@List.eq_nil_of_length_eq_zero
def dl:=@List.getElem?_append_left
def dt:=@List.getElem?_append_right
def d5:=@List.mem_cons_of_mem
def d6:=@Nat.le_of_ble_eq_true
def d7:=@Nat.lt_or_ge
def d8:=@List.length_take
def d9:=@List.length_drop
def eg:=@List.append_assoc
def eo:=@List.take_of_length_le
def fo:=@List.map_append
def gc:=@List.length_singleton
def gg:=@Nat.mul_le_mul_right
def gt:=@List.getElem?_eq_some_iff
abbrev gA:=List UInt8

inductive V where
 |undef
 |int (k:IntKind) (n:Int)
 |bool (b:Bool)
 |str (s:gA)
 |agg (cs:List V)
 |tuple (vs:List V)
 |list (clip:Bool) (sz:Nat) (l:List V)
 |nilptr
 |box (cs:List V) (off:Nat)
 |ptr (i off:Nat)
 |bptr (i idx off:Nat)
 |view (i off n:Nat)
 |buf (i:Nat)
 |iface (t:TypeId) (v:V)
 |nilIface
 |func (fn:Fn) (first captured:List V)
 |nilFunc
 |map (i:Nat)
 |nilmap

instance:Inhabited V:=⟨.undef⟩

def V.cells:V->List V
 |.agg cs=>cs
 |x=>[x]

abbrev St:=Nat->Nat->Option Value
structure Gh where
 blk:Option Nat
 base:Option Addr
 len:Nat
 cap:Nat
 sz:Nat
abbrev au:=Nat->Gh

mutual
def VR(st:St) (g:au):V->Nat->Value->Prop
 |.undef,_,_=>True
 |.int k m,_,v=>v=.int k m/\k.min<=m/\m<=k.max
 |.bool b,_,v=>v=.bool b
 |.str s,_,v=>v=.string ⟨s.toArray⟩/\s.length<=maxLen
 |.agg cs,n,v=>∃vs,v=.agg vs/\aC st g cs n vs.toList
 |.tuple cs,n,v=>∃vs,v=.tuple vs/\aC st g cs n vs.toList
 |.list clip sz l,_,v=>∃base cap,v=.slice base l.length cap/\l.length<=cap/\l.length<=maxLen/\(clip=true->cap=l.length)/\
  (l=[]\/∃b o,base=some ⟨b,o,none⟩/\0<sz/\cn st g l sz (st b) o)
 |.nilptr,_,v=>v=.pointer none
 |.box cs off,_,v=>∃b o vs,v=.pointer (some ⟨b,o+off,none⟩)/\aC st g cs 0 vs/\∀j,j<vs.length->st b (o+j) =vs[j]?
 |.ptr i off,n,v=>i<n/\∃b,(g i).blk=some b/\v=.pointer (some ⟨b,off,none⟩)
 |.bptr i idx off,n,v=>i<n/\∃b,(g i).blk=some b/\v=.pointer (some ⟨b,idx*(g i).sz+off,none⟩)
 |.view i off m,n,v=>i<n/\∃b,(g i).blk=some b/\∃of cap,(m=0\/of=off)/\v=.slice (some ⟨b,of,none⟩) m cap
 |.buf i,n,v=>i<n/\v=.slice (g i).base (g i).len (g i).cap
 |.iface t x,n,v=>∃u,v=.iface t u/\VR st g x n u
 |.nilIface,_,v=>v=.nilIface
 |.func fn fs cs,n,v=>∃a b,v=.func fn a b/\aC st g fs n a.toList/\aC st g cs n b.toList
 |.nilFunc,_,v=>v=.nilFunc
 |.map i,n,v=>i<n/\∃b,(g i).blk=some b/\v=.map (some b)
 |.nilmap,_,v=>v=.map none
def aC(st:St) (g:au):List V->Nat->List Value->Prop
 |[],_,vs=>vs=[]
 |c::cs,n,vs=>∃u us,vs=u::us/\VR st g c n u/\aC st g cs n us
def cn(st:St) (g:au):List V->Nat->(Nat->Option Value)->Nat->Prop
 |[],_,_,_=>True
 |x::xs,sz,look,o=>(∃u,VR st g x 0 u/\u.cells.size=sz/\(∀v∈u.cells.toList,v.oneCell'=true)/\∀j,j<sz->look (o+j) =u.cells[j]?)/\cn st g xs sz look (o+sz)
end


theorem jR{st:St} {g:au} {n:Nat}:∀{cs:List V} {vs:List Value},aC st g cs n vs↔cs.length=vs.length/\∀(i:Nat) (c:V) (v:Value),cs[i]?=some c->vs[i]?=some v->VR st g c n v
 |[],vs=>by
   simp only[aC];constructor
   . rintro rfl;simp
   . rintro⟨h,_⟩;cases vs with
     |nil=>rfl
     |cons a b=>simp at h
 |c::cs,vs=>by
   simp only[aC];constructor
   . rintro⟨u,us,rfl,h1,h2⟩;obtain⟨hl,hh⟩:=jR.1 h2;refine⟨by simp[hl],?_⟩;intro i c' v h3 h4;cases i with
     |zero=>simp at h3 h4;subst h3;subst h4;exact h1
     |succ i=>simp at h3 h4;exact hh i c' v h3 h4
   . rintro⟨hl,hh⟩;cases vs with
     |nil=>simp at hl
     |cons u us=>
       refine⟨u,us,rfl,hh 0 c u rfl rfl,jR.2 ⟨by simpa using hl,?_⟩⟩;intro i c' v h3 h4;exact hh (i+1) c' v (by simpa using h3) (by simpa using h4)

theorem eN{st:St} {g:au} {n:Nat} {cs:List V} {vs:List Value} (h:aC st g cs n vs):cs.length=vs.length:=(jR.1 h).1

theorem jQ{st:St} {g:au} {n:Nat} {cs:List V} {vs:List Value} (h:aC st g cs n vs) {i:Nat} {c:V} (hc:cs[i]?=some c):
   ∃v,vs[i]?=some v/\VR st g c n v:=by
 obtain⟨hl,hh⟩:=jR.1 h;have hi:i<cs.length:=by
  rcases d7 i cs.length with h'|h'
  . exact h'
  . simp[ci h'] at hc
 have hv:vs[i]?=some (vs[i]'(by omega)):=am (by omega);exact⟨_,hv,hh i c _ hc hv⟩

theorem dM{st:St} {g:au} {n:Nat}:aC st g [] n []:=by simp[aC]
theorem cy{st:St} {g:au} {n:Nat} {c:V} {cs:List V} {v:Value} {vs:List Value} (h:VR st g c n v) (hs:aC st g cs n vs):aC st g (c::cs) n (v::vs):=by
 simp only[aC];exact⟨v,vs,rfl,h,hs⟩

theorem vG{st:St} {g:au} {n k:Nat} {cs:List V} {vs:List Value} (h:aC st g cs n vs):aC st g (cs.take k) n (vs.take k):=by
 obtain⟨hl,hh⟩:=jR.1 h;refine jR.2 ⟨by simp[hl],fun i c v h1 h2=>?_⟩;rw[List.getElem?_take] at h1 h2;split at h1
 . rename_i hlt;rw[if_pos hlt] at h2;exact hh i c v h1 h2
 . cases h1

theorem vD{st:St} {g:au} {n k:Nat} {cs:List V} {vs:List Value} (h:aC st g cs n vs):aC st g (cs.drop k) n (vs.drop k):=by
 obtain⟨hl,hh⟩:=jR.1 h;refine jR.2 ⟨by simp[hl],fun i c v h1 h2=>?_⟩;rw[List.getElem?_drop] at h1 h2;exact hh _ c v h1 h2

theorem tb{st:St} {g:au} {n:Nat} {cs ds:List V} {vs us:List Value} (h:aC st g cs n vs) (k:aC st g ds n us):aC st g (cs++ds) n (vs++us):=by
 obtain⟨hl,hh⟩:=jR.1 h;obtain⟨kl,kk⟩:=jR.1 k;refine jR.2 ⟨by simp[hl,kl],fun i c v h1 h2=>?_⟩;rcases d7 i cs.length with hlt|hge
 . rw[dl hlt] at h1;rw[dl (by omega)] at h2;exact hh i c v h1 h2
 . rw[dt hge] at h1;rw[dt (by omega),<-hl] at h2;exact kk _ c v h1 h2

theorem gV{st:St} {g:au} {sz:Nat} {look:Nat->Option Value}:∀{l:List V} {o:Nat},cn st g l sz look o↔
   ∀(i:Nat) (x:V),l[i]?=some x->∃u,VR st g x 0 u/\u.cells.size=sz/\(∀v∈u.cells.toList,v.oneCell'=true)/\∀j,j<sz->look (o+i*sz+j) =u.cells[j]?
 |[],o=>by simp[cn]
 |x::xs,o=>by
   simp only[cn];constructor
   . rintro⟨h1,h2⟩ i y hy;cases i with
     |zero=>simp at hy;subst hy;simpa using h1
     |succ i=>
       simp at hy;obtain⟨u,a,b,d,c⟩:=gV.1 h2 i y hy;refine⟨u,a,b,d,fun j hj=>?_⟩;rw[<-c j hj]
       congr 1
       rw[Nat.add_mul];omega
   . intro h;refine⟨by simpa using h 0 x rfl,gV.2 fun i y hy=>?_⟩;obtain⟨u,a,b,d,c⟩:=h (i+1) y (by simpa using hy);refine⟨u,a,b,d,fun j hj=>?_⟩;rw[<-c j hj]
     congr 1
     rw[Nat.add_mul];omega

mutual
def V.has(i:Nat):V->Bool
 |.ptr j _|.bptr j _ _|.view j _ _|.buf j|.map j=>Nat.beq i j
 |.agg cs|.tuple cs=>V.iF i cs
 |.iface _ x=>V.has i x
 |.func _ fs cs=>V.iF i fs||V.iF i cs
 |_=>false
def V.iF(i:Nat):List V->Bool
 |[]=>false
 |c::cs=>V.has i c||V.iF i cs
end
mutual
def V.il(m:Nat):V->Bool
 |.ptr j _|.bptr j _ _|.view j _ _|.buf j|.map j=>Nat.blt j m
 |.agg cs|.tuple cs=>V.oC m cs
 |.iface _ x=>V.il m x
 |.func _ fs cs=>V.oC m fs&&V.oC m cs
 |_=>true
def V.oC(m:Nat):List V->Bool
 |[]=>true
 |c::cs=>V.il m c&&V.oC m cs
end
def aH(i:Nat):List Nat->Bool
 |[]=>false
 |k::ks=>Nat.beq i k||aH i ks
mutual
def V.kill(ks:List Nat):V->V
 |.ptr j o=>cond (aH j ks) .undef (.ptr j o)
 |.bptr j a b=>cond (aH j ks) .undef (.bptr j a b)
 |.view j a b=>cond (aH j ks) .undef (.view j a b)
 |.buf j=>cond (aH j ks) .undef (.buf j)
 |.map j=>cond (aH j ks) .undef (.map j)
 |.agg cs=>.agg (V.dE ks cs)
 |.tuple cs=>.tuple (V.dE ks cs)
 |.iface t x=>.iface t (V.kill ks x)
 |.func f fs cs=>.func f (V.dE ks fs) (V.dE ks cs)
 |.undef=>.undef|.int k n=>.int k n|.bool b=>.bool b|.str s=>.str s|.list c z l=>.list c z l
 |.nilptr=>.nilptr|.box cs o=>.box cs o|.nilIface=>.nilIface|.nilFunc=>.nilFunc|.nilmap=>.nilmap
def V.dE(ks:List Nat):List V->List V
 |[]=>[]
 |c::cs=>V.kill ks c::V.dE ks cs
end

mutual
theorem rY{m:Nat}:∀{x:V} {i:Nat},x.il m=true->x.has i=true->i<m
 |.ptr j _,i,h,k|.bptr j _ _,i,h,k|.view j _ _,i,h,k|.buf j,i,h,k|.map j,i,h,k=>by
   simp only[V.il,V.has] at h k;have:=aB k;subst this;exact d6 h
 |.agg cs,i,h,k|.tuple cs,i,h,k=>wH (by simpa[V.il] using h) (by simpa[V.has] using k)
 |.iface _ x,i,h,k=>rY (by simpa[V.il] using h) (by simpa[V.has] using k)
 |.func _ fs cs,i,h,k=>by
   simp only[V.il,V.has,zza,Bool.or_eq_true] at h k;rcases k with k|k
   . exact wH h.1 k
   . exact wH h.2 k
 |.undef,_,_,k|.int ..,_,_,k|.bool _,_,_,k|.str _,_,_,k|.list ..,_,_,k|.nilptr,_,_,k|.box ..,_,_,k|.nilIface,_,_,k|.nilFunc,_,_,k|.nilmap,_,_,k=>by simp[V.has] at k
theorem wH{m:Nat}:∀{x:List V} {i:Nat},V.oC m x=true->V.iF i x=true->i<m
 |[],_,_,k=>by simp[V.iF] at k
 |c::cs,i,h,k=>by
   simp only[V.oC,V.iF,zza,Bool.or_eq_true] at h k;rcases k with k|k
   . exact rY h.1 k
   . exact wH h.2 k
end

mutual
theorem gC{st st':St} {g g':au} (hst:∀b o v,st b o=some v->st' b o=some v):
   ∀{x:V} {n n':Nat} {v:Value},(∀i,x.has i=true->i<n->i<n'/\g' i=g i)->VR st g x n v->VR st' g' x n' v
 |.undef,_,_,_,_,_=>by simp[VR]
 |.int ..,_,_,_,_,h|.bool _,_,_,_,_,h|.str _,_,_,_,_,h|.nilptr,_,_,_,_,h|.nilIface,_,_,_,_,h|.nilFunc,_,_,_,_,h|.nilmap,_,_,_,_,h=>by simpa[VR] using h
 |.agg cs,n,n',v,hn,h|.tuple cs,n,n',v,hn,h=>by
   simp only[VR] at h⊢;obtain⟨vs,rfl,h⟩:=h;exact⟨vs,rfl,la hst (fun i hi=>hn i (by simpa[V.has] using hi)) h⟩
 |.list c sz l,n,n',v,hn,h=>by
   simp only[VR] at h⊢;obtain⟨base,cap,rfl,h1,h2,h3,h4⟩:=h;refine⟨base,cap,rfl,h1,h2,h3,?_⟩;rcases h4 with h4|⟨b,o,h5,h6,h7⟩
   . exact .inl h4
   . exact .inr ⟨b,o,h5,h6,lT hst (fun k v hk=>hst b k v hk) h7⟩
 |.box cs off,n,n',v,hn,h=>by
   simp only[VR] at h⊢;obtain⟨b,o,vs,rfl,h1,h2⟩:=h;refine⟨b,o,vs,rfl,la hst (fun i _ hi=>absurd hi (Nat.not_lt_zero _)) h1,fun j hj=>?_⟩;have h3:=h2 j hj;have h4:vs[j]?=some (vs[j]'hj):=am hj;rw[h4] at h3⊢;exact hst _ _ _ h3
 |.ptr i off,n,n',v,hn,h=>by
   simp only[VR] at h⊢;obtain⟨hi,h⟩:=h;obtain⟨h1,h2⟩:=hn i (by simp[V.has]) hi;exact⟨h1,by rw[h2];exact h⟩
 |.bptr i a off,n,n',v,hn,h|.view i a off,n,n',v,hn,h=>by
   simp only[VR] at h⊢;obtain⟨hi,h⟩:=h;obtain⟨h1,h2⟩:=hn i (by simp[V.has]) hi;exact⟨h1,by rw[h2];exact h⟩
 |.buf i,n,n',v,hn,h=>by
   simp only[VR] at h⊢;obtain⟨hi,h⟩:=h;obtain⟨h1,h2⟩:=hn i (by simp[V.has]) hi;exact⟨h1,by rw[h2];exact h⟩
 |.map i,n,n',v,hn,h=>by
   simp only[VR] at h⊢;obtain⟨hi,h⟩:=h;obtain⟨h1,h2⟩:=hn i (by simp[V.has]) hi;exact⟨h1,by rw[h2];exact h⟩
 |.iface t x,n,n',v,hn,h=>by
   simp only[VR] at h⊢;obtain⟨u,rfl,h⟩:=h;exact⟨u,rfl,gC hst (fun i hi=>hn i (by simpa[V.has] using hi)) h⟩
 |.func f fs cs,n,n',v,hn,h=>by
   simp only[VR] at h⊢;obtain⟨a,b,rfl,h1,h2⟩:=h;exact⟨a,b,rfl,la hst (fun i hi=>hn i (by simp[V.has,hi])) h1,la hst (fun i hi=>hn i (by simp[V.has,hi])) h2⟩
theorem la{st st':St} {g g':au} (hst:∀b o v,st b o=some v->st' b o=some v):
   ∀{x:List V} {n n':Nat} {v:List Value},(∀i,V.iF i x=true->i<n->i<n'/\g' i=g i)->aC st g x n v->aC st' g' x n' v
 |[],_,_,_,_,h=>by simpa[aC] using h
 |c::cs,n,n',v,hn,h=>by
   simp only[aC] at h⊢;obtain⟨u,us,rfl,h1,h2⟩:=h;exact⟨u,us,rfl,gC hst (fun i hi=>hn i (by simp[V.iF,hi])) h1,la hst (fun i hi=>hn i (by simp[V.iF,hi])) h2⟩
theorem lT{st st':St} {g g':au} (hst:∀b o v,st b o=some v->st' b o=some v):
   ∀{x:List V} {sz o:Nat} {look look':Nat->Option Value},(∀k v,look k=some v->look' k=some v)->cn st g x sz look o->cn st' g' x sz look' o
 |[],_,_,_,_,_,_=>by simp[cn]
 |c::cs,sz,o,look,look',hl,h=>by
   simp only[cn] at h⊢;obtain⟨⟨u,h1,h2,hd,h3⟩,h4⟩:=h;refine⟨⟨u,gC hst (fun i _ hi=>absurd hi (Nat.not_lt_zero _)) h1,h2,hd,fun j hj=>?_⟩,lT hst hl h4⟩;have h5:=h3 j hj;have h6:u.cells[j]?=some (u.cells[j]'(by omega)):=Array.getElem?_eq_getElem (by omega);rw[h6] at h5⊢;exact hl _ _ h5
end

mutual
theorem yg{st:St} {g:au} {ks:List Nat}:∀{x:V} {n:Nat} {v:Value},VR st g x n v->VR st g (x.kill ks) n v
 |.undef,_,_,_=>by simp[VR,V.kill]
 |.int ..,_,_,h|.bool _,_,_,h|.str _,_,_,h|.nilptr,_,_,h|.nilIface,_,_,h|.nilFunc,_,_,h|.nilmap,_,_,h|.list ..,_,_,h|.box ..,_,_,h=>by simpa only[V.kill] using h
 |.ptr i _,_,_,h|.bptr i _ _,_,_,h|.view i _ _,_,_,h|.buf i,_,_,h|.map i,_,_,h=>by
   simp only[V.kill];cases aH i ks with
   |true=>simp[VR]
   |false=>exact h
 |.agg cs,n,v,h|.tuple cs,n,v,h=>by
   simp only[VR,V.kill] at h⊢;obtain⟨vs,rfl,h⟩:=h;exact⟨vs,rfl,vE h⟩
 |.iface t x,n,v,h=>by
   simp only[VR,V.kill] at h⊢;obtain⟨u,rfl,h⟩:=h;exact⟨u,rfl,yg h⟩
 |.func f fs cs,n,v,h=>by
   simp only[VR,V.kill] at h⊢;obtain⟨a,b,rfl,h1,h2⟩:=h;exact⟨a,b,rfl,vE h1,vE h2⟩
theorem vE{st:St} {g:au} {ks:List Nat}:∀{x:List V} {n:Nat} {v:List Value},aC st g x n v->aC st g (V.dE ks x) n v
 |[],_,_,h=>by simpa[aC,V.dE] using h
 |c::cs,n,v,h=>by
   simp only[aC,V.dE] at h⊢;obtain⟨u,us,rfl,h1,h2⟩:=h;exact⟨u,us,rfl,yg h1,vE h2⟩
end

mutual
theorem qp{ks:List Nat}:∀{x:V} {i:Nat},(x.kill ks).has i=true->aH i ks=false/\x.has i=true
 |.undef,_,h|.int ..,_,h|.bool _,_,h|.str _,_,h|.nilptr,_,h|.nilIface,_,h|.nilFunc,_,h|.nilmap,_,h|.list ..,_,h|.box ..,_,h=>by simp[V.kill,V.has] at h
 |.ptr j _,i,h|.bptr j _ _,i,h|.view j _ _,i,h|.buf j,i,h|.map j,i,h=>by
   simp only[V.kill] at h;cases hm:aH j ks with
   |true=>rw[hm] at h;simp[V.has] at h
   |false=>
     rw[hm] at h;simp only[cond_false,V.has] at h⊢;have:=aB h;subst this;exact⟨hm,h⟩
 |.agg cs,i,h|.tuple cs,i,h=>by
   simp only[V.kill,V.has] at h⊢;exact qo h
 |.iface t x,i,h=>by
   simp only[V.kill,V.has] at h⊢;exact qp h
 |.func f fs cs,i,h=>by
   simp only[V.kill,V.has,Bool.or_eq_true] at h⊢;rcases h with h|h
   . exact⟨(qo h).1,.inl (qo h).2⟩
   . exact⟨(qo h).1,.inr (qo h).2⟩
theorem qo{ks:List Nat}:∀{x:List V} {i:Nat},V.iF i (V.dE ks x) =true->aH i ks=false/\V.iF i x=true
 |[],_,h=>by simp[V.dE,V.iF] at h
 |c::cs,i,h=>by
   simp only[V.dE,V.iF,Bool.or_eq_true] at h⊢;rcases h with h|h
   . exact⟨(qp h).1,.inl (qp h).2⟩
   . exact⟨(qo h).1,.inr (qo h).2⟩
end

end Go.VG
namespace Go.VG
open Go

def fZ:IntKind->IntKind->Bool
 |.i8,.i8|.i16,.i16|.i32,.i32|.i64,.i64|.u8,.u8|.u16,.u16|.u32,.u32|.u64,.u64=>true
 |_,_=>false

inductive Sc where
 |kB|kI (k:IntKind)|kS
def kC:Sc->V->Bool
 |.kB,.bool _=>true
 |.kI k,.int k' _=>fZ k k'
 |.kS,.str _=>true
 |_,_=>false
def cP:List Sc->List V->Bool
 |[],[]=>true
 |k::ks,x::xs=>kC k x&&cP ks xs
 |_,_=>false
def lB(ag:Bool) (sh:List Sc):V->Bool
 |.agg cs=>cond ag (cP sh cs) false
 |x=>cond ag false (cP sh [x])
def sa:V->V->Bool
 |.int _ a,.int _ b=>a==b
 |.str a,.str b=>a==b
 |.bool a,.bool b=>a==b
 |_,_=>false
def wQ:List V->List V->Bool
 |[],[]=>true
 |x::xs,y::ys=>sa x y&&wQ xs ys
 |_,_=>false
def lI:V->V->Bool
 |.agg a,.agg b=>wQ a b
 |x,y=>sa x y
def bF:List (V×Int)->V->Option (Nat×Int)
 |[],_=>none
 |(y,q)::es,x=>cond (lI y x) (some (0,q)) (match bF es x with
   |some (j,q) =>some (j+1,q)
   |none=>none)
def getM(es:List (V×Int)) (x:V):Int:=match bF es x with
 |some (_,q) =>q
 |none=>0
def jk:List (V×Int)->Nat->Int->List (V×Int)
 |[],_,_=>[]
 |(y,_)::es,0,q=>(y,q)::es
 |e::es,n+1,q=>e::jk es n q
def jF:V->Value
 |.int k n=>.int k n
 |.bool b=>.bool b
 |.str s=>.string ⟨s.toArray⟩
 |_=>.nilIface
def uy:V->Prop
 |.int k n=>k.min<=n/\n<=k.max
 |.str s=>s.length<=maxLen
 |_=>True
def du:V->Value
 |.agg cs=>.agg (cs.map jF).toArray
 |x=>jF x
def sq:V->Prop
 |.agg cs=>∀c∈cs,uy c
 |x=>uy x
def gy(ag:Bool) (sh:List Sc):List (V×Int)->List Nat->List MapEntry->Prop
 |[],[],[]=>True
 |(x,q)::es,s::bs,e::l=>(lB ag sh x=true/\sq x/\e.key=du x/\e.val=.int .i64 q/\(IntKind.i64.min<=q/\q<=IntKind.i64.max)/\e.born=s)/\gy ag sh es bs l
 |_,_,_=>False
def sY(bs:List Nat) (ck:Nat):Prop:=bs.Nodup/\∀s∈bs,s<ck
def ot(bs:List Nat) (seen:Array Nat):List Nat:=(List.range bs.length).filter fun j=>!(seen.toList.contains (bs.getD j 0))

inductive O where
 |dead
 |cells (cs:List V)
 |buf (sz pre:Nat) (l:List V)
 |siter (s:gA) (pos:Nat)
 |map (ag:Bool) (sh:List Sc) (es:List (V×Int)) (bs:List Nat) (ck:Nat)
 |miter (m:V) (bs:List Nat) (ck:Nat) (left:List Nat) (last:Nat)
instance:Inhabited O:=⟨.dead⟩

def O.has(i:Nat):O->Bool
 |.cells cs=>V.iF i cs
 |.miter m _ _ _ _=>m.has i
 |_=>false
def O.il(m:Nat):O->Bool
 |.cells cs=>V.oC m cs
 |.miter x _ _ _ _=>x.il m
 |_=>true
def O.kill(ks:List Nat):O->O
 |.cells cs=>.cells (V.dE ks cs)
 |.dead=>.dead|.buf a b l=>.buf a b l|.siter s p=>.siter s p|.map a sh es bs ck=>.map a sh es bs ck
 |.miter m bs ck l x=>.miter (m.kill ks) bs ck l x

structure Env where
 G:Nat->Prop
 w0:World
 st0:St
 ds:List Deferred

def qg(c:Array Value) (fr:Nat×Nat):Prop:=fr.1<=fr.2/\∀o,o<c.size->¬(fr.1<=o/\o<fr.2)

def dK(E:Env) (st:St) (g:au) (n:Nat) (w:World) (gi:Gh):O->Prop
  |.dead=>∀b,gi.blk=some b->b<w.heap.size/\E.G b
  |.cells cs=>∃b c el fr,gi.blk=some b/\E.G b/\w.heap[b]?=some (.cells c el fr)/\aC st g cs n c.toList/\qg c fr/\∀o,st b o=none
  |.buf sz pre l=>0<sz/\gi.sz=sz/\pre<=l.length/\l.length<=maxLen/\gi.len=l.length/\l.length<=gi.cap/\
   ((gi.cap=0/\gi.blk=none)\/∃b c el fr,gi.blk=some b/\gi.base=some ⟨b,0,none⟩/\E.G b/\w.heap[b]?=some (.cells c el fr)/\c.size=gi.cap*sz/\
     cn st g l sz (fun o=>c[o]?) 0/\qg c fr/\∀o v,st b o=some v->o<pre*sz)
  |.siter s pos=>s.length<=maxLen/\∃b,gi.blk=some b/\E.G b/\w.heap[b]?=some (.stringIter ⟨s.toArray⟩ pos)
  |.map ag sh es bs ck=>∃b arr,gi.blk=some b/\E.G b/\w.heap[b]?=some (.map arr ck)/\gy ag sh es bs arr.toList/\sY bs ck/\(es.map fun e=>du e.1).Nodup
  |.miter m bs ck left last=>∃b b' seen,gi.blk=some b/\E.G b/\w.heap[b]?=some (.mapIter (some b') ck seen ck)/\VR st g m n (.map (some b'))/\left=ot bs seen/\
   ((seen=#[]/\bs.length<=last)\/(seen.back?=some (bs.getD last 0)/\last<bs.length))

structure aF(E:Env) (st:St) (g:au) (sg:List O) (w:World):Prop where
 os:w.os=E.w0.os
 tape:w.tape=E.w0.tape
 output:w.output=E.w0.output
 size:E.w0.heap.size<=w.heap.size
 gnew:∀b,E.w0.heap.size<=b->E.G b
 sub:∀b o v,E.st0 b o=some v->st b o=some v
 stG:∀b o v,st b o=some v->E.st0 b o=some v\/E.G b
 stw:∀b o v,st b o=some v->w.cell? ⟨b,o,none⟩=some v
 fr:∀b,¬E.G b->w.heap[b]?=E.w0.heap[b]?
 ob:∀i o,sg[i]?=some o->dK E st g sg.length w (g i) o
 inj:∀i j b,i<sg.length->j<sg.length->(g i).blk=some b->(g j).blk=some b->i=j

theorem rv{w w':World} {b o:Nat} (h:w'.heap[b]?=w.heap[b]?):w'.cell? ⟨b,o,none⟩=w.cell? ⟨b,o,none⟩:=by
 simp only[World.cell?,h]

theorem gZ{w:World} {b o:Nat} {c:Array Value} {el:TypeId} {fr:Nat×Nat} (h:w.heap[b]?=some (.cells c el fr)):w.cell? ⟨b,o,none⟩=c[o]?:=by
 simp[World.cell?,h]

theorem IS{w:World} {b o:Nat} {c:Array Value} {el:TypeId} {fr:Nat×Nat} (h:w.heap[b]?=some (.cells c el fr)) (hf:qg c fr) (ho:o<c.size):w.frozen? ⟨b,o,none⟩=false:=by
 have:=hf.2 o ho;obtain⟨lo,hi⟩:=fr;simp only[World.frozen?,h];simp only[Bool.and_eq_false_iff,decide_eq_false_iff_not];simp only at this;omega

theorem ng{w:World} {b:Nat} {o:Obj} (h:w.heap[b]?=some o):b<w.heap.size:=by
 rcases d7 b w.heap.size with h'|h'
 . exact h'
 . simp[Array.getElem?_eq_none h'] at h

theorem dK.cH{E:Env} {st:St} {g:au} {n:Nat} {w:World} {gi:Gh} {o:O} (h:dK E st g n w gi o) {b:Nat} (hb:gi.blk=some b):b<w.heap.size/\E.G b:=by
 cases o with
 |dead=>exact h b hb
 |cells cs=>
   obtain⟨b',c,el,fr,h1,h2,h3,_⟩:=h;rw[hb] at h1;cases h1;exact⟨ng h3,h2⟩
 |buf sz pre l=>
   obtain⟨_,_,_,_,_,_,h⟩:=h;rcases h with ⟨_,h⟩|⟨b',c,el,fr,h1,_,h2,h3,_⟩
   . rw[hb] at h;cases h
   . rw[hb] at h1;cases h1;exact⟨ng h3,h2⟩
 |siter s p=>
   obtain⟨_,b',h1,h2,h3⟩:=h;rw[hb] at h1;cases h1;exact⟨ng h3,h2⟩
 |map ag sh es bs ck=>
   obtain⟨b',arr,h1,h2,h3,_⟩:=h;rw[hb] at h1;cases h1;exact⟨ng h3,h2⟩
 |miter m bs ck l x=>
   obtain⟨b',_,_,h1,h2,h3,_⟩:=h;rw[hb] at h1;cases h1;exact⟨ng h3,h2⟩

theorem aF.cH{E:Env} {st:St} {g:au} {sg:List O} {w:World} (h:aF E st g sg w) {i b:Nat} (hi:i<sg.length) (hb:(g i).blk=some b):b<w.heap.size/\E.G b:=
 (h.ob i _ (am hi)).cH hb

theorem dK.aO{E:Env} {st st':St} {g g':au} {n n':Nat} {w w':World} {gi:Gh} {o:O} (h:dK E st g n w gi o)
   (hb:∀b,gi.blk=some b->w'.heap[b]?=w.heap[b]?)
   (hst:∀b o v,st b o=some v->st' b o=some v)
   (hnew:∀b,gi.blk=some b->∀o v,st' b o=some v->st b o=some v)
   (hn:∀i,o.has i=true->i<n->i<n'/\g' i=g i):dK E st' g' n' w' gi o:=by
 cases o with
 |dead=>
   intro b hb';obtain⟨h1,h2⟩:=h b hb';refine⟨?_,h2⟩;have h3:=hb b hb';rw[Array.getElem?_eq_getElem h1] at h3;exact ng h3
 |cells cs=>
   obtain⟨b,c,el,fr,h1,h2,h3,h4,h5,h6⟩:=h;refine⟨b,c,el,fr,h1,h2,by rw[hb b h1];exact h3,la hst (fun i hi=>hn i (by simpa[O.has] using hi)) h4,h5,fun o=>?_⟩;cases hs:st' b o with
   |none=>rfl
   |some v=>have:=hnew b h1 o v hs;rw[h6 o] at this;cases this
 |buf sz pre l=>
   obtain⟨h1,h2,h3,h4,h5,h6,h7⟩:=h;refine⟨h1,h2,h3,h4,h5,h6,?_⟩;rcases h7 with h7|⟨b,c,el,fr,k1,k2,k3,k4,k5,k6,k7,k8⟩
   . exact .inl h7
   . exact .inr ⟨b,c,el,fr,k1,k2,k3,by rw[hb b k1];exact k4,k5,lT hst (fun _ _ hk=>hk) k6,k7,fun o v hv=>k8 o v (hnew b k1 o v hv)⟩
 |siter s p=>
   obtain⟨h1,b,h2,h3,h4⟩:=h;exact⟨h1,b,h2,h3,by rw[hb b h2];exact h4⟩
 |map ag sh es bs ck=>
   obtain⟨b,arr,h1,h2,h3,h4⟩:=h;exact⟨b,arr,h1,h2,by rw[hb b h1];exact h3,h4⟩
 |miter m bs ck l x=>
   obtain⟨b,b',seen,h1,h2,h3,h4,h5⟩:=h;exact⟨b,b',seen,h1,h2,by rw[hb b h1];exact h3,gC hst (fun i hi=>hn i (by simpa[O.has] using hi)) h4,h5⟩

theorem dK.kill{E:Env} {st:St} {g:au} {n:Nat} {w:World} {gi:Gh} {o:O} {ks:List Nat} (h:dK E st g n w gi o):dK E st g n w gi (o.kill ks):=by
 cases o with
 |cells cs=>
   obtain⟨b,c,el,fr,h1,h2,h3,h4,h5,h6⟩:=h;exact⟨b,c,el,fr,h1,h2,h3,vE h4,h5,h6⟩
 |miter m bs ck l x=>
   obtain⟨b,b',seen,h1,h2,h3,h4,h5⟩:=h;exact⟨b,b',seen,h1,h2,h3,yg h4,h5⟩
 |_=>exact h

theorem O.qp{ks:List Nat} {o:O} {i:Nat} (h:(o.kill ks).has i=true):aH i ks=false/\o.has i=true:=by
 cases o with
 |cells cs=>exact qo (by simpa[O.kill,O.has] using h)
 |miter m bs ck l x=>exact VG.qp (by simpa[O.kill,O.has] using h)
 |_=>simp[O.kill,O.has] at h

structure dg(E:Env) (st st':St) (w w':World) (B:Nat->Prop):Prop where
 os:w'.os=w.os
 tape:w'.tape=w.tape
 output:w'.output=w.output
 size:w.heap.size<=w'.heap.size
 aO:∀b,b<w.heap.size->¬B b->w'.heap[b]?=w.heap[b]?
 own:∀b,B b->E.G b
 mono:∀b o v,st b o=some v->st' b o=some v
 newst:∀b o v,st' b o=some v->st b o=some v\/(E.G b/\w'.cell? ⟨b,o,none⟩=some v)
 oldst:∀b o v,B b->st b o=some v->w'.cell? ⟨b,o,none⟩=some v

theorem Hx{w:World} {b o:Nat} {v:Value} (h:w.cell? ⟨b,o,none⟩=some v):b<w.heap.size:=by
 rcases d7 b w.heap.size with h'|h'
 . exact h'
 . simp[World.cell?,Array.getElem?_eq_none h'] at h

theorem aF.step{E:Env} {st st':St} {g g':au} {sg sg':List O} {w w':World} {B:Nat->Prop} (h:aF E st g sg w) (c:dg E st st' w w' B)
   (ob:∀i o,sg'[i]?=some o->dK E st' g' sg'.length w' (g' i) o)
   (inj:∀i j b,i<sg'.length->j<sg'.length->(g' i).blk=some b->(g' j).blk=some b->i=j):aF E st' g' sg' w' where
 os:=c.os.trans h.os
 tape:=c.tape.trans h.tape
 output:=c.output.trans h.output
 size:=Nat.le_trans h.size c.size
 gnew:=h.gnew
 sub:=fun b o v hv=>c.mono _ _ _ (h.sub _ _ _ hv)
 stG:=fun b o v hv=>by
  rcases c.newst _ _ _ hv with h1|h1
  . exact h.stG _ _ _ h1
  . exact .inr h1.1
 stw:=fun b o v hv=>by
  rcases c.newst _ _ _ hv with h1|h1
  . by_cases hB:B b
    . exact c.oldst _ _ _ hB h1
    . have h2:=h.stw _ _ _ h1;rw[rv (c.aO b (Hx h2) hB)];exact h2
  . exact h1.2
 fr:=fun b hb=>by
  have hlt:b<E.w0.heap.size:=by
   rcases d7 b E.w0.heap.size with h'|h'
   . exact h'
   . exact absurd (h.gnew b h') hb
  rw[c.aO b (Nat.lt_of_lt_of_le hlt h.size) (fun hB=>hb (c.own b hB))];exact h.fr b hb
 ob:=ob
 inj:=inj

def aX(g:au) (i:Nat) (x:Gh):au:=fun j=>if j=i then x else g j
@[simp] theorem dU(g:au) (i:Nat) (x:Gh):aX g i x i=x:=by simp[aX]
theorem cK{g:au} {i j:Nat} {x:Gh} (h:j≠i):aX g i x j=g j:=by simp[aX,h]

structure aQ(w w':World):Prop where
 heap:w'.heap=w.heap
 os:w'.os=w.os
 tape:w'.tape=w.tape
 output:w'.output=w.output
theorem aQ.refl(w:World):aQ w w:=⟨rfl,rfl,rfl,rfl⟩

theorem dg.same{E:Env} {st:St} {w w':World} (h:aQ w w'):dg E st st w w' (fun _=>False) where
 os:=h.os
 tape:=h.tape
 output:=h.output
 size:=by rw[h.heap];exact cb _
 aO:=fun b _ _=>by rw[h.heap]
 own:=fun _ hb=>hb.elim
 mono:=fun _ _ _ hv=>hv
 newst:=fun _ _ _ hv=>.inl hv
 oldst:=fun _ _ _ hb=>hb.elim

theorem dK.same{E:Env} {st:St} {g:au} {n:Nat} {w w':World} {gi:Gh} {o:O} (h:dK E st g n w gi o) (hw:aQ w w'):dK E st g n w' gi o:=
 h.aO (fun b _=>by rw[hw.heap]) (fun _ _ _ hv=>hv) (fun _ _ _ _ hv=>hv) (fun _ _ hi=>⟨hi,rfl⟩)

theorem aF.same{E:Env} {st:St} {g:au} {sg:List O} {w w':World} (h:aF E st g sg w) (hw:aQ w w'):aF E st g sg w':=
 h.step (dg.same hw) (fun i o ho=>(h.ob i o ho).same hw) h.inj

theorem qq{w:World} {o:Obj} {b:Nat} (h:b<w.heap.size):(w.alloc o).heap[b]?=w.heap[b]?:=by
 simp only[World.alloc,Array.getElem?_push];rw[if_neg (by omega)]
theorem heap_alloc_new{w:World} {o:Obj}:(w.alloc o).heap[w.heap.size]?=some o:=by
 show(w.heap.push o)[w.heap.size]?=some o;simp

theorem dg.alloc{E:Env} {st:St} {w:World} (o:Obj):dg E st st w (w.alloc o) (fun _=>False) where
 os:=rfl
 tape:=rfl
 output:=rfl
 size:=by simp
 aO:=fun b hb _=>qq hb
 own:=fun _ hb=>hb.elim
 mono:=fun _ _ _ hv=>hv
 newst:=fun _ _ _ hv=>.inl hv
 oldst:=fun _ _ _ hb=>hb.elim

def lg(st:St) (b:Nat) (c:Array Value) (k:Nat):St:=fun b' o=>if b'=b then(if o<k then c[o]? else none) else st b' o

theorem aF.mX{E:Env} {st:St} {g:au} {sg:List O} {w:World} (h:aF E st g sg w) (o:Nat):st w.heap.size o=none:=by
 cases hs:st w.heap.size o with
 |none=>rfl
 |some v=>exact absurd (Hx (h.stw _ _ _ hs)) (Nat.lt_irrefl _)

theorem pR{st:St} {b:Nat} {c:Array Value} {k:Nat} (h:∀o,st b o=none):∀b' o v,st b' o=some v->lg st b c k b' o=some v:=by
 intro b' o v hv;by_cases hb:b'=b
 . subst hb;rw[h o] at hv;cases hv
 . simp[lg,hb,hv]

theorem dg.lg{E:Env} {st:St} {g:au} {sg:List O} {w:World} (h:aF E st g sg w) (c:Array Value) (el:TypeId) (fr:Nat×Nat) (k:Nat):
   dg E st (lg st w.heap.size c k) w (w.alloc (.cells c el fr)) (fun _=>False) where
 os:=rfl
 tape:=rfl
 output:=rfl
 size:=by simp
 aO:=fun b hb _=>qq hb
 own:=fun _ hb=>hb.elim
 mono:=pR h.mX
 newst:=fun b o v hv=>by
  by_cases hb:b=w.heap.size
  . subst hb;simp only[VG.lg,if_true] at hv;split at hv
    . exact .inr ⟨h.gnew _ h.size,by rw[gZ heap_alloc_new];exact hv⟩
    . cases hv
  . simp[VG.lg,hb] at hv;exact .inl hv
 oldst:=fun _ _ _ hb=>hb.elim

theorem aF.C1{E:Env} {st:St} {g:au} {sg:List O} {w:World} (h:aF E st g sg w) (c:Array Value) (el:TypeId) (fr:Nat×Nat) (k:Nat):
   aF E (lg st w.heap.size c k) g sg (w.alloc (.cells c el fr)):=
 h.step (dg.lg h c el fr k) (fun i o ho=>(h.ob i o ho).aO
  (fun b hb=>qq ((h.ob i o ho).cH hb).1) (pR h.mX)
  (fun b hb o' v hv=>by
   have:=((h.ob i o ho).cH hb).1;simpa[lg,Nat.ne_of_lt this] using hv)
  (fun _ _ hi=>⟨hi,rfl⟩)) h.inj

theorem aF.Oh{E:Env} {st:St} {g:au} {sg:List O} {w:World} (h:aF E st g sg w) (ob:Obj) (gi:Gh) (o:O)
   (hb:∀b,gi.blk=some b->b=w.heap.size)
   (ho:dK E st (aX g sg.length gi) (sg.length+1) (w.alloc ob) gi o):
   aF E st (aX g sg.length gi) (sg++[o]) (w.alloc ob):=by
 refine h.step (dg.alloc ob) ?_ ?_
 . intro i o' hi;rw[an,gc];rcases Nat.lt_trichotomy i sg.length with hlt|heq|hgt
   . rw[dl hlt] at hi;rw[cK (Nat.ne_of_lt hlt)];exact(h.ob i o' hi).aO (fun b hb=>qq ((h.ob i o' hi).cH hb).1) (fun _ _ _ hv=>hv) (fun _ _ _ _ hv=>hv)
      (fun j _ hj=>⟨by omega,cK (Nat.ne_of_lt hj)⟩)
   . subst heq;rw[dt (cb _)] at hi;simp at hi;subst hi;rw[dU];exact ho
   . rw[ci (by simp;omega)] at hi;cases hi
 . intro i j b hi hj h1 h2;rw[an,gc] at hi hj;by_cases e1:i=sg.length<;>by_cases e2:j=sg.length
   . omega
   . subst e1;rw[dU] at h1;rw[cK e2] at h2;have:=(h.cH (by omega) h2).1;have:=hb b h1;omega
   . subst e2;rw[dU] at h2;rw[cK e1] at h1;have:=(h.cH (by omega) h1).1;have:=hb b h2;omega
   . rw[cK e1] at h1;rw[cK e2] at h2;exact h.inj i j b (by omega) (by omega) h1 h2

theorem aF.j9{E:Env} {st st':St} {g:au} {sg:List O} {w w':World} (h:aF E st g sg w) (i:Nat) (hi:i<sg.length) (ks:List Nat) (gi:Gh) (o:O)
   (c:dg E st st' w w' (fun b=>(g i).blk=some b))
   (hks:gi=g i\/aH i ks=true)
   (hblk:∀b,gi.blk=some b->(g i).blk=some b\/b=w.heap.size)
   (hnew:∀j b,j<sg.length->j≠i->(g j).blk=some b->∀o v,st' b o=some v->st b o=some v)
   (ho:dK E st' (aX g i gi) sg.length w' gi o):
   aF E st' (aX g i gi) ((sg.map (O.kill ks)).set i o) w':=by
 have hlen:((sg.map (O.kill ks)).set i o).length=sg.length:=by simp
 refine h.step c ?_ ?_
 . intro j o' hj;rw[hlen];by_cases e:j=i
   . subst e;rw[List.getElem?_set_self (by simpa using hi)] at hj;cases hj;rw[dU];exact ho
   . rw[List.getElem?_set_ne (Ne.symm e),List.getElem?_map] at hj;cases hs:sg[j]? with
     |none=>rw[hs] at hj;cases hj
     |some o₀=>
       rw[hs] at hj;cases hj;have hjl:j<sg.length:=by
        rcases d7 j sg.length with h'|h'
        . exact h'
        . simp[ci h'] at hs
       rw[cK e];have h0:=h.ob j o₀ hs;refine(h0.kill (ks:=ks)).aO (fun b hb=>?_) c.mono (fun b hb=>hnew j b hjl e hb) (fun k hk hkn=>⟨hkn,?_⟩)
       . exact c.aO b (h0.cH hb).1 (fun hB=>e (h.inj j i b hjl hi hb hB))
       . by_cases ek:k=i
         . subst ek;rw[dU];rcases hks with hks|hks
           . exact hks
           . have:=(O.qp hk).1;rw[hks] at this;cases this
         . exact cK ek
 . intro j k b hj hk h1 h2;rw[hlen] at hj hk;by_cases e1:j=i<;>by_cases e2:k=i
   . omega
   . subst e1;rw[dU] at h1;rw[cK e2] at h2;rcases hblk b h1 with h3|h3
     . exact h.inj j k b hj hk h3 h2
     . have:=(h.cH hk h2).1;omega
   . subst e2;rw[dU] at h2;rw[cK e1] at h1;rcases hblk b h2 with h3|h3
     . exact h.inj j k b hj hk h1 h3
     . have:=(h.cH hj h1).1;omega
   . rw[cK e1] at h1;rw[cK e2] at h2;exact h.inj j k b hj hk h1 h2

def gm:List O->List O->Nat->Prop
 |_,[],_=>True
 |[],_::_,_=>False
 |_::os,.dead::ps,n=>gm os ps n
 |o::os,p::ps,n=>(o=p/\p.il n=true)/\gm os ps n

theorem MR:∀{os ps:List O} {n i:Nat} {p:O},gm os ps n->ps[i]?=some p->∃o,os[i]?=some o/\(p=.dead\/(o=p/\p.il n=true))
 |_,[],_,_,_,_,h=>by simp at h
 |[],_::_,_,_,_,h,_=>by simp[gm] at h
 |o::os,q::ps,n,i,p,h,hp=>by
   cases i with
   |zero=>
     simp at hp;subst hp;refine⟨o,rfl,?_⟩;cases q<;>first|exact .inl rfl|(simp only[gm] at h;exact .inr h.1)
   |succ i=>
     have h':gm os ps n:=by cases q<;>simp only[gm] at h<;>first|exact h|exact h.2
     obtain⟨o',h1,h2⟩:=MR h' (by simpa using hp);exact⟨o',by simpa using h1,h2⟩

theorem MS:∀{os ps:List O} {n:Nat},gm os ps n->ps.length<=os.length
 |_,[],_,_=>by simp
 |[],_::_,_,h=>by simp[gm] at h
 |o::os,q::ps,n,h=>by
   have h':gm os ps n:=by cases q<;>simp only[gm] at h<;>first|exact h|exact h.2
   have:=MS h';simp;omega

theorem Ys{n:Nat} {p:O} (h:p.il n=true) {i:Nat} (hi:p.has i=true):i<n:=by
 cases p with
 |cells cs=>exact wH (by simpa[O.il] using h) (by simpa[O.has] using hi)
 |miter m bs ck l x=>exact rY (by simpa[O.il] using h) (by simpa[O.has] using hi)
 |_=>simp[O.has] at hi

theorem aF.sK{E:Env} {st:St} {g:au} {sg ps:List O} {w:World} (h:aF E st g sg w) (hs:gm sg ps ps.length):aF E st g ps w:=by
 have hl:=MS hs;refine h.step (dg.same (aQ.refl w)) (fun i p hp=>?_) (fun i j b hi hj=>h.inj i j b (by omega) (by omega));obtain⟨o,ho,hd⟩:=MR hs hp;have h0:=h.ob i o ho;rcases hd with rfl|⟨rfl,hsc⟩
 . intro b hb;exact h0.cH hb
 . exact h0.aO (fun _ _=>rfl) (fun _ _ _ hv=>hv) (fun _ _ _ _ hv=>hv) (fun k hk _=>⟨Ys hsc hk,rfl⟩)

end Go.VG
namespace Go.VG
open Go

structure AS where
 nt:Nat
 tm:List (Nat×V)
 sg:List O
 kl:List Nat

def lk:List (Nat×V)->Nat->V
 |[],_=>.undef
 |(k,x)::r,t=>cond (Nat.beq k t) x (lk r t)
def xa(ks:List Nat):List (Nat×V)->List (Nat×V)
 |[]=>[]
 |(k,x)::r=>(k,x.kill ks)::xa ks r
def zx(ks:List Nat):List O->List O
 |[]=>[]
 |o::os=>o.kill ks::zx ks os
def gk:List O->Nat->O->List O
 |[],_,_=>[]
 |_::os,0,o=>o::os
 |p::os,i+1,o=>p::gk os i o
def dd:List O->List (Nat×O)->List O
 |sg,[]=>sg
 |sg,(i,o)::r=>dd (gk sg i o) r
def aD:List O->Nat->O
 |[],_=>.dead
 |o::_,0=>o
 |_::os,i+1=>aD os i
def mJ:List V->Nat->Option V
 |[],_=>none
 |x::_,0=>some x
 |_::xs,i+1=>mJ xs i
def jO:List V->Nat->Option (List V)
 |_,0=>some []
 |[],_+1=>none
 |x::xs,n+1=>match jO xs n with
   |some r=>some (x::r)
   |none=>none
def ly:List V->Nat->List V
 |xs,0=>xs
 |[],_+1=>[]
 |_::xs,n+1=>ly xs n
def jM:List V->Nat->List V->Option (List V)
 |xs,_,[]=>some xs
 |[],_,_::_=>none
 |_::xs,0,y::ys=>match jM xs 0 ys with
   |some r=>some (y::r)
   |none=>none
 |x::xs,n+1,ys=>match jM xs n ys with
   |some r=>some (x::r)
   |none=>none

structure Ef where
 v:V
 ks:List Nat
 up:List (Nat×O)
 nw:List O
 rd:List Nat

def kK:List Nat->List (Nat×V)->List (Nat×V)
 |[],tm=>tm
 |k::ks,tm=>xa (k::ks) tm
def ir:List Nat->List O->List O
 |[],sg=>sg
 |k::ks,sg=>zx (k::ks) sg
def jS:List O->List O->List O
 |sg,[]=>sg
 |sg,o::os=>sg++(o::os)
def gW:List Nat->List Nat->List Nat
 |[],l=>l
 |k::ks,l=>cond (aH k l) (gW ks l) (k::gW ks l)

def AS.app(s:AS) (d:Option Nat) (e:Ef):AS:=
 ⟨s.nt,match d with
  |some d=>(d,e.v)::kK e.ks s.tm
  |none=>kK e.ks s.tm,jS (dd (ir e.ks s.sg) e.up) e.nw,gW e.ks s.kl⟩

def dY(b:Bool) (A B:Prop):Prop:=match b with
 |true=>A
 |false=>B
def iu{α:Type} (o:Option α) (K:α->Prop):Prop:=match o with
 |some a=>K a
 |none=>False
def mh(b:Bool) (A:Prop):Prop:=match b with
 |true=>A
 |false=>False

def Tr(α:Type):Type:=(α->Prop)->Prop
def ret{α:Type} (a:α):Tr α:=fun K=>K a
def fail{α:Type}:Tr α:=fun _=>False
def aI{α:Type} (A:Prop) (t:Tr α):Tr α:=fun K=>A/\t K
def bp{α:Type} (b:Bool) (t:Tr α):Tr α:=fun K=>mh b (t K)
def eH{α β:Type} (o:Option α) (f:α->Tr β):Tr β:=fun K=>iu o fun a=>f a K
def nh{α:Type} (b:Bool) (t u:Tr α):Tr α:=fun K=>dY b (t K) (u K)
inductive iB {α:Type} (l:List α) (n:Nat) (K:α->Prop):Prop where
 |mk (a:α) (h:l[n]?=some a) (k:K a)
def qw{α β:Type} (l:List α) (n:Nat) (f:α->Tr β):Tr β:=fun K=>iB l n fun a=>f a K
theorem nq{α β:Type} (l:List α) (n:Nat) (f:α->Tr β):qw l n f=eH (l[n]?) f:=by
 funext K
 apply propext;constructor
 . rintro⟨a,h,k⟩;show iu (l[n]?) _;rw[h];exact k
 . intro h;have h:iu (l[n]?) fun a=>f a K:=h;cases hl:l[n]? with
   |none=>rw[hl] at h;exact h.elim
   |some a=>rw[hl] at h;exact⟨a,hl,h⟩
def fA{α β:Type} (t:Tr α) (f:α->Tr β):Tr β:=fun K=>t fun a=>f a K
def tU{α β:Type} (f:α->Tr β):Tr β:=fun K=>∃a,f a K

def force{α:Type} (x:V) (K:V->Tr α):Tr α:=match x with
 |.undef=>K .undef|.int k n=>K (.int k n)|.bool b=>K (.bool b)|.str a=>K (.str a)|.agg cs=>K (.agg cs)|.tuple vs=>K (.tuple vs)
 |.list c z l=>K (.list c z l)|.nilptr=>K .nilptr|.box cs o=>K (.box cs o)|.ptr i o=>K (.ptr i o)|.bptr i a o=>K (.bptr i a o)|.view i a o=>K (.view i a o)
 |.buf i=>K (.buf i)|.iface t v=>K (.iface t v)|.nilIface=>K .nilIface|.func f a b=>K (.func f a b)|.nilFunc=>K .nilFunc
 |.map i=>K (.map i)|.nilmap=>K .nilmap
@[simp] theorem force_eq{α:Type} (x:V) (K:V->Tr α):force x K=K x:=by cases x<;>rfl
def cY{α:Type} (n:Nat) (K:Nat->Tr α):Tr α:=match n with
 |0=>K 0|1=>K 1|2=>K 2|3=>K 3|4=>K 4|5=>K 5|6=>K 6|7=>K 7|8=>K 8|9=>K 9|10=>K 10|11=>K 11|12=>K 12
 |13=>K 13|14=>K 14|15=>K 15|16=>K 16|17=>K 17|18=>K 18|19=>K 19|20=>K 20|n=>K n
@[simp] theorem dN{α:Type} (n:Nat) (K:Nat->Tr α):cY n K=K n:=by unfold cY;split<;>rfl
mutual
def mG{α:Type} (x:V) (K:V->α):α:=match x with
 |.undef=>K .undef|.int k n=>K (.int k n)|.bool b=>K (.bool b)|.str a=>K (.str a)|.agg cs=>ia cs fun cs=>K (.agg cs)|.tuple vs=>ia vs fun vs=>K (.tuple vs)
 |.list c z l=>K (.list c z l)|.nilptr=>K .nilptr|.box cs o=>K (.box cs o)|.ptr i o=>K (.ptr i o)|.bptr i a o=>K (.bptr i a o)|.view i a o=>K (.view i a o)
 |.buf i=>K (.buf i)|.iface t v=>mG v fun v=>K (.iface t v)|.nilIface=>K .nilIface|.func f a b=>ia a fun a=>ia b fun b=>K (.func f a b)|.nilFunc=>K .nilFunc
 |.map i=>K (.map i)|.nilmap=>K .nilmap
def ia{α:Type} (l:List V) (K:List V->α):α:=match l with
 |[]=>K []
 |x::xs=>mG x fun x=>ia xs fun xs=>K (x::xs)
end
mutual
theorem qh{α:Type}:∀(x:V) (K:V->α),mG x K=K x
 |.undef,_|.int ..,_|.bool _,_|.str _,_|.list ..,_|.nilptr,_|.box ..,_|.ptr ..,_|.bptr ..,_|.view ..,_|.buf _,_|.nilIface,_|.nilFunc,_|.map _,_|.nilmap,_=>by simp only[mG]
 |.agg cs,K|.tuple cs,K=>by simp only[mG];exact mH cs _
 |.iface t v,K=>by simp only[mG];exact qh v _
 |.func f a b,K=>by simp only[mG];rw[mH a];exact mH b _
theorem mH{α:Type}:∀(l:List V) (K:List V->α),ia l K=K l
 |[],_=>by simp only[ia]
 |x::xs,K=>by simp only[ia];rw[qh x];exact mH xs _
end
def qi{α:Type} (l:List V) (f:List V->Tr α):Tr α:=fun K=>ia l fun l=>f l K
@[simp] theorem u6{α:Type} (l:List V) (f:List V->Tr α):qi l f=f l:=by funext K;exact mH l _
def yT{α:Type} (o:O) (K:O->α):α:=match o with
 |.dead=>K .dead|.cells cs=>ia cs fun cs=>K (.cells cs)|.buf a b l=>K (.buf a b l)|.siter s p=>K (.siter s p)|.map a sh es bs ck=>K (.map a sh es bs ck)
 |.miter m bs ck l x=>mG m fun m=>K (.miter m bs ck l x)
@[simp] theorem IJ{α:Type} (o:O) (K:O->α):yT o K=K o:=by cases o<;>simp only[yT,mH,qh]
def lE{α:Type} (l:List O) (K:List O->α):α:=match l with
 |[]=>K []
 |x::xs=>yT x fun x=>lE xs fun xs=>K (x::xs)
@[simp] theorem u7{α:Type}:∀(l:List O) (K:List O->α),lE l K=K l
 |[],_=>by simp only[lE]
 |x::xs,K=>by simp only[lE];rw[IJ x];exact u7 xs _
def p4(l:List (Nat×V)) (K:List (Nat×V)->Prop):Prop:=match l with
 |[]=>K []
 |(t,x)::xs=>mG x fun x=>p4 xs fun xs=>K ((t,x)::xs)
@[simp] theorem SS:∀(l:List (Nat×V)) (K:List (Nat×V)->Prop),p4 l K=K l
 |[],_=>by simp only[p4]
 |(t,x)::xs,K=>by simp only[p4];rw[qh x];exact SS xs _
def kF{α:Type} (l:List α) (K:List α->Prop):Prop:=match l with
 |[]=>K []
 |x::xs=>kF xs fun xs=>K (x::xs)
@[simp] theorem wD{α:Type}:∀(l:List α) (K:List α->Prop),kF l K=K l
 |[],_=>by simp only[kF]
 |x::xs,K=>by simp only[kF];exact wD xs _
def wE(l:List (Nat×O)) (K:List (Nat×O)->Prop):Prop:=match l with
 |[]=>K []
 |(t,x)::xs=>yT x fun x=>wE xs fun xs=>K ((t,x)::xs)
@[simp] theorem IK:∀(l:List (Nat×O)) (K:List (Nat×O)->Prop),wE l K=K l
 |[],_=>by simp only[wE]
 |(t,x)::xs,K=>by simp only[wE];rw[IJ x];exact IK xs _
def kD(e:Ef) (K:Ef->Prop):Prop:=match e with
 |⟨v,ks,up,nw,rd⟩=>mG v fun v=>kF ks fun ks=>wE up fun up=>lE nw fun nw=>kF rd fun rd=>K ⟨v,ks,up,nw,rd⟩
@[simp] theorem lD(e:Ef) (K:Ef->Prop):kD e K=K e:=by cases e;simp only[kD,qh,wD,IK,u7]

def fS(s:AS) (d:Option Nat) (e:Ef) (K:AS->Prop):Prop:=match s,d,e with
 |⟨nt,tm,sg,kl⟩,some d,⟨v,[],[],[],_⟩=>K ⟨nt,(d,v)::tm,sg,kl⟩
 |⟨nt,tm,sg,kl⟩,none,⟨_,[],[],[],_⟩=>K ⟨nt,tm,sg,kl⟩
 |⟨nt,tm,sg,kl⟩,some d,⟨v,[],up,nw,_⟩=>lE (jS (dd sg up) nw) fun sg=>K ⟨nt,(d,v)::tm,sg,kl⟩
 |⟨nt,tm,sg,kl⟩,none,⟨_,[],up,nw,_⟩=>lE (jS (dd sg up) nw) fun sg=>K ⟨nt,tm,sg,kl⟩
 |⟨nt,tm,sg,kl⟩,some d,⟨v,ks,up,nw,_⟩=>p4 (kK ks tm) fun tm=>lE (jS (dd (ir ks sg) up) nw) fun sg=>kF (gW ks kl) fun kl=>K ⟨nt,(d,v)::tm,sg,kl⟩
 |⟨nt,tm,sg,kl⟩,none,⟨_,ks,up,nw,_⟩=>p4 (kK ks tm) fun tm=>lE (jS (dd (ir ks sg) up) nw) fun sg=>kF (gW ks kl) fun kl=>K ⟨nt,tm,sg,kl⟩
@[simp] theorem gX(s:AS) (d:Option Nat) (e:Ef) (K:AS->Prop):fS s d e K=K (s.app d e):=by
 obtain⟨nt,tm,sg,kl⟩:=s;obtain⟨v,ks,up,nw,rd⟩:=e;cases d<;>cases ks<;>cases up<;>cases nw<;>simp[fS,AS.app,kK,ir,gW,dd,jS]

inductive TK where
 |bool|int (k:IntKind)|string
 |slice (e:TypeId)|array (n:Nat) (e:TypeId)|ptr (e:TypeId)
 |struct (fs:List (Nat×TypeId))|iface|func|map (k e:TypeId)|other
structure TI where
 k:TK
 size:Nat
 bytes:Nat
 zero:V
 feq:List Sc

inductive gz where
 |tm (t sz:Nat)
 |cell (i off sz:Nat)
 |swap (i j:Nat)
 |nw
 |c9 (i:Nat)
 |fbx (i:Nat)
 |res
structure Ctx where
 P:Program
 ti:TypeId->TI
 gl:Nat->Option (List V)
 Γ:FuncId->List V->List O->Option (Prop×V×Option (List O))
 mt:TypeId->String->FuncId->Prop
 hint:Nat->List gz
 lits:Nat->Bool
 yd:Nat->List V->List O->List Nat->Option (Prop×V×List O×List Nat):=fun _ _ _ _=>none
 pn:FuncId->List V->List O->Option (Prop×Prop×V×Option (List O)×V×Option (List O)):=fun _ _ _=>none
 pdr:Nat->Bool:=fun _=>false
 rsv:Nat->Option Nat:=fun _=>none
def Ctx.kO(C:Ctx):Ctx:={C with Γ:=fun f a s=>match C.pn f a s with
 |some (pre,c,u,r,_,_) =>some (pre/\c,u,r)
 |none=>none}
def Ctx.mR(C:Ctx):Ctx:={C with Γ:=fun f a s=>match C.pn f a s with
 |some (pre,c,_,_,x,r) =>some (pre/\¬c,x,r)
 |none=>none}
def mQ:V->Option Value
 |.iface t (.int k n) =>some (.iface t (.int k n))
 |_=>none

def TK.isAgg:TK->Bool
 |.struct _|.array _ _=>true
 |_=>false

def Lf(k:IntKind) (m:Nat):Bool:=match k with
 |.i8=>Nat.ble m 127|.i16=>Nat.ble m 32767|.i32=>Nat.ble m 2147483647|.i64=>Nat.ble m 9223372036854775807
 |.u8=>Nat.ble m 255|.u16=>Nat.ble m 65535|.u32=>Nat.ble m 4294967295|.u64=>Nat.ble m 18446744073709551615
def Li(k:IntKind) (m:Nat):Bool:=match k with
 |.i8=>Nat.ble m 127|.i16=>Nat.ble m 32767|.i32=>Nat.ble m 2147483647|.i64=>Nat.ble m 9223372036854775807
 |_=>false
def ze(k:IntKind) (n:Int):Bool:=match n with
 |.ofNat m=>Lf k m
 |.negSucc m=>Li k m

def zX:Value->V
 |.int k n=>cond (ze k n) (.int k n) .undef
 |.bool b=>.bool b
 |.string s=>cond (Nat.ble s.data.toList.length 1048576) (.str s.data.toList) .undef
 |.slice none 0 0=>.list true 0 []
 |.pointer none=>.nilptr
 |.nilIface=>.nilIface
 |.nilFunc=>.nilFunc
 |.map none=>.nilmap
 |_=>.undef
def DS:List Value->List V
 |[]=>[]
 |v::vs=>zX v::DS vs
def DR:Value->V
 |.agg cs=>.agg (DS cs.toList)
 |v=>zX v

def AS.ev(C:Ctx) (s:AS):Operand->V
 |.tmp t=>lk s.tm t
 |.const v=>DR v
 |.global g=>match C.gl g with
   |some cs=>.box cs 0
   |none=>.undef
 |.func f=>.func (.func f) [] []
def AS.evs(C:Ctx) (s:AS):List Operand->List V
 |[]=>[]
 |x::xs=>s.ev C x::AS.evs C s xs

def bv(b:UInt8):V:=.int .u8 b.toNat
def bl:gA->List V
 |[]=>[]
 |b::s=>bv b::bl s

def qu(k:IntKind) (a b:Int):Int:=k.wrap (BitVec.ofInt k.bits a&&&BitVec.ofInt k.bits b).toNat
def lH(k:IntKind) (a b:Int):Int:=k.wrap (BitVec.ofInt k.bits a|||BitVec.ofInt k.bits b).toNat
def iXor(k:IntKind) (a b:Int):Int:=k.wrap (BitVec.ofInt k.bits a^^^BitVec.ofInt k.bits b).toNat
def Tl(k:IntKind) (a b:Int):Int:=k.wrap (BitVec.ofInt k.bits a&&&~~~BitVec.ofInt k.bits b).toNat
def m6(k:IntKind) (a b:Int):Int:=k.wrap (a*2^(min b.toNat k.bits))
def m9(k:IntKind) (a b:Int):Int:=a.fdiv (2^(min b.toNat k.bits))

def rD:V->V->Option Bool
 |.int k a,.int k' b=>cond (fZ k k') (some (a==b)) none
 |.str a,.str b=>some (a==b)
 |.bool a,.bool b=>some (a==b)
 |_,_=>none
def eqs:List V->List V->Option Bool
 |[],[]=>some true
 |[x],[y]=>rD x y
 |x::xs,y::ys=>match rD x y,eqs xs ys with
   |some a,some b=>some (a&&b)
   |_,_=>none
 |_,_=>none

def CI:List Sc->List V->Bool
 |[],_=>false
 |k::ks,xs=>cP (k::ks) xs
def oT(C:Ctx) (op:BinOp) (t:TypeId) (x y:V):Tr V:=
 match x,y with
 |.int k a,.int k' b=>match op with
   |.shl=>aI (0<=b) (ret (.int k (m6 k a b)))
   |.shr=>aI (0<=b) (ret (.int k (m9 k a b)))
   |.add=>bp (fZ k k') (ret (.int k (k.wrap (a+b))))
   |.sub=>bp (fZ k k') (ret (.int k (k.wrap (a-b))))
   |.mul=>bp (fZ k k') (ret (.int k (k.wrap (a*b))))
   |.quo=>bp (fZ k k') (aI (b≠0) (ret (.int k (k.wrap (a.tdiv b)))))
   |.rem=>bp (fZ k k') (aI (b≠0) (ret (.int k (a.tmod b))))
   |.and=>bp (fZ k k') (ret (.int k (qu k a b)))
   |.or=>bp (fZ k k') (ret (.int k (lH k a b)))
   |.xor=>bp (fZ k k') (ret (.int k (iXor k a b)))
   |.andNot=>bp (fZ k k') (ret (.int k (Tl k a b)))
   |.eql=>bp (fZ k k') (ret (.bool (a==b)))
   |.neq=>bp (fZ k k') (ret (.bool (a !=b)))
   |.lss=>bp (fZ k k') (ret (.bool (decide (a<b))))
   |.leq=>bp (fZ k k') (ret (.bool (decide (a<=b))))
   |.gtr=>bp (fZ k k') (ret (.bool (decide (a>b))))
   |.geq=>bp (fZ k k') (ret (.bool (decide (a>=b))))
 |.str a,.str b=>match op with
   |.add=>aI (a.length+b.length<=4294967296) (ret (.str (a++b)))
   |.eql=>ret (.bool (a==b))
   |.neq=>ret (.bool (!(a==b)))
   |.lss=>ret (.bool (Op.bytesLess a b))
   |.leq=>ret (.bool (Op.bytesLess a b||a==b))
   |.gtr=>ret (.bool (!(Op.bytesLess a b||a==b)))
   |.geq=>ret (.bool (!(Op.bytesLess a b)))
   |_=>fail
 |.bool a,.bool b=>match op,(C.ti t).k with
   |.eql,.bool=>ret (.bool (a==b))
   |.neq,.bool=>ret (.bool (!(a==b)))
   |_,_=>fail
 |.agg a,.agg b=>match (C.ti t).k with
   |.other|.map _ _=>fail
   |_=>bp (CI (C.ti t).feq a&&(CI (C.ti t).feq b&&Nat.beq a.length (C.ti t).size)) (eH (eqs a b) fun r=>match op with
     |.eql=>ret (.bool r)
     |.neq=>ret (.bool (!r))
     |_=>fail)
 |.nilptr,.nilptr=>match op,(C.ti t).k with
   |.eql,.ptr _=>ret (.bool true)
   |.neq,.ptr _=>ret (.bool false)
   |_,_=>fail
 |.ptr _ _,.nilptr|.nilptr,.ptr _ _|.bptr _ _ _,.nilptr|.nilptr,.bptr _ _ _|.box _ _,.nilptr|.nilptr,.box _ _=>match op,(C.ti t).k with
   |.eql,.ptr _=>ret (.bool false)
   |.neq,.ptr _=>ret (.bool true)
   |_,_=>fail
 |.iface _ _,.nilIface|.nilIface,.iface _ _=>match op,(C.ti t).k with
   |.eql,.iface=>ret (.bool false)
   |.neq,.iface=>ret (.bool true)
   |_,_=>fail
 |_,_=>fail

def wv(op:UnOp) (x:V):Tr V:=
 match op,x with
 |.neg,.int k n=>ret (.int k (k.wrap (0-n)))
 |.xor,.int k n=>ret (.int k (iXor k (if k.signed then-1 else k.max) n))
 |.not,.bool b=>ret (.bool (!b))
 |_,_=>fail

def kN(agg:Bool) (size:Nat) (cs:List V) (off:Nat):Tr V:=
 match agg with
 |true=>eH (jO (ly cs off) size) fun r=>ret (.agg r)
 |false=>eH (mJ cs off) ret

def elems(s:AS) (x:V):Tr (Nat×List V×List Nat):=
 match x with
 |.list _ sz l=>ret (sz,l,[])
 |.str b=>ret (1,bl b,[])
 |.buf i=>match aD s.sg i with
   |.buf sz _ l=>ret (sz,l,[i])
   |_=>fail
 |_=>fail

def jN(sz esz:Nat) (l:List V):Bool:=
 match Nat.beq sz esz with
 |true=>true
 |false=>match l with
   |[]=>true
   |_=>false
def V.one:V->Bool
 |.agg _|.tuple _|.undef=>false
 |_=>true
def eG:List V->Bool
 |[]=>true
 |c::cs=>c.one&&eG cs

def V.eZ:V->Bool
 |.undef=>true
 |_=>false
mutual
def V.pure:V->Bool
 |.undef|.ptr _ _|.bptr _ _ _|.view _ _ _|.buf _|.map _=>false
 |.agg cs|.tuple cs=>V.gd cs
 |.iface _ x=>V.pure x
 |.func _ fs cs=>V.gd fs&&V.gd cs
 |_=>true
def V.gd:List V->Bool
 |[]=>true
 |c::cs=>V.pure c&&V.gd cs
end

def uD:List (Nat×V)->Nat->Nat->Option (List V)
 |[],_,_=>some []
 |(i,x)::r,k,sz=>match Nat.beq i k,Nat.beq x.cells.length sz,x.pure&&eG x.cells with
   |true,true,true=>match uD r (k+1) sz with
     |some l=>some (x::l)
     |none=>none
   |_,_,_=>none

def tW(place:Nat->Option (Nat×Nat)):List (Nat×V)->List V->Option (List V)
  |[],cs=>some cs
  |(i,x)::r,cs=>match place i with
    |none=>none
    |some (off,size) =>match Nat.beq x.cells.length size&&Nat.blt 0 size,x.eZ with
      |true,false=>match jM cs off x.cells with
        |some cs'=>tW place r cs'
        |none=>none
      |_,_=>none
def oa:List (Nat×TypeId)->Nat->Option (Nat×TypeId)
 |[],_=>none
 |x::_,0=>some x
 |_::xs,i+1=>oa xs i
def placeOf(C:Ctx) (fs:List (Nat×TypeId)) (i:Nat):Option (Nat×Nat):=match oa fs i with
 |some (off,t) =>match (C.ti t).k with
   |.other=>none
   |_=>some (off,(C.ti t).size)
 |none=>none

def jY(C:Ctx) (s:AS):List (Nat×Operand)->List (Nat×V)
 |[]=>[]
 |(i,x)::r=>(i,s.ev C x)::jY C s r

def pe(v:V):Ef:=⟨v,[],[],[],[]⟩

def idxOf(i:Nat):List Nat->Nat->Option Nat
 |[],_=>none
 |k::ks,n=>cond (Nat.beq k i) (some n) (idxOf i ks (n+1))
mutual
def V.bN(f:Nat->Option Nat):V->V
 |.ptr i o=>match f i with
   |some j=>.ptr j o
   |none=>.undef
 |.bptr i a o=>match f i with
   |some j=>.bptr j a o
   |none=>.undef
 |.view i a o=>match f i with
   |some j=>.view j a o
   |none=>.undef
 |.buf i=>match f i with
   |some j=>.buf j
   |none=>.undef
 |.map i=>match f i with
   |some j=>.map j
   |none=>.undef
 |.agg cs=>.agg (V.kV f cs)
 |.tuple cs=>.tuple (V.kV f cs)
 |.iface t x=>.iface t (V.bN f x)
 |.func g fs cs=>.func g (V.kV f fs) (V.kV f cs)
 |.undef=>.undef|.int k n=>.int k n|.bool b=>.bool b|.str s=>.str s|.list c z l=>.list c z l
 |.nilptr=>.nilptr|.box cs o=>.box cs o|.nilIface=>.nilIface|.nilFunc=>.nilFunc|.nilmap=>.nilmap
def V.kV(f:Nat->Option Nat):List V->List V
 |[]=>[]
 |c::cs=>V.bN f c::V.kV f cs
end
def O.bN(f:Nat->Option Nat):O->O
 |.cells cs=>.cells (V.kV f cs)
 |.dead=>.dead|.buf a b l=>.buf a b l|.siter s p=>.siter s p|.map a sh es bs ck=>.map a sh es bs ck
 |.miter m bs ck l x=>.miter (m.bN f) bs ck l x
mutual
def V.names:V->List Nat->List Nat
 |.ptr i _,acc|.bptr i _ _,acc|.view i _ _,acc|.buf i,acc|.map i,acc=>cond (aH i acc) acc (acc++[i])
 |.agg cs,acc|.tuple cs,acc=>V.fN cs acc
 |.iface _ x,acc=>V.names x acc
 |.func _ fs cs,acc=>V.fN cs (V.fN fs acc)
 |_,acc=>acc
def V.fN:List V->List Nat->List Nat
 |[],acc=>acc
 |c::cs,acc=>V.fN cs (V.names c acc)
end
def O.names:O->List Nat->List Nat
 |.cells cs,acc=>V.fN cs acc
 |.miter m _ _ _ _,acc=>V.names m acc
 |_,acc=>acc
def reach(sg:List O):Nat->List Nat->List Nat->List Nat
 |0,_,acc=>acc
 |_+1,[],acc=>acc
 |fuel+1,i::todo,acc=>
   let acc':=(aD sg i).names acc
   reach sg fuel (todo++acc'.drop acc.length) acc'
def locals(sg:List O) (f:Nat->Option Nat):List Nat->List O
 |[]=>[]
 |i::is=>(aD sg i).bN f::locals sg f is
def dB:List Nat->Nat->Nat->Nat->Option Nat
 |i::_,_,_,0=>some i
 |_::th,n,k,j+1=>dB th n k j
 |[],n,k,j=>cond (Nat.blt j k) (some (n+j)) none
def ll(sg:List O):List Nat->List Nat
 |[]=>[]
 |i::is=>match aD sg i with
   |.buf _ _ _=>i::ll sg is
   |_=>ll sg is
def mi(f:Nat->Option Nat):List Nat->List O->List (Nat×O)
 |i::is,o::os=>(i,o.bN f)::mi f is os
 |_,_=>[]
def lJ(f:Nat->Option Nat):List O->List O
 |[]=>[]
 |o::os=>o.bN f::lJ f os

def fC:List O->Nat->List O
 |xs,0=>xs
 |[],_+1=>[]
 |_::xs,n+1=>fC xs n

def kb:List Nat->Bool
 |[]=>true
 |k::ks=>cond (aH k ks) false (kb ks)
def kq(sg:List O):List Nat->Bool
 |[]=>true
 |i::is=>match aD sg i with
   |.dead=>false
   |_=>kq sg is
mutual
def V.within(th:List Nat):V->Bool
 |.ptr j _|.bptr j _ _|.view j _ _|.buf j|.map j=>aH j th
 |.agg cs|.tuple cs=>V.ra th cs
 |.iface _ x=>V.within th x
 |.func _ fs cs=>V.ra th fs&&V.ra th cs
 |_=>true
def V.ra(th:List Nat):List V->Bool
 |[]=>true
 |c::cs=>V.within th c&&V.ra th cs
end
def ku(sg:List O) (th:List Nat):List Nat->Bool
 |[]=>true
 |i::is=>match aD sg i with
   |.cells cs=>V.ra th cs&&ku sg th is
   |.miter m _ _ _ _=>V.within th m&&ku sg th is
   |_=>ku sg th is

def rU{α:Type} (l:List Nat) (K:List Nat->α):α:=match l with
 |[]=>K []
 |x::xs=>rU xs fun xs=>K (x::xs)
theorem qj{α:Type}:∀(l:List Nat) (K:List Nat->α),rU l K=K l
 |[],_=>by simp only[rU]
 |x::xs,K=>by simp only[rU];exact qj xs _
def fg:List O->Bool
 |[]=>false
 |.dead::[]=>true
 |_::os=>fg os
def wk(C:Ctx) (sg:List O) (f:FuncId) (args:List V) (th:List Nat):Option (Prop×Ef):=
 cond (kb th&&kq sg th) (ia (V.kV (fun i=>idxOf i th 0) args) fun args'=>lE (locals sg (fun i=>idxOf i th 0) th) fun lo=>match C.Γ f args' lo with
  |none=>none
  |some (pre,v,none) =>cond (ku sg th th) (some (pre,⟨v.bN (dB th 0 0),[],[],[],th⟩)) none
  |some (pre,v,some sg') =>
    some (pre,⟨v.bN (dB th sg.length (fC sg' th.length).length),cond (fg sg') [] (ll sg th),mi (dB th sg.length (fC sg' th.length).length) th sg',lJ (dB th sg.length (fC sg' th.length).length) (fC sg' th.length),th⟩)) none
def i9(C:Ctx) (sg:List O) (f:FuncId) (args:List V):Option (Prop×Ef):=
 rU (V.fN args []) fun a0=>rU (reach sg 256 a0 a0) fun th=>wk C sg f args th

def target(C:Ctx) (s:AS) (c:Call):Option (FuncId×List V):=
 match c.callee with
 |.value f=>match s.ev C f with
   |.func (.func g) first captured=>some (g,first++s.evs C c.args.toList++captured)
   |_=>none
 |_=>none

def qa(C:Ctx) (s:AS) (e:TypeId) (x:V) (ys:List V) (rd:List Nat):Tr Ef:=
 match x with
 |.list true sz0 l=>bp (jN sz0 (C.ti e).size l) (aI (l.length+ys.length<=4294967296) (aI (l=[]\/ys≠[])
  (cY s.sg.length fun i=>cY (C.ti e).size fun sz=>ret ⟨.buf i,[],[],[.buf sz 0 (l++ys)],rd⟩)))
 |.buf i=>match aD s.sg i with
   |.buf sz0 pre l=>bp (Nat.beq sz0 (C.ti e).size&&!aH i rd) (aI (l.length+ys.length<=4294967296) (ret ⟨.buf i,[i],[(i,.buf sz0 pre (l++ys))],[],i::rd⟩))
   |_=>fail
 |_=>fail
def qb(C:Ctx) (s:AS) (e:TypeId) (sz:Nat) (x:V) (ys:List V) (rd:List Nat):Tr Ef:=
 match sz,x,ys with
 |0,.list true sz0 (a::l),[]=>bp (jN sz0 (C.ti e).size (a::l)) (aI (l.length<=4294967295) (cY (C.ti e).size fun sz=>ret ⟨.list true sz0 (a::l),[],[],[.buf sz 0 []],rd⟩))
 |_,x,ys=>qa C s e x ys rd

def gb{α β:Type} (o:Option α) (f:α->Tr β) (g:Tr β):Tr β:=fun K=>(∀a,o=some a->f a K)/\(o=none->g K)
def EA:Sc->Sc->Bool
 |.kB,.kB=>true
 |.kI k,.kI k'=>fZ k k'
 |.kS,.kS=>true
 |_,_=>false
def uM:List Sc->List Sc->Bool
 |[],[]=>true
 |a::r,b::q=>EA a b&&uM r q
 |_,_=>false
def yn(a b:Bool):Bool:=cond a b (!b)
def zN(C:Ctx) (t:TypeId):Option (Bool×List Sc):=match (C.ti t).k with
 |.map k e=>match (C.ti k).k,(C.ti e).k,(C.ti t).feq with
   |.other,_,_=>none
   |_,_,[]=>none
   |kk,.int .i64,sh=>match (C.ti e).zero with
     |.int .i64 (.ofNat 0) =>some (kk.isAgg,sh)
     |_=>none
   |_,_,_=>none
 |_=>none
def gL(C:Ctx) (s:AS) (t:TypeId) (m:V) (F:Nat->Bool->List Sc->List (V×Int)->List Nat->Nat->Tr Ef):Tr Ef:=
 eH (zN C t) fun p=>match m with
   |.map i=>match aD s.sg i with
     |.map ag sh es bs ck=>bp (yn ag p.1&&uM sh p.2) (F i ag sh es bs ck)
     |_=>fail
   |_=>fail
def rM(C:Ctx) (s:AS) (t:TypeId):Tr Ef:=
 eH (zN C t) fun p=>cY s.sg.length fun n=>ret ⟨.map n,[],[],[.map p.1 p.2 [] [] 0],[]⟩
def np(C:Ctx) (s:AS) (t:TypeId) (m x:Operand) (ok:Bool):Tr Ef:=
 gL C s t (s.ev C m) fun i ag sh es _ _=>force (s.ev C x) fun x=>bp (lB ag sh x) (match ok with
  |true=>gb (bF es x) (fun r=>ret ⟨.tuple [.int .i64 r.2,.bool true],[],[],[],[i]⟩) (ret ⟨.tuple [.int .i64 0,.bool false],[],[],[],[i]⟩)
  |false=>ret ⟨.int .i64 (getM es x),[],[],[],[i]⟩)
def rO(C:Ctx) (s:AS) (t:TypeId) (m x y:Operand):Tr Ef:=
  gL C s t (s.ev C m) fun i ag sh es bs ck=>force (s.ev C x) fun x=>bp (lB ag sh x) (match s.ev C y with
   |.int .i64 q=>gb (bF es x) (fun r=>ret ⟨.undef,[],[(i,.map ag sh (jk es r.1 q) bs ck)],[],[i]⟩)
    (ret ⟨.undef,[],[(i,.map ag sh (es++[(x,q)]) (bs++[ck]) (ck+1))],[],[i]⟩)
   |_=>fail)
def oU(C:Ctx) (s:AS) (t:TypeId) (m x:Operand):Tr Ef:=
 gL C s t (s.ev C m) fun i ag sh es bs ck=>force (s.ev C x) fun x=>bp (lB ag sh x) (aI (ck<=9223372036854775807)
  (gb (bF es x) (fun r=>ret ⟨.tuple [.int .i64 r.2,.int .i64 (bs.getD r.1 0:Nat)],[],[(i,.map ag sh es bs ck)],[],[i]⟩)
   (ret ⟨.tuple [.int .i64 0,.int .i64 ck],[],[(i,.map ag sh (es++[(x,0)]) (bs++[ck]) (ck+1))],[],[i]⟩)))
def rH(C:Ctx) (s:AS) (t:TypeId) (m b y:Operand):Tr Ef:=
 gL C s t (s.ev C m) fun i ag sh es bs ck=>match s.ev C b,s.ev C y with
  |.int .i64 b,.int .i64 q=>tU fun j=>aI (0<=b/\bs[j]?=some b.toNat) (ret ⟨.undef,[],[(i,.map ag sh (jk es j q) bs ck)],[],[i]⟩)
  |_,_=>fail
def rG(C:Ctx) (s:AS) (t:TypeId) (m x:V):Tr Ef:=
 gL C s t m fun i ag sh es bs ck=>force x fun x=>bp (lB ag sh x)
  (gb (bF es x) (fun r=>ret ⟨.tuple [],[],[(i,.map ag sh (es.eraseIdx r.1) (bs.eraseIdx r.1) ck)],[],[i]⟩) (ret ⟨.tuple [],[],[(i,.map ag sh es bs ck)],[],[i]⟩))
def rL(C:Ctx) (s:AS) (t:TypeId) (m:V):Tr Ef:=
 gL C s t m fun i _ _ _ bs ck=>cY s.sg.length fun n=>ret ⟨.ptr n 0,[],[],[.miter (.map i) bs ck (List.range bs.length) bs.length],[i]⟩
def keyV:V->V
 |.str s=>.str s
 |_=>.undef
def tO(C:Ctx) (s:AS) (x:Operand):Tr Ef:=
 match s.ev C x with
 |.ptr k 0=>match aD s.sg k with
   |.miter (.map i) bs ck _ last=>match aD s.sg i with
     |.map _ _ es bs' ck'=>aI (bs'=bs/\ck'=ck) (qw es last fun e=>ret ⟨.tuple [keyV e.1,.int .i64 e.2],[],[],[],[k,i]⟩)
     |_=>fail
   |_=>fail
 |_=>fail

def nk(C:Ctx) (s:AS) (b:Builtin) (ts:List TypeId) (args:List V):Tr Ef:=
  match b,ts,args with
  |.len,[t],[x]=>match (C.ti t).k with
    |.array n _=>bp (Nat.ble n 4294967296) (ret (pe (.int .i64 n)))
    |.string=>match x with
      |.str a=>ret (pe (.int .i64 a.length))
      |_=>fail
    |.slice _=>match x with
      |.list _ _ l=>ret (pe (.int .i64 l.length))
      |.buf i=>match aD s.sg i with
        |.buf _ _ l=>ret ⟨.int .i64 l.length,[],[],[],[i]⟩
        |_=>fail
      |_=>fail
    |_=>fail
  |.append,[t,t2],[x,y]=>match (C.ti t).k,(C.ti t2).k with
    |_,.int _=>fail
    |_,.other=>fail
    |.slice e,_=>match (C.ti e).k with
      |.other=>fail
      |_=>bp (Nat.ble (C.ti e).bytes 4096&&Nat.blt 0 (C.ti e).size&&!(C.ti e).zero.eZ&&Nat.beq (C.ti e).zero.cells.length (C.ti e).size) (fA (elems s y) fun r=>match r with
        |(sz,ys,rd) =>bp (jN sz (C.ti e).size ys) (qb C s e sz x ys rd))
    |_,_=>fail
  |.copy,[t,_],[x,y]=>match (C.ti t).k,x with
    |.slice e,.buf i=>match (C.ti e).k with
      |.other=>fail
      |_=>match aD s.sg i with
        |.buf sz0 0 l=>fA (elems s y) fun r=>match r with
          |(sz,ys,rd) =>bp (jN sz sz0 ys&&Nat.beq sz0 (C.ti e).size&&!aH i rd)
            (ret ⟨.int .i64 (min ys.length l.length:Nat),[],[(i,.buf sz0 0 (ys.take l.length++l.drop ys.length))],[],i::rd⟩)
        |_=>fail
    |.slice e,.view i off n=>match (C.ti e).k with
      |.other=>fail
      |_=>match aD s.sg i with
        |.cells cs=>fA (elems s y) fun r=>match r with
          |(sz,ys,rd) =>bp (jN sz 1 ys&&Nat.beq (C.ti e).size 1&&!aH i rd&&eG ys) (eH (jM cs off (ys.take n)) fun cs'=>
            ret ⟨.int .i64 (min ys.length n:Nat),[],[(i,.cells cs')],[],i::rd⟩)
        |.buf sz0 0 l=>fA (elems s y) fun r=>match r with
          |(sz,ys,rd) =>bp (jN sz sz0 ys&&Nat.beq sz0 (C.ti e).size&&!aH i rd) (tU fun k=>aI (off=k*sz0/\k+n=l.length)
            (ret ⟨.int .i64 (min ys.length n:Nat),[],[(i,.buf sz0 0 (l.take k++(ys.take n++l.drop (k+ys.length))))],[],i::rd⟩))
        |_=>fail
    |_,_=>fail
  |.delete,t::_,[m,x]=>rG C s t m x
  |.max,_,[.int k a,.int k' b]=>bp (fZ k k') (ret (pe (.int k (if b>a then b else a))))
  |.min,_,[.int k a,.int k' b]=>bp (fZ k k') (ret (pe (.int k (if b<a then b else a))))
  |_,_,_=>fail

def lX(C:Ctx) (s:AS) (src dst:TypeId) (x:V):Tr Ef:=
 match (C.ti src).k,(C.ti dst).k,x with
 |.other,_,_=>fail
 |_,.int k,.int _ n=>ret (pe (.int k (k.wrap n)))
 |.string,.string,.str a=>ret (pe (.str a))
 |.string,.slice e,.str a=>match (C.ti e).k with
   |.int .u8=>ret (pe (.list false 1 (bl a)))
   |_=>fail
 |.slice e,.string,x=>match (C.ti e).k,x with
   |_,.str _=>fail
   |.int .u8,_=>fA (elems s x) fun r=>match r with
     |(sz,l,rd) =>bp (jN sz 1 l) (tU fun a=>aI (l=bl a) (ret ⟨.str a,[],[],[],rd⟩))
   |_,_=>fail
 |_,_,_=>fail

def qd(C:Ctx) (s:AS) (a b:TypeId) (x:V):Tr Ef:=match x with
  |.buf i=>cond (Nat.beq a b) (match (C.ti a).k with
    |.slice e=>match (C.ti e).k with
      |.int .u8=>match aD s.sg i with
        |.buf sz pre (y::l) =>ret ⟨.buf i,[],[(i,.buf sz pre (y::l))],[],[i]⟩
        |_=>fail
      |_=>fail
    |_=>fail) (lX C s a b (.buf i))
  |x=>lX C s a b x

def lp(r:Option (Prop×Ef)):Tr Ef:=eH r fun p=>aI p.1 (fun K=>kD p.2 K)

def kz(C:Ctx) (s:AS) (len:Nat) (lo hi:Option Operand):Tr (Option Int×Option Int):=
 match lo,hi with
 |none,none=>ret (none,none)
 |some l,none=>match s.ev C l with
   |.int _ l=>aI (0<=l/\l<=len) (ret (some l,none))
   |_=>fail
 |none,some h=>match s.ev C h with
   |.int _ h=>aI (0<=h/\h<=len) (ret (none,some h))
   |_=>fail
 |some l,some h=>match s.ev C l,s.ev C h with
   |.int _ l,.int _ h=>aI (0<=l/\l<=h/\h<=len) (ret (some l,some h))
   |_,_=>fail
def tv{α:Type} (a:List α):Option Int×Option Int->List α
 |(none,none) =>a
 |(some l,none) =>a.drop l.toNat
 |(none,some h) =>a.take h.toNat
 |(some l,some h) =>(a.take h.toNat).drop l.toNat
def tq{α β:Type} (a:List α) (r:Option Int×Option Int) (K:List α->Tr β):Tr β:=match r with
 |(none,none) =>K a
 |(some l,none) =>K (a.drop l.toNat)
 |(none,some h) =>K (a.take h.toNat)
 |(some l,some h) =>K ((a.take h.toNat).drop l.toNat)
@[simp] theorem tu{α β:Type} (a:List α) (r:Option Int×Option Int) (K:List α->Tr β):tq a r K=K (tv a r):=by
 obtain⟨l,h⟩:=r;cases l<;>cases h<;>rfl

def wu(C:Ctx) (s:AS) (c a b:Operand):Tr Ef:=
 match s.ev C c with
 |.bool t=>force (s.ev C a) fun a=>force (s.ev C b) fun b=>match a,b with
   |.bool x,.bool y=>ret (pe (.bool (cond t x y)))
   |x,y=>nh t (ret (pe x)) (ret (pe y))
 |_=>fail

def nZ(C:Ctx) (s:AS) (t:TypeId):Tr Ef:=
 match (C.ti t).k with
 |.other=>fail
 |_=>force (C.ti t).zero fun z=>cY s.sg.length fun n=>bp (!z.eZ) (ret ⟨.ptr n 0,[],[],[.cells z.cells],[]⟩)

def o5(C:Ctx) (s:AS) (d:Option Nat) (t:TypeId):Tr Ef:=match d with
  |some d=>match C.rsv d with
    |some k=>match aD s.sg k with
      |.dead=>match (C.ti t).k with
        |.other=>fail
        |_=>force (C.ti t).zero fun z=>bp (Nat.blt k s.sg.length&&!z.eZ&&V.gd z.cells) (ret ⟨.ptr k 0,[k],[(k,.cells z.cells)],[],[]⟩)
      |_=>fail
    |none=>nZ C s t
  |none=>nZ C s t

def tN(C:Ctx) (s:AS) (t:TypeId) (parts:Array (Nat×Operand)):Tr Ef:=
 match (C.ti t).k with
 |.struct fs=>bp (!(C.ti t).zero.eZ) (eH (tW (placeOf C fs) (jY C s parts.toList) (C.ti t).zero.cells) fun cs=>ret (pe (.agg cs)))
 |.array _ e=>match (C.ti e).k with
   |.other=>fail
   |_=>bp (!(C.ti t).zero.eZ) (eH (tW (fun i=>some (i*(C.ti e).size,(C.ti e).size)) (jY C s parts.toList) (C.ti t).zero.cells) fun cs=>ret (pe (.agg cs)))
 |_=>fail

def lW(C:Ctx) (s:AS) (t:TypeId) (len:Nat) (parts:Array (Nat×Operand)):Tr Ef:=
 match (C.ti t).k with
 |.slice e=>match (C.ti e).k with
   |.other=>fail
   |_=>bp (Nat.beq len parts.toList.length&&Nat.blt 0 (C.ti e).size&&Nat.ble (len*(C.ti e).size) 16777216)
     (eH (uD (jY C s parts.toList) 0 (C.ti e).size) fun l=>qi l fun l=>cY (C.ti e).size fun sz=>ret (pe (.list true sz l)))
 |_=>fail

def tQ(C:Ctx) (s:AS) (t:TypeId) (len:Nat) (parts:Array (Nat×Operand)):Tr Ef:=
 fA (lW C s t len parts) fun e=>match e.v with
 |.list _ sz l=>cY s.sg.length fun n=>ret ⟨.buf n,[],[],[.buf sz 0 l],[]⟩
 |_=>fail
def oS(C:Ctx) (s:AS) (dst:Option Nat) (t:TypeId) (len:Nat) (parts:Array (Nat×Operand)):Tr Ef:=match dst with
 |some d=>cond (C.lits d) (tQ C s t len parts) (lW C s t len parts)
 |none=>lW C s t len parts

def qc(C:Ctx) (s:AS) (t:TypeId) (a:Operand):Tr Ef:=
 match (C.ti t).k with
 |.other=>fail
 |k=>match s.ev C a with
   |.box cs off=>fA (kN k.isAgg (C.ti t).size cs off) fun v=>force v fun v=>ret (pe v)
   |.ptr i off=>match aD s.sg i with
     |.cells cs=>fA (kN k.isAgg (C.ti t).size cs off) fun v=>force v fun v=>ret ⟨v,[],[],[],[i]⟩
     |_=>fail
   |.bptr i idx off=>match aD s.sg i with
     |.buf _ _ l=>qw l idx fun x=>bp (!x.eZ) (fA (kN k.isAgg (C.ti t).size x.cells off) fun v=>force v fun v=>ret ⟨v,[],[],[],[i]⟩)
     |_=>fail
   |_=>fail

def rR(C:Ctx) (s:AS) (t:TypeId) (a x:Operand):Tr Ef:=
  match (C.ti t).k with
  |.other=>fail
  |_=>force (s.ev C x) fun x=>bp (Nat.beq x.cells.length (C.ti t).size&&!x.eZ&&eG x.cells) (match s.ev C a with
    |.ptr i off=>match aD s.sg i with
      |.cells cs=>eH (jM cs off x.cells) fun cs'=>ret ⟨.undef,[],[(i,.cells cs')],[],[i]⟩
      |_=>fail
    |.bptr i idx off=>match aD s.sg i with
      |.buf sz pre l=>qw l idx fun y=>match y with
        |.agg cs=>bp x.pure (eH (jM cs off x.cells) fun cs'=>aI (pre<=idx) (ret ⟨.undef,[],[(i,.buf sz pre (l.set idx (.agg cs')))],[],[i]⟩))
        |_=>fail
      |_=>fail
    |_=>fail)

def rQ(C:Ctx) (s:AS) (x:Operand):Tr Ef:=
 match s.ev C x with
 |.ptr i a=>ret (pe (.ptr i a))
 |.bptr i a b=>ret (pe (.bptr i a b))
 |.box cs a=>ret (pe (.box cs a))
 |.func (.func f) a b=>ret (pe (.func (.func f) a b))
 |.iface t v=>ret (pe (.iface t v))
 |_=>fail

def wq(C:Ctx) (s:AS) (t:TypeId) (x:Operand):Tr Ef:=
 match (C.ti t).k with
 |.other|.iface=>fail
 |_=>force (s.ev C x) fun x=>bp (!x.eZ) (ret (pe (.iface t x)))

def rN(C:Ctx) (s:AS) (t:TypeId) (l c:Operand):Tr Ef:=
 match (C.ti t).k,s.ev C l,s.ev C c with
 |.slice e,.int _ n,.int _ m=>match (C.ti e).k with
   |.other=>fail
   |_=>bp (Nat.ble (C.ti e).bytes 4096&&Nat.blt 0 (C.ti e).size&&(C.ti e).zero.pure&&eG (C.ti e).zero.cells&&Nat.beq (C.ti e).zero.cells.length (C.ti e).size) (aI (0<=n/\n<=m/\m<=4294967296)
     (cY s.sg.length fun i=>cY (C.ti e).size fun sz=>force (C.ti e).zero fun z=>ret ⟨.buf i,[],[],[.buf sz 0 (List.replicate n.toNat z)],[]⟩))
 |_,_,_=>fail

def qe(C:Ctx) (s:AS) (t:TypeId) (x:Operand) (lo hi mx:Option Operand):Tr Ef:=
  match (C.ti t).k,s.ev C x,mx with
  |.string,.str a,none=>fA (kz C s a.length lo hi) fun r=>tq a r fun a=>ret (pe (.str a))
  |.slice e,.list _ sz a,none=>match (C.ti e).k with
    |.other=>fail
    |_=>bp (jN sz (C.ti e).size a) (fA (kz C s a.length lo hi) fun r=>tq a r fun a=>ret (pe (.list false sz a)))
  |.slice e,.buf i,none=>match (C.ti e).k with
    |.other=>fail
    |_=>match aD s.sg i,lo,hi with
      |.buf sz pre l,none,some h=>match s.ev C h with
        |.int _ h=>bp (Nat.beq sz (C.ti e).size) (aI ((pre:Int)<=h/\h<=l.length) (ret ⟨.buf i,[i],[(i,.buf sz pre (l.take h.toNat))],[],[i]⟩))
        |_=>fail
      |_,_,_=>fail
  |.slice e,.buf i,some m=>match (C.ti e).k with
    |.other=>fail
    |_=>match aD s.sg i,lo,hi with
      |.buf sz _ l,none,some h=>match s.ev C h,s.ev C m with
        |.int _ h,.int _ m=>bp (Nat.beq sz (C.ti e).size) (aI (h=l.length/\m=l.length) (ret ⟨.list true sz l,[],[(i,.buf sz l.length l)],[],[i]⟩))
        |_,_=>fail
      |_,_,_=>fail
  |.slice e,.list c sz l,some m=>match (C.ti e).k with
    |.other=>fail
    |_=>match lo,hi with
      |none,some h=>match s.ev C h,s.ev C m with
        |.int _ h,.int _ m=>bp (jN sz (C.ti e).size l) (aI (0<=h/\h=m/\m<=l.length) (ret (pe (.list c sz (l.take h.toNat)))))
        |_,_=>fail
      |_,_=>fail
  |.array m e,.ptr i a,none=>match (C.ti e).k with
    |.other=>fail
    |k=>match aD s.sg i with
      |.cells cs=>bp (Nat.beq (C.ti e).size 1&&!k.isAgg&&V.gd cs&&eG cs&&Nat.ble m 1048576) (eH (jO (ly cs a) m) fun l=>
       fA (kz C s m lo hi) fun r=>tq l r fun l=>ret ⟨.list false 1 l,[i],[(i,.dead)],[],[i]⟩)
      |_=>fail
  |.array m e,.box cs a,none=>match (C.ti e).k with
    |.other=>fail
    |k=>bp (Nat.beq (C.ti e).size 1&&!k.isAgg&&V.gd cs&&eG cs&&Nat.ble m 1048576) (eH (jO (ly cs a) m) fun l=>
     fA (kz C s m lo hi) fun r=>tq l r fun l=>ret (pe (.list false 1 l)))
  |_,_,_=>fail

def rJ(C:Ctx) (s:AS) (t:TypeId) (x:Operand) (f:Nat):Tr Ef:=
 match (C.ti t).k with
 |.struct fs=>eH (oa fs f) fun ft=>match (C.ti ft.2).k with
   |.other=>fail
   |_=>bp (Nat.blt 0 (C.ti ft.2).size) (match s.ev C x with
     |.ptr i a=>cY (a+ft.1) fun a=>ret (pe (.ptr i a))
     |.bptr i j a=>cY (a+ft.1) fun a=>ret (pe (.bptr i j a))
     |.box cs a=>cY (a+ft.1) fun a=>ret (pe (.box cs a))
     |_=>fail)
 |_=>fail

def rI(C:Ctx) (s:AS) (t:TypeId) (x:Operand) (f:Nat):Tr Ef:=
 match (C.ti t).k,s.ev C x with
 |.struct fs,.agg cs=>eH (oa fs f) fun ft=>match (C.ti ft.2).k with
   |.other=>fail
   |k=>fA (kN k.isAgg (C.ti ft.2).size cs ft.1) fun v=>force v fun v=>ret (pe v)
 |_,_=>fail

def tP(C:Ctx) (s:AS) (t:TypeId) (x ix:Operand):Tr Ef:=
 match (C.ti t).k,s.ev C x,s.ev C ix with
 |.slice e,.list _ sz l,.int _ n=>match (C.ti e).k with
   |.other=>fail
   |_=>bp (Nat.beq sz (C.ti e).size) (aI (0<=n) (qw l n.toNat fun y=>bp (!y.eZ) (ret (pe (.box y.cells 0)))))
 |.slice e,.buf i,.int _ n=>match (C.ti e).k with
   |.other=>fail
   |_=>match aD s.sg i with
     |.buf sz _ l=>bp (Nat.beq sz (C.ti e).size) (aI (0<=n/\n<l.length) (ret ⟨.bptr i n.toNat 0,[],[],[],[i]⟩))
     |_=>fail
 |.array m e,.ptr i a,.int _ n=>match (C.ti e).k with
   |.other=>fail
   |_=>aI (0<=n/\n<m) (cY (C.ti e).size fun sz=>ret (pe (.ptr i (a+n.toNat*sz))))
 |.array m e,.box cs a,.int _ n=>match (C.ti e).k with
   |.other=>fail
   |_=>aI (0<=n/\n<m) (cY (C.ti e).size fun sz=>ret (pe (.box cs (a+n.toNat*sz))))
 |_,_,_=>fail

def wo(C:Ctx) (s:AS) (t:TypeId) (x ix:Operand):Tr Ef:=
 match (C.ti t).k,s.ev C x,s.ev C ix with
 |.string,.str a,.int _ n=>aI (0<=n) (qw a n.toNat fun b=>ret (pe (.int .u8 b.toNat)))
 |.array m e,.agg cs,.int _ n=>match (C.ti e).k with
   |.other=>fail
   |k=>aI (0<=n/\n<m) (fA (kN k.isAgg (C.ti e).size cs (n.toNat*(C.ti e).size)) fun v=>force v fun v=>ret (pe v))
 |_,_,_=>fail

def wi(C:Ctx) (s:AS) (x:Operand) (t:TypeId) (ok:Bool):Tr Ef:=
 match (C.ti t).k,s.ev C x with
 |.other,_|.iface,_=>fail
 |_,.iface u v=>match Nat.beq u t,ok with
   |true,true=>ret (pe (.tuple [v,.bool true]))
   |true,false=>ret (pe v)
   |false,true=>force (C.ti t).zero fun z=>bp (!z.eZ) (ret (pe (.tuple [z,.bool false])))
   |false,false=>fail
 |_,.nilIface=>match ok with
   |true=>force (C.ti t).zero fun z=>bp (!z.eZ) (ret (pe (.tuple [z,.bool false])))
   |false=>fail
 |_,_=>fail

def wm(C:Ctx) (s:AS) (x:Operand) (i:Nat):Tr Ef:=
 match s.ev C x with
 |.tuple vs=>eH (mJ vs i) fun v=>force v fun v=>ret (pe v)
 |_=>fail

def rK(C:Ctx) (s:AS) (t:TypeId) (x:Operand):Tr Ef:=
 match (C.ti t).k,s.ev C x with
 |.string,.str a=>cY s.sg.length fun n=>ret ⟨.ptr n 0,[],[],[.siter a 0],[]⟩
 |.map _ _,m=>rL C s t m
 |_,_=>fail

def tR(C:Ctx) (s:AS) (x:Operand) (str:Bool):Tr Ef:=
  match s.ev C x,str with
  |.ptr i 0,true=>match aD s.sg i with
    |.siter a pos=>nh (decide (pos<a.length)) (eH a[pos]? fun b=>aI (b.toNat<128) (ret ⟨.tuple [.bool true,.int .i64 pos,.int .i32 b.toNat],[],[(i,.siter a (pos+1))],[],[i]⟩))
     (ret ⟨.tuple [.bool false],[],[],[],[i]⟩)
    |_=>fail
  |_,_=>fail

def rF(C:Ctx) (s:AS) (c:Call):Tr Ef:=
 match c.callee with
 |.builtin b=>qi (s.evs C c.args.toList) fun xs=>nk C s b c.argTypes.toList xs
 |.value _=>eH (target C s c) fun p=>lp (i9 C s.sg p.1 p.2)
 |.invoke r m=>match s.ev C r with
   |.iface t v=>tU fun f=>aI (C.mt t m f) (lp (i9 C s.sg f (v::s.evs C c.args.toList)))
   |_=>fail

def D7:V->Bool
 |.nilIface=>true
 |_=>false
def xm(x y:Operand) (u v:V):Bool:=match x,y with
 |.const .nilIface,_=>D7 v
 |_,.const .nilIface=>D7 u
 |_,_=>false
def rP(C:Ctx) (op:BinOp) (t:TypeId):Tr Ef:=match op,(C.ti t).k with
 |.eql,.iface=>ret (pe (.bool true))
 |.neq,.iface=>ret (pe (.bool false))
 |_,_=>fail
def zj(C:Ctx) (d:Option Nat):Bool:=match d with
 |some d=>match C.rsv d with
   |some _=>true
   |none=>false
 |none=>false
def qf(C:Ctx) (s:AS) (t:TypeId) (x:Operand) (lo hi mx:Option Operand):Tr Ef:=match (C.ti t).k,s.ev C x,hi,mx with
  |.array m e,.ptr i a,none,none=>match (C.ti e).k with
    |.other=>fail
    |_=>bp (Nat.beq (C.ti e).size 1&&Nat.blt 0 m) (match lo with
      |none=>ret (pe (.view i a m))
      |some l=>match s.ev C l with
        |.int _ l=>aI (0<=l/\l<m) (cY (a+l.toNat) fun o=>cY (m-l.toNat) fun n=>ret (pe (.view i o n)))
        |_=>fail)
  |.slice e,.buf i,none,none=>match (C.ti e).k with
    |.other=>fail
    |_=>match aD s.sg i with
      |.buf sz 0 xs=>match lo with
        |some l=>match s.ev C l with
          |.int _ l=>bp (Nat.beq sz (C.ti e).size) (aI (0<=l/\l<=xs.length/\xs≠[]) (ret ⟨.view i (l.toNat*sz) (xs.length-l.toNat),[],[],[],[i]⟩))
          |_=>fail
        |none=>fail
      |_=>fail
  |_,_,_,_=>fail
def ud:Nat->List V->Option (List V)
 |0,_=>some []
 |n+1,.int k m::l=>match ud n l with
   |some r=>some (.int k m::r)
   |none=>none
 |_,_=>none
def wg(C:Ctx) (s:AS) (t:TypeId) (x:Operand):Tr Ef:=match (C.ti t).k,s.ev C x with
 |.array n _,.list _ sz l=>bp (Nat.blt 0 n&&Nat.beq sz 1) (eH (ud n l) fun cs=>ret (pe (.box cs 0)))
 |_,_=>fail
def cL(C:Ctx) (s:AS) (o:Oper):Tr Ef:=
 match o.op with
 |.move x|.assign x=>force (s.ev C x) fun x=>ret (pe x)
 |.pick c a b=>wu C s c a b
 |.alloc t=>o5 C s o.dst t
 |.box _ x=>force (s.ev C x) fun x=>cY s.sg.length fun n=>bp (!x.eZ) (ret ⟨.ptr n 0,[],[],[.cells x.cells],[]⟩)
 |.build t parts=>tN C s t parts
 |.buildSlice t len parts=>oS C s o.dst t len parts
 |.load t a=>qc C s t a
 |.store t a x=>rR C s t a x
 |.nilCheck x=>rQ C s x
 |.binOp op t x y _=>cond (xm x y (s.ev C x) (s.ev C y)) (rP C op t) (fA (oT C op t (s.ev C x) (s.ev C y)) fun v=>ret (pe v))
 |.unOp op _ x=>fA (wv op (s.ev C x)) fun v=>ret (pe v)
 |.convert a b x=>qd C s a b (s.ev C x)
 |.makeInterface t x=>wq C s t x
 |.makeFunc fn a b=>qi (s.evs C a.toList) fun a=>qi (s.evs C b.toList) fun b=>ret (pe (.func fn a b))
 |.makeSlice t l c=>rN C s t l c
 |.slice t x lo hi mx=>cond (zj C o.dst) (qf C s t x lo hi mx) (qe C s t x lo hi mx)
 |.fieldAddr t x f=>rJ C s t x f
 |.field t x f=>rI C s t x f
 |.indexAddr t x ix=>tP C s t x ix
 |.index t x ix=>wo C s t x ix
 |.typeAssert x _ t ok=>wi C s x t ok
 |.extract x i=>wm C s x i
 |.range t x=>rK C s t x
 |.next x b=>tR C s x b
 |.makeMap t none=>rM C s t
 |.lookup t m x ok=>np C s t m x ok
 |.mapUpdate t m x y=>rO C s t m x y
 |.mapEntry t m x=>oU C s t m x
 |.entryStore t m b y=>rH C s t m b y
 |.entry x=>tO C s x
 |.sliceToArrayPointer t x=>wg C s t x
 |.call c=>rF C s c
 |_=>fail

end Go.VG
