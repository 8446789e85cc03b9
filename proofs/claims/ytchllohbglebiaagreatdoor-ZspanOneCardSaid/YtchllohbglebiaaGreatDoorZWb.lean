/-
  A part of the proof.
-/
import Derived.Test.YtchllohbglebiaaGreatDoorZSr
import Derived.Test.YtchllohbglebiaaGreatDoorZSl
import Derived.Test.YtchllohbglebiaaGreatDoorJWp
import Derived.Test.YtchllohbglebiaaGreatDoorZXa
set_option linter.unusedSimpArgs false
set_option linter.unusedVariables false
set_option maxHeartbeats 4000000
set_option maxRecDepth 100000
namespace Go.Proofs.YtchllohbglebiaaGreatDoor
open Go Go.VG
theorem C7:∀l:List Int,(∀x∈l,IntKind.u8.min<=x/\x<=IntKind.u8.max)->l.map (V.int .u8) =bl (l.map byte)
 |[],_=>rfl
 |x::r,h=>by
   have hx:=h x List.mem_cons_self;rw[List.map_cons,List.map_cons,bl,C7 r fun y hy=>h y (d5 _ hy)]
   congr 1
   unfold bv;rw[eO];simpa[IntKind.min,IntKind.max,IntKind.signed,IntKind.bits] using hx
theorem Qc(x0 x1 x2 x3 x4 x5 x6 x7 x8 x9 x10 x11 x12 x13 x14 x15:Int) (hp:True):OK 61 ([.agg [.int .u8 x0,.int .u8 x1,.int .u8 x2,.int .u8 x3,.int .u8 x4,.int .u8 x5,.int .u8 x6,.int .u8 x7,.int .u8 x8,.int .u8 x9,.int .u8 x10,.int .u8 x11,.int .u8 x12,.int .u8 x13,.int .u8 x14,.int .u8 x15]]) ([]) (.str (bP [byte x0,byte x1,byte x2,byte x3,byte x4,byte x5,byte x6,byte x7,byte x8,byte x9,byte x10,byte x11,byte x12,byte x13,byte x14,byte x15])) (none):=by
 refine aq (C:=cx [(111,xK)]) (ar ⟨Da,trivial⟩) (fn:=Tryz.f61) fun hw hs=>?_;simp only[V.wf,V.eK] at hw;obtain⟨⟨hx0,hx1,hx2,hx3,hx4,hx5,hx6,hx7,hx8,hx9,hx10,hx11,hx12,hx13,hx14,hx15,_⟩,_⟩:=hw;all_goals try conv=>whnf
 all_goals try(refine ae.mk ?_;try dsimp only)
 . refine⟨[byte x0,byte x1,byte x2,byte x3,byte x4,byte x5,byte x6,byte x7,byte x8,byte x9,byte x10,byte x11,byte x12,byte x13,byte x14,byte x15],⟨C7 [x0,x1,x2,x3,x4,x5,x6,x7,x8,x9,x10,x11,x12,x13,x14,x15] ?_,?_⟩⟩
   . repeat' first
    |exact List.forall_mem_nil _
    |refine List.forall_mem_cons.2 ⟨by with_reducible assumption,?_⟩
   repeat'((conv=>whnf);apply af)
   all_goals try conv=>whnf
   all_goals try(refine ae.mk ?_;try dsimp only)
   . exact d6 rfl
   . refine ab.mk [] ?_<;>(repeat' first|trivial)
def AO:Sm:=fun args σ=>match args,σ with
 |[.agg [.int .u8 x0,.int .u8 x1,.int .u8 x2,.int .u8 x3,.int .u8 x4,.int .u8 x5,.int .u8 x6,.int .u8 x7,.int .u8 x8,.int .u8 x9,.int .u8 x10,.int .u8 x11,.int .u8 x12,.int .u8 x13,.int .u8 x14,.int .u8 x15]],[]=>some (True,.str (bP [byte x0,byte x1,byte x2,byte x3,byte x4,byte x5,byte x6,byte x7,byte x8,byte x9,byte x10,byte x11,byte x12,byte x13,byte x14,byte x15]),none)
 |_,_=>none
theorem JR:ax 61 AO:=by
 intro args sg pre x r he hp;unfold AO at he;split at he<;>cases he
 . exact Qc (hp:=hp) ..
theorem Q6(x0 x1 x2 x3 x4 x5 x6 x7:Int) (hp:True):OK 62 ([.agg [.int .u8 x0,.int .u8 x1,.int .u8 x2,.int .u8 x3,.int .u8 x4,.int .u8 x5,.int .u8 x6,.int .u8 x7]]) ([]) (.str (bP [byte x0,byte x1,byte x2,byte x3,byte x4,byte x5,byte x6,byte x7])) (none):=by
 refine aq (C:=cx [(111,xK)]) (ar ⟨Da,trivial⟩) (fn:=Tryz.f62) fun hw hs=>?_;simp only[V.wf,V.eK] at hw;obtain⟨⟨hx0,hx1,hx2,hx3,hx4,hx5,hx6,hx7,_⟩,_⟩:=hw;all_goals try conv=>whnf
 all_goals try(refine ae.mk ?_;try dsimp only)
 . refine⟨[byte x0,byte x1,byte x2,byte x3,byte x4,byte x5,byte x6,byte x7],⟨C7 [x0,x1,x2,x3,x4,x5,x6,x7] ?_,?_⟩⟩
   . repeat' first
    |exact List.forall_mem_nil _
    |refine List.forall_mem_cons.2 ⟨by with_reducible assumption,?_⟩
   repeat'((conv=>whnf);apply af)
   all_goals try conv=>whnf
   all_goals try(refine ae.mk ?_;try dsimp only)
   . exact d6 rfl
   . refine ab.mk [] ?_<;>(repeat' first|trivial)
def AL:Sm:=fun args σ=>match args,σ with
 |[.agg [.int .u8 x0,.int .u8 x1,.int .u8 x2,.int .u8 x3,.int .u8 x4,.int .u8 x5,.int .u8 x6,.int .u8 x7]],[]=>some (True,.str (bP [byte x0,byte x1,byte x2,byte x3,byte x4,byte x5,byte x6,byte x7]),none)
 |_,_=>none
theorem JO:ax 62 AL:=by
 intro args sg pre x r he hp;unfold AL at he;split at he<;>cases he
 . exact Q6 (hp:=hp) ..
def eV(s e:Int):Int:=if e>9223372036854775807\/s>e then 0 else s/1000
def fh(s e:Int):Int:=if e>9223372036854775807\/s>e then 0 else(e-s)/1000
theorem Ri(s e:Int) (hp:True):OK 142 ([.agg [.int .u64 s,.int .u64 e]]) ([]) (.int .i64 (if e>9223372036854775807\/s>e then 11 else 0)) (none):=by
 refine aq (C:=cx []) (ar trivial) (fn:=Tryz.f142) fun hw hs=>?_;repeat'((conv=>whnf);(apply av<;>intro h))
 all_goals try conv=>whnf
 all_goals try(refine ae.mk ?_;try dsimp only)
 . rw[if_pos (.inl (by assumption))];refine ab.mk [] ?_<;>(repeat' first|trivial)
 . rw[if_pos (.inr (by assumption))];refine ab.mk [] ?_<;>(repeat' first|trivial)
 . rw[if_neg (by omega)];refine ab.mk [] ?_<;>(repeat' first|trivial)
def B6:Sm:=fun args σ=>match args,σ with
 |[.agg [.int .u64 s,.int .u64 e]],[]=>some (True,.int .i64 (if e>9223372036854775807\/s>e then 11 else 0),none)
 |_,_=>none
theorem K7:ax 142 B6:=by
 intro args sg pre x r he hp;unfold B6 at he;split at he<;>cases he
 . exact Ri (hp:=hp) ..
theorem Rh(s e:Int) (hp:True):OK 114 ([.agg [.int .u64 s,.int .u64 e]]) ([]) (.int .u64 (IntKind.u64.wrap (s.tdiv 1000))) (none):=by
 refine aq (C:=cx []) (ar trivial) (fn:=Tryz.f114) fun hw hs=>?_;repeat'((conv=>whnf);apply af)
 all_goals try conv=>whnf
 all_goals try(refine ae.mk ?_;try dsimp only)
 . decide
 . refine ab.mk [] ?_<;>(repeat' first|trivial)
def B4:Sm:=fun args σ=>match args,σ with
 |[.agg [.int .u64 s,.int .u64 e]],[]=>some (True,.int .u64 (IntKind.u64.wrap (s.tdiv 1000)),none)
 |_,_=>none
theorem K6:ax 114 B4:=by
 intro args sg pre x r he hp;unfold B4 at he;split at he<;>cases he
 . exact Rh (hp:=hp) ..
theorem Rk(s e:Int) (hp:True):OK 115 ([.agg [.int .u64 s,.int .u64 e]]) ([]) (.int .u64 (IntKind.u64.wrap ((IntKind.u64.wrap (e-s)).tdiv 1000))) (none):=by
 refine aq (C:=cx []) (ar trivial) (fn:=Tryz.f115) fun hw hs=>?_;repeat'((conv=>whnf);apply af)
 all_goals try conv=>whnf
 all_goals try(refine ae.mk ?_;try dsimp only)
 . decide
 . refine ab.mk [] ?_<;>(repeat' first|trivial)
def B9:Sm:=fun args σ=>match args,σ with
 |[.agg [.int .u64 s,.int .u64 e]],[]=>some (True,.int .u64 (IntKind.u64.wrap ((IntKind.u64.wrap (e-s)).tdiv 1000)),none)
 |_,_=>none
theorem K9:ax 115 B9:=by
 intro args sg pre x r he hp;unfold B9 at he;split at he<;>cases he
 . exact Rk (hp:=hp) ..
theorem Rm(s e:Int) (hp:True):OK 113 ([.agg [.int .u64 s,.int .u64 e],.func (.func 114) [] []]) ([]) (.int .i64 (eV s e)) (none):=by
 refine aq (C:=cx [(142,B6),(114,B4),(115,B9)]) (ar ⟨K7,K6,K9,trivial⟩) (fn:=Tryz.f113) fun hw hs=>?_;have hb:(0<=s/\s<=18446744073709551615)/\(0<=e/\e<=18446744073709551615):=⟨hw.1.1,hw.1.2.1⟩
 have hd:s.tdiv 1000=s/1000:=Int.tdiv_eq_ediv_of_nonneg hb.1.1;repeat'((conv=>whnf);first|apply af|apply aK|(apply av<;>intro h))
 all_goals try conv=>whnf
 all_goals try(refine ae.mk ?_;try dsimp only)
 all_goals (try simp only[hd] at*)
 all_goals unfold eV
 . by_cases h:e>9223372036854775807\/s>e
   . rw[if_pos h] at*;exact absurd (show(11:Int) =0 by assumption) (by decide)
   . rw[if_neg h];refine ab.mk [] ?_<;>(repeat' first|trivial|apply ah|apply aN)
     rw[bX,kj];omega
 . by_cases h:e>9223372036854775807\/s>e
   . rw[if_pos h];refine ab.mk [] ?_<;>(repeat' first|trivial)
   . rw[if_neg h] at*;exact absurd rfl (show¬(0:Int) =0 by assumption)
theorem Rn(s e:Int) (hp:True):OK 113 ([.agg [.int .u64 s,.int .u64 e],.func (.func 115) [] []]) ([]) (.int .i64 (fh s e)) (none):=by
 refine aq (C:=cx [(142,B6),(114,B4),(115,B9)]) (ar ⟨K7,K6,K9,trivial⟩) (fn:=Tryz.f113) fun hw hs=>?_;have hb:(0<=s/\s<=18446744073709551615)/\(0<=e/\e<=18446744073709551615):=⟨hw.1.1,hw.1.2.1⟩
 repeat'((conv=>whnf);first|apply af|apply aK|(apply av<;>intro h))
 all_goals try conv=>whnf
 all_goals try(refine ae.mk ?_;try dsimp only)
 all_goals unfold fh
 . by_cases h:e>9223372036854775807\/s>e
   . rw[if_pos h] at*;exact absurd (show(11:Int) =0 by assumption) (by decide)
   . rw[if_neg h];have h1:IntKind.u64.wrap (e-s) =e-s:=by rw[kj];omega
     have hd:(e-s).tdiv 1000=(e-s)/1000:=Int.tdiv_eq_ediv_of_nonneg (by omega);rw[h1,hd];refine ab.mk [] ?_<;>(repeat' first|trivial|apply ah|apply aN)
     rw[bX,kj];omega
 . by_cases h:e>9223372036854775807\/s>e
   . rw[if_pos h];refine ab.mk [] ?_<;>(repeat' first|trivial)
   . rw[if_neg h] at*;exact absurd rfl (show¬(0:Int) =0 by assumption)
def Ba:Sm:=fun args σ=>match args,σ with
 |[.agg [.int .u64 s,.int .u64 e],.func (.func 114) [] []],[]=>some (True,.int .i64 (eV s e),none)
 |[.agg [.int .u64 s,.int .u64 e],.func (.func 115) [] []],[]=>some (True,.int .i64 (fh s e),none)
 |_,_=>none
theorem Ka:ax 113 Ba:=by
 intro args sg pre x r he hp;unfold Ba at he;split at he<;>cases he
 . exact Rm (hp:=hp) ..
 . exact Rn (hp:=hp) ..
theorem Rg(s e:Int) (hp:True):OK 64 ([.agg [.int .u64 s,.int .u64 e]]) ([]) (.int .i64 (eV s e)) (none):=by
 refine aq (C:=cx [(113,Ba)]) (ar ⟨Ka,trivial⟩) (fn:=Tryz.f64) fun hw hs=>?_;repeat'((conv=>whnf);apply af)
 all_goals try conv=>whnf
 all_goals try(refine ae.mk ?_;try dsimp only)
 refine ab.mk [] ?_<;>(repeat' first|trivial)
def B3:Sm:=fun args σ=>match args,σ with
 |[.agg [.int .u64 s,.int .u64 e]],[]=>some (True,.int .i64 (eV s e),none)
 |_,_=>none
theorem K5:ax 64 B3:=by
 intro args sg pre x r he hp;unfold B3 at he;split at he<;>cases he
 . exact Rg (hp:=hp) ..
theorem Rj(s e:Int) (hp:True):OK 65 ([.agg [.int .u64 s,.int .u64 e]]) ([]) (.int .i64 (fh s e)) (none):=by
 refine aq (C:=cx [(113,Ba)]) (ar ⟨Ka,trivial⟩) (fn:=Tryz.f65) fun hw hs=>?_;repeat'((conv=>whnf);apply af)
 all_goals try conv=>whnf
 all_goals try(refine ae.mk ?_;try dsimp only)
 refine ab.mk [] ?_<;>(repeat' first|trivial)
def B8:Sm:=fun args σ=>match args,σ with
 |[.agg [.int .u64 s,.int .u64 e]],[]=>some (True,.int .i64 (fh s e),none)
 |_,_=>none
theorem K8:ax 65 B8:=by
 intro args sg pre x r he hp;unfold B8 at he;split at he<;>cases he
 . exact Rj (hp:=hp) ..
def ga(n:Int):Int:=n/1000
theorem Rl(s:Int) (hp:True):OK 117 ([.int .u64 s]) ([]) (.int .i64 (ga s)) (none):=by
 refine aq (C:=cx []) (ar trivial) (fn:=Tryz.f117) fun hw hs=>?_;have hb:0<=s/\s<=18446744073709551615:=hw.1;have hd:s.tdiv 1000=s/1000:=Int.tdiv_eq_ediv_of_nonneg hb.1;repeat'((conv=>whnf);apply af)
 all_goals try conv=>whnf
 all_goals try(refine ae.mk ?_;try dsimp only)
 . decide
 . rw[hd];refine ab.mk [] ?_<;>(repeat' first|trivial|apply ah|apply aN)
   unfold ga;rw[bX,kj];omega
def Fx:Sm:=fun args σ=>match args,σ with
 |[.int .u64 s],[]=>some (True,.int .i64 (ga s),none)
 |_,_=>none
theorem Ul:ax 117 Fx:=by
 intro args sg pre x r he hp;unfold Fx at he;split at he<;>cases he
 . exact Rl (hp:=hp) ..
def iH(k:Int):Ky:=if k=2 then vn else if k=3 then vk else if k=4 then vm else if k=5 then vl else[]
def Bl:Sm:=fun args σ=>match args,σ with
 |[.int .i64 k],[]=>some (True,.str (iH k),none)
 |_,_=>none
-- #name zWordG zspan.word
theorem Km:ax 47 Bl:=by
 intro args sg pre x r he hp;unfold Bl at he;split at he<;>cases he;rename_i k;unfold iH;by_cases h2:k=2
 . subst h2;exact Ir trivial
 by_cases h3:k=3
 . subst h3;exact Is trivial
 by_cases h4:k=4
 . subst h4;exact Iu trivial
 by_cases h5:k=5
 . subst h5;exact Iv trivial
 rw[if_neg h2,if_neg h3,if_neg h4,if_neg h5];refine aq (C:=cx []) (ar trivial) (fn:=Tryz.f47) fun hw _=>?_;repeat'((conv=>whnf);(apply av<;>intro h))
 all_goals try conv=>whnf
 all_goals try(refine ae.mk ?_;try dsimp only)
 all_goals try(exfalso;omega)
 refine ab.mk [] ?_<;>(repeat' first|trivial)
structure Wb(w:WS) (n:Nat):Prop where
 o:w.out.length<=n
 l:w.l.length<=32
theorem Wb.op{w:WS} {n:Nat} (h:Wb w n) (o:JOp) (hn:-9223372036854775808<=o.n/\o.n<=9223372036854775807):Wb (w.op o) (n+6*o.text.length+30):=
 ⟨by have:=(Wj w o hn).1;have:=h.o;omega,Wi w o h.l⟩
section
variable {w:WS} {n:Nat}
theorem Wb.key(h:Wb w n) (s:Ky):Wb (w.key s) (n+6*s.length+30):=h.op ⟨107,s,0⟩ ⟨by show(_:Int)<=0;decide,by show(0:Int)<=_;decide⟩
theorem Wb.ai(h:Wb w n) (s:Ky):Wb (w.put (quote s)) (n+6*s.length+30):=h.op ⟨115,s,0⟩ ⟨by show(_:Int)<=0;decide,by show(0:Int)<=_;decide⟩
theorem Wb.num(h:Wb w n) (k:Int) (hk:-9223372036854775808<=k/\k<=9223372036854775807):Wb (w.put (fB k)) (n+30):=h.op ⟨110,[],k⟩ hk
theorem Wb.obj(h:Wb w n):Wb (w.begin 123 125) (n+30):=h.op ⟨123,[],0⟩ (by decide)
theorem Wb.pg(h:Wb w n):Wb (w.begin 91 93) (n+30):=h.op ⟨91,[],0⟩ (by decide)
theorem Wb.fin(h:Wb w n):Wb w.fin (n+30):=h.op ⟨101,[],0⟩ (by decide)
theorem Wb.mono{m:Nat} (h:Wb w n) (hm:n<=m):Wb w m:=⟨Nat.le_trans h.o hm,h.l⟩
theorem Wb.ok(h:Wb w n) (hn:n<=1900000000):okW (bl w.out) (w.l.map ef):=kM (by have:=h.o;omega) (by have:=h.l;omega)
theorem Wb.pre(h:Wb w n) (hn:n<=1900000000):w.out.length<=1900000000/\w.l.length<=900:=⟨Nat.le_trans h.o hn,by have:=h.l;omega⟩
end
def mem(w:WS) (k s:Ky):WS:=(w.key k).put (quote s)
def fO(w:WS) (k:Ky) (n:Int):WS:=(w.key k).put (fB n)
theorem Wb.mem{w:WS} {n:Nat} (h:Wb w n) (k s:Ky):Wb (mem w k s) (n+6*k.length+6*s.length+60):=((h.key k).ai s).mono (by omega)
theorem Wb.fO{w:WS} {n:Nat} (h:Wb w n) (k:Ky) (m:Int) (hm:-9223372036854775808<=m/\m<=9223372036854775807):Wb (fO w k m) (n+6*k.length+60):=((h.key k).num m hm).mono (by omega)
theorem Sr(w:WS) (k s:gA) (hp:Wb w 1000000000/\k.length<=100000000/\s.length<=100000000):OK 60 ([.ptr 0 0,.str k,.str s]) (eW w) (.tuple []) (some (eW (mem w k s))):=by
 refine aq (C:=cx [(68,qU),(110,Fv)]) (ar ⟨ug,Uj,trivial⟩) (fn:=Tryz.f60) fun hw hs=>?_;obtain⟨hp,h1,h2⟩:=hp;repeat'((conv=>whnf);apply af)
 all_goals try conv=>whnf
 all_goals try(refine ae.mk ?_;try dsimp only)
 all_goals (try simp only[cz] at*)
 . exact⟨hp.ok (by omega),hp.pre (by omega),h1⟩
 . exact⟨(hp.key k).ok (by omega),(hp.key k).pre (by omega),h2⟩
 . refine ab.mk [] ?_<;>(repeat' first|trivial)
def uY:Sm:=fun args σ=>match args,σ with
 |[.ptr 0 0,.str k,.str s],[.cells [.buf 1,.buf 2,.bool h_w,.int .i64 c_w,.func (.func 58) [] []],.buf 1 0 o_w,.buf 3 0 l_w]=>some (okW o_w l_w/\(Wb (bZ o_w l_w h_w c_w) 1000000000/\k.length<=100000000/\s.length<=100000000),.tuple [],some (eW (mem (bZ o_w l_w h_w c_w) k s)))
 |_,_=>none
theorem zu:ax 60 uY:=by
 intro args sg pre x r he hp;unfold uY at he;split at he<;>cases he
 . rw[kh (hp).1];exact Sr (hp:=hp.2) ..
theorem Sv(w:WS) (k:gA) (n:Int) (hp:Wb w 1000000000/\k.length<=100000000):OK 63 ([.ptr 0 0,.str k,.int .i64 n]) (eW w) (.tuple []) (some (eW (fO w k n))):=by
 refine aq (C:=cx [(68,qU),(112,Fw)]) (ar ⟨ug,Uk,trivial⟩) (fn:=Tryz.f63) fun hw hs=>?_;obtain⟨hp,h1⟩:=hp;repeat'((conv=>whnf);apply af)
 all_goals try conv=>whnf
 all_goals try(refine ae.mk ?_;try dsimp only)
 all_goals (try simp only[cz] at*)
 . exact⟨hp.ok (by omega),hp.pre (by omega),h1⟩
 . exact⟨(hp.key k).ok (by omega),(hp.key k).pre (by omega)⟩
 . refine ab.mk [] ?_<;>(repeat' first|trivial)
def xO:Sm:=fun args σ=>match args,σ with
 |[.ptr 0 0,.str k,.int .i64 n],[.cells [.buf 1,.buf 2,.bool h_w,.int .i64 c_w,.func (.func 58) [] []],.buf 1 0 o_w,.buf 3 0 l_w]=>some (okW o_w l_w/\(Wb (bZ o_w l_w h_w c_w) 1000000000/\k.length<=100000000),.tuple [],some (eW (fO (bZ o_w l_w h_w c_w) k n)))
 |_,_=>none
theorem Df:ax 63 xO:=by
 intro args sg pre x r he hp;unfold xO at he;split at he<;>cases he
 . rw[kh (hp).1];exact Sv (hp:=hp.2) ..
def hJ(w:WS) (k s:Ky):WS:=if s=[] then w else(mem ((w.key k).begin 123 125) jw s).fin
theorem Wb.hJ{w:WS} {n:Nat} (h:Wb w n) (k s:Ky):Wb (hJ w k s) (n+6*k.length+6*s.length+300):=by
 unfold Go.Proofs.YtchllohbglebiaaGreatDoor.hJ;split
 . exact h.mono (by omega)
 . exact(((h.key k).obj.mem jw s).fin).mono (by show _+6*11+_+_+_<=_;omega)
theorem Sk(w:WS) (k s:gA) (hp:Wb w 900000000/\k.length<=10000/\s.length<=1000000):OK 66 ([.ptr 0 0,.str k,.str s]) (eW w) (.tuple []) (some (eW (hJ w k s))):=by
 refine aq (C:=cx [(68,qU),(59,uV),(60,uY),(69,uT)]) (ar ⟨ug,zr,zu,zp,trivial⟩) (fn:=Tryz.f66) fun hw hs=>?_;obtain⟨hp,h1,h2⟩:=hp;unfold hJ;have hk:(jw:Ky).length<=100000000:=by decide
 have hw3:=(hp.key k).obj.mem jw s;have hs3:(jw:Ky).length=11:=rfl;repeat'((conv=>whnf);first|apply af|(apply gI<;>intro h))
 all_goals try conv=>whnf
 all_goals try(refine ae.mk ?_;try dsimp only)
 all_goals (try simp only[cz] at*)
 . rw[if_pos (by assumption)];refine ab.mk [] ?_<;>(repeat' first|trivial)
 . exact⟨hp.ok (by omega),hp.pre (by omega),by omega⟩
 . exact⟨(hp.key k).ok (by omega),(hp.key k).pre (by omega)⟩
 . exact⟨(hp.key k).obj.ok (by omega),(hp.key k).obj.mono (by omega),hk,by omega⟩
 . exact⟨hw3.ok (by omega),hw3.pre (by omega)⟩
 . rw[if_neg (by assumption)];refine ab.mk [] ?_<;>(repeat' first|trivial)
def Bi:Sm:=fun args σ=>match args,σ with
 |[.ptr 0 0,.str k,.str s],[.cells [.buf 1,.buf 2,.bool h_w,.int .i64 c_w,.func (.func 58) [] []],.buf 1 0 o_w,.buf 3 0 l_w]=>some (okW o_w l_w/\(Wb (bZ o_w l_w h_w c_w) 900000000/\k.length<=10000/\s.length<=1000000),.tuple [],some (eW (hJ (bZ o_w l_w h_w c_w) k s)))
 |_,_=>none
theorem Kj:ax 66 Bi:=by
 intro args sg pre x r he hp;unfold Bi at he;split at he<;>cases he
 . rw[kh (hp).1];exact Sk (hp:=hp.2) ..
abbrev oW(w:WS) (e:Ev):WS:=(mem (fO (w.begin 123 125) bz (ga e.time)) fY e.name).fin
def ju:List Ev->Nat
 |[]=>0
 |e::r=>6*e.name.length+400+ju r
def nf(w:WS) (evs:List Ev):WS:=if evs=[] then w else(evs.foldl oW ((w.key bh).begin 91 93)).fin
def nb(e:Ev):Prop:=(0<=e.time/\e.time<=18446744073709551615)/\e.name.length<=1000000
theorem DA{e:Ev} (h:nb e):-9223372036854775808<=ga e.time/\ga e.time<=9223372036854775807:=by
 have:=h.1;unfold ga;omega
theorem Wb.ev{w:WS} {n:Nat} (h:Wb w n) {e:Ev} (he:nb e):Wb (oW w e) (n+(6*e.name.length+400)):=(((h.obj.fO bz _ (DA he)).mem fY e.name).fin).mono (by show _+_+6*9+_+6*5+_+_+_<=_;omega)
theorem Wb.evs:∀{evs:List Ev} {w:WS} {n:Nat},Wb w n->(∀e∈evs,nb e)->Wb (evs.foldl oW w) (n+ju evs)
 |[],_,_,h,_=>h
 |e::r,w,n,h,he=>(Wb.evs (h.ev (he e List.mem_cons_self)) fun x hx=>he x (d5 _ hx)).mono (by rw[ju];omega)
theorem I9:∀evs:List Ev,evs.length<=ju evs
 |[]=>cb _
 |e::r=>by
   have:=I9 r;rw[ju,List.length_cons];omega
theorem Ia:∀(evs:List Ev) (i:Nat),ju (evs.take i)<=ju evs
 |[],_=>by simp
 |e::r,0=>bu _
 |e::r,i+1=>by
   have:=Ia r i;rw[List.take_succ_cons,ju,ju];omega
theorem Wb.ann{w:WS} {n:Nat} {evs:List Ev} (h:Wb w n) (he:∀e∈evs,nb e):Wb (nf w evs) (n+ju evs+300):=by
 unfold nf;split
 . exact h.mono (by omega)
 . exact(((h.key bh).pg.evs he).fin).mono (by show _+6*11+_+_+_+_<=_;omega)
theorem Sj(w:WS) (c:Bool) (evs:List Ev) (n:Nat) (hp:Wb w n) (hn:n+ju evs+1000<=900000000) (he:∀e∈evs,nb e):OK 67 [.ptr 0 0,.list c 3 (evs.map et)] (eW w) (.tuple []) (some (eW (nf w evs))):=by
 refine aq (C:=cx [(68,qU),(59,uV),(116,Fu),(69,uT),(117,Fx),(63,xO),(60,uY)]) (ar ⟨ug,zr,Ui,zp,Ul,Df,zu,trivial⟩) (fn:=Tryz.f67) fun hw _=>?_;have hml:(evs.map et).length=evs.length:=aA _;have hka:(bh:Ky).length=11:=rfl;have hkt:(bz:Ky).length=9:=rfl;have hkv:(fY:Ky).length=5:=rfl;have hw0:=(hp.key bh).pg;repeat'((conv=>whnf);first|apply af|(apply av<;>intro h))
 all_goals try conv=>whnf
 all_goals try(refine ae.mk ?_;try dsimp only)
 all_goals (try simp only[cz,hml] at*)
 . have h0:evs=[]:=co (by omega);subst h0;refine ab.mk [] ?_<;>(repeat' first|trivial)
 . exact⟨hp.ok (by omega),hp.pre (by omega),by show 11<=_;decide⟩
 . exact⟨(hp.key bh).ok (by omega),(hp.key bh).pre (by omega)⟩
 . have hne:evs≠[]:=fun q=>by subst q;exact absurd rfl (show¬((([]:List Ev).length:Nat):Int) =0 by assumption)
   rw[show nf w evs=(evs.foldl oW ((w.key bh).begin 91 93)).fin from if_neg hne];refine aZ.mk Nat (fun i=>i<=evs.length) (fun i=>⟨35,[(0,.ptr 0 0),(13,.list c 3 (evs.map et)),(14,.int .i64 evs.length),(15,.int .i64 i)],eW ((evs.take i).foldl oW ((w.key bh).begin 91 93)),[1,2]⟩) (fun i=>evs.length-i) [] 0 (bu _) ?_ (fun i hi _ _=>?_)
   . apply ay<;>(repeat' first|trivial)
   have htk:=Ia evs i;have hln:=I9 evs;have hnx:i<evs.length->evs.take (i+1) =evs.take i++[evs.getD i default]:=fun h=>oG h;have hmem:i<evs.length->nb (evs.getD i default):=fun h=>he _ (wF h);have hb:=Wb.evs hw0 (fun x hx=>he x (List.mem_of_mem_take hx):∀x∈evs.take i,nb x);generalize hv:(evs.take i).foldl oW ((w.key bh).begin 91 93) =v at*;repeat'((conv=>whnf);first|apply af|(apply av<;>intro h)|with_reducible apply lZ)
   all_goals try conv=>whnf
   all_goals try(refine ae.mk ?_;try dsimp only)
   all_goals (try simp only[cz,hml] at*)
   all_goals generalize evs.getD i default=e at*
   all_goals first|refine stay ?_|omega|skip
   . exact⟨hb.ok (by omega),hb.pre (by omega)⟩
   . exact⟨hb.obj.ok (by omega),hb.obj.mono (by omega),by show 9<=_;decide⟩
   . have h1:=hb.obj.fO bz _ (DA (hmem (by omega)));have h2:=(hmem (by omega)).2;exact⟨h1.ok (by omega),h1.mono (by omega),by show 5<=_;decide,by omega⟩
   . have h1:=(hb.obj.fO bz _ (DA (hmem (by omega)))).mem fY e.name;have h2:=(hmem (by omega)).2;exact⟨h1.ok (by omega),h1.pre (by omega)⟩
   . refine⟨[],i+1,by omega,?_,by omega⟩;rw[hnx (by omega),List.foldl_append,hv];apply ay<;>(repeat' first|trivial|apply ah|apply aN)
     rw[bX];omega
   . exact⟨hb.ok (by omega),hb.pre (by omega)⟩
   . obtain rfl:i=evs.length:=by omega
     rw[List.take_length] at hv;rw[hv];refine ab.mk [] ?_<;>(repeat' first|trivial)
def pY:V->Ev
 |.agg [.int _ t,.str n,_]=>⟨t,n,[]⟩
 |_=>default
theorem P0(evs:List Ev):((evs.map et).map pY).map et=evs.map et:=by
 rw[List.map_map,List.map_map];exact List.map_congr_left fun e _=>rfl
def Bh:Sm:=fun args σ=>match args,σ with
 |[.ptr 0 0,.list c 3 x],[.cells [.buf 1,.buf 2,.bool h,.int .i64 cc,.func (.func 58) [] []],.buf 1 0 o,.buf 3 0 l]=>
   some (okW o l/\x=(x.map pY).map et/\(∃n,Wb (bZ o l h cc) n/\n+ju (x.map pY)+1000<=900000000)/\∀e∈x.map pY,nb e,.tuple [],some (eW (nf (bZ o l h cc) (x.map pY))))
 |_,_=>none
-- #name zAnn zspan.annotations
theorem Ki:ax 67 Bh:=by
 intro args sg pre x r he hp;unfold Bh at he;split at he<;>cases he;obtain⟨h1,h2,⟨n,h3,h4⟩,h5⟩:=hp;rename_i c x h cc o l;have:=Sj (bZ o l h cc) c (x.map pY) n h3 h4 h5;rw[<-h2] at this;rw[kh h1];exact this
section
variable {X:WS} {m:Nat} {k s:Ky}
theorem qN(h:Wb X m) (hm:m<=890000000):okW (bl X.out) (X.l.map ef)/\X.out.length<=1900000000/\X.l.length<=900:=⟨h.ok (by omega),h.pre (by omega)⟩
theorem preK(h:Wb X m) (hm:m<=890000000) (hk:k.length<=100000000):okW (bl X.out) (X.l.map ef)/\(X.out.length<=1900000000/\X.l.length<=900)/\k.length<=100000000:=⟨h.ok (by omega),h.pre (by omega),hk⟩
theorem preB(h:Wb X m) (hm:m<=890000000) (hk:k.length<=100000000) (hs:s.length<=100000000):okW (bl X.out) (X.l.map ef)/\Wb X 1000000000/\k.length<=100000000/\s.length<=100000000:=⟨h.ok (by omega),h.mono (by omega),hk,hs⟩
theorem A9(h:Wb X m) (hm:m<=890000000) (hk:k.length<=100000000):okW (bl X.out) (X.l.map ef)/\Wb X 1000000000/\k.length<=100000000:=⟨h.ok (by omega),h.mono (by omega),hk⟩
theorem Aa(h:Wb X m) (hm:m<=890000000) (hk:k.length<=10000) (hs:s.length<=1000000):okW (bl X.out) (X.l.map ef)/\Wb X 900000000/\k.length<=10000/\s.length<=1000000:=⟨h.ok (by omega),h.mono (by omega),hk,hs⟩
end
end Go.Proofs.YtchllohbglebiaaGreatDoor
