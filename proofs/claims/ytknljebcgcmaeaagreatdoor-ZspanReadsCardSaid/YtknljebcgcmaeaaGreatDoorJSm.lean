/-
  A part of the proof.
-/
import Derived.Test.YtknljebcgcmaeaaGreatDoorVgZC
import Derived.Test.YtknljebcgcmaeaaGreatDoorVgO
import Derived.Test.YtknljebcgcmaeaaGreatDoorProg
import Derived.KernelRfl
import Derived.TacticsInMore
set_option maxHeartbeats 4000000
set_option maxRecDepth 100000
set_option linter.unusedSimpArgs false
set_option linter.unusedVariables false
namespace Go.Proofs.YtknljebcgcmaeaaGreatDoor
open Go Go.VG
def AK:V->Value->Bool
 |.int k n,.int k' m=>decide (k=k'/\n=0/\m=0)
 |.bool b,.bool c=>b==c
 |.str [],.string ⟨⟨[]⟩⟩|.list true 0 [],.slice none 0 0|.nilptr,.pointer none|.nilmap,.map none|.nilIface,.nilIface|.nilFunc,.nilFunc=>true
 |_,_=>false
def AL:List V->List Value->Bool
 |[],[]=>true
 |x::xs,v::vs=>AK x v&&AL xs vs
 |_,_=>false
def Gp:V->Value->Bool
 |.agg xs,.agg vs=>AL xs vs.toList
 |x,v=>AK x v
theorem NJ{x:V} {v:Value} (h:AK x v=true) (st:St) (g:aw) (n:Nat):VR st g x n v:=by
 unfold AK at h;split at h
 . obtain⟨rfl,rfl,rfl⟩:=of_decide_eq_true h;exact zInt st g n
 . cases eq_of_beq h;exact zBool st g n
 . exact zStr st g n
 . exact zList st g n
 . exact zPtr st g n
 . exact zMap st g n
 . exact Z7 st g n
 . exact zFunc st g n
 . cases h
theorem NK(st:St) (g:aw) (n:Nat):∀{xs:List V} {vs:List Value},AL xs vs=true->aE st g xs n vs
 |[],[],_=>dD
 |x::xs,v::vs,h=>by
   rw[AL,aA] at h;exact cu (NJ h.1 st g n) (NK st g n h.2)
 |[],_::_,h=>by cases h
 |_::_,[],h=>by cases h
theorem Z9{x:V} {v:Value} (h:Gp x v=true) (st:St) (g:aw) (n:Nat):VR st g x n v:=by
 unfold Gp at h;split at h
 . simp only[VR];exact⟨_,rfl,NK st g n h⟩
 . exact NJ h st g n
def tyK(P:Program) (t:TypeId) (k:TK):Bool:=match k,P.underlying t with
 |.bool,some .bool|.string,some .string|.iface,some (.interface _)|.func,some (.func _ _ _) =>true
 |.int k,some (.int k') =>decide (k=k')
 |.slice e,some (.slice e')|.ptr e,some (.pointer e') =>decide (e=e')
 |.array n e,some (.array n' e')|.map n e,some (.map n' e') =>decide (n=n'/\e=e')
 |.struct fs,some (.struct fields) =>decide (fields.toList.map (fun f=>(f.offset,f.type)) =fs)&&(fields.toList.mapM (fun f=>(P.info? f.type).map fun i=>(f.offset,i.size))).isSome
 |_,_=>false
theorem YJ{P:Program} {t:TypeId} {k:TK} (h:tyK P t k=true):k.ok P t:=by
 unfold tyK at h;split at h;all_goals first
  |(cases h;done)
  |(rename_i hu;exact hu)
  |(rename_i hu;exact⟨_,hu⟩)
  |(rename_i hu;exact⟨_,_,_,hu⟩)
  |(rename_i hu;cases of_decide_eq_true h;exact hu)
  |(rename_i hu;obtain⟨rfl,rfl⟩:=of_decide_eq_true h;exact hu)
  |(rename_i hu;rw[aA] at h;exact⟨_,hu,of_decide_eq_true h.1,h.2⟩)
def tyC(P:Program) (t:TypeId) (i:TI):Bool:=tyK P t i.k&&match P.info? t with
 |some info=>decide (info.size=i.size/\info.bytes=i.bytes)&&match info.zero with
   |some z=>Gp i.zero z
   |none=>false
 |none=>false
theorem YI{P:Program} {t:TypeId} {i:TI} (h:tyC P t i=true) (hf:i.feq≠[]->i.k.BN P t i.feq):lp P t i:=by
 unfold tyC at h;rw[aA] at h;obtain⟨h1,h⟩:=h;split at h
 . rename_i info hi;rw[aA] at h;obtain⟨h2,h⟩:=h;obtain⟨h2,h3⟩:=of_decide_eq_true h2;split at h
   . rename_i z hz;unfold lp;split
     . trivial
     . exact⟨YJ h1,⟨info,hi,h2,h3,z,hz,fun st g n=>Z9 h st g n⟩,hf⟩
   . cases h
 . cases h
def tt:TypeId->TI:=fun t=>match t with
 |1=>⟨.func,1,8,.nilFunc,[]⟩
 |2=>⟨.int .i64,1,8,.int .i64 0,[]⟩
 |3=>⟨.int .i64,1,8,.int .i64 0,[]⟩
 |4=>⟨.bool,1,1,.bool false,[]⟩
 |5=>⟨.int .u8,1,1,.int .u8 0,[]⟩
 |6=>⟨.int .u8,1,1,.int .u8 0,[]⟩
 |7=>⟨.struct [(0,2),(1,3),(2,4),(3,6)],4,24,.agg [.int .i64 0,.int .i64 0,.bool false,.int .u8 0],[]⟩
 |8=>⟨.struct [(0,2),(1,3),(2,4),(3,6)],4,24,.agg [.int .i64 0,.int .i64 0,.bool false,.int .u8 0],[]⟩
 |9=>⟨.string,1,16,.str [],[]⟩
 |10=>⟨.string,1,16,.str [],[]⟩
 |11=>⟨.string,1,16,.str [],[]⟩
 |12=>⟨.int .u64,1,8,.int .u64 0,[]⟩
 |13=>⟨.struct [(0,9),(1,12)],2,24,.agg [.str [],.int .u64 0],[]⟩
 |14=>⟨.struct [(0,9),(1,12)],2,24,.agg [.str [],.int .u64 0],[]⟩
 |15=>⟨.ptr 308,1,8,.nilptr,[]⟩
 |16=>⟨.ptr 311,1,8,.nilptr,[]⟩
 |17=>⟨.ptr 319,1,8,.nilptr,[]⟩
 |18=>⟨.struct [(0,17)],1,8,.agg [.nilptr],[]⟩
 |19=>⟨.struct [(0,17)],1,8,.agg [.nilptr],[]⟩
 |20=>⟨.iface,1,16,.nilIface,[]⟩
 |21=>⟨.int .i32,1,4,.int .i32 0,[]⟩
 |23=>⟨.slice 76,1,24,.list true 0 [],[]⟩
 |24=>⟨.int .i64,1,8,.int .i64 0,[]⟩
 |26=>⟨.func,1,8,.nilFunc,[]⟩
 |27=>⟨.array 16 5,16,16,.agg [.int .u8 0,.int .u8 0,.int .u8 0,.int .u8 0,.int .u8 0,.int .u8 0,.int .u8 0,.int .u8 0,.int .u8 0,.int .u8 0,.int .u8 0,.int .u8 0,.int .u8 0,.int .u8 0,.int .u8 0,.int .u8 0],[.kI .u8,.kI .u8,.kI .u8,.kI .u8,.kI .u8,.kI .u8,.kI .u8,.kI .u8,.kI .u8,.kI .u8,.kI .u8,.kI .u8,.kI .u8,.kI .u8,.kI .u8,.kI .u8]⟩
 |28=>⟨.array 16 5,16,16,.agg [.int .u8 0,.int .u8 0,.int .u8 0,.int .u8 0,.int .u8 0,.int .u8 0,.int .u8 0,.int .u8 0,.int .u8 0,.int .u8 0,.int .u8 0,.int .u8 0,.int .u8 0,.int .u8 0,.int .u8 0,.int .u8 0],[.kI .u8,.kI .u8,.kI .u8,.kI .u8,.kI .u8,.kI .u8,.kI .u8,.kI .u8,.kI .u8,.kI .u8,.kI .u8,.kI .u8,.kI .u8,.kI .u8,.kI .u8,.kI .u8]⟩
 |29=>⟨.array 8 5,8,8,.agg [.int .u8 0,.int .u8 0,.int .u8 0,.int .u8 0,.int .u8 0,.int .u8 0,.int .u8 0,.int .u8 0],[.kI .u8,.kI .u8,.kI .u8,.kI .u8,.kI .u8,.kI .u8,.kI .u8,.kI .u8]⟩
 |30=>⟨.array 8 5,8,8,.agg [.int .u8 0,.int .u8 0,.int .u8 0,.int .u8 0,.int .u8 0,.int .u8 0,.int .u8 0,.int .u8 0],[.kI .u8,.kI .u8,.kI .u8,.kI .u8,.kI .u8,.kI .u8,.kI .u8,.kI .u8]⟩
 |31=>⟨.int .u64,1,8,.int .u64 0,[]⟩
 |32=>⟨.slice 148,1,24,.list true 0 [],[]⟩
 |33=>⟨.slice 91,1,24,.list true 0 [],[]⟩
 |34=>⟨.slice 93,1,24,.list true 0 [],[]⟩
 |35=>⟨.struct [(0,3),(1,9)],2,24,.agg [.int .i64 0,.str []],[.kI .i64,.kS]⟩
 |36=>⟨.struct [(0,3),(1,9)],2,24,.agg [.int .i64 0,.str []],[.kI .i64,.kS]⟩
 |37=>⟨.struct [(0,28),(16,30),(24,30),(32,9),(33,9),(34,3),(35,31),(36,31),(37,32),(38,33),(39,34),(40,36)],42,184,.agg [.int .u8 0,.int .u8 0,.int .u8 0,.int .u8 0,.int .u8 0,.int .u8 0,.int .u8 0,.int .u8 0,.int .u8 0,.int .u8 0,.int .u8 0,.int .u8 0,.int .u8 0,.int .u8 0,.int .u8 0,.int .u8 0,.int .u8 0,.int .u8 0,.int .u8 0,.int .u8 0,.int .u8 0,.int .u8 0,.int .u8 0,.int .u8 0,.int .u8 0,.int .u8 0,.int .u8 0,.int .u8 0,.int .u8 0,.int .u8 0,.int .u8 0,.int .u8 0,.str [],.str [],.int .i64 0,.int .u64 0,.int .u64 0,.list true 0 [],.list true 0 [],.list true 0 [],.int .i64 0,.str []],[]⟩
 |38=>⟨.struct [(0,28),(16,30),(24,30),(32,9),(33,9),(34,3),(35,31),(36,31),(37,32),(38,33),(39,34),(40,36)],42,184,.agg [.int .u8 0,.int .u8 0,.int .u8 0,.int .u8 0,.int .u8 0,.int .u8 0,.int .u8 0,.int .u8 0,.int .u8 0,.int .u8 0,.int .u8 0,.int .u8 0,.int .u8 0,.int .u8 0,.int .u8 0,.int .u8 0,.int .u8 0,.int .u8 0,.int .u8 0,.int .u8 0,.int .u8 0,.int .u8 0,.int .u8 0,.int .u8 0,.int .u8 0,.int .u8 0,.int .u8 0,.int .u8 0,.int .u8 0,.int .u8 0,.int .u8 0,.int .u8 0,.str [],.str [],.int .i64 0,.int .u64 0,.int .u64 0,.list true 0 [],.list true 0 [],.list true 0 [],.int .i64 0,.str []],[]⟩
 |40=>⟨.func,1,8,.nilFunc,[]⟩
 |41=>⟨.slice 60,1,24,.list true 0 [],[]⟩
 |42=>⟨.func,1,8,.nilFunc,[]⟩
 |51=>⟨.slice 114,1,24,.list true 0 [],[]⟩
 |52=>⟨.struct [(0,51),(1,24)],2,32,.agg [.list true 0 [],.int .i64 0],[]⟩
 |53=>⟨.struct [(0,51),(1,24)],2,32,.agg [.list true 0 [],.int .i64 0],[]⟩
 |57=>⟨.int .i64,1,8,.int .i64 0,[]⟩
 |59=>⟨.struct [(0,5),(1,9),(2,9),(3,3)],4,48,.agg [.int .u8 0,.str [],.str [],.int .i64 0],[.kI .u8,.kS,.kS,.kI .i64]⟩
 |60=>⟨.struct [(0,5),(1,9),(2,9),(3,3)],4,48,.agg [.int .u8 0,.str [],.str [],.int .i64 0],[.kI .u8,.kS,.kS,.kI .i64]⟩
 |61=>⟨.struct [(0,41),(1,3)],2,32,.agg [.list true 0 [],.int .i64 0],[]⟩
 |62=>⟨.struct [(0,41),(1,3)],2,32,.agg [.list true 0 [],.int .i64 0],[]⟩
 |64=>⟨.ptr 38,1,8,.nilptr,[]⟩
 |72=>⟨.slice 74,1,24,.list true 0 [],[]⟩
 |73=>⟨.struct [(0,5),(1,9),(2,3),(3,31),(4,72),(5,32)],6,88,.agg [.int .u8 0,.str [],.int .i64 0,.int .u64 0,.list true 0 [],.list true 0 []],[]⟩
 |74=>⟨.struct [(0,5),(1,9),(2,3),(3,31),(4,72),(5,32)],6,88,.agg [.int .u8 0,.str [],.int .i64 0,.int .u64 0,.list true 0 [],.list true 0 []],[]⟩
 |76=>⟨.struct [(0,5),(1,9),(2,9),(3,3)],4,48,.agg [.int .u8 0,.str [],.str [],.int .i64 0],[.kI .u8,.kS,.kS,.kI .i64]⟩
 |87=>⟨.slice 9,1,24,.list true 0 [],[]⟩
 |88=>⟨.func,1,8,.nilFunc,[]⟩
 |90=>⟨.struct [(0,31),(1,9),(2,32)],3,48,.agg [.int .u64 0,.str [],.list true 0 []],[]⟩
 |91=>⟨.struct [(0,31),(1,9),(2,32)],3,48,.agg [.int .u64 0,.str [],.list true 0 []],[]⟩
 |92=>⟨.struct [(0,28),(16,30),(24,9),(25,32)],26,64,.agg [.int .u8 0,.int .u8 0,.int .u8 0,.int .u8 0,.int .u8 0,.int .u8 0,.int .u8 0,.int .u8 0,.int .u8 0,.int .u8 0,.int .u8 0,.int .u8 0,.int .u8 0,.int .u8 0,.int .u8 0,.int .u8 0,.int .u8 0,.int .u8 0,.int .u8 0,.int .u8 0,.int .u8 0,.int .u8 0,.int .u8 0,.int .u8 0,.str [],.list true 0 []],[]⟩
 |93=>⟨.struct [(0,28),(16,30),(24,9),(25,32)],26,64,.agg [.int .u8 0,.int .u8 0,.int .u8 0,.int .u8 0,.int .u8 0,.int .u8 0,.int .u8 0,.int .u8 0,.int .u8 0,.int .u8 0,.int .u8 0,.int .u8 0,.int .u8 0,.int .u8 0,.int .u8 0,.int .u8 0,.int .u8 0,.int .u8 0,.int .u8 0,.int .u8 0,.int .u8 0,.int .u8 0,.int .u8 0,.int .u8 0,.str [],.list true 0 []],[]⟩
 |94=>⟨.ptr 98,1,8,.nilptr,[]⟩
 |95=>⟨.ptr 170,1,8,.nilptr,[]⟩
 |97=>⟨.struct [(0,95),(1,41)],2,32,.agg [.nilptr,.list true 0 []],[]⟩
 |98=>⟨.struct [(0,95),(1,41)],2,32,.agg [.nilptr,.list true 0 []],[]⟩
 |99=>⟨.int .i64,1,8,.int .i64 0,[]⟩
 |102=>⟨.struct [(0,5),(1,9)],2,24,.agg [.int .u8 0,.str []],[.kI .u8,.kS]⟩
 |103=>⟨.struct [(0,5),(1,9)],2,24,.agg [.int .u8 0,.str []],[.kI .u8,.kS]⟩
 |104=>⟨.func,1,8,.nilFunc,[]⟩
 |105=>⟨.ptr 178,1,8,.nilptr,[]⟩
 |111=>⟨.struct [(0,9),(1,3),(2,3),(3,24)],4,40,.agg [.str [],.int .i64 0,.int .i64 0,.int .i64 0],[.kS,.kI .i64,.kI .i64,.kI .i64]⟩
 |112=>⟨.struct [(0,9),(1,3),(2,3),(3,24)],4,40,.agg [.str [],.int .i64 0,.int .i64 0,.int .i64 0],[.kS,.kI .i64,.kI .i64,.kI .i64]⟩
 |114=>⟨.struct [(0,5),(1,9)],2,24,.agg [.int .u8 0,.str []],[.kI .u8,.kS]⟩
 |133=>⟨.struct [(0,31),(1,31)],2,16,.agg [.int .u64 0,.int .u64 0],[.kI .u64,.kI .u64]⟩
 |134=>⟨.struct [(0,31),(1,31)],2,16,.agg [.int .u64 0,.int .u64 0],[.kI .u64,.kI .u64]⟩
 |137=>⟨.struct [(0,3),(1,4),(2,24)],3,24,.agg [.int .i64 0,.bool false,.int .i64 0],[.kI .i64,.kB,.kI .i64]⟩
 |138=>⟨.struct [(0,3),(1,4),(2,24)],3,24,.agg [.int .i64 0,.bool false,.int .i64 0],[.kI .i64,.kB,.kI .i64]⟩
 |140=>⟨.slice 3,1,24,.list true 0 [],[]⟩
 |141=>⟨.struct [(0,140),(1,4),(2,24)],3,40,.agg [.list true 0 [],.bool false,.int .i64 0],[]⟩
 |142=>⟨.struct [(0,140),(1,4),(2,24)],3,40,.agg [.list true 0 [],.bool false,.int .i64 0],[]⟩
 |147=>⟨.struct [(0,9),(1,74)],7,104,.agg [.str [],.int .u8 0,.str [],.int .i64 0,.int .u64 0,.list true 0 [],.list true 0 []],[]⟩
 |148=>⟨.struct [(0,9),(1,74)],7,104,.agg [.str [],.int .u8 0,.str [],.int .i64 0,.int .u64 0,.list true 0 [],.list true 0 []],[]⟩
 |169=>⟨.struct [(0,9),(1,3),(2,3),(3,24)],4,40,.agg [.str [],.int .i64 0,.int .i64 0,.int .i64 0],[.kS,.kI .i64,.kI .i64,.kI .i64]⟩
 |170=>⟨.struct [(0,9),(1,3),(2,3),(3,24)],4,40,.agg [.str [],.int .i64 0,.int .i64 0,.int .i64 0],[.kS,.kI .i64,.kI .i64,.kI .i64]⟩
 |174=>⟨.func,1,8,.nilFunc,[]⟩
 |175=>⟨.slice 5,1,24,.list true 0 [],[]⟩
 |176=>⟨.slice 230,1,24,.list true 0 [],[]⟩
 |177=>⟨.struct [(0,175),(1,176),(2,4),(3,24),(4,174)],5,72,.agg [.list true 0 [],.list true 0 [],.bool false,.int .i64 0,.nilFunc],[]⟩
 |178=>⟨.struct [(0,175),(1,176),(2,4),(3,24),(4,174)],5,72,.agg [.list true 0 [],.list true 0 [],.bool false,.int .i64 0,.nilFunc],[]⟩
 |184=>⟨.func,1,8,.nilFunc,[]⟩
 |193=>⟨.struct [(0,9),(1,4),(2,24)],3,32,.agg [.str [],.bool false,.int .i64 0],[.kS,.kB,.kI .i64]⟩
 |194=>⟨.struct [(0,9),(1,4),(2,24)],3,32,.agg [.str [],.bool false,.int .i64 0],[.kS,.kB,.kI .i64]⟩
 |202=>⟨.map 9 3,1,8,.nilmap,[.kS]⟩
 |229=>⟨.struct [(0,5),(1,4),(2,4)],3,3,.agg [.int .u8 0,.bool false,.bool false],[.kI .u8,.kB,.kB]⟩
 |230=>⟨.struct [(0,5),(1,4),(2,4)],3,3,.agg [.int .u8 0,.bool false,.bool false],[.kI .u8,.kB,.kB]⟩
 |231=>⟨.ptr 230,1,8,.nilptr,[]⟩
 |233=>⟨.string,1,16,.str [],[]⟩
 |234=>⟨.string,1,16,.str [],[]⟩
 |238=>⟨.struct [(0,9),(1,9),(2,9),(3,3),(4,24)],5,64,.agg [.str [],.str [],.str [],.int .i64 0,.int .i64 0],[.kS,.kS,.kS,.kI .i64,.kI .i64]⟩
 |239=>⟨.struct [(0,9),(1,9),(2,9),(3,3),(4,24)],5,64,.agg [.str [],.str [],.str [],.int .i64 0,.int .i64 0],[.kS,.kS,.kS,.kI .i64,.kI .i64]⟩
 |244=>⟨.int .u64,1,8,.int .u64 0,[]⟩
 |252=>⟨.ptr 254,1,8,.nilptr,[]⟩
 |253=>⟨.struct [(0,95),(1,175)],2,32,.agg [.nilptr,.list true 0 []],[]⟩
 |254=>⟨.struct [(0,95),(1,175)],2,32,.agg [.nilptr,.list true 0 []],[]⟩
 |255=>⟨.ptr 257,1,8,.nilptr,[]⟩
 |256=>⟨.struct [(0,95),(1,175)],2,32,.agg [.nilptr,.list true 0 []],[]⟩
 |257=>⟨.struct [(0,95),(1,175)],2,32,.agg [.nilptr,.list true 0 []],[]⟩
 |260=>⟨.slice 74,1,24,.list true 0 [],[]⟩
 |261=>⟨.slice 148,1,24,.list true 0 [],[]⟩
 |267=>⟨.struct [(0,4),(1,9),(2,9),(3,3)],4,48,.agg [.bool false,.str [],.str [],.int .i64 0],[.kB,.kS,.kS,.kI .i64]⟩
 |268=>⟨.struct [(0,4),(1,9),(2,9),(3,3)],4,48,.agg [.bool false,.str [],.str [],.int .i64 0],[.kB,.kS,.kS,.kI .i64]⟩
 |271=>⟨.int .i64,1,8,.int .i64 0,[]⟩
 |279=>⟨.int .u32,1,4,.int .u32 0,[]⟩
 |295=>⟨.int .u64,1,8,.int .u64 0,[]⟩
 |298=>⟨.ptr 3,1,8,.nilptr,[]⟩
 |301=>⟨.array 20 5,20,20,.agg [.int .u8 0,.int .u8 0,.int .u8 0,.int .u8 0,.int .u8 0,.int .u8 0,.int .u8 0,.int .u8 0,.int .u8 0,.int .u8 0,.int .u8 0,.int .u8 0,.int .u8 0,.int .u8 0,.int .u8 0,.int .u8 0,.int .u8 0,.int .u8 0,.int .u8 0,.int .u8 0],[.kI .u8,.kI .u8,.kI .u8,.kI .u8,.kI .u8,.kI .u8,.kI .u8,.kI .u8,.kI .u8,.kI .u8,.kI .u8,.kI .u8,.kI .u8,.kI .u8,.kI .u8,.kI .u8,.kI .u8,.kI .u8,.kI .u8,.kI .u8]⟩
 |302=>⟨.ptr 295,1,8,.nilptr,[]⟩
 |307=>⟨.struct [(0,17),(1,17),(2,17),(3,9)],4,40,.agg [.nilptr,.nilptr,.nilptr,.str []],[]⟩
 |308=>⟨.struct [(0,17),(1,17),(2,17),(3,9)],4,40,.agg [.nilptr,.nilptr,.nilptr,.str []],[]⟩
 |312=>⟨.int .u8,1,1,.int .u8 0,[]⟩
 |313=>⟨.int .u8,1,1,.int .u8 0,[]⟩
 |314=>⟨.func,1,8,.nilFunc,[]⟩
 |315=>⟨.ptr 5,1,8,.nilptr,[]⟩
 |316=>⟨.int .i32,1,4,.int .i32 0,[]⟩
 |317=>⟨.int .i32,1,4,.int .i32 0,[]⟩
 |318=>⟨.struct [(0,12),(1,12),(2,279),(3,312),(4,5),(5,5),(6,313),(7,314),(8,315),(9,316),(10,317)],11,48,.agg [.int .u64 0,.int .u64 0,.int .u32 0,.int .u8 0,.int .u8 0,.int .u8 0,.int .u8 0,.nilFunc,.nilptr,.int .i32 0,.int .i32 0],[]⟩
 |319=>⟨.struct [(0,12),(1,12),(2,279),(3,312),(4,5),(5,5),(6,313),(7,314),(8,315),(9,316),(10,317)],11,48,.agg [.int .u64 0,.int .u64 0,.int .u32 0,.int .u8 0,.int .u8 0,.int .u8 0,.int .u8 0,.nilFunc,.nilptr,.int .i32 0,.int .i32 0],[]⟩
 |_=>⟨.other,0,0,.undef,[]⟩
theorem rP:∀t,lp Tryz.prog t (tt t):=fun t=>by
 unfold tt;split;all_goals first
  |trivial
  | (refine YI (by kernel_rfl) ?_
     first
      |exact fun h=>absurd rfl h
      |exact fun h=>RR h (by kernel_rfl) (by kernel_rfl) (by kernel_rfl) (by kernel_rfl)
      |exact fun _=>UC (by kernel_rfl)
      |exact fun _=>UD (by kernel_rfl) 8 (by decide) (by kernel_rfl) (by kernel_rfl) (by kernel_rfl) (by kernel_rfl))
def sE:TypeId->Bool:=fun t=>match t with
 |3=>true
 |9=>true
 |_=>false
theorem OH:s8 Tryz.prog tt sE where
 tys:=rP
 kids:=fun t h=>by
  unfold sE at h;split at h<;>first|(cases h;done)|rfl
 pos:=fun t h=>by
  unfold sE at h;split at h<;>first
   |(cases h;done)
   |exact .inl ⟨_,rfl,by decide⟩
   |(refine .inr (.inr (And.intro ?_ ?_))<;>(intro e hh;cases hh))
 fields:=fun t fs h k=>by
  unfold sE at h;split at h<;>first
   |(cases h;done)
   |(cases k;rfl)
   |(cases k;done)
 array:=fun t m e h k=>by
  unfold sE at h;split at h<;>first
   |(cases h;done)
   |(cases k;rfl)
   |(cases k;done)
theorem tK:Tryz.prog.follows .mixedOrders=true:=by kernel_rfl
def gE:Nat->Option (List V):=fun b=>match b with
 |1=>some [.int .u8 (56),.int .u8 (48),.int .u8 (40),.int .u8 (32),.int .u8 (24),.int .u8 (16),.int .u8 (8),.int .u8 (0)]
 |_=>none
def oA:List (Nat×Sm)->Nat->Sm
 |[],_=>sm0
 |(k,s)::r,f=>cond (Nat.beq k f) s (oA r f)
def rn:List (Nat×List gu)->Nat->List gu
 |[],_=>[]
 |(k,s)::r,f=>cond (Nat.beq k f) s (rn r f)
noncomputable def qu(l:List (Nat×Sm)) (h:List (Nat×List gu)):Ctx:=⟨Tryz.prog,tt,gE,fun f=>oA l f,fun _ _ _=>False,fun r=>rn h r,fun _=>false,fun _ _ _ _=>none,fun _ _ _=>none,fun _=>false,fun _=>none⟩
noncomputable abbrev cx(l:List (Nat×Sm)):Ctx:=qu l []
def p0:List (Nat×Sm)->Prop
 |[]=>True
 |(k,s)::r=>xw Tryz.prog gE k s/\p0 r
theorem rp:∀{l:List (Nat×Sm)} {f:Nat},p0 l->xw Tryz.prog gE f (oA l f)
 |[],_,_=>Yc
 |(k,s)::r,f,h=>by
   simp only[oA];cases hb:Nat.beq k f with
   |true=>
     have:=cb hb;subst this;exact h.1
   |false=>exact rp h.2
theorem D1{α:Type} {a:α} (h:(none:Option α) =some a):(none:Option α) =some a:=h
theorem ak{l:List (Nat×Sm)} {hs:List (Nat×List gu)} (h:p0 l):cn (qu l hs) where
 ti:=rP
 mt:=fun _ _ _ h=>h.elim
 hm:=tK
 gam:=fun f args sg pre x r h' hp=>rp h args sg pre x r h' hp
 del:=fun _ _ _ _ _ _ _ _ _ h'=>by cases(D1 h')
noncomputable def cxl(l:List (Nat×Sm)) (n:List Nat):Ctx:=⟨Tryz.prog,tt,gE,fun f=>oA l f,fun _ _ _=>False,fun r=>rn [] r,fun d=>aQ d n,fun _ _ _ _=>none,fun _ _ _=>none,fun _=>false,fun _=>none⟩
theorem Cb{l:List (Nat×Sm)} {n:List Nat} (h:p0 l):cn (cxl l n) where
 ti:=rP
 mt:=fun _ _ _ h=>h.elim
 hm:=tK
 gam:=fun f args sg pre x r h' hp=>rp h args sg pre x r h' hp
 del:=fun _ _ _ _ _ _ _ _ _ h'=>by cases(D1 h')
def tH:List (Nat×dL)->Nat->dL
 |[],_=>psm0
 |(k,s)::r,f=>cond (Nat.beq k f) s (tH r f)
def OKp:List (Nat×dL)->Prop
 |[]=>True
 |(k,s)::r=>xq Tryz.prog gE k s/\OKp r
theorem yO:∀{l:List (Nat×dL)} {f:Nat},OKp l->xq Tryz.prog gE f (tH l f)
 |[],_,_=>Wz
 |(k,s)::r,f,h=>by
   simp only[tH];cases hb:Nat.beq k f with
   |true=>
     have:=cb hb;subst this;exact h.1
   |false=>exact yO h.2
noncomputable def gy(l:List (Nat×Sm)) (p:List (Nat×dL)):Ctx:=⟨Tryz.prog,tt,gE,fun f=>oA l f,fun _ _ _=>False,fun r=>rn [] r,fun _=>false,fun _ _ _ _=>none,fun f=>tH p f,fun _=>false,fun _=>none⟩
theorem gW{l:List (Nat×Sm)} {p:List (Nat×dL)} (h:p0 l) (hp:OKp p):cn (gy l p) where
 ti:=rP
 mt:=fun _ _ _ h=>h.elim
 hm:=tK
 gam:=fun f args sg pre x r h' hp=>rp h args sg pre x r h' hp
 del:=fun f args sg pre c u r x r2 h' hq=>yO hp args sg pre c u r x r2 h' hq
noncomputable def cxq(l:List (Nat×Sm)) (p:List (Nat×dL)) (n:List Nat):Ctx:=⟨Tryz.prog,tt,gE,fun f=>oA l f,fun _ _ _=>False,fun r=>rn [] r,fun _=>false,fun _ _ _ _=>none,fun f=>tH p f,fun d=>aQ d n,fun _=>none⟩
theorem Je{l:List (Nat×Sm)} {p:List (Nat×dL)} {n:List Nat} (h:p0 l) (hp:OKp p):cn (cxq l p n) where
 ti:=rP
 mt:=fun _ _ _ h=>h.elim
 hm:=tK
 gam:=fun f args sg pre x r h' hp=>rp h args sg pre x r h' hp
 del:=fun f args sg pre c u r x r2 h' hq=>yO hp args sg pre c u r x r2 h' hq
def lkR:List (Nat×Nat)->Nat->Option Nat
 |[],_=>none
 |(k,s)::r,d=>cond (Nat.beq k d) (some s) (lkR r d)
noncomputable def pg(l:List (Nat×Sm)) (h:List (Nat×List gu)) (rs:List (Nat×Nat)):Ctx:=⟨Tryz.prog,tt,gE,fun f=>oA l f,fun _ _ _=>False,fun r=>rn h r,fun _=>false,fun _ _ _ _=>none,fun _ _ _=>none,fun _=>false,fun d=>lkR rs d⟩
theorem qW{l:List (Nat×Sm)} {hs:List (Nat×List gu)} {rs:List (Nat×Nat)} (h:p0 l):cn (pg l hs rs) where
 ti:=rP
 mt:=fun _ _ _ h=>h.elim
 hm:=tK
 gam:=fun f args sg pre x r h' hp=>rp h args sg pre x r h' hp
 del:=fun _ _ _ _ _ _ _ _ _ h'=>by cases(D1 h')
abbrev j6(f:FuncId) (args:List V) (σ:List O) (u:Value) (r:Option (List O)):Prop:=sa Tryz.prog gE f args σ u r
abbrev dR(f:FuncId) (s:dL):Prop:=xq Tryz.prog gE f s
abbrev OK(f:FuncId) (args:List V) (σ:List O) (x:V) (r:Option (List O)):Prop:=eH Tryz.prog gE f args σ x r
abbrev aq(f:FuncId) (s:Sm):Prop:=xw Tryz.prog gE f s
mutual
inductive bc where
 |mk (kind:Int) (text:g8) (num bits:Int) (list:List bc) (map:List az)
inductive az where
 |mk (key:g8) (value:bc)
end
instance:Inhabited bc:=⟨.mk 0 [] 0 0 [] []⟩
instance:Inhabited az:=⟨.mk [] default⟩
def bc.kind:bc->Int|.mk k _ _ _ _ _=>k
def bc.text:bc->g8|.mk _ t _ _ _ _=>t
def bc.num:bc->Int|.mk _ _ n _ _ _=>n
def bc.bits:bc->Int|.mk _ _ _ b _ _=>b
def bc.list:bc->List bc|.mk _ _ _ _ l _=>l
def bc.map:bc->List az|.mk _ _ _ _ _ m=>m
def az.key:az->g8|.mk k _=>k
def az.value:az->bc|.mk _ v=>v
mutual
def qA:bc->V
 |.mk k t n b l m=>.agg [.int .u8 k,.str t,.int .i64 n,.int .u64 b,.list false 6 (k9 l),.list false 7 (aS m)]
def k9:List bc->List V
 |[]=>[]
 |v::r=>qA v::k9 r
def vi:az->V
 |.mk k v=>.agg (.str k::(qA v).cells)
def aS:List az->List V
 |[]=>[]
 |a::r=>vi a::aS r
end
abbrev cv(v:bc):List V:=[.int .u8 v.kind,.str v.text,.int .i64 v.num,.int .u64 v.bits,.list false 6 (k9 v.list),.list false 7 (aS v.map)]
abbrev ev(v:bc):V:=.agg [.int .u8 v.kind,.str v.text,.int .i64 v.num,.int .u64 v.bits,.list false 6 (k9 v.list),.list false 7 (aS v.map)]
abbrev ea(a:az):V:=.agg [.str a.key,.int .u8 a.value.kind,.str a.value.text,.int .i64 a.value.num,.int .u64 a.value.bits,.list false 6 (k9 a.value.list),.list false 7 (aS a.value.map)]
theorem BH(v:bc):qA v=ev v:=by cases v;simp[qA,bc.kind,bc.text,bc.num,bc.bits,bc.list,bc.map]
theorem OY(a:az):vi a=ea a:=by cases a;simp[vi,BH,V.cells,az.key,az.value]
theorem BG(l:List bc):k9 l=l.map ev:=by induction l<;>simp_all[k9,BH]
theorem jF(l:List az):aS l=l.map ea:=by induction l<;>simp_all[aS,OY]
@[simp] theorem vj(l:List bc):(k9 l).length=l.length:=by simp[BG]
@[simp] theorem cY(l:List az):(aS l).length=l.length:=by simp[jF]
theorem Jo{l:List bc} {n:Nat} {K:V->Prop} (h1:ae (n<l.length)) (h2:K (ev (l.getD n default))):iz (k9 l) (n:Int).toNat K:=by
 rw[BG];exact ig h1 h2
theorem mM{l:List az} {n:Nat} {K:V->Prop} (h1:ae (n<l.length)) (h2:K (ea (l.getD n default))):iz (aS l) (n:Int).toNat K:=by
 rw[jF];exact ig h1 h2
mutual
def lR:V->bc
 |.agg [.int _ k,.str t,.int _ n,.int _ b,.list _ _ l,.list _ _ m]=>.mk k t n b (qv l) (bJ m)
 |_=>.mk 0 [] 0 0 [] []
def qv:List V->List bc
 |[]=>[]
 |x::r=>lR x::qv r
def va:V->az
 |.agg [.str s,.int _ k,.str t,.int _ n,.int _ b,.list _ _ l,.list _ _ m]=>.mk s (.mk k t n b (qv l) (bJ m))
 |_=>.mk [] (.mk 0 [] 0 0 [] [])
def bJ:List V->List az
 |[]=>[]
 |x::r=>va x::bJ r
end
mutual
theorem HN:∀v:bc,lR (qA v) =v
 |.mk k t n b l m=>by simp[qA,lR,xN l,eu m]
theorem xN:∀l:List bc,qv (k9 l) =l
 |[]=>by simp[k9,qv]
 |v::r=>by simp[k9,qv,HN v,xN r]
theorem OI:∀a:az,va (vi a) =a
 |.mk s (.mk k t n b l m) =>by simp[vi,qA,V.cells,va,xN l,eu m]
theorem eu:∀l:List az,bJ (aS l) =l
 |[]=>by simp[aS,bJ]
 |a::r=>by simp[aS,bJ,OI a,eu r]
end
attribute [simp] xN eu
theorem kO(v:bc):lR (ev v) =v:=by rw[<-BH,HN]
def decLv:V->List bc
 |.list _ _ l=>qv l
 |_=>[]
def kN:V->List az
 |.list _ _ l=>bJ l
 |_=>[]
theorem sF(c:Bool) (z:Nat) (l:List az):kN (.list c z (aS l)) =l:=eu l
def pM(x:V):Prop:=Wk x (ev (lR x))
def mN(x:V):Prop:=Wk x (.list false 7 (aS (kN x)))
theorem tB(v:bc):pM (ev v):=by unfold pM;rw[kO];exact Wk.refl _
theorem mO(l:List az):mN (.list false 7 (aS l)):=by unfold mN;rw[sF];exact Wk.refl _
theorem Ns{v:bc} (h:(ev v).wf):(0<=v.kind/\v.kind<=255)/\v.text.length<=9223372036854775807/\(-9223372036854775808<=v.num/\v.num<=9223372036854775807)/\(0<=v.bits/\v.bits<=18446744073709551615)/\
   (v.list.length<=9223372036854775807/\V.eP (k9 v.list))/\(v.map.length<=9223372036854775807/\V.eP (aS v.map)):=by
 simp only[V.wf,V.eP] at h;obtain⟨h1,h2,h3,h4,h5,h6,_⟩:=h;rw[vj] at h5;rw[cY] at h6;exact⟨h1,h2,h3,h4,h5,h6⟩
mutual
def bc.nodes:bc->Nat
 |.mk _ _ _ _ l m=>1+pR l+iX m
def pR:List bc->Nat
 |[]=>0
 |v::r=>v.nodes+pR r
def az.nodes:az->Nat
 |.mk _ v=>v.nodes
def iX:List az->Nat
 |[]=>0
 |a::r=>a.nodes+iX r
end
theorem yZ(v:bc):v.nodes=1+pR v.list+iX v.map:=by cases v;simp[bc.nodes,bc.list,bc.map]
theorem Lp(a:az):a.nodes=a.value.nodes:=by cases a;simp[az.nodes,az.value]
theorem Lq(v:bc):0<v.nodes:=by rw[yZ];omega
theorem Ln{l:List bc} {i:Nat} (h:i<l.length):(l.getD i default).nodes<=pR l:=by
 induction l generalizing i with
 |nil=>simp at h
 |cons v r ih=>
   cases i with
   |zero=>simp[pR]
   |succ i=>have:=ih (i:=i) (by simpa using h);simp only[pR,List.getD_cons_succ];omega
theorem Lo{l:List az} {i:Nat} (h:i<l.length):(l.getD i default).value.nodes<=iX l:=by
 induction l generalizing i with
 |nil=>simp at h
 |cons v r ih=>
   cases i with
   |zero=>simp[iX,Lp]
   |succ i=>have:=ih (i:=i) (by simpa using h);simp only[iX,List.getD_cons_succ];omega
theorem as0' (w:World):(Instr.typeAssert .nilIface 20 99 true).run Tryz.prog w=.ok (.tuple #[.int .i64 0,.bool false]) w:=by rfl
theorem as1' (n:Int) (w:World):(Instr.typeAssert (.iface 99 (.int .i64 n)) 20 99 true).run Tryz.prog w=.ok (.tuple #[.int .i64 n,.bool true]) w:=by rfl
theorem as0{ev:Operand->Value} {o:Oper} {x:Operand} (ho:o.op=.typeAssert x 20 99 true) (hx:ev x=.nilIface) (w:World):(execOp ev o).run Tryz.prog w=.ok (.value (.tuple #[.int .i64 0,.bool false])) w:=by
 simp only[execOp,ho,hx,Sem.run_bind,as0',Result.andThen_ok,Sem.run_pure]
theorem as1{ev:Operand->Value} {o:Oper} {x:Operand} {n:Int} (ho:o.op=.typeAssert x 20 99 true) (hx:ev x=.iface 99 (.int .i64 n)) (w:World):(execOp ev o).run Tryz.prog w=.ok (.value (.tuple #[.int .i64 n,.bool true])) w:=by
 simp only[execOp,ho,hx,Sem.run_bind,as1',Result.andThen_ok,Sem.run_pure]
theorem ky{ev:Operand->Value} {o:Oper} {x:Operand} {v:Value} {P:Program} (ho:o.op=.move x\/o.op=.assign x) (hx:ev x=v) (w:World):(execOp ev o).run P w=.ok (.value v) w:=by
 rcases ho with ho|ho<;>simp only[execOp,ho,hx,Sem.run_pure]
theorem nO{ev:Operand->Value} {o:Oper} {x:Operand} {i:Nat} {vs:Array Value} {v:Value} {P:Program} (ho:o.op=.extract x i) (hx:ev x=.tuple vs) (hv:vs[i]?=some v) (w:World):(execOp ev o).run P w=.ok (.value v) w:=by
 simp[execOp,ho,hx,Instr.extract,hv]
section
variable {P:Program} {ops:Array Oper} {Q:Exit->Act->List Frame->World->Prop} {i:Nat} {rest:List Nat} {a:Act} {cs:List Frame} {w:World} {o:Oper}
theorem eh{v:Value} (ho:ops[i]?=some o) (hg:o.guard=none) (hx:(execOp a.eval o).run P w=.ok (.value v) w) (h:wpOpsSIn Fence.wide 0 P ops Q rest (a.put o.dst v) cs w):wpOpsSIn Fence.wide 0 P ops Q (i::rest) a cs w:=by
 unfold wpOpsSIn;rw[ho];refine⟨fun _ _=>trivial,?_⟩;rw[if_pos (by simp[Region.wanted,hg]),hx];exact h
theorem G0{v:Value} {cs':List Frame} (ho:ops[i]?=some o) (hg:o.guard=none) (hx:(execOp a.eval o).run P w=.ok .recover w) (hc:recoverD cs=some (v,cs')) (h:wpOpsSIn Fence.wide 0 P ops Q rest (a.put o.dst v) cs' w):wpOpsSIn Fence.wide 0 P ops Q (i::rest) a cs w:=by
 unfold wpOpsSIn;rw[ho];refine⟨fun _ _=>trivial,?_⟩;rw[if_pos (by simp[Region.wanted,hg]),hx];show(match recoverD cs with|some (v,cs') =>_|none=>_);rw[hc];exact h
theorem ME(ho:ops[i]?=some o) (hg:o.guard=none) (hx:(execOp a.eval o).run P w=.ok .recover w) (hc:recoverD cs=none) (h:wpOpsSIn Fence.wide 0 P ops Q rest (a.put o.dst .nilIface) cs w):wpOpsSIn Fence.wide 0 P ops Q (i::rest) a cs w:=by
 unfold wpOpsSIn;rw[ho];refine⟨fun _ _=>trivial,?_⟩;rw[if_pos (by simp[Region.wanted,hg]),hx];show(match recoverD cs with|some (v,cs') =>_|none=>_);rw[hc];exact h
end
theorem KU(v1 v2:Value):[v1,v2].toArray++Array.replicate (11-[v1,v2].toArray.size) undef=#[v1,v2,undef,undef,undef,undef,undef,undef,undef,undef,undef]:=by rfl
theorem Nq{v1 v2 y4 y5 y6 y7 y8:Value} {n:Int} {b:Bool} (hn:-9223372036854775808<=n/\n<=9223372036854775807):∀(st:St) (g:aw) (n':Nat),aE st g [.ptr 0 0,.ptr 1 0] n' [v1,v2]->∀t,VR st g (lk [(3,.bool b),(2,.int .i64 n),(1,.ptr 1 0),(0,.ptr 0 0)] t) n' ((#[v1,v2,.int .i64 n,.bool b,y4,y5,y6,y7,y8,undef,undef]:Array Value).getD t undef):=by
 intro st g n' hv t;obtain⟨x1,q1,q2⟩:=jA hv (i:=0) rfl;obtain⟨x2,q3,q4⟩:=jA hv (i:=1) rfl;cases q1;cases q3
 match t with
 |0=>exact q2
 |1=>exact q4
 |2=>exact⟨rfl,hn⟩
 |3=>rfl
 |t+4=>trivial
theorem OD(σ:List O) (hσ:ga σ σ σ.length):qj Tryz.prog gE 37 [.ptr 0 0,.ptr 1 0] σ none σ:=by
 refine uZ (C:=cx []) (ak trivial) (cfn:=Tryz.f37) (tm:=[(3,.bool false),(2,.int .i64 0),(1,.ptr 1 0),(0,.ptr 0 0)]) rfl rfl rfl rfl (fun vs w c₀ cs Q hl hu h=>?_) ?_
 . obtain⟨v1,v2,rfl⟩:∃v1 v2,vs=[v1,v2]:=by
     match vs,hl with
     |[v1,v2],_=>exact⟨v1,v2,rfl⟩
   rw[show Tryz.f37.ntmps=11 from rfl] at h⊢;rw[KU];apply wpSIn_region;show wpOpsSIn Fence.wide 0 Tryz.prog _ _ _ _ _ _;refine ME rfl rfl rfl (by simp[recoverD,hu,kh]) ?_;refine eh (v:=.tuple #[.int .i64 0,.bool false]) rfl rfl (as0 rfl rfl w) ?_;refine eh (v:=.tuple #[.int .i64 0,.bool false]) rfl rfl (ky (x:=.tmp 6) (v:=.tuple #[.int .i64 0,.bool false]) (.inl rfl) rfl w) ?_;refine eh (v:=.int .i64 0) rfl rfl (nO (x:=.tmp 4) (i:=0) (vs:=#[.int .i64 0,.bool false]) (v:=.int .i64 0) rfl rfl rfl w) ?_;refine eh (v:=.bool false) rfl rfl (nO (x:=.tmp 4) (i:=1) (vs:=#[.int .i64 0,.bool false]) (v:=.bool false) rfl rfl rfl w) ?_;refine eh (v:=.int .i64 0) rfl rfl (ky (x:=.tmp 7) (v:=.int .i64 0) (.inr rfl) rfl w) ?_;refine eh (v:=.bool false) rfl rfl (ky (x:=.tmp 8) (v:=.bool false) (.inr rfl) rfl w) ?_;have hc0:c₀={c₀ with mode:=.returning}:=by cases c₀;simp_all[kh]
   rw[hc0];refine h _ .returning rfl rfl rfl ?_;exact Nq (by decide)
 . repeat'((conv=>whnf);apply af)
   all_goals try conv=>whnf
   all_goals try(refine ae.mk ?_;try dsimp only)
   . rfl
   . exact hσ
   . exact Nat.ble_eq_true_of_le (co _)
theorem Bn(n:Int) (hm:-9223372036854775808<=n/\n<=9223372036854775807):qj Tryz.prog gE 37 [.ptr 0 0,.ptr 1 0] [.cells [.list true 0 []],.cells [.int .i64 0],.dead,.dead,.dead,.buf 1 0 []]
   (some (.iface 99 (.int .i64 n))) [.cells [.list true 0 []],.cells [.int .i64 n],.dead,.dead,.dead,.buf 1 0 []]:=by
 refine uZ (C:=cx []) (ak trivial) (cfn:=Tryz.f37) (tm:=[(3,.bool true),(2,.int .i64 n),(1,.ptr 1 0),(0,.ptr 0 0)]) rfl rfl rfl rfl (fun vs w c₀ cs Q hl hu h=>?_) ?_
 . obtain⟨v1,v2,rfl⟩:∃v1 v2,vs=[v1,v2]:=by
     match vs,hl with
     |[v1,v2],_=>exact⟨v1,v2,rfl⟩
   rw[show Tryz.f37.ntmps=11 from rfl] at h⊢;rw[KU];apply wpSIn_region;show wpOpsSIn Fence.wide 0 Tryz.prog _ _ _ _ _ _;refine G0 (v:=.iface 99 (.int .i64 n)) (cs':={c₀ with mode:=.panicking [{v:=.iface 99 (.int .i64 n),recovered:=true}]}::cs) rfl rfl rfl (by simp[recoverD,hu,kh]) ?_;refine eh (v:=.tuple #[.int .i64 n,.bool true]) rfl rfl (as1 rfl rfl w) ?_;refine eh (v:=.tuple #[.int .i64 n,.bool true]) rfl rfl (ky (x:=.tmp 6) (v:=.tuple #[.int .i64 n,.bool true]) (.inl rfl) rfl w) ?_;refine eh (v:=.int .i64 n) rfl rfl (nO (x:=.tmp 4) (i:=0) (vs:=#[.int .i64 n,.bool true]) (v:=.int .i64 n) rfl rfl rfl w) ?_;refine eh (v:=.bool true) rfl rfl (nO (x:=.tmp 4) (i:=1) (vs:=#[.int .i64 n,.bool true]) (v:=.bool true) rfl rfl rfl w) ?_;refine eh (v:=.int .i64 n) rfl rfl (ky (x:=.tmp 7) (v:=.int .i64 n) (.inr rfl) rfl w) ?_;refine eh (v:=.bool true) rfl rfl (ky (x:=.tmp 8) (v:=.bool true) (.inr rfl) rfl w) ?_;refine h _ (.panicking [{v:=.iface 99 (.int .i64 n),recovered:=true}]) rfl rfl rfl ?_;exact Nq hm
 . repeat'((conv=>whnf);apply af)
   all_goals try conv=>whnf
   all_goals try(refine ae.mk ?_;try dsimp only)
   . rfl
   . (repeat' first|trivial|rfl|refine And.intro ?_ ?_)
   . rfl
def hexDigits:g8:=[48,49,50,51,52,53,54,55,56,57,97,98,99,100,101,102]
def tx(n:Nat):UInt8:=hexDigits.getD n 0
def eM:g8->g8
 |[]=>[]
 |b::s=>tx (b.toNat/16)::tx (b.toNat%16)::eM s
@[simp] theorem ns(s:g8):(eM s).length=2*s.length:=by
 induction s with
 |nil=>rfl
 |cons b s ih=>simp[eM,ih];omega
theorem Ji(s t:g8):eM (s++t) =eM s++eM t:=by
 induction s with
 |nil=>rfl
 |cons b s ih=>simp[eM,ih]
theorem Jj{n k:Int} (m:Nat) (hn:n=m) (hk:k=m+1) (h1:m<16):(List.take k.toNat [48,49,50,51,52,53,54,55,56,57,97,98,99,100,101,102]).drop n.toNat=[tx m]:=by
 subst hn;subst hk;rw[show((m:Int)+1).toNat=m+1 by omega];exact sx 0 (by show m<16;omega)
def digit(n:Nat):UInt8:=.ofNat (48+n)
def dec(n:Nat):g8:=if n<10 then[digit n] else dec (n/10)++[digit (n%10)]
theorem dec_lt{n:Nat} (h:n<10):dec n=[digit n]:=by rw[dec,if_pos h]
theorem Br{n:Nat} (h:¬n<10):dec n=dec (n/10)++[digit (n%10)]:=by rw[dec,if_neg h]
theorem OL(n:Nat):1<=(dec n).length:=by
 rw[dec];split<;>simp
theorem HO:∀(k n:Nat),n<10^(k+1)->(dec n).length<=k+1
 |0,n,h=>by rw[dec_lt (by simpa using h)];simp
 |k+1,n,h=>by
   by_cases hn:n<10
   . rw[dec_lt hn];simp
   . rw[Br hn];have:=HO k (n/10) (by rw[Nat.pow_succ] at h;exact Nat.div_lt_of_lt_mul (by rw[Nat.mul_comm];exact h));simp;omega
theorem xO{n:Nat} (h:n<18446744073709551616):(dec n).length<=20:=HO 19 n (by omega)
def kM(n:Int):g8:=if n<0 then 45::dec n.natAbs else dec n.toNat
theorem OJ{n:Int} (h:-9223372036854775808<=n) (h2:n<=9223372036854775807):(kM n).length<=21:=by
 unfold kM;split
 . have:=xO (n:=n.natAbs) (by omega);simp;omega
 . have:=xO (n:=n.toNat) (by omega);omega
theorem ON{n k:Int} (m:Nat) (hn:n=m) (hk:k=m+1) (h1:m<10):(List.take k.toNat [48,49,50,51,52,53,54,55,56,57]).drop n.toNat=[digit m]:=by
 subst hn;subst hk;rw[show((m:Int)+1).toNat=m+1 by omega,show((m:Int)).toNat=m by omega];rw[sx 0 (by show m<10;omega)];have:m=0\/m=1\/m=2\/m=3\/m=4\/m=5\/m=6\/m=7\/m=8\/m=9:=by omega
 rcases this with h|h|h|h|h|h|h|h|h|h<;>subst h<;>rfl
def be:Nat->Nat->g8
 |0,_=>[]
 |n+1,u=>be n (u/256)++[.ofNat (u%256)]
def u7(c:UInt8):g8:=if c.toNat=34\/c.toNat=92 then[92,c] else if c.toNat<32 then[92,117,48,48]++eM [c] else[c]
def oI(s:g8):g8:=s.flatMap u7
def quote(s:g8):g8:=34::(oI s++[34])
theorem WT(c:UInt8):(u7 c).length<=6:=by unfold u7;split<;>(try split)<;>simp
theorem Dq(s:g8):(oI s).length<=6*s.length:=by
 induction s with
 |nil=>simp[oI]
 |cons c s ih=>have:=WT c;simp only[oI,List.flatMap_cons,an,List.length_cons] at ih⊢;omega
theorem LX(s:g8):(quote s).length<=6*s.length+2:=by have:=Dq s;simp[quote];omega
theorem LW{s:g8} {i:Nat} (h:i<s.length):oI (s.take (i+1)) =oI (s.take i)++u7 (s.getD i 0):=by rw[oO h];simp[oI]
theorem gd{n:Int} (h:0<=n/\n<=255):V.int .u8 n=bv (byte n):=by rw[bv,eK h]
theorem Qq(s:g8) (hs:s.length<=1000000):OK 207 [.str s] [] (.str (eM s)) none:=by
 refine ai (C:=cx []) (ak trivial) (fn:=Tryz.f207) fun _ _=>?_;refine aM.mk Nat (fun i=>i<=s.length) (fun i=>⟨35,[(0,.str s),(3,.str (eM (s.take i))),(4,.int .i64 i)],[],[]⟩) (fun i=>s.length-i) [] 0 (ci _) ?_ (fun i hi _ _=>?_)
 . apply ao<;>(repeat' first|trivial)
 repeat'((conv=>whnf);first|apply af|(apply aj<;>intro h)|with_reducible refine cg ?_ fun hc=>?_)
 all_goals try conv=>whnf
 all_goals try(refine ae.mk ?_;try dsimp only)
 all_goals first|refine stay ?_|trivial|omega|(simp(discharger:=omega) [-List.getD_eq_getElem?_getD,wR]<;>omega)|skip
 . refine⟨[],i+1,by omega,?_,by omega⟩;apply ao<;>(repeat' first|trivial|apply ah|apply cV|apply aC)
   . rw[oO (by omega),Ji];simp only[eM];rw[Jj ((s.getD i 0).toNat/16) (n:=IntKind.u8.wrap _),Jj ((s.getD i 0).toNat%16)]
     . simp
     all_goals (first|omega|(simp(discharger:=omega) only[wR];omega))
   . rw[bz];omega
 . refine ab.mk [] ?_<;>(repeat' first|trivial|apply ah|apply cV)
   rw[gg (by omega)]
def A8:Sm:=fun args σ=>match args,σ with
 |[.str s],[]=>some (s.length<=1000000,.str (eM s),none)
 |_,_=>none
theorem Ka:aq 207 A8:=by
 intro args sg pre x r he hp;unfold A8 at he;split at he<;>cases he;exact Qq _ hp

theorem PC(s:g8) (hs:s.length<=1000000):OK 180 [.list true 0 [],.str s] [] (.buf 0) (some [.buf 1 0 (bl (eM s))]):=by
 refine ai (C:=cx []) (ak trivial) (fn:=Tryz.f180) fun _ _=>?_;repeat'((conv=>whnf);apply af)
 all_goals try conv=>whnf
 all_goals try(refine ae.mk ?_;try dsimp only)
 all_goals first|refine stay ?_|(simp(discharger:=omega) [-List.getD_eq_getElem?_getD,wR]<;>omega)|skip
 refine aM.mk Nat (fun i=>i<=s.length) (fun i=>⟨39,[(1,.str s),(5,.buf 0),(20,.int .i64 s.length),(21,.int .i64 i)],[.buf 1 0 (bl (eM (s.take i)))],[0]⟩) (fun i=>s.length-i) [] 0 (ci _) ?_ (fun i hi _ _=>?_)
 . apply ao<;>(repeat' first|trivial)
 have hA:lE .u8 (((s.getD i 0).toNat:Nat):Int) 4=(((s.getD i 0).toNat/16:Nat):Int):=yg .u8 _ 4;have hB:pK .u8 (((s.getD i 0).toNat:Nat):Int) 15=(((s.getD i 0).toNat%16:Nat):Int):=Sk _ (UInt8.toNat_lt _);repeat'((conv=>whnf);first|apply af|(apply aj<;>intro h)|with_reducible (first|refine cg ?_ fun hc=>?_|refine fH ?_ fun hc=>?_))
 all_goals try conv=>whnf
 all_goals try(refine ae.mk ?_;try dsimp only)
 all_goals first|refine stay ?_|trivial|omega|(simp only[du];omega)|skip
 . simp only[iA,ns,eo,List.length_cons,List.length_nil];omega
 . refine⟨[],i+1,by omega,?_,by omega⟩;apply ao<;>(repeat' first|trivial|apply ah|apply aC|apply bg)
   . (simp(discharger:=omega) only[wR];omega)
   . rw[oO (by omega),Ji,dZ];refine congrArg _ ?_;simp only[eM,bl,bv,tx,hA,hB,Int.toNat_natCast];rfl
 . refine ab.mk [] ?_<;>(repeat' first|trivial|apply ah|apply bg)
   rw[gg (by omega)]
def Ed:Sm:=fun args σ=>match args,σ with
 |[.list true _ [],.str s],[]=>some (s.length<=1000000,.buf 0,some [.buf 1 0 (bl (eM s))])
 |_,_=>none
theorem SP:aq 180 Ed:=by
 intro args sg pre x r he hp;unfold Ed at he;split at he<;>cases he;exact(PC _ hp).args (aP.cons (Wk.nil (.inl rfl)) (aP.refl _))

theorem PD(s:g8) (hs:s.length<=1000000):OK 144 [.str s] [] (.str (eM s)) none:=by
 refine ai (C:=cx [(180,Ed)]) (ak ⟨SP,trivial⟩) (fn:=Tryz.f144) fun _ _=>?_;repeat'((conv=>whnf);first|apply af|apply mJ)
 all_goals try conv=>whnf
 all_goals try(refine ae.mk ?_;try dsimp only)
 all_goals first|refine stay ?_|trivial|skip
 refine ab.mk [] ?_<;>(repeat' first|trivial)
def wO:Sm:=fun args σ=>match args,σ with
 |[.str s],[]=>some (s.length<=1000000,.str (eM s),none)
 |_,_=>none
theorem Cq:aq 144 wO:=by
 intro args sg pre x r he hp;unfold wO at he;split at he<;>cases he;exact PD _ hp
def My(k:Nat):Sm:=fun args σ=>match args,σ with
 |[.int .u64 q],[]=>some ((0<=q/\q<=18446744073709551615)/\q<k,.str (dec q.toNat),none)
 |_,_=>none
theorem f_TextU{k:Nat} (ih:aq 243 (My k)) (n:Nat) (hn:n<k+1) (hb:n<18446744073709551616):OK 243 [.int .u64 n] [] (.str (dec n)) none:=by
 refine ai (C:=cx [(243,My k)]) (ak ⟨ih,trivial⟩) (fn:=Tryz.f243) fun _ _=>?_;have hc:((n:Int).tmod 10) =((n%10:Nat):Int):=by(first|omega|(simp(discharger:=omega) only[wR];omega)|(simp only[du];omega)|(simp(discharger:=omega) [-List.getD_eq_getElem?_getD,wR]<;>omega))
 have hd:IntKind.u64.wrap ((n:Int).tdiv 10) =((n/10:Nat):Int):=by(first|omega|(simp(discharger:=omega) only[wR];omega)|(simp only[du];omega)|(simp(discharger:=omega) [-List.getD_eq_getElem?_getD,wR]<;>omega))
 have hcut:((List.take (IntKind.u64.wrap ((n:Int).tmod 10+1)).toNat [48,49,50,51,52,53,54,55,56,57]).drop ((n:Int).tmod 10).toNat:g8) =[digit (n%10)]:=ON (n%10) hc (by rw[hc];(first|omega|(simp(discharger:=omega) only[wR];omega)|(simp only[du];omega)|(simp(discharger:=omega) [-List.getD_eq_getElem?_getD,wR]<;>omega))) (by omega);repeat'((conv=>whnf);first|with_reducible (first|refine go1 (fun j q h=>?_) fun h=>?_|refine go2 ⟨rfl,rfl⟩ (fun h=>?_) fun j h=>?_|refine go2 ?_ (fun h=>?_) fun j h=>?_|refine cK ?_ (fun h=>?_) fun h=>?_)|apply af|apply fD|apply aI|((first|apply aj|apply go7|apply go8|apply dr|apply e9)<;>intro h)|with_reducible (first|refine iz.mk _ rfl ?_|refine goB ?_ fun hc=>?_|refine goC ?_ fun hc=>?_|refine cg ?_ fun hc=>?_|refine fH ?_ fun hc=>?_|apply j9|apply ig|refine pG ?_ fun b hb=>?_)|apply mJ|apply goJ|apply goK|apply goL|apply goM|apply goN|apply goO|with_reducible refine goP ?_)
 all_goals try conv=>whnf
 all_goals try(refine ae.mk ?_;try dsimp only)
 all_goals first|refine stay ?_|trivial|omega|(simp(discharger:=omega) only[wR];omega)|(simp only[du];omega)|(simp(discharger:=omega) [-List.getD_eq_getElem?_getD,wR]<;>omega)|skip
 . refine ab.mk [] ?_<;>(repeat' first|trivial|rfl|exact eqS _ _|apply ah|apply cV|apply aC|apply jG|apply bg|apply iR|apply kT|apply fQ|apply gC|apply bV)
   exact hcut.trans (by rw[dec_lt (by omega),Nat.mod_eq_of_lt (by omega)])
 . rw[show(List.drop _ (List.take _ _):g8) =_ from hcut,hd,Int.toNat_natCast];have:=xO (n:=n/10) (by omega);simp;omega
 . refine ab.mk [] ?_<;>(repeat' first|trivial|rfl|exact eqS _ _|apply ah|apply cV|apply aC|apply jG|apply bg|apply iR|apply kT|apply fQ|apply gC|apply bV)
   rw[show(List.drop _ (List.take _ _):g8) =_ from hcut,hd,Int.toNat_natCast,Br (n:=n) (by omega)]
def Zq(k:Nat):Sm:=fun args σ=>match args,σ with
 |[.int .i64 q],[]=>some ((-9223372036854775808<=q/\q<=9223372036854775807)/\q.natAbs<k,.str (kM q),none)
 |_,_=>none
def zH:Sm:=fun args σ=>match args,σ with
 |[.list true c []],[]=>some (True,.buf 0,some [.buf 1 0 []])
 |[.buf 0],[.buf 1 0 l]=>some (l.length<=4000000000,.buf 0,some [.buf 1 0 l])
 |_,_=>none
theorem JL:aq 222 zH:=by
 intro args sg pre x r he hp;unfold zH at he;split at he<;>cases he
 . rename_i c;refine eH.args (ys:=[.list true 0 []]) ?_ (aP.cons (Wk.nil (.inl rfl)) (aP.refl _));refine ai (C:=cx []) (ak trivial) (fn:=Tryz.f222) fun _ _=>?_;repeat'((conv=>whnf);apply af)
   all_goals try conv=>whnf
   all_goals try(refine ae.mk ?_;try dsimp only)
   all_goals first|refine stay ?_|trivial|skip
   refine ab.mk [] ?_<;>(repeat' first|trivial)
 . rename_i l;refine ai (C:=cx []) (ak trivial) (fn:=Tryz.f222) fun hw hs=>?_;repeat'((conv=>whnf);apply af)
   all_goals try conv=>whnf
   all_goals try(refine ae.mk ?_;try dsimp only)
   all_goals first|refine stay ?_|(simp(discharger:=omega) only[wR];omega)|skip
   refine ab.mk [.swap 0 1] ?_<;>(repeat' first|trivial|apply ah|apply bg)
   simp
theorem Y2(a:Nat) (d:UInt8) (ds:g8):(List.replicate (a+1) 0++ds).set a d=List.replicate a 0++d::ds:=by
 rw[List.replicate_succ',gc,List.set_append_right _ _ (by simp)];simp
theorem PA(l:List V) (hl:l.length<=4000000000) (n:Nat) (hn:n<18446744073709551616):OK 223 [.buf 0,.int .u64 n] [.buf 1 0 l] (.buf 0) (some [.buf 1 0 (l++bl (dec n))]):=by
 refine ai (C:=cx []) (ak trivial) (fn:=Tryz.f223) fun _ _=>?_;have h20:=xO hn;refine aM.mk (Nat×Nat×g8) (fun|(i,u,ds) =>i+ds.length=20/\dec n=dec u++ds/\u<=n)
  (fun|(i,u,ds) =>⟨23,[(0,.buf 0),(1,.int .u64 u),(5,.ptr 1 0),(6,.int .i64 i)],[.buf 1 0 l,.cells (bl (List.replicate i 0++ds))],[]⟩)
  (fun x=>x.2.1) [] (20,n,[]) (by simp) ?_ (fun⟨i,u,ds⟩ ⟨hi,hd,hu⟩ _ _=>?_)
 . apply ao<;>(repeat' first|trivial)
 have hlen:(dec n).length=(dec u).length+ds.length:=by rw[hd];simp
 have hp:=OL u;have hset:(bl (List.replicate i 0++ds)).set (0+(IntKind.i64.wrap ((i:Int)-1)).toNat*1) (V.int .u8 (IntKind.u8.wrap (48+IntKind.u8.wrap ((u:Int).tmod 10)))) =bl (List.replicate (i-1) 0++digit (u%10)::ds):=by
  rw[show(0+(IntKind.i64.wrap ((i:Int)-1)).toNat*1) =i-1 by(simp(discharger:=omega) only[wR];omega),show IntKind.u8.wrap (48+IntKind.u8.wrap ((u:Int).tmod 10)) =((digit (u%10)).toNat:Int) by
   simp only[digit,UInt8.toNat_ofNat'];(simp(discharger:=omega) only[wR];omega)]
  rw[Ob,<-Y2 (i-1),show i-1+1=i by omega]
 have hq:IntKind.u64.wrap ((u:Int).tdiv 10) =((u/10:Nat):Int):=by(simp(discharger:=omega) only[wR];omega)
 repeat'((conv=>whnf);first|apply af|apply fD|(apply aj<;>intro h)|apply goN|apply goO|with_reducible refine goP ?_)
 all_goals try conv=>whnf
 all_goals try(refine ae.mk ?_;try dsimp only)
 all_goals (try rw[hset])
 all_goals (try rw[hq])
 all_goals first|refine stay ?_|trivial|(simp(discharger:=omega) only[wR];omega)|(simp only[du];omega)|skip
 . rw[iA,an,List.length_replicate];(simp(discharger:=omega) only[wR];omega)
 . rw[WD,VO];rfl
 . rw[iA];simp;omega
 . refine ab.mk [] ?_<;>(repeat' first|trivial|apply ah|apply bg)
   refine congrArg _ ?_;rw[List.drop_zero,gg (by rw[iA];simp;omega),Oa,show(IntKind.i64.wrap ((i:Int)-1)).toNat=i-1 by(simp(discharger:=omega) only[wR];omega),List.drop_left' (by simp),hd,dec_lt (n:=u) (by omega),Nat.mod_eq_of_lt (by omega)];rfl
 . refine⟨[],(i-1,u/10,digit (u%10)::ds),⟨by simp;omega,by rw[hd,Br (n:=u) (by omega)];simp,by omega⟩,?_,by show u/10<u;omega⟩;apply ao<;>(repeat' first|trivial|exact eqS _ _|apply ah|apply aC)
   (simp(discharger:=omega) only[wR];omega)
def zI:Sm:=fun args σ=>match args,σ with
 |[.buf 0,.int .u64 q],[.buf 1 0 l]=>some ((0<=q/\q<=18446744073709551615)/\l.length<=4000000000,.buf 0,some [.buf 1 0 (l++bl (dec q.toNat))])
 |_,_=>none
theorem JM:aq 223 zI:=by
 intro args sg pre x r he hp;unfold zI at he;split at he<;>cases he;obtain⟨⟨h0,h1⟩,h2⟩:=hp;obtain⟨m,rfl⟩:=Int.eq_ofNat_of_zero_le h0;exact PA _ h2 m (by omega)
def Ec:Sm:=fun args σ=>match args,σ with
 |[.list true c [],.int .i64 q],[]=>some (-9223372036854775808<=q/\q<=9223372036854775807,.buf 0,some [.buf 1 0 (bl (kM q))])
 |[.buf 0,.int .i64 q],[.buf 1 0 l]=>some ((-9223372036854775808<=q/\q<=9223372036854775807)/\l.length<=3000000000,.buf 0,some [.buf 1 0 (l++bl (kM q))])
 |_,_=>none
theorem SO:aq 181 Ec:=by
 intro args sg pre x r he hp;unfold Ec at he;split at he<;>cases he
 . rename_i c q;refine eH.args (ys:=[.list true 0 [],.int .i64 q]) ?_ (aP.cons (Wk.nil (.inl rfl)) (aP.refl _));refine ai (C:=cx [(222,zH),(223,zI)]) (ak ⟨JL,JM,trivial⟩) (fn:=Tryz.f181) fun _ _=>?_;repeat'((conv=>whnf);first|apply af|(apply aj<;>intro h))
   all_goals try conv=>whnf
   all_goals try(refine ae.mk ?_;try dsimp only)
   all_goals first|refine stay ?_|trivial|(simp(discharger:=omega) [-List.getD_eq_getElem?_getD,wR]<;>omega)|skip
   . refine ab.mk [] ?_<;>(repeat' first|trivial|apply ah|apply bg)
     unfold kM;rw[if_pos (by assumption),show(IntKind.u64.wrap (0-IntKind.u64.wrap q)).toNat=q.natAbs by(simp(discharger:=omega) only[wR];omega)];rfl
   . refine ab.mk [] ?_<;>(repeat' first|trivial|apply ah|apply bg)
     unfold kM;rw[if_neg (by assumption),show(IntKind.u64.wrap q).toNat=q.toNat by(simp(discharger:=omega) only[wR];omega)];rfl
 . rename_i q l;refine ai (C:=cx [(222,zH),(223,zI)]) (ak ⟨JL,JM,trivial⟩) (fn:=Tryz.f181) fun hw hs=>?_;repeat'((conv=>whnf);first|apply af|(apply aj<;>intro h))
   all_goals try conv=>whnf
   all_goals try(refine ae.mk ?_;try dsimp only)
   all_goals first|refine stay ?_|omega|(simp(discharger:=omega) only[wR];omega)|(simp only[du];omega)|(simp(discharger:=omega) [-List.getD_eq_getElem?_getD,wR]<;>omega)|skip
   . refine ab.mk [] ?_<;>(repeat' first|trivial|apply ah|apply bg)
     unfold kM;rw[if_pos (by omega),show(IntKind.u64.wrap (0-IntKind.u64.wrap q)).toNat=q.natAbs by(simp(discharger:=omega) only[wR];omega)];rw[gc];rfl
   . refine ab.mk [] ?_<;>(repeat' first|trivial|apply ah|apply bg)
     unfold kM;rw[if_neg (by omega),show(IntKind.u64.wrap q).toNat=q.toNat by(simp(discharger:=omega) only[wR];omega)]
def gL(s:g8):Nat->Nat->Int->Int
 |0,_,n=>n
 |r+1,i,n=>if s.length<=i then-1 else gL s r (i+1) (64*n+((s.getD i 0).toNat:Int)-128)
def bR(s:g8):Int:=
 if(s.getD 0 0).toNat<128 then((s.getD 0 0).toNat:Int)
 else if 240<=(s.getD 0 0).toNat then gL s 3 1 (((s.getD 0 0).toNat:Int)-240)
 else if 224<=(s.getD 0 0).toNat then gL s 2 1 (((s.getD 0 0).toNat:Int)-224)
 else gL s 1 1 (((s.getD 0 0).toNat:Int)-192)
theorem Ri(s:g8) (h0:0<s.length) (hs:s.length<=10000000):OK 229 [.str s] [] (.int .i64 (bR s)) none:=by
 refine ai (C:=cx []) (ak trivial) (fn:=Tryz.f229) fun _ _=>?_;have hc0:(s.getD 0 0).toNat<256:=UInt8.toNat_lt _;have hw0:IntKind.i64.wrap ((s.getD (Int.toNat 0) 0).toNat:Int) =((s.getD 0 0).toNat:Int):=by
  have e:Int.toNat 0=0:=rfl;rw[e,bz]<;>omega
 repeat'((conv=>whnf);first|apply af|(apply aj<;>intro h)|with_reducible refine fH ?_ fun hc=>?_)
 all_goals try conv=>whnf
 all_goals try(refine ae.mk ?_;try dsimp only)
 all_goals first|refine stay ?_|trivial|skip
 all_goals simp only[hw0] at*
 . refine ab.mk [] ?_<;>(repeat' first|trivial|apply ah|apply aC)
   unfold bR;rw[if_pos (by omega)]
 . have hg:bR s=gL s 3 1 (((s.getD 0 0).toNat:Int)-240):=by
     unfold bR
     repeat (first|rw[if_pos (by omega)]|rw[if_neg (by omega)])
   refine aM.mk (Nat×Int) (fun|(i,n) =>i<=3+1/\gL s (3+1-i) i n=bR s/\((i=1/\-64<=n/\n<=64)\/(i=2/\-4300<=n/\n<=4300)\/(i=3/\-300000<=n/\n<=300000)\/(i=4/\-20000000<=n/\n<=20000000)))
    (fun|(i,n) =>⟨41,[(6,.int .i64 i),(5,.int .i64 3),(4,.int .i64 n),(0,.str s)],[],[]⟩) (fun x=>3+1-x.1) [] (1,((s.getD 0 0).toNat:Int)-240) ⟨by omega,hg.symm,by omega⟩ ?_ (fun⟨i,n⟩ ⟨hi,he,hb⟩ _ _=>?_)
   . apply ao<;>(repeat' first|trivial|apply ah|apply aC)
     all_goals (simp(discharger:=omega) only[wR];omega)
   have hci:(s.getD i 0).toNat<256:=UInt8.toNat_lt _;repeat'((conv=>whnf);first|apply af|(apply aj<;>intro h)|with_reducible refine cg ?_ fun hc=>?_)
   all_goals try conv=>whnf
   all_goals try(refine ae.mk ?_;try dsimp only)
   all_goals first|refine stay ?_|omega|skip
   . refine ab.mk [] ?_<;>(repeat' first|trivial|apply ah|apply aC)
     rw[<-he,show 3+1-i=(3-i)+1 by omega,gL,if_pos (by omega)]
   . rw[show 3+1-i=(3-i)+1 by omega,gL,if_neg (by omega)] at he;refine⟨[],(i+1,64*n+((s.getD i 0).toNat:Int)-128),⟨by omega,?_,?_⟩,?_,?_⟩
     . rw[show 3+1-(i+1) =3-i by omega];exact he
     . omega
     . apply ao<;>(repeat' first|trivial|apply ah|apply aC)
       all_goals (simp(discharger:=omega) only[wR];omega)
     . omega
   . refine ab.mk [] ?_<;>(repeat' first|trivial|apply ah|apply aC)
     rw[show 3+1-i=0 by omega,gL] at he;exact he
 . have hg:bR s=gL s 2 1 (((s.getD 0 0).toNat:Int)-224):=by
     unfold bR
     repeat (first|rw[if_pos (by omega)]|rw[if_neg (by omega)])
   refine aM.mk (Nat×Int) (fun|(i,n) =>i<=2+1/\gL s (2+1-i) i n=bR s/\((i=1/\-64<=n/\n<=64)\/(i=2/\-4300<=n/\n<=4300)\/(i=3/\-300000<=n/\n<=300000)\/(i=4/\-20000000<=n/\n<=20000000)))
    (fun|(i,n) =>⟨41,[(6,.int .i64 i),(5,.int .i64 2),(4,.int .i64 n),(0,.str s)],[],[]⟩) (fun x=>2+1-x.1) [] (1,((s.getD 0 0).toNat:Int)-224) ⟨by omega,hg.symm,by omega⟩ ?_ (fun⟨i,n⟩ ⟨hi,he,hb⟩ _ _=>?_)
   . apply ao<;>(repeat' first|trivial|apply ah|apply aC)
     all_goals (simp(discharger:=omega) only[wR];omega)
   have hci:(s.getD i 0).toNat<256:=UInt8.toNat_lt _;repeat'((conv=>whnf);first|apply af|(apply aj<;>intro h)|with_reducible refine cg ?_ fun hc=>?_)
   all_goals try conv=>whnf
   all_goals try(refine ae.mk ?_;try dsimp only)
   all_goals first|refine stay ?_|omega|skip
   . refine ab.mk [] ?_<;>(repeat' first|trivial|apply ah|apply aC)
     rw[<-he,show 2+1-i=(2-i)+1 by omega,gL,if_pos (by omega)]
   . rw[show 2+1-i=(2-i)+1 by omega,gL,if_neg (by omega)] at he;refine⟨[],(i+1,64*n+((s.getD i 0).toNat:Int)-128),⟨by omega,?_,?_⟩,?_,?_⟩
     . rw[show 2+1-(i+1) =2-i by omega];exact he
     . omega
     . apply ao<;>(repeat' first|trivial|apply ah|apply aC)
       all_goals (simp(discharger:=omega) only[wR];omega)
     . omega
   . refine ab.mk [] ?_<;>(repeat' first|trivial|apply ah|apply aC)
     rw[show 2+1-i=0 by omega,gL] at he;exact he
 . have hg:bR s=gL s 1 1 (((s.getD 0 0).toNat:Int)-192):=by
     unfold bR
     repeat (first|rw[if_pos (by omega)]|rw[if_neg (by omega)])
   refine aM.mk (Nat×Int) (fun|(i,n) =>i<=1+1/\gL s (1+1-i) i n=bR s/\((i=1/\-64<=n/\n<=64)\/(i=2/\-4300<=n/\n<=4300)\/(i=3/\-300000<=n/\n<=300000)\/(i=4/\-20000000<=n/\n<=20000000)))
    (fun|(i,n) =>⟨41,[(6,.int .i64 i),(5,.int .i64 1),(4,.int .i64 n),(0,.str s)],[],[]⟩) (fun x=>1+1-x.1) [] (1,((s.getD 0 0).toNat:Int)-192) ⟨by omega,hg.symm,by omega⟩ ?_ (fun⟨i,n⟩ ⟨hi,he,hb⟩ _ _=>?_)
   . apply ao<;>(repeat' first|trivial|apply ah|apply aC)
     all_goals (simp(discharger:=omega) only[wR];omega)
   have hci:(s.getD i 0).toNat<256:=UInt8.toNat_lt _;repeat'((conv=>whnf);first|apply af|(apply aj<;>intro h)|with_reducible refine cg ?_ fun hc=>?_)
   all_goals try conv=>whnf
   all_goals try(refine ae.mk ?_;try dsimp only)
   all_goals first|refine stay ?_|omega|skip
   . refine ab.mk [] ?_<;>(repeat' first|trivial|apply ah|apply aC)
     rw[<-he,show 1+1-i=(1-i)+1 by omega,gL,if_pos (by omega)]
   . rw[show 1+1-i=(1-i)+1 by omega,gL,if_neg (by omega)] at he;refine⟨[],(i+1,64*n+((s.getD i 0).toNat:Int)-128),⟨by omega,?_,?_⟩,?_,?_⟩
     . rw[show 1+1-(i+1) =1-i by omega];exact he
     . omega
     . apply ao<;>(repeat' first|trivial|apply ah|apply aC)
       all_goals (simp(discharger:=omega) only[wR];omega)
     . omega
   . refine ab.mk [] ?_<;>(repeat' first|trivial|apply ah|apply aC)
     rw[show 1+1-i=0 by omega,gL] at he;exact he
def FL:Sm:=fun args σ=>match args,σ with
 |[.str s],[]=>some (0<s.length/\s.length<=10000000,.int .i64 (bR s),none)
 |_,_=>none
theorem Uq:aq 229 FL:=by
 intro args sg pre x r he hp;unfold FL at he;split at he<;>cases he;exact Ri _ hp.1 hp.2
def eB(r:Int):Bool:=decide (0<=r/\r<=1114111/\(r<55296\/57343<r))
theorem f_uIs(r:Int) (h0:0<=r) (h1:r<=1114111):OK 230 [.int .i32 r] [] (.bool (eB r)) none:=by
 refine ai (C:=cx []) (ak trivial) (fn:=Tryz.f230) fun _ _=>?_;repeat'((conv=>whnf);(apply aj<;>intro h))
 all_goals try conv=>whnf
 all_goals try(refine ae.mk ?_;try dsimp only)
 all_goals try refine stay ?_
 all_goals
  refine ab.mk [] ?_<;>(repeat' first|trivial|apply ah|apply jG)
  try unfold eB
 all_goals first
  |exact(decide_eq_true (by omega)).symm
  |exact(decide_eq_false (by omega)).symm
  |exact decide_eq_decide.2 (by constructor<;>intro _<;>omega)
def FM:Sm:=fun args σ=>match args,σ with
 |[.int .i32 r],[]=>some (0<=r/\r<=1114111,.bool (eB r),none)
 |_,_=>none
theorem k_uIs:aq 230 FM:=by
 intro args sg pre x r he hp;unfold FM at he;split at he<;>cases he;exact f_uIs _ hp.1 hp.2
def bT(n:Int):g8:=
 if n<128 then[byte n]
 else if n<2048 then[byte (192+n/64),byte (128+n%64)]
 else if n<65536 then[byte (224+n/4096),byte (128+n/64%64),byte (128+n%64)]
 else[byte (240+n/262144),byte (128+n/4096%64),byte (128+n/64%64),byte (128+n%64)]
theorem Rh(n:Int) (h0:0<=n) (h1:n<=1114111):OK 228 [.int .i32 n] [] (.str (bT n)) none:=by
 refine ai (C:=cx []) (ak trivial) (fn:=Tryz.f228) fun _ _=>?_;have hw:IntKind.i64.wrap n=n:=by rw[bz];omega
 have q1:n.tdiv 64=n/64:=Int.tdiv_eq_ediv_of_nonneg h0;repeat'((conv=>whnf);first|apply af|(apply aj<;>intro h)|apply goJ|apply goK|apply goL|apply goM)
 all_goals try conv=>whnf
 all_goals try(refine ae.mk ?_;try dsimp only)
 all_goals first|refine stay ?_|trivial|(simp(discharger:=omega) only[wR];omega)|skip
 all_goals simp only[hw] at*
 all_goals
  refine ab.mk [] ?_<;>(repeat' first|trivial|apply ah|apply cV)
  unfold bT
  repeat (first|rw[if_pos (by omega)]|rw[if_neg (by omega)])
  repeat'(first|rfl|refine congrArg byte ?_|refine v8 ?_ ?_)
  all_goals (simp(discharger:=omega) only[wR];omega)
def wZ:Sm:=fun args σ=>match args,σ with
 |[.int .i32 n],[]=>some (0<=n/\n<=1114111,.str (bT n),none)
 |_,_=>none
theorem Cy:aq 228 wZ:=by
 intro args sg pre x r he hp;unfold wZ at he;split at he<;>cases he;exact Rh _ hp.1 hp.2
theorem uB(n:Int):1<=(bT n).length/\(bT n).length<=4:=by
 unfold bT;repeat' split
 all_goals simp
def bU(s:g8) (i:Nat):Int×Nat:=
 if s.length<=i then(0,0)
 else if bR (s.drop i)<0\/1114111<bR (s.drop i)\/eB (bR (s.drop i)) =false then(0,0)
 else if(s.drop i).take (bT (bR (s.drop i))).length=bT (bR (s.drop i)) then(bR (s.drop i),(bT (bR (s.drop i))).length)
 else(0,0)
theorem Ro(s:g8) (i:Nat) (hs:s.length<=10000000):OK 187 [.str s,.int .i64 i] [] (.tuple [.int .i32 (bU s i).1,.int .i64 (bU s i).2]) none:=by
 refine ai (C:=cx [(229,FL),(230,FM),(228,wZ)]) (ak ⟨Uq,k_uIs,Cy,trivial⟩) (fn:=Tryz.f187) fun hw _=>?_;have hl:=uB (bR (s.drop i));have hg:0<=bR (s.drop i)->bR (s.drop i)<=1114111->IntKind.i32.wrap (bR (s.drop i)) =bR (s.drop i):=fun a b=>by rw[nU];omega
 have hr:bU s i=if s.length<=i then(0,0)
  else if bR (s.drop i)<0\/1114111<bR (s.drop i)\/eB (bR (s.drop i)) =false then(0,0)
  else if(s.drop i).take (bT (bR (s.drop i))).length=bT (bR (s.drop i)) then(bR (s.drop i),(bT (bR (s.drop i))).length)
  else(0,0):=rfl
 repeat'((conv=>whnf);first|apply af|apply aI|((first|apply aj|apply dr)<;>intro h))
 all_goals try conv=>whnf
 all_goals try(refine ae.mk ?_;try dsimp only)
 all_goals first|refine stay ?_|omega|(simp(discharger:=omega) only[wR];omega)|(simp only[du];omega)|skip
 all_goals try simp only[Int.toNat_natCast] at*
 . rw[hr,if_pos (by omega)];refine ab.mk [] ?_<;>(repeat' first|trivial)
 . rw[hr,if_neg (by omega),if_pos (.inl (by assumption))];refine ab.mk [] ?_<;>(repeat' first|trivial)
 . rw[hr,if_neg (by omega),if_pos (.inr (.inl (by assumption)))];refine ab.mk [] ?_<;>(repeat' first|trivial)
 all_goals have hg':=hg (by omega) (by omega)
 all_goals have hw1:IntKind.i64.wrap ((s.length:Int)-(i:Int)) =(s.length:Int)-i:=by rw[bz];omega
 all_goals have hw2:IntKind.i64.wrap ((i:Int)+((bT (bR (s.drop i))).length:Int)) =((i+(bT (bR (s.drop i))).length:Nat):Int):=by rw[bz];omega
 all_goals simp only[hg',hw1,hw2,Int.toNat_natCast] at*
 . rw[hr,if_neg (by omega)];have hn:¬(s.drop i).take (bT (bR (s.drop i))).length=bT (bR (s.drop i)):=fun e=>by
    have:=congrArg List.length e;rw[eo,fo] at this;omega
   rw[if_neg hn,ite_self];refine ab.mk [] ?_<;>(repeat' first|trivial)
 . omega
 all_goals (have hI:eB (bR (s.drop i)) =decide (0<=bR (s.drop i)/\bR (s.drop i)<=1114111/\(bR (s.drop i)<55296\/57343<bR (s.drop i))):=rfl)
 . rw[hr,if_neg (by omega)];have e:(s.drop i).take (bT (bR (s.drop i))).length=bT (bR (s.drop i)):=by
    rw[List.take_drop];assumption
   rw[if_neg (by rw[hI,decide_eq_false_iff_not];omega),if_pos e];refine ab.mk [] ?_<;>(repeat' first|trivial)
 . rw[hr,if_neg (by omega)];have e:¬(s.drop i).take (bT (bR (s.drop i))).length=bT (bR (s.drop i)):=by
    rw[List.take_drop];assumption
   rw[if_neg e,ite_self];refine ab.mk [] ?_<;>(repeat' first|trivial)
 . rw[hr,if_neg (by omega),if_pos (.inr (.inr (by rw[hI];exact decide_eq_false (by assumption))))];refine ab.mk [] ?_<;>(repeat' first|trivial)
def FQ:Sm:=fun args σ=>match args,σ with
 |[.str s,.int .i64 (.ofNat i)],[]=>some (s.length<=10000000,.tuple [.int .i32 (bU s i).1,.int .i64 (bU s i).2],none)
 |_,_=>none
theorem Uu:aq 187 FQ:=by
 intro args sg pre x r he hp;unfold FQ at he;split at he<;>cases he;exact Ro _ _ hp
theorem xg(s:g8) (i:Nat):(bU s i).2<=4/\((bU s i).2=0\/i+(bU s i).2<=s.length):=by
 unfold bU;have hl:=uB (bR (s.drop i));split
 . simp
 . split
   . simp
   . split
     . rename_i h;have:=congrArg List.length h;rw[eo,fo] at this;simp only;omega
     . simp
def lL(s:g8) (i c:Nat):Nat×Nat:=
 if s.length<=i then(i,c)
 else if h:(bU s i).2=0 then(i,c)
 else lL s (i+(bU s i).2) (c+1)
termination_by s.length - i
decreasing_by omega
def oQ(s:g8):Int:=if(lL s 0 0).1=s.length then-1 else(lL s 0 0).1
def bD(b:Nat):Nat:=if b<128 then 1 else if b<194 then 0 else if b<224 then 2 else if b<240 then 3 else if b<245 then 4 else 0
def nR(n:Int):Int:=if n=2 then 128 else if n=3 then 2048 else if n=4 then 65536 else 0
def cont(b:UInt8):Bool:=decide (128<=b.toNat/\b.toNat<192)
def iv(s:g8):Nat->Nat->Nat->Option Nat
 |0,_,a=>some a
 |r+1,i,a=>if cont (s.getD i 0) =true then iv s r (i+1) (64*a+(s.getD i 0).toNat%64) else none
def oR(n:Nat):Option Nat->Int×Nat
 |none=>(0,0)
 |some r=>if(r:Int)<nR n then(0,0) else if eB r=true then((r:Int),n) else(0,0)
theorem AF(n r:Nat):oR n (some r) =if(r:Int)<nR n then(0,0) else if eB r=true then((r:Int),n) else(0,0):=rfl
def er(s:g8) (i:Nat):Int×Nat:=
 if s.length<=i then(0,0)
 else if bD (s.getD i 0).toNat=0 then(0,0)
 else if s.length<i+bD (s.getD i 0).toNat then(0,0)
 else if bD (s.getD i 0).toNat=1 then(((s.getD i 0).toNat:Int),1)
 else oR (bD (s.getD i 0).toNat) (iv s (bD (s.getD i 0).toNat-1) (i+1) ((s.getD i 0).toNat%2^(7-bD (s.getD i 0).toNat)))
theorem xC(k:IntKind) (j n:Nat) (hk:n<2^k.bits) (hj:2^j-1<2^k.bits) (hs:n%2^j<=k.max) (h0:k.min<=(n%2^j:Nat)) (hw:∀m:Nat,(m:Int)<=k.max->k.wrap m=m):pK k n ((2^j-1:Nat):Int) =((n%2^j:Nat):Int):=by
 show k.wrap ((BitVec.ofInt k.bits (n:Int)&&&BitVec.ofInt k.bits ((2^j-1:Nat):Int)).toNat:Int) =_;rw[BitVec.ofInt_natCast,BitVec.ofInt_natCast,BitVec.toNat_and,BitVec.toNat_ofNat,BitVec.toNat_ofNat,Nat.mod_eq_of_lt hk,Nat.mod_eq_of_lt hj,Nat.and_two_pow_sub_one_eq_mod];exact hw _ hs
theorem Gl(m:Nat) (h:(m:Int)<=IntKind.i32.max):IntKind.i32.wrap m=m:=by
 have:IntKind.i32.max=2147483647:=rfl;rw[nU];omega
theorem AJ(m:Nat) (h:(m:Int)<=IntKind.u8.max):IntKind.u8.wrap m=m:=by
 have:IntKind.u8.max=255:=rfl;rw[n6];omega
theorem Hb(n:Nat) (h:n<256):pK .u8 n 63=((n%64:Nat):Int):=xC .u8 6 n h (by decide) (by show((n%64:Nat):Int)<=255;omega) (by show(0:Int)<=_;omega) AJ
theorem B9:∀n:Nat,n<256->pK .u8 n 192=((n/64*64:Nat):Int):=by decide
theorem O4(n b:Nat) (hn:n=2\/n=3\/n=4) (h:b<256):pK .i32 b (lE .i32 127 n) =((b%2^(7-n):Nat):Int):=by
 have hm:IntKind.i32.max=2147483647:=rfl;have hi:IntKind.i32.min=-2147483648:=rfl;have e:IntKind.i32.bits=32:=rfl;rcases hn with rfl|rfl|rfl
 . exact xC .i32 5 b (by rw[e];omega) (by rw[e];decide) (by rw[hm];omega) (by rw[hi];omega) Gl
 . exact xC .i32 4 b (by rw[e];omega) (by rw[e];decide) (by rw[hm];omega) (by rw[hi];omega) Gl
 . exact xC .i32 3 b (by rw[e];omega) (by rw[e];decide) (by rw[hm];omega) (by rw[hi];omega) Gl
theorem Y3(a:Nat) (h:a<2000000):lD .i32 a 6=((64*a:Nat):Int):=by
 show IntKind.i32.wrap ((a:Int)*2^(min 6 32)) =_;rw[nU];have:((2:Int)^(min 6 32)) =64:=rfl;rw[this];omega
theorem D8(a b j:Nat) (h:b<2^j):a*2^j|||b=a*2^j+b:=by
 have:=Nat.shiftLeft_add_eq_or_of_lt h a;rw[Nat.shiftLeft_eq] at this;exact this.symm
theorem VX(a b:Nat) (ha:a<2000000) (hb:b<64):kY .i32 ((64*a:Nat):Int) b=((64*a+b:Nat):Int):=by
 show IntKind.i32.wrap ((BitVec.ofInt 32 ((64*a:Nat):Int)|||BitVec.ofInt 32 (b:Int)).toNat:Int) =_;rw[BitVec.ofInt_natCast,BitVec.ofInt_natCast,BitVec.toNat_or,BitVec.toNat_ofNat,BitVec.toNat_ofNat,Nat.mod_eq_of_lt (by omega),Nat.mod_eq_of_lt (by omega),Nat.mul_comm 64 a,D8 a b 6 hb];rw[nU];omega
theorem Rj(b:UInt8) (hp:True):OK 254 ([bv b]) ([]) (.int .i64 (bD b.toNat)) (none):=by
 refine ai (C:=cx []) (ak trivial) (fn:=Tryz.f254) fun hw hs=>?_;repeat'((conv=>whnf);(apply aj<;>intro h))
 all_goals try conv=>whnf
 all_goals try(refine ae.mk ?_;try dsimp only)
 all_goals try refine stay ?_
 all_goals
  unfold bD
  repeat (first|rw[if_pos (by omega)]|rw[if_neg (by omega)])
  refine ab.mk [] ?_<;>(repeat' first|trivial)
def FO:Sm:=fun args σ=>match args,σ with
 |[.int .u8 n_b],[]=>some ((0<=n_b/\n_b<=255)/\(True),.int .i64 (bD (byte n_b).toNat),none)
 |_,_=>none
theorem Us:aq 254 FO:=by
 intro args sg pre x r he hp;unfold FO at he;split at he<;>cases he
 . rw[gd (hp).1];exact Rj (hp:=hp.2) ..
def FN:Sm:=fun args σ=>match args,σ with
 |[.int .i64 n],[]=>some (True,.int .i32 (nR n),none)
 |_,_=>none
theorem Ur:aq 255 FN:=by
 intro args sg pre x r he hp;unfold FN at he;split at he<;>cases he
 . rename_i n;refine ai (C:=cx []) (ak trivial) (fn:=Tryz.f255) fun hw hs=>?_;repeat'((conv=>whnf);(apply aj<;>intro h))
   all_goals try conv=>whnf
   all_goals try(refine ae.mk ?_;try dsimp only)
   all_goals try refine stay ?_
   all_goals
    unfold nR
    repeat (first|rw[if_pos (by omega)]|rw[if_neg (by omega)])
    refine ab.mk [] ?_<;>(repeat' first|trivial)
def rL:Sm:=fun args σ=>match args,σ with
 |[.int .i32 r],[]=>some (True,.bool (eB r),none)
 |_,_=>none
theorem vO:aq 246 rL:=by
 intro args sg pre x r he hp;unfold rL at he;split at he<;>cases he
 . rename_i r;refine ai (C:=cx []) (ak trivial) (fn:=Tryz.f246) fun hw hs=>?_;repeat'((conv=>whnf);(apply aj<;>intro h))
   all_goals try conv=>whnf
   all_goals try(refine ae.mk ?_;try dsimp only)
   all_goals try refine stay ?_
   all_goals
    refine ab.mk [] ?_<;>(repeat' first|trivial|apply ah|apply jG)
    unfold eB
   all_goals first
    |exact(decide_eq_true (by omega)).symm
    |exact(decide_eq_false (by omega)).symm
    |exact decide_eq_decide.2 (by constructor<;>intro _<;>omega)
theorem YK{b:Nat} (h:b<256):bD b=0\/bD b=1\/bD b=2\/bD b=3\/bD b=4:=by
 unfold bD;repeat' split
 all_goals omega
theorem Rp(s:g8) (i:Nat) (hs:s.length<=100000000):OK 248 [.str s,.int .i64 i] [] (.tuple [.int .i32 (er s i).1,.int .i64 (er s i).2]) none:=by
 refine ai (C:=cx [(254,FO),(255,FN),(246,rL)]) (ak ⟨Us,Ur,vO,trivial⟩) (fn:=Tryz.f248) fun hw _=>?_;have hc0:(s.getD i 0).toNat<256:=UInt8.toNat_lt _;have hL:=YK hc0;have hby:byte ((s.getD i 0).toNat:Int)=s.getD i 0:=dd _;have hq:=fun x=>O4 (bD (s.getD i 0).toNat) (s.getD i 0).toNat x hc0;have hi:(i:Int)<=9223372036854775807:=hw.2.1.2;have hwr:IntKind.i64.wrap ((s.length:Int)-i)=s.length-i:=by(simp(discharger:=omega) only[wR];omega)
 have hwb:IntKind.i32.wrap ((s.getD i 0).toNat:Int)=(s.getD i 0).toNat:=by(simp(discharger:=omega) only[wR];omega)
 repeat'((conv=>whnf);first|apply af|(apply aj<;>intro h)|with_reducible refine cg ?_ fun hc=>?_)
 all_goals try conv=>whnf
 all_goals try(refine ae.mk ?_;try dsimp only)
 all_goals (try simp only[show((i:Int)).toNat=i from rfl,hby,hwr,hwb] at*)
 all_goals first|refine stay ?_|omega|(simp(discharger:=omega) [-List.getD_eq_getElem?_getD,wR]<;>omega)|skip
 all_goals first
  | (show ab _ _ _ _ _ _
     unfold er
     repeat (first|rw[if_pos (by omega)]|rw[if_neg (by omega)])
     refine ab.mk [] ?_<;>(repeat' first|trivial)
     done)
  |skip
 have hn:bD (s.getD i 0).toNat=2\/bD (s.getD i 0).toNat=3\/bD (s.getD i 0).toNat=4:=by omega
 have he0:er s i=oR (bD (s.getD i 0).toNat) (iv s (bD (s.getD i 0).toNat-1) (i+1) ((s.getD i 0).toNat%2^(7-bD (s.getD i 0).toNat))):=by
  unfold er
  repeat (first|rw[if_pos (by omega)]|rw[if_neg (by omega)])
 rw[he0];rw[hq hn];have hr0:(s.getD i 0).toNat%2^(7-bD (s.getD i 0).toNat)<32:=by
  rcases hn with h|h|h<;>rw[h]<;>omega
 generalize hr:(s.getD i 0).toNat%2^(7-bD (s.getD i 0).toNat)=r0 at*;generalize hu:bD (s.getD i 0).toNat=n at*;refine aM.mk (Nat×Nat) (fun|(j,a)=>1<=j/\j<=n/\((j=1/\a<32)\/(j=2/\a<2048)\/(j=3/\a<131072)\/(j=4/\a<8388608))/\iv s (n-j) (i+j) a=iv s (n-1) (i+1) r0)
  (fun|(j,a)=>⟨74,[(0,.str s),(1,.int .i64 i),(4,.int .i32 a),(6,.int .i64 n),(7,.int .i64 j)],[],[]⟩) (fun x=>n-x.1) [] (1,r0) ⟨by omega,by omega,by omega,rfl⟩ ?_ (fun⟨j,a⟩ ⟨hj,hjn,hb,he⟩ _ _=>?_)
 . apply ao<;>(repeat' first|trivial)
 have hij:(IntKind.i64.wrap ((i:Int)+j)).toNat=i+j:=by(simp(discharger:=omega) only[wR];omega)
 have hc1:(s.getD (i+j) 0).toNat<256:=UInt8.toNat_lt _;have h192:=B9 _ hc1;have h63:=Hb _ hc1;repeat'((conv=>whnf);first|apply af|apply aI|(apply aj<;>intro h)|with_reducible refine fH ?_ fun hc=>?_)
 all_goals try conv=>whnf
 all_goals try(refine ae.mk ?_;try dsimp only)
 all_goals (try simp only[hij,h192,h63] at*)
 all_goals first|refine stay ?_|trivial|omega|(simp(discharger:=omega) only[wR];omega)|skip
 . have hc:cont (s.getD (i+j) 0)=true:=decide_eq_true (by omega);rw[show n-j=(n-j-1)+1 by omega,iv,if_pos hc] at he;refine⟨[],(j+1,64*a+(s.getD (i+j) 0).toNat%64),⟨by omega,by omega,by omega,?_⟩,?_,by omega⟩
   . rw[show n-(j+1)=n-j-1 by omega,show i+(j+1)=i+j+1 by omega];exact he
   . apply ao<;>(repeat' first|trivial|apply ah|apply aC)
     . rw[Y3 a (by omega),show IntKind.i32.wrap (((s.getD (i+j) 0).toNat%64:Nat):Int)=(((s.getD (i+j) 0).toNat%64:Nat):Int) by(simp(discharger:=omega) only[wR];omega)];exact VX _ _ (by omega) (by omega)
     . (simp(discharger:=omega) only[wR];omega)
 . have hc:¬cont (s.getD (i+j) 0)=true:=by
     unfold cont;rw[decide_eq_true_eq];omega
   rw[show n-j=(n-j-1)+1 by omega,iv,if_neg hc] at he;rw[<-he];refine ab.mk [] ?_<;>(repeat' first|trivial)
 all_goals
  rw[show n-j=0 by omega,iv] at he;rw[<-he,AF];first
  |rw[if_pos (by assumption)]
  |rw[if_neg (by assumption),if_pos (show eB a=true from decide_eq_true (by assumption))]
  |rw[if_neg (by assumption),if_neg (by unfold eB;rw[decide_eq_true_eq];assumption)]
  refine ab.mk [] ?_<;>(repeat' first|trivial)
theorem Hp{n:Int} {b:UInt8} (h:0<=n/\n<=255):byte n=b↔n=b.toNat:=by
 constructor
 . intro e;rw[<-e,eK h]
 . intro e;rw[e,dd]
theorem DD(s:g8) (i:Nat):bU s i=if s.length<=i then(0,0) else bU (s.drop i) 0:=by
 by_cases h:s.length<=i
 . rw[if_pos h];unfold bU;rw[if_pos h]
 . rw[if_neg h];unfold bU;rw[if_neg h,if_neg (show¬(s.drop i).length<=0 by rw[fo];omega),List.drop_zero]
theorem Nc(s:g8) (i:Nat):∀r j a,iv s r (i+j) a=iv (s.drop i) r j a
 |0,_,_=>rfl
 |r+1,j,a=>by
   simp only[iv];rw[show(s.drop i).getD j 0=s.getD (i+j) 0 by simp[ac,List.getElem?_drop],<-Nc s i r (j+1),show i+j+1=i+(j+1) by omega]
theorem Xd(s:g8) (i:Nat):er s i=if s.length<=i then(0,0) else er (s.drop i) 0:=by
 have e:(s.drop i).getD 0 0=s.getD i 0:=by simp[ac,List.getElem?_drop]
 by_cases h:s.length<=i
 . rw[if_pos h];unfold er;rw[if_pos h]
 . rw[if_neg h];unfold er;rw[if_neg h,if_neg (show¬(s.drop i).length<=0 by rw[fo];omega),e,<-Nc s i _ (0+1)];have hl:(s.drop i).length<bD (s.getD i 0).toNat↔s.length<i+bD (s.getD i 0).toNat:=by rw[fo];omega
   simp only[Nat.zero_add,hl]
theorem getD_take{t:g8} {n k:Nat} (h:k<n):(t.take n).getD k 0=t.getD k 0:=by
 simp[ac,List.getElem?_take,h]
theorem take1(t:g8) (x:UInt8):t.take 1=[x]↔1<=t.length/\t.getD 0 0=x:=by
 match t with
 |[]=>simp
 |a::_=>simp
theorem take2(t:g8) (x y:UInt8):t.take 2=[x,y]↔2<=t.length/\t.getD 0 0=x/\t.getD 1 0=y:=by
 match t with
 |[]=>simp
 |[a]=>simp
 |a::b::_=>simp
theorem take3(t:g8) (x y z:UInt8):t.take 3=[x,y,z]↔3<=t.length/\t.getD 0 0=x/\t.getD 1 0=y/\t.getD 2 0=z:=by
 match t with
 |[]=>simp
 |[a]=>simp
 |[a,b]=>simp
 |a::b::c::_=>simp
theorem take4(t:g8) (x y z u:UInt8):t.take 4=[x,y,z,u]↔4<=t.length/\t.getD 0 0=x/\t.getD 1 0=y/\t.getD 2 0=z/\t.getD 3 0=u:=by
 match t with
 |[]=>simp
 |[a]=>simp
 |[a,b]=>simp
 |[a,b,c]=>simp
 |a::b::c::d::_=>simp
theorem ng{n:Int} {b:UInt8} (h:0<=n/\n<=255):b=byte n↔(b.toNat:Int) =n:=by
 rw[eq_comm,Hp h,eq_comm]
theorem kJ(t:g8) (g:Int) (h0:0<=g) (h1:g<=1114111):t.take (bT g).length=bT g↔
   (g<128/\1<=t.length/\((t.getD 0 0).toNat:Int) =g)\/
   (128<=g/\g<2048/\2<=t.length/\((t.getD 0 0).toNat:Int) =192+g/64/\((t.getD 1 0).toNat:Int) =128+g%64)\/
   (2048<=g/\g<65536/\3<=t.length/\((t.getD 0 0).toNat:Int) =224+g/4096/\((t.getD 1 0).toNat:Int) =128+g/64%64/\((t.getD 2 0).toNat:Int) =128+g%64)\/
   (65536<=g/\4<=t.length/\((t.getD 0 0).toNat:Int) =240+g/262144/\((t.getD 1 0).toNat:Int) =128+g/4096%64/\((t.getD 2 0).toNat:Int) =128+g/64%64/\((t.getD 3 0).toNat:Int) =128+g%64):=by
 unfold bT;by_cases a:g<128
 . rw[if_pos a];show t.take 1=_↔_;rw[take1,ng (by omega)];omega
 by_cases b:g<2048
 . rw[if_neg a,if_pos b];show t.take 2=_↔_;rw[take2,ng (by omega),ng (by omega)];omega
 by_cases c:g<65536
 . rw[if_neg a,if_neg b,if_pos c];show t.take 3=_↔_;rw[take3,ng (by omega),ng (by omega),ng (by omega)];omega
 . rw[if_neg a,if_neg b,if_neg c];show t.take 4=_↔_;rw[take4,ng (by omega),ng (by omega),ng (by omega),ng (by omega)];omega
theorem Oi(g:Int):(bT g).length=if g<128 then 1 else if g<2048 then 2 else if g<65536 then 3 else 4:=by
 unfold bT;repeat' split
 all_goals rfl
theorem kx(t:g8) (hL:0<t.length) (g:Int) (hg:bR t=g) (r:Int×Nat)
   (h1:(g<0\/1114111<g\/eB g=false)->r=(0,0))
   (h2:0<=g->g<=1114111->eB g=true->t.take (bT g).length=bT g->r=(g,(bT g).length))
   (h3:0<=g->g<=1114111->eB g=true->¬t.take (bT g).length=bT g->r=(0,0)):r=bU t 0:=by
 unfold bU;rw[List.drop_zero,hg,if_neg (by omega)];by_cases a:g<0\/1114111<g\/eB g=false
 . rw[if_pos a];exact h1 a
 . rw[if_neg a];have b:0<=g/\g<=1114111/\eB g=true:=by
    refine⟨by omega,by omega,?_⟩;cases h:eB g with
    |true=>rfl
    |false=>exact absurd (.inr (.inr h)) a
   by_cases c:t.take (bT g).length=bT g
   . rw[if_pos c];exact h2 b.1 b.2.1 b.2.2 c
   . rw[if_neg c];exact h3 b.1 b.2.1 b.2.2 c
theorem kA(g:Int):eB g=true↔(0<=g/\g<=1114111/\(g<55296\/57343<g)):=by unfold eB;rw[decide_eq_true_eq]
theorem AE(g:Int):eB g=false↔¬(0<=g/\g<=1114111/\(g<55296\/57343<g)):=by unfold eB;rw[decide_eq_false_iff_not]
theorem kL(b:UInt8):cont b=true↔128<=b.toNat/\b.toNat<192:=by unfold cont;rw[decide_eq_true_eq]
theorem uC(n:Nat):oR n none=(0,0):=rfl
theorem xJ(g:Int) (n:Nat) (h:(n=1/\g<128)\/(n=2/\128<=g/\g<2048)\/(n=3/\2048<=g/\g<65536)\/(n=4/\65536<=g)):(bT g).length=n:=by
 rw[Oi];repeat' split
 all_goals omega
theorem wG(t:g8) (h:bD (t.getD 0 0).toNat=0\/t.length<bD (t.getD 0 0).toNat):er t 0=(0,0):=by
 unfold er;repeat' split
 all_goals first|rfl|(exfalso;omega)
theorem Xc(t:g8) (hL:0<t.length) (h:bD (t.getD 0 0).toNat=1):er t 0=(((t.getD 0 0).toNat:Int),1):=by
 unfold er;rw[if_neg (by omega),if_neg (by omega),if_neg (by omega),if_pos h]
theorem DB(t:g8) (n:Nat) (hL:n<=t.length) (h:bD (t.getD 0 0).toNat=n) (hn:2<=n):er t 0=oR n (iv t (n-1) 1 ((t.getD 0 0).toNat%2^(7-n))):=by
 unfold er;rw[h,if_neg (by omega),if_neg (by omega),if_neg (by omega),if_neg (by omega)]
theorem wq(n r:Nat) (h:(r:Int)<nR n\/¬(0<=(r:Int)/\(r:Int)<=1114111/\((r:Int)<55296\/57343<(r:Int)))):oR n (some r) =(0,0):=by
 rw[AF];by_cases a:(r:Int)<nR n
 . rw[if_pos a]
 . rw[if_neg a,if_neg (by rw[kA];omega)]
theorem D9(n r:Nat) (g:Int) (hg:(r:Int) =g) (h:¬(r:Int)<nR n) (k:0<=(r:Int)/\(r:Int)<=1114111/\((r:Int)<55296\/57343<(r:Int))):oR n (some r) =(g,n):=by
 rw[AF,if_neg h,if_pos ((kA _).2 k),hg]
theorem Xe(t:g8) (hL:0<t.length):er t 0=bU t 0:=by
  have h0:(t.getD 0 0).toNat<256:=UInt8.toNat_lt _;have h1:(t.getD 1 0).toNat<256:=UInt8.toNat_lt _;have h2:(t.getD 2 0).toNat<256:=UInt8.toNat_lt _;have h3:(t.getD 3 0).toNat<256:=UInt8.toNat_lt _;have l2:nR (2:Nat) =128:=rfl;have l3:nR (3:Nat) =2048:=rfl;have l4:nR (4:Nat) =65536:=rfl;by_cases a1:(t.getD 0 0).toNat<128
  . have hu:bD (t.getD 0 0).toNat=1:=by unfold bD;rw[if_pos a1]
    rw[Xc t hL hu];refine kx t hL _ (by unfold bR;rw[if_pos a1]) _ (fun h=>?_) (fun _ _ _ h=>?_) (fun q1 q2 q3 h=>?_)
    . rw[AE] at h;omega
    . rw[xJ _ 1 (by omega)]
    . rw[kJ t _ (by omega) (by omega)] at h;omega
  by_cases a2:(t.getD 0 0).toNat<224
  . have hg:bR t=if t.length<=1 then-1 else 64*(((t.getD 0 0).toNat:Int)-192)+(t.getD 1 0).toNat-128:=by
      unfold bR;rw[if_neg a1,if_neg (by omega),if_neg (by omega)];simp only[gL]
    by_cases b1:t.length<=1
    . rw[if_pos b1] at hg;have hz:er t 0=(0,0):=wG t (by
       by_cases q:bD (t.getD 0 0).toNat=0
       . exact .inl q
       . refine .inr ?_;have:bD (t.getD 0 0).toNat=0\/bD (t.getD 0 0).toNat=2:=by
          unfold bD;repeat' split
          all_goals omega
         omega)
      rw[hz];exact kx t hL _ hg _ (fun _=>rfl) (fun h=>by omega) (fun h=>by omega)
    . rw[if_neg b1] at hg;by_cases a3:(t.getD 0 0).toNat<194
      . have hz:er t 0=(0,0):=wG t (.inl (by unfold bD;rw[if_neg a1,if_pos a3]));rw[hz];refine kx t hL _ hg _ (fun _=>rfl) (fun q1 q2 q3 h=>?_) (fun _ _ _ _=>rfl);rw[kJ t _ q1 q2] at h;omega
      . have hu:bD (t.getD 0 0).toNat=2:=by unfold bD;rw[if_neg a1,if_neg a3,if_pos a2]
        rw[DB t 2 (by omega) hu (by omega)];simp only[iv,show(1:Nat)+1=2 from rfl,show(2:Nat)+1=3 from rfl];by_cases c1:cont (t.getD 1 0) =true
        . rw[if_pos c1];rw[kL] at c1;refine kx t hL _ hg _ (fun h=>wq _ _ (by rw[AE] at h;omega)) (fun q1 q2 q3 h=>?_) (fun q1 q2 q3 h=>?_)
          . rw[xJ _ 2 (by omega)];exact D9 _ _ _ (by omega) (by rw[l2];omega) (by omega)
          . exfalso;rw[kJ t _ q1 q2] at h;omega
        . rw[if_neg c1,uC];rw[kL] at c1;refine kx t hL _ hg _ (fun _=>rfl) (fun q1 q2 q3 h=>?_) (fun _ _ _ _=>rfl);rw[kJ t _ q1 q2] at h;omega
  by_cases a4:(t.getD 0 0).toNat<240
  . have hg:bR t=if t.length<=1 then-1 else if t.length<=2 then-1 else 64*(64*(((t.getD 0 0).toNat:Int)-224)+(t.getD 1 0).toNat-128)+(t.getD 2 0).toNat-128:=by
      unfold bR;rw[if_neg a1,if_neg (by omega),if_pos (by omega)];simp only[gL]
    have hu:bD (t.getD 0 0).toNat=3:=by unfold bD;rw[if_neg a1,if_neg (by omega),if_neg a2,if_pos a4]
    by_cases b1:t.length<=2
    . have hg:bR t=-1:=by
        rw[hg];repeat' split
        all_goals rfl
      rw[wG t (.inr (by omega))];exact kx t hL _ hg _ (fun _=>rfl) (fun h=>by omega) (fun h=>by omega)
    . rw[if_neg (by omega),if_neg b1] at hg;rw[DB t 3 (by omega) hu (by omega)];simp only[iv,show(1:Nat)+1=2 from rfl,show(2:Nat)+1=3 from rfl];by_cases c1:cont (t.getD 1 0) =true
      . rw[if_pos c1];rw[kL] at c1;by_cases c2:cont (t.getD 2 0) =true
        . rw[if_pos c2];rw[kL] at c2;refine kx t hL _ hg _ (fun h=>wq _ _ (by rw[AE] at h;omega)) (fun q1 q2 q3 h=>?_) (fun q1 q2 q3 h=>wq _ _ ?_)
          . rw[kA] at q3;rw[kJ t _ q1 q2] at h;rw[xJ _ 3 (by omega)];exact D9 _ _ _ (by omega) (by rw[l3];omega) (by omega)
          . rw[kJ t _ q1 q2] at h;rw[l3];omega
        . rw[if_neg c2,uC];rw[kL] at c2;refine kx t hL _ hg _ (fun _=>rfl) (fun q1 q2 q3 h=>?_) (fun _ _ _ _=>rfl);rw[kJ t _ q1 q2] at h;omega
      . rw[if_neg c1,uC];rw[kL] at c1;refine kx t hL _ hg _ (fun _=>rfl) (fun q1 q2 q3 h=>?_) (fun _ _ _ _=>rfl);rw[kJ t _ q1 q2] at h;omega
  have hg:bR t=if t.length<=1 then-1 else if t.length<=2 then-1 else if t.length<=3 then-1 else 64*(64*(64*(((t.getD 0 0).toNat:Int)-240)+(t.getD 1 0).toNat-128)+(t.getD 2 0).toNat-128)+(t.getD 3 0).toNat-128:=by
   unfold bR;rw[if_neg a1,if_pos (by omega)];simp only[gL]
  by_cases b1:t.length<=3
  . have hg:bR t=-1:=by
      rw[hg];repeat' split
      all_goals rfl
    have hz:er t 0=(0,0):=wG t (by
     have:bD (t.getD 0 0).toNat=0\/bD (t.getD 0 0).toNat=4:=by
      unfold bD;repeat' split
      all_goals omega
     omega)
    rw[hz];exact kx t hL _ hg _ (fun _=>rfl) (fun h=>by omega) (fun h=>by omega)
  rw[if_neg (by omega),if_neg (by omega),if_neg b1] at hg;by_cases a5:(t.getD 0 0).toNat<245
  . have hu:bD (t.getD 0 0).toNat=4:=by unfold bD;rw[if_neg a1,if_neg (by omega),if_neg a2,if_neg a4,if_pos a5]
    rw[DB t 4 (by omega) hu (by omega)];simp only[iv,show(1:Nat)+1=2 from rfl,show(2:Nat)+1=3 from rfl];by_cases c1:cont (t.getD 1 0) =true
    . rw[if_pos c1];rw[kL] at c1;by_cases c2:cont (t.getD 2 0) =true
      . rw[if_pos c2];rw[kL] at c2;by_cases c3:cont (t.getD 3 0) =true
        . rw[if_pos c3];rw[kL] at c3;refine kx t hL _ hg _ (fun h=>wq _ _ (by rw[AE] at h;omega)) (fun q1 q2 q3 h=>?_) (fun q1 q2 q3 h=>wq _ _ ?_)
          . rw[kA] at q3;rw[kJ t _ q1 q2] at h;rw[xJ _ 4 (by omega)];exact D9 _ _ _ (by omega) (by rw[l4];omega) (by omega)
          . rw[kJ t _ q1 q2] at h;rw[l4];omega
        . rw[if_neg c3,uC];rw[kL] at c3;refine kx t hL _ hg _ (fun _=>rfl) (fun q1 q2 q3 h=>?_) (fun _ _ _ _=>rfl);rw[kJ t _ q1 q2] at h;omega
      . rw[if_neg c2,uC];rw[kL] at c2;refine kx t hL _ hg _ (fun _=>rfl) (fun q1 q2 q3 h=>?_) (fun _ _ _ _=>rfl);rw[kJ t _ q1 q2] at h;omega
    . rw[if_neg c1,uC];rw[kL] at c1;refine kx t hL _ hg _ (fun _=>rfl) (fun q1 q2 q3 h=>?_) (fun _ _ _ _=>rfl);rw[kJ t _ q1 q2] at h;omega
  . have hz:er t 0=(0,0):=wG t (.inl (by unfold bD;rw[if_neg a1,if_neg (by omega),if_neg a2,if_neg a4,if_neg a5]));rw[hz];refine kx t hL _ hg _ (fun _=>rfl) (fun q1 q2 q3 h=>?_) (fun _ _ _ _=>rfl);rw[kJ t _ q1 q2] at h;omega
theorem rD(s:g8) (i:Nat):er s i=bU s i:=by
 rw[DD,Xd];by_cases h:s.length<=i
 . rw[if_pos h,if_pos h]
 . rw[if_neg h,if_neg h];exact Xe _ (by rw[fo];omega)
structure Cu where
 s:g8
 p:Nat
 e:Nat
 c:Int
abbrev eC(c:Cu):List V:=[.str c.s,.int .i64 c.p,.int .i64 c.e,.int .i64 c.c]
theorem cX{s:g8} {a e:Nat} {c:Int} (_:True):[V.str s,.int .i64 (.ofNat a),.int .i64 (.ofNat e),.int .i64 c]=eC ⟨s,a,e,c⟩:=rfl
@[simp] theorem aT(c:Cu):Cu.mk c.s c.p c.e c.c=c:=rfl
def Cu.ok(c:Cu):Prop:=c.p<=c.e/\c.e<=c.s.length
def Cu.fail(c:Cu) (k:Int):Cu:=if c.c=0 then{c with c:=k} else c
def Cu.get(c:Cu):UInt8:=c.s.getD c.p 0
def Cu.pass(c:Cu) (n:Int):Cu:=if c.c≠0 then c else if n<0 then{c with c:=13} else if n>c.e-c.p then{c with c:=1} else{c with p:=c.p+n.toNat}
def Cu.may(c:Cu) (n:Int):Bool:=decide (c.c=0/\0<=n/\n<=c.e-c.p)
def Cu.byte(c:Cu):Cu:=c.pass 1
def Cu.ay(c:Cu):UInt8:=if c.c=0/\c.p<c.e then c.get else 0
def Cu.new(s:g8):Cu:=⟨s,0,s.length,0⟩
def Cu.left(c:Cu):Int:=c.e-c.p
def Cu.fin(c:Cu):Int:=if c.c≠0 then c.c else if c.e>c.p then 2 else 0
theorem nJ{c:Cu} (h:c.ok) (n:Int):(c.pass n).ok/\(c.pass n).s=c.s/\(c.pass n).e=c.e:=by
 obtain⟨h1,h2⟩:=h;unfold Cu.pass;repeat' split
 all_goals (refine⟨⟨?_,?_⟩,rfl,rfl⟩<;>(try dsimp only)<;>omega)
theorem iE{c:Cu} (h:c.ok) (k:Int):(c.fail k).ok/\(c.fail k).s=c.s/\(c.fail k).e=c.e/\(c.fail k).p=c.p:=by
 unfold Cu.fail;split<;>exact⟨h,rfl,rfl,rfl⟩
def zG:Sm:=fun args σ=>match args,σ with
 |[.str s],[]=>some (True,.ptr 0 0,some [.cells (eC (.new s))])
 |_,_=>none
theorem JK:aq 36 zG:=by
 intro args sg pre x r he hp;unfold zG at he;split at he<;>cases he
 . rename_i s;refine ai (C:=cx []) (ak trivial) (fn:=Tryz.f36) fun hw hs=>?_;all_goals try conv=>whnf
   all_goals try(refine ae.mk ?_;try dsimp only)
   all_goals try refine stay ?_
   refine ab.mk [] ?_<;>(repeat' first|trivial)
theorem Pu(c:Cu) (hp:True):OK 86 ([.ptr 0 0]) ([.cells (eC c)]) (.int .i64 c.c) (none):=by
 refine ai (C:=cx []) (ak trivial) (fn:=Tryz.f86) fun hw hs=>?_;all_goals try conv=>whnf
 all_goals try(refine ae.mk ?_;try dsimp only)
 all_goals try refine stay ?_
 refine ab.mk [] ?_<;>(repeat' first|trivial)
def mi:Sm:=fun args σ=>match args,σ with
 |[.ptr 0 0],[.cells ([.str s_c,.int .i64 (.ofNat a_c),.int .i64 (.ofNat e_c),.int .i64 c_c])]=>some (True/\(True),.int .i64 (Cu.mk s_c a_c e_c c_c).c,none)
 |_,_=>none
theorem nz:aq 86 mi:=by
 intro args sg pre x r he hp;unfold mi at he;split at he<;>cases he
 . rw[cX (hp).1];exact Pu (hp:=hp.2) ..
theorem Pw(c:Cu) (hp:c.ok):OK 232 ([.ptr 0 0]) ([.cells (eC c)]) (.int .i64 c.left) (none):=by
 refine ai (C:=cx []) (ak trivial) (fn:=Tryz.f232) fun hw hs=>?_;obtain⟨h1,h2⟩:=hp;have hb:c.s.length<=9223372036854775807:=hs.1.1;all_goals try conv=>whnf
 all_goals try(refine ae.mk ?_;try dsimp only)
 all_goals try refine stay ?_
 refine ab.mk [] ?_<;>(repeat' first|trivial|apply ah|apply aC)
 unfold Cu.left;(simp(discharger:=omega) only[wR];omega)
def zF:Sm:=fun args σ=>match args,σ with
 |[.ptr 0 0],[.cells ([.str s_c,.int .i64 (.ofNat a_c),.int .i64 (.ofNat e_c),.int .i64 c_c])]=>some (True/\((Cu.mk s_c a_c e_c c_c).ok),.int .i64 (Cu.mk s_c a_c e_c c_c).left,none)
 |_,_=>none
theorem JJ:aq 232 zF:=by
 intro args sg pre x r he hp;unfold zF at he;split at he<;>cases he
 . rw[cX (hp).1];exact Pw (hp:=hp.2) ..
theorem Pt(c:Cu) (hp:c.ok):OK 190 ([.ptr 0 0]) ([.cells (eC c)]) (.int .i64 c.fin) (none):=by
 refine ai (C:=cx [(86,mi),(232,zF)]) (ak ⟨nz,JJ,trivial⟩) (fn:=Tryz.f190) fun hw hs=>?_;repeat'((conv=>whnf);first|with_reducible (first|refine go1 (fun j q h=>?_) fun h=>?_|refine go2 ⟨rfl,rfl⟩ (fun h=>?_) fun j h=>?_|refine go2 ?_ (fun h=>?_) fun j h=>?_|refine cK ?_ (fun h=>?_) fun h=>?_)|apply af|apply fD|apply aI|((first|apply aj|apply go7|apply go8|apply dr|apply e9)<;>intro h)|with_reducible (first|refine iz.mk _ rfl ?_|refine goB ?_ fun hc=>?_|refine goC ?_ fun hc=>?_|refine cg ?_ fun hc=>?_|refine fH ?_ fun hc=>?_|apply j9|apply ig|refine pG ?_ fun b hb=>?_)|apply mJ|apply goJ|apply goK|apply goL|apply goM|apply goN|apply goO|with_reducible refine goP ?_)
 all_goals try conv=>whnf
 all_goals try(refine ae.mk ?_;try dsimp only)
 all_goals (try simp only[aT] at*)
 all_goals first|refine stay ?_|trivial|omega|(simp(discharger:=omega) only[wR];omega)|(simp only[du];omega)|(simp(discharger:=omega) [-List.getD_eq_getElem?_getD,wR]<;>omega)|skip
 all_goals first
  |exact⟨trivial,hp⟩
  |skip
 all_goals (try simp only[aT] at*)
 all_goals
  have he:c.left=(c.e:Int)-c.p:=rfl;unfold Cu.fin
  repeat (first|rw[if_pos (by first|assumption|omega)]|rw[if_neg (by first|assumption|omega)])
  refine ab.mk [] ?_<;>(repeat' first|trivial|rfl|exact eqS _ _|apply ah|apply cV|apply aC|apply jG|apply bg|apply iR|apply kT|apply fQ|apply gC|apply bV)
def E3:Sm:=fun args σ=>match args,σ with
 |[.ptr 0 0],[.cells ([.str s_c,.int .i64 (.ofNat a_c),.int .i64 (.ofNat e_c),.int .i64 c_c])]=>some (True/\((Cu.mk s_c a_c e_c c_c).ok),.int .i64 (Cu.mk s_c a_c e_c c_c).fin,none)
 |_,_=>none
theorem SH:aq 190 E3:=by
 intro args sg pre x r he hp;unfold E3 at he;split at he<;>cases he
 . rw[cX (hp).1];exact Pt (hp:=hp.2) ..
theorem Pz(c:Cu) (hp:c.ok):OK 131 ([.ptr 0 0]) ([.cells (eC c)]) (.tuple [bv c.ay,.bool (decide (c.c=0/\c.p<c.e))]) (none):=by
 refine ai (C:=cx []) (ak trivial) (fn:=Tryz.f131) fun hw hs=>?_;obtain⟨h1,h2⟩:=hp;repeat'((conv=>whnf);first|apply af|apply aI|(apply aj<;>intro h)|with_reducible refine cg ?_ fun hc=>?_)
 all_goals try conv=>whnf
 all_goals try(refine ae.mk ?_;try dsimp only)
 all_goals first|refine stay ?_|omega|skip
 all_goals
  unfold Cu.ay;first|rw[if_pos (by omega)]|rw[if_neg (by omega)]
  refine ab.mk [] ?_<;>(repeat' first|trivial|apply ah|apply jG|apply gC|apply bV)
  all_goals simp;omega
def q9:Sm:=fun args σ=>match args,σ with
 |[.ptr 0 0],[.cells ([.str s_c,.int .i64 (.ofNat a_c),.int .i64 (.ofNat e_c),.int .i64 c_c])]=>some (True/\((Cu.mk s_c a_c e_c c_c).ok),.tuple [bv (Cu.mk s_c a_c e_c c_c).ay,.bool (decide ((Cu.mk s_c a_c e_c c_c).c=0/\(Cu.mk s_c a_c e_c c_c).p<(Cu.mk s_c a_c e_c c_c).e))],none)
 |_,_=>none
theorem tC:aq 131 q9:=by
 intro args sg pre x r he hp;unfold q9 at he;split at he<;>cases he
 . rw[cX (hp).1];exact Pz (hp:=hp.2) ..
theorem Pv(c:Cu) (k:Int) (hp:True):OK 139 ([.ptr 0 0,.int .i64 k]) ([.cells (eC c)]) (.tuple []) (some [.cells (eC (c.fail k))]):=by
 refine ai (C:=cx []) (ak trivial) (fn:=Tryz.f139) fun hw hs=>?_;repeat'((conv=>whnf);(apply aj<;>intro h))
 all_goals try conv=>whnf
 all_goals try(refine ae.mk ?_;try dsimp only)
 all_goals try refine stay ?_
 all_goals
  unfold Cu.fail;first|rw[if_pos (by assumption)]|rw[if_neg (by assumption)]
  refine ab.mk [] ?_<;>(repeat' first|trivial)
def mY:Sm:=fun args σ=>match args,σ with
 |[.ptr 0 0,.int .i64 k],[.cells ([.str s_c,.int .i64 (.ofNat a_c),.int .i64 (.ofNat e_c),.int .i64 c_c])]=>some (True/\(True),.tuple [],some [.cells (eC ((Cu.mk s_c a_c e_c c_c).fail k))])
 |_,_=>none
theorem oy:aq 139 mY:=by
 intro args sg pre x r he hp;unfold mY at he;split at he<;>cases he
 . rw[cX (hp).1];exact Pv (hp:=hp.2) ..
theorem Py(c:Cu) (n:Int) (hp:c.ok):OK 174 ([.ptr 0 0,.int .i64 n]) ([.cells (eC c)]) (.tuple [.int .i64 (if c.may n=true then(c.p:Int) else 0),.bool (c.may n)]) (some [.cells (eC (c.pass n))]):=by
 refine ai (C:=cx []) (ak trivial) (fn:=Tryz.f174) fun hw hs=>?_;obtain⟨h1,h2⟩:=hp;have hb:c.s.length<=9223372036854775807:=hs.1.1;repeat'((conv=>whnf);first|apply aI|(apply aj<;>intro h))
 all_goals try conv=>whnf
 all_goals try(refine ae.mk ?_;try dsimp only)
 all_goals try refine stay ?_
 all_goals (try rw[show IntKind.i64.wrap (↑c.e-↑c.p) =(c.e:Int)-c.p by(simp(discharger:=omega) only[wR];omega)] at*)
 all_goals
  have hm:c.may n=decide (c.c=0/\0<=n/\n<=c.e-c.p):=rfl;first
  |rw[decide_eq_true (by omega)] at hm
  |rw[decide_eq_false (by omega)] at hm
  rw[hm];unfold Cu.pass
  repeat (first|rw[if_pos (by first|rfl|assumption|omega)]|rw[if_neg (by first|exact Bool.false_ne_true|assumption|omega)])
  refine ab.mk [] ?_<;>(repeat' first|trivial|apply ah|apply aC|apply iR|apply bV)
 show IntKind.i64.wrap (c.p+n) =((c.p+n.toNat:Nat):Int)
 (simp(discharger:=omega) only[wR];omega)
def E4:Sm:=fun args σ=>match args,σ with
 |[.ptr 0 0,.int .i64 n],[.cells ([.str s_c,.int .i64 (.ofNat a_c),.int .i64 (.ofNat e_c),.int .i64 c_c])]=>some (True/\((Cu.mk s_c a_c e_c c_c).ok),.tuple [.int .i64 (if(Cu.mk s_c a_c e_c c_c).may n=true then((Cu.mk s_c a_c e_c c_c).p:Int) else 0),.bool ((Cu.mk s_c a_c e_c c_c).may n)],some [.cells (eC ((Cu.mk s_c a_c e_c c_c).pass n))])
 |_,_=>none
theorem SI:aq 174 E4:=by
 intro args sg pre x r he hp;unfold E4 at he;split at he<;>cases he
 . rw[cX (hp).1];exact Py (hp:=hp.2) ..
theorem Pr(c:Cu) (n:Int) (x:V) (hp:0<=n/\n<c.s.length):OK 175 ([.int .i64 n,.ptr 0 0,.ptr 1 0]) ([.cells [.ptr 2 0],.cells [x],.cells (eC c)]) (.tuple []) (some [.cells [.ptr 2 0],.cells [bv (c.s.getD n.toNat 0)],.cells (eC c)]):=by
 refine ai (C:=cx []) (ak trivial) (fn:=Tryz.f175) fun hw hs=>?_;repeat'((conv=>whnf);first|apply af|with_reducible refine fH ?_ fun hc=>?_)
 all_goals try conv=>whnf
 all_goals try(refine ae.mk ?_;try dsimp only)
 all_goals first|refine stay ?_|omega|skip
 refine ab.mk [] ?_<;>(repeat' first|trivial)
def DZ:Sm:=fun args σ=>match args,σ with
 |[.int .i64 n,.ptr 0 0,.ptr 1 0],[.cells [.ptr 2 0],.cells [x],.cells ([.str s_c,.int .i64 (.ofNat a_c),.int .i64 (.ofNat e_c),.int .i64 c_c])]=>some (True/\(0<=n/\n<(Cu.mk s_c a_c e_c c_c).s.length),.tuple [],some [.cells [.ptr 2 0],.cells [bv ((Cu.mk s_c a_c e_c c_c).s.getD n.toNat 0)],.cells (eC (Cu.mk s_c a_c e_c c_c))])
 |_,_=>none
theorem SG:aq 175 DZ:=by
 intro args sg pre x r he hp;unfold DZ at he;split at he<;>cases he
 . rw[cX (hp).1];exact Pr (hp:=hp.2) ..
theorem Px(c:Cu) (n:Int) (x:Int) (hp:c.ok/\n=1/\x=0):OK 173 ([.func (.func 174) [.ptr 0 0] [],.int .i64 n,.func (.func 175) [] [.ptr 1 0,.ptr 2 0]]) ([.cells (eC c),.cells [.ptr 0 0],.cells [.int .u8 x]]) (.tuple []) (some [.cells (eC c.byte),.cells [.ptr 0 0],.cells [bv c.ay]]):=by
 refine ai (C:=cx [(174,E4),(175,DZ)]) (ak ⟨SI,SG,trivial⟩) (fn:=Tryz.f173) fun hw hs=>?_;obtain⟨hp,rfl,rfl⟩:=hp;have h1:=hp.1;have h2:=hp.2;have hq:=nJ hp 1;repeat'((conv=>whnf);first|apply af|(apply aj<;>intro h))
 all_goals try conv=>whnf
 all_goals try(refine ae.mk ?_;try dsimp only)
 all_goals (try simp only[aT] at*)
 all_goals first|refine stay ?_|trivial|skip
 . have hm:c.may 1=true:=decide_eq_true (by assumption);rw[hm,if_pos rfl,hq.2.1];exact⟨trivial,by omega,by omega⟩
 . have hm:c.may 1=true:=decide_eq_true (by assumption);refine ab.mk [] ?_<;>(repeat' first|trivial|apply ah|apply aC|apply iR|apply bV)
   rw[hm,if_pos rfl,hq.2.1];unfold Cu.ay;rw[if_pos (by omega)];rfl
 . refine ab.mk [] ?_<;>(repeat' first|trivial|apply ah|apply aC|apply iR|apply bV)
   unfold Cu.ay;rw[if_neg (by omega)];rfl
def E5:Sm:=fun args σ=>match args,σ with
 |[.func (.func 174) [.ptr 0 0] [],.int .i64 n,.func (.func 175) [] [.ptr 1 0,.ptr 2 0]],[.cells ([.str s_c,.int .i64 (.ofNat a_c),.int .i64 (.ofNat e_c),.int .i64 c_c]),.cells [.ptr 0 0],.cells [.int .u8 x]]=>some (True/\((Cu.mk s_c a_c e_c c_c).ok/\n=1/\x=0),.tuple [],some [.cells (eC (Cu.mk s_c a_c e_c c_c).byte),.cells [.ptr 0 0],.cells [bv (Cu.mk s_c a_c e_c c_c).ay]])
 |_,_=>none
theorem SJ:aq 173 E5:=by
 intro args sg pre x r he hp;unfold E5 at he;split at he<;>cases he
 . rw[cX (hp).1];exact Px (hp:=hp.2) ..
theorem Ps(c:Cu) (hp:c.ok):OK 133 ([.ptr 0 0]) ([.cells (eC c)]) (bv c.ay) (some [.cells (eC c.byte)]):=by
 refine ai (C:=cx [(173,E5)]) (ak ⟨SJ,trivial⟩) (fn:=Tryz.f133) fun hw hs=>?_;repeat'((conv=>whnf);apply af)
 all_goals try conv=>whnf
 all_goals try(refine ae.mk ?_;try dsimp only)
 all_goals (try simp only[aT] at*)
 all_goals first|refine stay ?_|trivial|skip
 refine ab.mk [] ?_<;>(repeat' first|trivial)
def mh:Sm:=fun args σ=>match args,σ with
 |[.ptr 0 0],[.cells ([.str s_c,.int .i64 (.ofNat a_c),.int .i64 (.ofNat e_c),.int .i64 c_c])]=>some (True/\((Cu.mk s_c a_c e_c c_c).ok),bv (Cu.mk s_c a_c e_c c_c).ay,some [.cells (eC (Cu.mk s_c a_c e_c c_c).byte)])
 |_,_=>none
theorem ny:aq 133 mh:=by
 intro args sg pre x r he hp;unfold mh at he;split at he<;>cases he
 . rw[cX (hp).1];exact Ps (hp:=hp.2) ..
theorem Rq(s:g8) (i:Nat) (hp:s.length<=100000000):OK 248 ([.str s,.int .i64 i]) ([]) (.tuple [.int .i32 (bU s i).1,.int .i64 (bU s i).2]) (none):=by
 rw[<-rD];exact Rp s i hp
def FR:Sm:=fun args σ=>match args,σ with
 |[.str s,.int .i64 (.ofNat i)],[]=>some (s.length<=100000000,.tuple [.int .i32 (bU s i).1,.int .i64 (bU s i).2],none)
 |_,_=>none
theorem Uv:aq 248 FR:=by
 intro args sg pre x r he hp;unfold FR at he;split at he<;>cases he
 . exact Rq (hp:=hp) ..
def FK:Sm:=fun args σ=>match args,σ with
 |[.str s],[]=>some (s.length<=10000000,.int .i64 (oQ s),none)
 |_,_=>none
theorem Up:aq 219 FK:=by
 intro args sg pre x r he hp;unfold FK at he;split at he<;>cases he
 . rename_i s;refine ai (C:=cx [(248,FR)]) (ak ⟨Uv,trivial⟩) (fn:=Tryz.f219) fun hw hs=>?_;refine aM.mk (Nat×Nat) (fun|(i,c) =>i<=s.length/\c<=i/\lL s i c=lL s 0 0)
    (fun|(i,_) =>⟨22,[(3,.int .i64 i),(0,.str s)],[],[]⟩) (fun x=>s.length-x.1) [] (0,0) ⟨by omega,by omega,rfl⟩ ?_ (fun⟨i,c⟩ ⟨hi,hc,he⟩ _ _=>?_)
   . apply ao<;>(repeat' first|trivial)
   have hr:=xg s i;repeat'((conv=>whnf);first|apply af|(apply aj<;>intro h))
   all_goals try conv=>whnf
   all_goals try(refine ae.mk ?_;try dsimp only)
   all_goals first|refine stay ?_|omega|skip
   . rw[lL,if_neg (by omega),dif_pos (by omega)] at he;unfold oQ;rw[<-he,if_neg (by simp only;omega)];refine ab.mk [] ?_<;>(repeat' first|trivial)
   . rw[lL,if_neg (by omega),dif_neg (by omega)] at he;refine⟨[],(i+(bU s i).2,c+1),⟨by omega,by omega,he⟩,?_,by omega⟩;apply ao<;>(repeat' first|trivial|apply ah|apply aC)
     all_goals (simp(discharger:=omega) only[wR];omega)
   . rw[lL,if_pos (by omega)] at he;unfold oQ;rw[<-he,if_pos (by simp only;omega)];refine ab.mk [] ?_<;>(repeat' first|trivial)
def kC(r:Int):Int:=if r<128 then 1 else if r<2048 then 2 else if r<65536 then 3 else 4
def uh(r n:Int):Sm:=fun args σ=>some (args=[.int .i32 r]/\σ=[]/\kC r=n,.int .i64 n,none)
theorem yl(r n:Int):aq 247 (uh r n):=by
 intro args sg pre x rr he hp;unfold uh at he;cases he;obtain⟨rfl,rfl,rfl⟩:=hp;refine ai (C:=cx []) (ak trivial) (fn:=Tryz.f247) fun hw hs=>?_;repeat'((conv=>whnf);(apply aj<;>intro h))
 all_goals try conv=>whnf
 all_goals try(refine ae.mk ?_;try dsimp only)
 all_goals try refine stay ?_
 all_goals
  unfold kC
  repeat (first|rw[if_pos (by omega)]|rw[if_neg (by omega)])
  refine ab.mk [] ?_<;>(repeat' first|trivial)
theorem zb(a b j:Nat) (ha:a*2^j+b<256) (hb:b<2^j):kY .u8 ((a*2^j:Nat):Int) (b:Int) =((a*2^j+b:Nat):Int):=by
 show IntKind.u8.wrap ((BitVec.ofInt 8 ((a*2^j:Nat):Int)|||BitVec.ofInt 8 (b:Int)).toNat:Int) =_;rw[BitVec.ofInt_natCast,BitVec.ofInt_natCast,BitVec.toNat_or,BitVec.toNat_ofNat,BitVec.toNat_ofNat,Nat.mod_eq_of_lt (by omega),Nat.mod_eq_of_lt (by omega),D8 a b j hb];rw[n6];omega
theorem VS(b:Nat) (h:b<64):kY .u8 128 b=((128+b:Nat):Int):=zb 2 b 6 (by omega) (by omega)
theorem VT(b:Nat) (h:b<32):kY .u8 192 b=((192+b:Nat):Int):=zb 6 b 5 (by omega) (by omega)
theorem VU(b:Nat) (h:b<16):kY .u8 224 b=((224+b:Nat):Int):=zb 14 b 4 (by omega) (by omega)
theorem VV(b:Nat) (h:b<8):kY .u8 240 b=((240+b:Nat):Int):=zb 30 b 3 (by omega) (by omega)
theorem copy_eq(l:List V):List.take (List.replicate (l.length:Int).toNat (V.int .u8 0)).length l++List.drop l.length (List.replicate (l.length:Int).toNat (V.int .u8 0)) =l:=by simp
theorem a63(x:Nat):kY .u8 128 (pK .u8 (IntKind.u8.wrap x) 63) =((128+x%64:Nat):Int):=by
 rw[n6,show((x:Int)%256) =((x%256:Nat):Int) by omega,Hb _ (by omega),show x%256%64=x%64 by omega];exact VS _ (by omega)
theorem s6(r:Nat):lE .i32 r 6=((r/64:Nat):Int):=yg .i32 r 6
theorem s12(r:Nat):lE .i32 r 12=((r/4096:Nat):Int):=yg .i32 r 12
theorem s18(r:Nat):lE .i32 r 18=((r/262144:Nat):Int):=yg .i32 r 18
theorem yI(r:Nat) (h:r<2048):kY .u8 (lD .u8 240 (IntKind.i64.wrap (4-2))) (IntKind.u8.wrap (lE .i32 r (IntKind.i64.wrap (6*IntKind.i64.wrap (2-1))))) =((192+r/64:Nat):Int):=by
 rw[show lD .u8 240 (IntKind.i64.wrap (4-2)) =192 by decide,show IntKind.i64.wrap (6*IntKind.i64.wrap (2-1)) =6 by decide,s6,AJ _ (by show((r/64:Nat):Int)<=255;omega)];exact VT _ (by omega)
theorem yJ(r:Nat) (h:r<65536):kY .u8 (lD .u8 240 (IntKind.i64.wrap (4-3))) (IntKind.u8.wrap (lE .i32 r (IntKind.i64.wrap (6*IntKind.i64.wrap (3-1))))) =((224+r/4096:Nat):Int):=by
 rw[show lD .u8 240 (IntKind.i64.wrap (4-3)) =224 by decide,show IntKind.i64.wrap (6*IntKind.i64.wrap (3-1)) =12 by decide,s12,AJ _ (by show((r/4096:Nat):Int)<=255;omega)];exact VU _ (by omega)
theorem yK(r:Nat) (h:r<1114112):kY .u8 (lD .u8 240 (IntKind.i64.wrap (4-4))) (IntKind.u8.wrap (lE .i32 r (IntKind.i64.wrap (6*IntKind.i64.wrap (4-1))))) =((240+r/262144:Nat):Int):=by
 rw[show lD .u8 240 (IntKind.i64.wrap (4-4)) =240 by decide,show IntKind.i64.wrap (6*IntKind.i64.wrap (4-1)) =18 by decide,s18,AJ _ (by show((r/262144:Nat):Int)<=255;omega)];exact VV _ (by omega)
theorem xG(x:Int) (h:0<=x/\x<=255) (s:g8):bl (byte x::s) =V.int .u8 x::bl s:=by simp only[bl,bv,eK h]
theorem Rk(l:List V) (r:Nat) (hu:eB r=true) (hn:kC r=1) (hl:l.length<=3000000000):OK 216 [.buf 0,.int .i32 r] [.buf 1 0 l] (.buf 0) (some [.buf 1 0 (l++bl (bT r))]):=by
 refine ai (C:=cx [(246,rL),(247,uh r 1)]) (ak ⟨vO,yl r 1,trivial⟩) (fn:=Tryz.f216) fun hw hs=>?_;repeat'((conv=>whnf);first|apply af|apply aI|(apply aj<;>intro h))
 all_goals try conv=>whnf
 all_goals try(refine ae.mk ?_;try dsimp only)
 all_goals first|refine stay ?_|trivial|(simp(discharger:=omega) only[wR];omega)|(simp(discharger:=omega) [-List.getD_eq_getElem?_getD,wR]<;>omega)|skip
 . have hb:=(kA _).1 hu;have hr:(1=1/\r<128)\/(1=2/\128<=r/\r<2048)\/(1=3/\2048<=r/\r<65536)\/(1=4/\65536<=r/\r<1114112):=by
    unfold kC at hn;repeat' split at hn
    all_goals omega
   refine ab.mk [.swap 0 1] ?_<;>(repeat' first|trivial|apply ah|apply bg)
   rw[copy_eq];try rw[yI r (by omega)]
   try rw[yJ r (by omega)]
   try rw[yK r (by omega)]
   try simp only[s6,s12,a63]
   unfold bT
   repeat (first|rw[if_pos (by omega)]|rw[if_neg (by omega)])
   repeat rw[xG _ (by omega)]
   try simp only[gc,List.cons_append,List.nil_append]
   repeat'(first|rfl|refine congrArg (l++·) ?_|refine v8 ?_ ?_|refine congrArg (V.int .u8) ?_)
   all_goals (simp(discharger:=omega) only[wR];omega)
 . exact absurd ((kA _).1 hu) (by assumption)
theorem Rl(l:List V) (r:Nat) (hu:eB r=true) (hn:kC r=2) (hl:l.length<=3000000000):OK 216 [.buf 0,.int .i32 r] [.buf 1 0 l] (.buf 0) (some [.buf 1 0 (l++bl (bT r))]):=by
 refine ai (C:=cx [(246,rL),(247,uh r 2)]) (ak ⟨vO,yl r 2,trivial⟩) (fn:=Tryz.f216) fun hw hs=>?_;repeat'((conv=>whnf);first|apply af|apply aI|(apply aj<;>intro h))
 all_goals try conv=>whnf
 all_goals try(refine ae.mk ?_;try dsimp only)
 all_goals first|refine stay ?_|trivial|(simp(discharger:=omega) only[wR];omega)|(simp(discharger:=omega) [-List.getD_eq_getElem?_getD,wR]<;>omega)|skip
 . have hb:=(kA _).1 hu;have hr:(2=1/\r<128)\/(2=2/\128<=r/\r<2048)\/(2=3/\2048<=r/\r<65536)\/(2=4/\65536<=r/\r<1114112):=by
    unfold kC at hn;repeat' split at hn
    all_goals omega
   refine ab.mk [.swap 0 1] ?_<;>(repeat' first|trivial|apply ah|apply bg)
   rw[copy_eq];try rw[yI r (by omega)]
   try rw[yJ r (by omega)]
   try rw[yK r (by omega)]
   try simp only[s6,s12,a63]
   unfold bT
   repeat (first|rw[if_pos (by omega)]|rw[if_neg (by omega)])
   repeat rw[xG _ (by omega)]
   try simp only[gc,List.cons_append,List.nil_append]
   repeat'(first|rfl|refine congrArg (l++·) ?_|refine v8 ?_ ?_|refine congrArg (V.int .u8) ?_)
   all_goals omega
 . exact absurd ((kA _).1 hu) (by assumption)
theorem Rm(l:List V) (r:Nat) (hu:eB r=true) (hn:kC r=3) (hl:l.length<=3000000000):OK 216 [.buf 0,.int .i32 r] [.buf 1 0 l] (.buf 0) (some [.buf 1 0 (l++bl (bT r))]):=by
 refine ai (C:=cx [(246,rL),(247,uh r 3)]) (ak ⟨vO,yl r 3,trivial⟩) (fn:=Tryz.f216) fun hw hs=>?_;repeat'((conv=>whnf);first|apply af|apply aI|(apply aj<;>intro h))
 all_goals try conv=>whnf
 all_goals try(refine ae.mk ?_;try dsimp only)
 all_goals first|refine stay ?_|trivial|(simp(discharger:=omega) only[wR];omega)|(simp(discharger:=omega) [-List.getD_eq_getElem?_getD,wR]<;>omega)|skip
 . have hb:=(kA _).1 hu;have hr:(3=1/\r<128)\/(3=2/\128<=r/\r<2048)\/(3=3/\2048<=r/\r<65536)\/(3=4/\65536<=r/\r<1114112):=by
    unfold kC at hn;repeat' split at hn
    all_goals omega
   refine ab.mk [.swap 0 1] ?_<;>(repeat' first|trivial|apply ah|apply bg)
   rw[copy_eq];try rw[yI r (by omega)]
   try rw[yJ r (by omega)]
   try rw[yK r (by omega)]
   try simp only[s6,s12,a63]
   unfold bT
   repeat (first|rw[if_pos (by omega)]|rw[if_neg (by omega)])
   repeat rw[xG _ (by omega)]
   try simp only[gc,List.cons_append,List.nil_append]
   repeat'(first|rfl|refine congrArg (l++·) ?_|refine v8 ?_ ?_|refine congrArg (V.int .u8) ?_)
   all_goals omega
 . exact absurd ((kA _).1 hu) (by assumption)
theorem Rn(l:List V) (r:Nat) (hu:eB r=true) (hn:kC r=4) (hl:l.length<=3000000000):OK 216 [.buf 0,.int .i32 r] [.buf 1 0 l] (.buf 0) (some [.buf 1 0 (l++bl (bT r))]):=by
 refine ai (C:=cx [(246,rL),(247,uh r 4)]) (ak ⟨vO,yl r 4,trivial⟩) (fn:=Tryz.f216) fun hw hs=>?_;repeat'((conv=>whnf);first|apply af|apply aI|(apply aj<;>intro h))
 all_goals try conv=>whnf
 all_goals try(refine ae.mk ?_;try dsimp only)
 all_goals first|refine stay ?_|trivial|(simp(discharger:=omega) only[wR];omega)|(simp(discharger:=omega) [-List.getD_eq_getElem?_getD,wR]<;>omega)|skip
 . have hb:=(kA _).1 hu;have hr:(4=1/\r<128)\/(4=2/\128<=r/\r<2048)\/(4=3/\2048<=r/\r<65536)\/(4=4/\65536<=r/\r<1114112):=by
    unfold kC at hn;repeat' split at hn
    all_goals omega
   refine ab.mk [.swap 0 1] ?_<;>(repeat' first|trivial|apply ah|apply bg)
   rw[copy_eq];try rw[yI r (by omega)]
   try rw[yJ r (by omega)]
   try rw[yK r (by omega)]
   try simp only[s6,s12,a63]
   unfold bT
   repeat (first|rw[if_pos (by omega)]|rw[if_neg (by omega)])
   repeat rw[xG _ (by omega)]
   try simp only[gc,List.cons_append,List.nil_append]
   repeat'(first|rfl|refine congrArg (l++·) ?_|refine v8 ?_ ?_|refine congrArg (V.int .u8) ?_)
   all_goals omega
 . exact absurd ((kA _).1 hu) (by assumption)
def FP:Sm:=fun args σ=>match args,σ with
 |[.buf 0,.int .i32 r],[.buf 1 0 l]=>some (eB r=true/\l.length<=3000000000,.buf 0,some [.buf 1 0 (l++bl (bT r))])
 |_,_=>none
theorem Ut:aq 216 FP:=by
 intro args sg pre x r he hp;unfold FP at he;split at he<;>cases he
 . rename_i r l;obtain⟨hu,hl⟩:=hp;obtain⟨n,rfl⟩:=Int.eq_ofNat_of_zero_le ((kA _).1 hu).1;have:kC n=1\/kC n=2\/kC n=3\/kC n=4:=by
    unfold kC;repeat' split
    all_goals simp
   rcases this with h|h|h|h
   . exact Rk l n hu h hl
   . exact Rl l n hu h hl
   . exact Rm l n hu h hl
   . exact Rn l n hu h hl
def ec(b:UInt8):Bool:=decide ((48<=b.toNat/\b.toNat<=57)\/(97<=b.toNat/\b.toNat<=102))
def dv(b:UInt8):Nat:=if 48<=b.toNat/\b.toNat<=57 then b.toNat-48 else if 97<=b.toNat/\b.toNat<=102 then b.toNat-87 else 0
def ff(b:UInt8):UInt8:=if 65<=b.toNat/\b.toNat<=70 then byte (b.toNat+32) else b
def Cu.iH(c:Cu):Cu:=if ec (ff c.ay) =true then c.byte else c.byte.fail 6
def Cu.nu(c:Cu):Nat:=dv (ff c.ay)
def fS:Nat->Cu->Int->Cu×Int
 |0,c,u=>(c,u)
 |k+1,c,u=>if c.iH.c≠0 then(c.iH,0) else fS k c.iH (16*u+c.nu)
termination_by k => k
def Cu.four(c:Cu):Cu×Int:=fS 4 c 0
def Cu.dI(c:Cu) (b:UInt8):Cu:=if c.ay.toNat=b.toNat then c.byte else c.byte.fail 6
def Cu.number(c:Cu):Cu×Int:=
 if c.four.2<55296\/57344<=c.four.2 then c.four
 else if 56320<=c.four.2 then(c.four.1.fail 6,0)
 else if((c.four.1.dI 92).dI 117).four.2<56320\/57344<=((c.four.1.dI 92).dI 117).four.2 then(((c.four.1.dI 92).dI 117).four.1.fail 6,0)
 else(((c.four.1.dI 92).dI 117).four.1,65536+(c.four.2-55296)*1024+(((c.four.1.dI 92).dI 117).four.2-56320))
def iq(b:UInt8):Bool:=decide (b.toNat=34\/b.toNat=92\/b.toNat=47\/b.toNat=98\/b.toNat=102\/b.toNat=110\/b.toNat=114\/b.toNat=116)
def pS(b:UInt8):Nat:=if b.toNat=34\/b.toNat=92\/b.toNat=47 then b.toNat else if b.toNat=98 then 8 else if b.toNat=102 then 12 else if b.toNat=110 then 10 else if b.toNat=114 then 13 else if b.toNat=116 then 9 else 0
def Cu.fR(c:Cu):Cu:=if c.ay.toNat=117 then c.byte.number.1 else if iq c.ay=true then c.byte else c.byte.fail 6
def Cu.jH(c:Cu):g8:=if c.ay.toNat=117 then(if c.byte.number.1.c=0 then bT c.byte.number.2 else[]) else if iq c.ay=true then[Go.VG.byte (pS c.ay)] else[]
def dO(b:UInt8):Nat:=if b.toNat<192 then 0 else if b.toNat<224 then 1 else if b.toNat<240 then 2 else 3
def ez:Nat->Cu->g8->Cu×g8
 |0,c,s=>(c,s)
 |k+1,c,s=>if c.c=0/\c.p<c.e/\cont c.ay=true then ez k c.byte (s++[c.ay]) else(c,s)
termination_by k => k
def Cu.ir(c:Cu) (b:UInt8):Cu:=if 0<=oQ (ez (dO b) c [b]).2 then(ez (dO b) c [b]).1.fail 5 else(ez (dO b) c [b]).1
def Cu.kq(c:Cu) (b:UInt8):g8:=if 0<=oQ (ez (dO b) c [b]).2 then[] else(ez (dO b) c [b]).2
theorem gR{c:Cu} (h:c.ok):c.byte.ok:=(nJ h 1).1
theorem Cg{c:Cu} (h:c.ok):c.iH.ok:=by
 unfold Cu.iH;split
 . exact gR h
 . exact(iE (gR h) 6).1
theorem IM:∀(k:Nat) (c:Cu) (u:Int),c.ok->(fS k c u).1.ok
 |0,_,_,h=>by rw[fS];exact h
 |k+1,c,u,h=>by
   rw[fS];split
   . exact Cg h
   . exact IM k _ _ (Cg h)
theorem ki (b : UInt8) : dv b < 16 := by        unfold dv; repeat' split
                                                all_goals omega
theorem IL:∀(k:Nat) (c:Cu) (u:Int) (m:Nat),0<=u->u<m->0<m->0<=(fS k c u).2/\(fS k c u).2<((m*16^k:Nat):Int)
 |0,_,_,_,h1,h,_=>by rw[fS];simpa using⟨h1,h⟩
 |k+1,c,u,m,h1,h,h0=>by
   have hp:0<16^k:=Nat.pow_pos (by decide);rw[fS];split
   . have:0<m*16^(k+1):=Nat.mul_pos h0 (Nat.pow_pos (by decide));simp only;omega
   . have hv:=ki (ff c.ay);have:=IL k c.iH (16*u+c.nu) (16*m) (by omega) (by unfold Cu.nu;omega) (by omega);rw[Nat.pow_succ,<-Nat.mul_assoc,Nat.mul_right_comm,Nat.mul_comm m 16];exact this
theorem y0{c:Cu} (h:c.ok):c.four.1.ok:=IM 4 c 0 h
theorem xZ(c:Cu):0<=c.four.2/\c.four.2<65536:=by have:=IL 4 c 0 1 (by decide) (by decide) (by decide);simpa[Cu.four] using this
theorem tM{c:Cu} (h:c.ok) (b:UInt8):(c.dI b).ok:=by
 unfold Cu.dI;split
 . exact gR h
 . exact(iE (gR h) 6).1
theorem Lt{c:Cu} (h:c.ok):c.number.1.ok:=by
 have h1:=y0 h;have h2:=y0 (tM (tM h1 92) 117);unfold Cu.number;repeat' split
 . exact h1
 . exact(iE h1 6).1
 . exact(iE h2 6).1
 . exact h2
theorem VI{c:Cu} (h:c.number.1.c=0):eB c.number.2=true:=by
 have h1:=xZ c;have h2:=xZ ((c.four.1.dI 92).dI 117);rw[kA];have hf:∀x:Cu,(x.fail 6).c≠0:=fun x=>by
  unfold Cu.fail;split
  . simp
  . assumption
 unfold Cu.number at h⊢;repeat' split at h
 . rename_i q;rw[if_pos q];omega
 . exact absurd h (hf _)
 . exact absurd h (hf _)
 . rename_i q1 q2 q3;rw[if_neg q1,if_neg q2,if_neg q3];simp only;omega
theorem qC{c:Cu} (h:c.ok):c.fR.ok:=by
 unfold Cu.fR;repeat' split
 . exact Lt (gR h)
 . exact gR h
 . exact(iE (gR h) 6).1
theorem M0:∀(k:Nat) (c:Cu) (s:g8),c.ok->(ez k c s).1.ok
 |0,_,_,h=>by rw[ez];exact h
 |k+1,c,s,h=>by
   rw[ez];split
   . exact M0 k _ _ (gR h)
   . exact h
theorem LZ:∀(k:Nat) (c:Cu) (s:g8),(ez k c s).2.length<=s.length+k
 |0,_,_=>by simp[ez]
 |k+1,c,s=>by
   rw[ez];split
   . have:=LZ k c.byte (s++[c.ay]);simp at this;omega
   . simp only;omega
theorem MV(b:UInt8):dO b<=3:=by
 unfold dO;repeat' split
 all_goals omega
theorem rB{c:Cu} (h:c.ok) (b:UInt8):(c.ir b).ok:=by
 have:=M0 (dO b) c [b] h;unfold Cu.ir;split
 . exact(iE this 5).1
 . exact this
end Go.Proofs.YtknljebcgcmaeaaGreatDoor
