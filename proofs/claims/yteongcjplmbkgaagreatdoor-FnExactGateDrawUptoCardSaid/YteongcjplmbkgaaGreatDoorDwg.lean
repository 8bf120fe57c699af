/- Part 7 of a proof: Contracts: GateBound. Sizes of books that GateTick and GateBound answer. Purses put in their place: pure part; contracts of both ways. Contracts: GateDraw. Sizes of books that GateDraw answers. -/
import Derived.Test.YteongcjplmbkgaaGreatDoorDwa
import Derived.Test.YteongcjplmbkgaaGreatDoorDwb
import Derived.Test.YteongcjplmbkgaaGreatDoorDwc
import Derived.Test.YteongcjplmbkgaaGreatDoorDwd
import Derived.Test.YteongcjplmbkgaaGreatDoorDwe
import Derived.Test.YteongcjplmbkgaaGreatDoorDwf
set_option linter.unusedVariables false
set_option linter.unusedSimpArgs false
section
namespace Go.Vc
open Go.Proofs
set_option maxRecDepth 100000
section
variable {α:Type} {e:α→List D} {xs:List α} {k:Nat}
theorem zU {K:Prop} {r:List D} (h:k<xs.length) (q:K):(0:Int)≤(k:Int)∧(k:Int)<((((xs.map e).set k r).length:Nat):Int)∧K:=⟨Int.natCast_nonneg _,by rw[List.length_set,List.length_map];omega,q⟩
theorem C2 {t sz:Nat} {fs:List NT} {q r:List D} {y:α} (hr:r=e y):some (AO.tree t sz fs (((xs.map e).set k q).set k r))=some (AO.tree t sz fs ((xs.set k y).map e)):=by
 rw[List.set_set,hr,List.map_set]
end
def k8 (a b:Int):Int:=IntKind.i64.wrap (a - b)
def Gh (x:GateLedger):List GateLedger→List GateLedger
 |[]=>[x]
 |y::ys=>bif gl x.team x.resource y.team y.resource then x::y::ys else y::Gh x ys
def Ej (L:GateLaw) (b:GateBook) (t r:Bs) (n:Int):GateBook×Int:=
 bif dE L b then
  bif L.teams.any (fun x=>x.name==t)&&(aI r&&ee n 0 1000000) then
   bif decide (lj b t r≥0) then
    (match b.ledgers[(lj b t r).toNat]? with
    |some g=>bif decide (k8 (bk g.free n) g.most<0) then (b,3) else ({b with ledgers:=b.ledgers.set (lj b t r).toNat {g with most:=n,free:=k8 (bk g.free n) g.most}},0)
    |none=>(b,3))
   else bif decide (k8 n (pa L b t r)<0) then (b,3) else bif b.ledgers.length==10 then (b,4) else ({b with ledgers:=Gh ⟨t,r,n,k8 n (pa L b t r)⟩ b.ledgers},0)
  else (b,2)
 else (nilBk,1)
section
variable {L:GateLaw} {b:GateBook} {t r:Bs} {n:Int}
theorem GU (hb:dE L b=false):Ej L b t r n=(nilBk,1):=by unfold Ej;rw[hb];rfl
end
theorem uW (b:GateBook) (t r:Bs) (v:Int) (h:lj b t r=v):Spec P 98 [st b.e,.d (.str t),.d (.str r)] (.d (.int .i64 v)):=by
 rw[←h];exact yE b t r
theorem un (b:GateBook) (t r:Bs) (v:Int) (h:lj b t r=v):Spec P 93 [st b.e,.d (.str t),.d (.str r)] (.d (.int .i64 v)):=by
 rw[←h];exact rf b t r
theorem w6:∀x y:Bs,(!(Op.bytesLess x y||x==y))=Op.bytesLess y x
 |[],[]=>rfl
 |[],_::_=>rfl
 |_::_,[]=>rfl
 |a::x,b::y=>by
  have ih:=w6 x y
  simp only[Op.bytesLess,List.cons_beq_cons]
  rcases Nat.lt_trichotomy a.toNat b.toNat with h|h|h
  ·have e:(a==b)=false:=by rw[beq_eq_false_iff_ne];rintro rfl;omega
   have e2:(b==a)=false:=by rw[beq_eq_false_iff_ne];rintro rfl;omega
   rw[show decide (a<b)=true from decide_eq_true (UInt8.lt_iff_toNat_lt.2 h),show decide (b<a)=false from decide_eq_false (fun g=>by have:=UInt8.lt_iff_toNat_lt.1 g;omega),e,e2]
   simp
  ·have e:a=b:=UInt8.toNat_inj.1 h
   subst e
   rw[show decide (a<a)=false from decide_eq_false (fun g=>by have:=UInt8.lt_iff_toNat_lt.1 g;omega),beq_self_eq_true]
   simpa using ih
  ·have e:(a==b)=false:=by rw[beq_eq_false_iff_ne];rintro rfl;omega
   have e2:(b==a)=false:=by rw[beq_eq_false_iff_ne];rintro rfl;omega
   rw[show decide (b<a)=true from decide_eq_true (UInt8.lt_iff_toNat_lt.2 h),show decide (a<b)=false from decide_eq_false (fun g=>by have:=UInt8.lt_iff_toNat_lt.1 g;omega),e,e2]
   simp
end Go.Vc
end
section
namespace Go.Vc
end Go.Vc
end
section
namespace Go.Vc
open Go.Proofs
set_option maxRecDepth 100000
def gx (x p:GatePurse):Bool:=x.door==p.door&&(x.team==p.team&&x.resource==p.resource)
def mf (p:GatePurse):List GatePurse→List GatePurse
 |[]=>[p]
 |y::ys=>bif bQ p y then p::y::ys else y::mf p ys
def le (p:GatePurse):List GatePurse→List GatePurse
 |[]=>[p]
 |y::ys=>bif decide (dB y p≥0) then p::(y::ys).filter (fun x=>dB x p !=0) else y::le p ys
theorem kU (a b:Bs):(nC a b==0)=(a==b):=by
 unfold nC
 cases h:Op.bytesLess a b with
 |true=>
  have:(a==b)=false:=by rw[beq_eq_false_iff_ne];rintro rfl;rw[fT] at h;cases h
  rw[this];rfl
 |false=>cases e:(a==b)<;>rfl
theorem po (a b:GatePurse):(dB a b !=0)= !gx a b:=by
 unfold dB gx BK bne
 cases e:(a.door==b.door) with
 |false=>simp only[cond_true,kU,e,bl]
 |true=>
  simp only[cond_false,kU,bl]
  cases e2:(a.team==b.team) with
  |false=>simp only[cond_true,kU,e2,bl]
  |true=>simp only[cond_false,kU,bl]
theorem GD (a b:Bs):(a==b)=(b==a):=by rw[Bool.eq_iff_iff,beq_iff_eq,beq_iff_eq];exact eq_comm
theorem Cb {x p:GatePurse} (h:gx x p=false):(!bQ x p)=bQ p x:=by
 unfold gx at h
 unfold bQ
 rw[GD p.door x.door,GD p.team x.team]
 cases e:(x.door==p.door) with
 |false=>
  have:=w6 x.door p.door
  rw[e,Bool.or_false] at this
  simpa using this
 |true=>
  rw[e,Bool.true_and] at h
  simp only[Bool.not_true,cond_false]
  cases e2:(x.team==p.team) with
  |false=>
   have:=w6 x.team p.team
   rw[e2,Bool.or_false] at this
   simpa using this
  |true=>
   rw[e2,Bool.true_and] at h
   have:=w6 x.resource p.resource
   rw[h,Bool.or_false] at this
   simpa using this
theorem na {x y p:GatePurse} (h:gx y p=true):bQ x p=bQ x y:=by
 unfold gx at h
 simp only[Bool.and_eq_true,beq_iff_eq] at h
 unfold bQ
 rw[h.1,h.2.1,h.2.2]
theorem pn {x p:GatePurse} (h:gx x p=true):bQ x p=false:=by
 unfold gx at h
 simp only[Bool.and_eq_true,beq_iff_eq] at h
 unfold bQ
 rw[h.1,h.2.1,h.2.2]
 simp[fT]
theorem tJ {x y z:GatePurse} (h:bQ x y=true) (k:bQ y z=true):bQ x z=true:=by
 unfold bQ at h k ⊢
 cases e:(x.door==y.door) with
 |false=>
  rw[e] at h
  simp only[Bool.not_false,cond_true] at h
  cases e1:(y.door==z.door) with
  |false=>
   rw[e1] at k
   simp only[Bool.not_false,cond_true] at k
   have hl:=hP h k
   have:(x.door==z.door)=false:=by rw[beq_eq_false_iff_ne];intro q;rw[q,fT] at hl;cases hl
   rw[this];exact hl
  |true=>
   have q:=beq_iff_eq.1 e1
   rw[←q,e];exact h
 |true=>
  have q:=beq_iff_eq.1 e
  rw[e] at h
  rw[←q] at k
  simp only[Bool.not_true,cond_false] at h
  cases e1:(x.door==z.door) with
  |false=>rw[e1] at k;exact k
  |true=>
   rw[e1] at k
   simp only[Bool.not_true,cond_false] at k ⊢
   cases e2:(x.team==y.team) with
   |false=>
    rw[e2] at h
    simp only[Bool.not_false,cond_true] at h
    cases e3:(y.team==z.team) with
    |false=>
     rw[e3] at k
     simp only[Bool.not_false,cond_true] at k
     have hl:=hP h k
     have:(x.team==z.team)=false:=by rw[beq_eq_false_iff_ne];intro q;rw[q,fT] at hl;cases hl
     rw[this];exact hl
    |true=>
     have q2:=beq_iff_eq.1 e3
     rw[←q2,e2];exact h
   |true=>
    have q2:=beq_iff_eq.1 e2
    rw[e2] at h
    rw[←q2] at k
    simp only[Bool.not_true,cond_false] at h
    cases e3:(x.team==z.team) with
    |false=>rw[e3] at k;exact k
    |true=>
     rw[e3] at k
     simp only[Bool.not_true,cond_false] at k ⊢
     exact hP h k
theorem ml {p:GatePurse}:∀{ys:List GatePurse},ys.any (fun x=>gx x p)=false→ys.filter (fun x=>dB x p !=0)=ys
 |[],_=>rfl
 |y::ys,h=>by
  simp only[List.any_cons,Bool.or_eq_false_iff] at h
  rw[List.filter_cons,po,h.1,ml h.2];rfl
theorem AZ {p:GatePurse}:∀{ps:List GatePurse},ps.any (fun x=>gx x p)=false→le p ps=mf p ps
 |[],_=>rfl
 |y::ys,h=>by
  have h0:=h
  simp only[List.any_cons,Bool.or_eq_false_iff] at h
  unfold le mf
  rw[ml h0,kP,Cb h.1,AZ h.2]
theorem oC:∀{ps:List GatePurse} {q:GatePurse},ar lu (some q) ps=true→∀x∈ps,bQ q x=true
 |[],_,_,x,h=>by cases h
 |y::ps,q,hc,x,h=>by
  simp only[ar,lu,Bool.and_eq_true] at hc
  rcases List.mem_cons.1 h with rfl|h
  ·exact hc.1
  ·exact tJ hc.1 (oC hc.2 x h)
theorem AY {p:GatePurse}:∀{ps:List GatePurse} {q:Option GatePurse} {j:Nat} (hj:j<ps.length),ar lu q ps=true→gx ps[j] p=true→le p ps=ps.set j p
 |[],_,j,hj,_,_=>by simp at hj
 |y::ys,q,0,hj,hc,hp=>by
  simp only[List.getElem_cons_zero] at hp
  simp only[ar,Bool.and_eq_true] at hc
  have hg:decide (dB y p≥0)=true:=by rw[kP,pn hp];rfl
  have hn:ys.any (fun x=>gx x p)=false:=by
   rw[List.any_eq_false]
   intro x hx hs
   have h1:=oC hc.2 x hx
   rw[←na (x:=y) hs] at h1
   rw[pn hp] at h1
   cases h1
  unfold le
  rw[hg,cond_true,List.filter_cons,po,hp,ml hn];rfl
 |y::ys,q,j+1,hj,hc,hp=>by
  simp only[List.getElem_cons_succ] at hp
  simp only[ar,Bool.and_eq_true] at hc
  have hj':j<ys.length:=by simpa using hj
  have hl:bQ y p=true:=by rw[na hp];exact oC hc.2 _ (List.getElem_mem hj')
  unfold le
  rw[kP,hl,Bool.not_true,cond_false,AY hj' hc.2 hp];rfl
theorem Cs {p:GatePurse} {ps:List GatePurse} {i:Nat} (h:i<ps.length):mf p (ps.drop i)=bif bQ p ps[i] then p::ps[i]::ps.drop (i+1) else ps[i]::mf p (ps.drop (i+1)):=by
 rw[List.drop_eq_getElem_cons h];rfl
theorem B9 {p:GatePurse} {ps:List GatePurse} {i:Nat} (h:i<ps.length):le p (ps.drop i)=bif decide (dB ps[i] p≥0) then p::(ps.drop i).filter (fun x=>dB x p !=0) else ps[i]::le p (ps.drop (i+1)):=by
 rw[List.drop_eq_getElem_cons h];rfl
theorem yP {p:GatePurse} {ps:List GatePurse} {i:Nat} (h:i<ps.length):(ps.drop i).filter (fun x=>dB x p !=0)=bif dB ps[i] p !=0 then ps[i]::(ps.drop (i+1)).filter (fun x=>dB x p !=0) else (ps.drop (i+1)).filter (fun x=>dB x p !=0):=by
 rw[List.drop_eq_getElem_cons h,List.filter_cons]
 cases dB ps[i] p !=0<;>rfl
theorem m9 {L:GateLaw} {b:GateBook} (hb:dE L b=true):ar lu none b.purses=true∧b.purses.length≤24:=by
 have hs:g9 L b=true:=by
  unfold dE at hb
  simp only[Bool.and_eq_true] at hb
  exact hb.2.2.2.2.2.2
 simp only[g9,Bool.and_eq_true,Bool.not_eq_true',decide_eq_false_iff_not] at hs
 refine ⟨gL (fun p x h=>?_) hs.2.2.2.1,by omega⟩
 simp only[kf,Bool.and_eq_true] at h
 exact h.1
end Go.Vc
end
section
namespace Go.Vc
open Go.Proofs
set_option maxRecDepth 100000
set_option maxHeartbeats 2000000 in
theorem Aq (now tick given:Int) (t1 s1 t2 s2 t3 s3:Nat) (n1 n2 n3:List NT) (R1 R2 R3:List (List D)) (ps:List GatePurse) (p:GatePurse) (hp:ps.length≤24):FSpec P 102 [.ptr 0 0,st p.e]
 ⟨[(0,.cells 48 [.d (.int .i64 now),.d (.int .i64 tick),.d (.int .i64 given),.own 1,.own 2,.own 3,.own 4]),(1,.tree t1 s1 n1 R1),(2,.tree t2 s2 n2 R2),(3,.tree t3 s3 n3 R3),(4,.tree 109 5 GatePurse.n (ps.map GatePurse.e))],5,5⟩ (.tup [])
 ⟨[(0,.cells 48 [.d (.int .i64 now),.d (.int .i64 tick),.d (.int .i64 given),.own 1,.own 2,.own 3,.own 6]),(1,.tree t1 s1 n1 R1),(2,.tree t2 s2 n2 R2),(3,.tree t3 s3 n3 R3),(6,.tree 109 5 GatePurse.n ((mf p ps).map GatePurse.e))],8,5⟩:=by
 refine FSpec.of_vc cA az [] Tryz.func102 rfl rfl rfl rfl rfl (fun hok hob=>?_)
 have hbig:30≤ap:=by decide
 have hs:ps.length≤ap:=by omega
 repeat refine ai ?_
 refine Hd (ps) (fun q (v:Bool) (ns:List GatePurse)=>mf p ps=ns++(bif v then ps.drop q else mf p (ps.drop q))∧ns.length≤q+(bif v then 1 else 0)) (fun q (v:Bool) (ns:List GatePurse)=>[(0,.ptr 0 0),(3,.ptr 5 0),(4,.own 6),(5,.d (.bool v)),(11,.own 4),(12,.d (.int .i64 (ps.map GatePurse.e).length)),(13,.d (.int .i64 q))]) (fun q (v:Bool) (ns:List GatePurse)=>⟨[(6,.tree 109 5 GatePurse.n (ns.map GatePurse.e)),(5,.cells 109 (p.e.map .d)),(0,.cells 48 [.d (.int .i64 now),.d (.int .i64 tick),.d (.int .i64 given),.own 1,.own 2,.own 3,.own 4]),(1,.tree t1 s1 n1 R1),(2,.tree t2 s2 n2 R2),(3,.tree t3 s3 n3 R3),(4,.tree 109 5 GatePurse.n (ps.map GatePurse.e))],7,5⟩) ((show mf p ps=([]:List GatePurse)++(bif false then ps.drop 0 else mf p (ps.drop 0))∧([]:List GatePurse).length≤0+(bif false then 1 else 0) from ⟨rfl,Nat.zero_le _⟩)) ?_
 intro q v ns hq hr
 obtain ⟨hr,hl⟩:=hr
 repeat refine ai ?_
 refine aj ?_ ?_<;>intro h1
 ·have hlt:q<ps.length:=Y h1
  cases v with
  |true=>
   rw[cond_true,List.drop_eq_getElem_cons hlt] at hr
   rw[cond_true] at hl
   repeat refine ai ?_
   refine fL (e:=GatePurse.e) (xs:=ps) hlt ?_
   repeat refine ai ?_
   refine kq (e:=GatePurse.e) (xs:=ps) hlt ?_
   repeat refine ai ?_
   refine an ?_
   repeat refine ai ?_
   refine aj trivial ?_
   repeat refine ai ?_
   refine aj (by simp only[List.length_append,List.length_nil,List.length_cons,List.length_map] at*;omega) ?_
   repeat refine ai ?_
   exact Dy true (ns++[ps[q]]) hlt hs ⟨by rw[hr];simp,by simp only[List.length_append,List.length_cons,List.length_nil,cond_true,cond_false] at*;omega⟩ fun hw=>by repeat' first|exact rfl|exact trivial|exact nd hw|exact dY (by simp only[List.map_append];rfl)|refine aj ?_ ?_
  |false=>
   rw[cond_false,Cs hlt] at hr
   rw[cond_false] at hl
   repeat refine ai ?_
   refine fL (e:=GatePurse.e) (xs:=ps) hlt ?_
   repeat refine ai ?_
   refine kq (e:=GatePurse.e) (xs:=ps) hlt ?_
   repeat refine ai ?_
   refine ay ?_
   repeat refine ai ?_
   refine oc (lz p ps[q]) ?_
   repeat refine ai ?_
   refine aj ?_ ?_<;>intro h2
   ·rw[h2,cond_true] at hr
    repeat refine ai ?_
    refine aj trivial ?_
    repeat refine ai ?_
    refine aj (by simp only[List.length_append,List.length_nil,List.length_cons,List.length_map] at*;omega) ?_
    repeat refine ai ?_
    refine aj trivial ?_
    repeat refine ai ?_
    refine aj (by simp only[List.length_append,List.length_nil,List.length_cons,List.length_map] at*;omega) ?_
    repeat refine ai ?_
    exact Dy true (ns++[p]++[ps[q]]) hlt hs ⟨by rw[hr];simp,by simp only[List.length_append,List.length_cons,List.length_nil,cond_true,cond_false] at*;omega⟩ fun hw=>by repeat' first|exact rfl|exact trivial|exact nd hw|exact dY (by simp only[List.map_append];rfl)|refine aj ?_ ?_
   ·rw[h2,cond_false] at hr
    repeat refine ai ?_
    refine aj trivial ?_
    repeat refine ai ?_
    refine aj (by simp only[List.length_append,List.length_nil,List.length_cons,List.length_map] at*;omega) ?_
    repeat refine ai ?_
    exact Dy false (ns++[ps[q]]) hlt hs ⟨by rw[hr];simp,by simp only[List.length_append,List.length_cons,List.length_nil,cond_true,cond_false] at*;omega⟩ fun hw=>by repeat' first|exact rfl|exact trivial|exact nd hw|exact dY (by simp only[List.map_append];rfl)|refine aj ?_ ?_
 ·rw[List.drop_of_length_le (Z h1)] at hr
  cases v with
  |true=>
   rw[cond_true,List.append_nil] at hr
   repeat refine ai ?_
   refine an ?_
   repeat refine ai ?_
   all_goals (repeat' first|exact rfl|exact trivial|exact dY (by rw[hr])|refine aj ?_ ?_)
  |false=>
   rw[cond_false] at hr hl
   repeat refine ai ?_
   refine ay ?_
   repeat refine ai ?_
   refine aj trivial ?_
   repeat refine ai ?_
   refine aj (by simp only[List.length_append,List.length_nil,List.length_cons,List.length_map] at*;omega) ?_
   repeat refine ai ?_
   all_goals (repeat' first|exact rfl|exact trivial|exact dY (by rw[hr,List.map_append];rfl)|refine aj ?_ ?_)
set_option maxHeartbeats 2000000 in
theorem AK (ps:List GatePurse) (p:GatePurse) (hp:ps.length≤24):HSpec P 100 [.d (aG ps),st p.e] hp0 (.own 0) ⟨[(0,.tree 109 5 GatePurse.n ((le p ps).map GatePurse.e))],1,0⟩:=by
 refine ag cA az [.tmp 4] Tryz.func100 rfl rfl rfl rfl (fun hok=>?_)
 have hbig:30≤ap:=by decide
 have hs:ps.length≤ap:=by omega
 repeat refine ai ?_
 refine Hd (ps) (fun i (v:Bool) (ns:List GatePurse)=>le p ps=ns++(bif v then (ps.drop i).filter (fun x=>dB x p !=0) else le p (ps.drop i))∧ns.length≤i+(bif v then 1 else 0)) (fun i (v:Bool) (ns:List GatePurse)=>[(0,.d (aG ps)),(3,.ptr 0 0),(5,.own 1),(6,.d (.bool v)),(7,.d (.int .i64 i))]) (fun i (v:Bool) (ns:List GatePurse)=>⟨[(1,.tree 109 5 GatePurse.n (ns.map GatePurse.e)),(0,.cells 109 (p.e.map .d))],2,0⟩) ((show le p ps=([]:List GatePurse)++(bif false then (ps.drop 0).filter (fun x=>dB x p !=0) else le p (ps.drop 0))∧([]:List GatePurse).length≤0+(bif false then 1 else 0) from ⟨rfl,Nat.zero_le _⟩)) ?_
 intro i v ns hi hr
 obtain ⟨hr,hl⟩:=hr
 repeat refine ai ?_
 refine aj ?_ ?_<;>intro h1
 ·have hlt:i<ps.length:=Y h1
  repeat refine ai ?_
  refine ak ?_
  repeat refine ai ?_
  refine O (e:=GatePurse.e) (xs:=ps) (hlt) rfl ?_
  repeat refine ai ?_
  refine oc (mW ps[i] p) ?_
  cases v with
  |true=>
   rw[cond_true,yP hlt] at hr
   rw[cond_true] at hl
   repeat refine ai ?_
   refine an ?_
   repeat refine ai ?_
   refine aj ?_ ?_<;>intro h3
   ·rw[h3,cond_true] at hr
    repeat refine ai ?_
    refine O (e:=GatePurse.e) (xs:=ps) (hlt) rfl ?_
    repeat refine ai ?_
    refine aj trivial ?_
    repeat refine ai ?_
    refine aj (by simp only[List.length_append,List.length_nil,List.length_cons,List.length_map] at*;omega) ?_
    repeat refine ai ?_
    exact Dy true (ns++[ps[i]]) hlt hs ⟨by rw[hr];simp,by simp only[List.length_append,List.length_cons,List.length_nil,cond_true,cond_false] at*;omega⟩ fun hw=>by repeat' first|exact rfl|exact trivial|exact nd hw|exact dY (by simp only[List.map_append];rfl)|refine aj ?_ ?_
   ·rw[h3,cond_false] at hr
    repeat refine ai ?_
    exact Dy true ns hlt hs ⟨by rw[hr];simp,by simp only[cond_true,cond_false] at*;omega⟩ fun hw=>by repeat' first|exact rfl|exact trivial|exact nd hw|refine aj ?_ ?_
  |false=>
   rw[cond_false,B9 hlt] at hr
   rw[cond_false] at hl
   repeat refine ai ?_
   refine ay ?_
   repeat refine ai ?_
   refine aj ?_ ?_<;>intro h2
   ·rw[h2,cond_true,yP hlt] at hr
    repeat refine ai ?_
    refine aj trivial ?_
    repeat refine ai ?_
    refine aj (by simp only[List.length_append,List.length_nil,List.length_cons,List.length_map] at*;omega) ?_
    repeat refine ai ?_
    refine aj ?_ ?_<;>intro h3
    ·rw[h3,cond_true] at hr
     repeat refine ai ?_
     refine O (e:=GatePurse.e) (xs:=ps) (hlt) rfl ?_
     repeat refine ai ?_
     refine aj trivial ?_
     repeat refine ai ?_
     refine aj (by simp only[List.length_append,List.length_nil,List.length_cons,List.length_map] at*;omega) ?_
     repeat refine ai ?_
     exact Dy true (ns++[p]++[ps[i]]) hlt hs ⟨by rw[hr];simp,by simp only[List.length_append,List.length_cons,List.length_nil,cond_true,cond_false] at*;omega⟩ fun hw=>by repeat' first|exact rfl|exact trivial|exact nd hw|exact dY (by simp only[List.map_append];rfl)|refine aj ?_ ?_
    ·rw[h3,cond_false] at hr
     repeat refine ai ?_
     exact Dy true (ns++[p]) hlt hs ⟨by rw[hr];simp,by simp only[List.length_append,List.length_cons,List.length_nil,cond_true,cond_false] at*;omega⟩ fun hw=>by repeat' first|exact rfl|exact trivial|exact nd hw|exact dY (by simp only[List.map_append];rfl)|refine aj ?_ ?_
   ·rw[h2,cond_false] at hr
    repeat refine ai ?_
    refine aj ?_ ?_<;>intro h3
    ·repeat refine ai ?_
     refine O (e:=GatePurse.e) (xs:=ps) (hlt) rfl ?_
     repeat refine ai ?_
     refine aj trivial ?_
     repeat refine ai ?_
     refine aj (by simp only[List.length_append,List.length_nil,List.length_cons,List.length_map] at*;omega) ?_
     repeat refine ai ?_
     exact Dy false (ns++[ps[i]]) hlt hs ⟨by rw[hr];simp,by simp only[List.length_append,List.length_cons,List.length_nil,cond_true,cond_false] at*;omega⟩ fun hw=>by repeat' first|exact rfl|exact trivial|exact nd hw|exact dY (by simp only[List.map_append];rfl)|refine aj ?_ ?_
    ·exact absurd (of_decide_eq_false h2) (by rw[bne_eq_false_iff_eq.1 h3];simp)
 ·rw[List.drop_of_length_le (Z h1)] at hr
  cases v with
  |true=>
   rw[cond_true,List.filter_nil,List.append_nil] at hr
   repeat refine ai ?_
   refine an ?_
   repeat refine ai ?_
   exact ⟨[some 1],by repeat' first|exact rfl|exact trivial|exact dY (by rw[hr])|refine aj ?_ ?_⟩
  |false=>
   rw[cond_false] at hr hl
   repeat refine ai ?_
   refine ay ?_
   repeat refine ai ?_
   refine aj trivial ?_
   repeat refine ai ?_
   refine aj (by simp only[List.length_append,List.length_nil,List.length_cons,List.length_map] at*;omega) ?_
   repeat refine ai ?_
   exact ⟨[some 1],by repeat' first|exact rfl|exact trivial|exact dY (by rw[hr,List.map_append];rfl)|refine aj ?_ ?_⟩
def Bw (b:GateBook) (d t r:Bs) (n:Int) (j:Int):GatePurse:=match b.purses[j.toNat]? with
 |some p=>bif decide (j≥0) then {p with amount:=bk p.amount n,until_:=bk b.tick 10} else ⟨d,t,r,n,bk b.tick 10⟩
 |none=>⟨d,t,r,n,bk b.tick 10⟩
def dR (L:GateLaw) (b:GateBook) (d t r:Bs) (n:Int):GateBook×Int:=
 bif dE L b then
  bif aI d&&(decide (lj b t r≥0)&&ee n 1 1000000) then
   (match b.ledgers[(lj b t r).toNat]? with
   |some g=>bif decide (g.free<n) then (b,3) else
     bif decide (jR b d t r≥0) then
         ({b with ledgers:=b.ledgers.set (lj b t r).toNat {g with free:=k8 g.free n},purses:=b.purses.set (jR b d t r).toNat (Bw b d t r n (jR b d t r))},0)
     else bif b.purses.length==24 then (b,4)
     else ({b with ledgers:=b.ledgers.set (lj b t r).toNat {g with free:=k8 g.free n},purses:=mf ⟨d,t,r,n,bk b.tick 10⟩ b.purses},0)
   |none=>(b,2))
  else (b,2)
 else (nilBk,1)
section
variable {L:GateLaw} {b:GateBook} {d t r:Bs} {n:Int}
theorem D9 (hb:dE L b=false):dR L b d t r n=(nilBk,1):=by unfold dR;rw[hb];rfl
theorem mo (hb:dE L b=true) (h:(aI d&&(decide (lj b t r≥0)&&ee n 1 1000000))=false):dR L b d t r n=(b,2):=by unfold dR;rw[hb,h];rfl
theorem D8 (hb:dE L b=true) (hd:aI d=true) (hn:ee n 1 1000000=true) {k:Nat} (hk:k<b.ledgers.length) (e:lj b t r=(k:Int)):
 dR L b d t r n=bif decide (b.ledgers[k].free<n) then (b,3) else
  bif decide (jR b d t r≥0) then
   ({b with ledgers:=b.ledgers.set k {b.ledgers[k] with free:=k8 b.ledgers[k].free n},purses:=b.purses.set (jR b d t r).toNat (Bw b d t r n (jR b d t r))},0)
  else bif b.purses.length==24 then (b,4)
  else ({b with ledgers:=b.ledgers.set k {b.ledgers[k] with free:=k8 b.ledgers[k].free n},purses:=mf ⟨d,t,r,n,bk b.tick 10⟩ b.purses},0):=by
 unfold dR
 rw[hb,hd,hn,e,Int.toNat_natCast,List.getElem?_eq_getElem hk,show decide ((k:Int)≥0)=true from by simp]
 rfl
theorem Bv {j:Nat} (hj:j<b.purses.length):Bw b d t r n (j:Int)={b.purses[j] with amount:=bk b.purses[j].amount n,until_:=bk b.tick 10}:=by
 unfold Bw
 rw[Int.toNat_natCast,List.getElem?_eq_getElem hj,show decide ((j:Int)≥0)=true from by simp]
 rfl
theorem Dj {j:Nat} (hj:j<b.purses.length) (hc:ar lu none b.purses=true) (hs:(b.purses[j].door==d&&(b.purses[j].team==t&&b.purses[j].resource==r))=true):
 le ⟨d,t,r,bk n b.purses[j].amount,bk b.tick 10⟩ b.purses=b.purses.set j {b.purses[j] with amount:=bk b.purses[j].amount n,until_:=bk b.tick 10}:=by
 rw[AY (p:=⟨d,t,r,bk n b.purses[j].amount,bk b.tick 10⟩) hj hc hs]
 simp only[Bool.and_eq_true,beq_iff_eq] at hs
 obtain ⟨rfl,rfl,rfl⟩:=hs
 unfold bk
 rw[Int.add_comm]
theorem AI (b:GateBook) (ls:List GateLedger) (ps:List GatePurse) (R:List (List D)) (h:ls.map GateLedger.e=R):st ({b with ledgers:=ls,purses:=ps}:GateBook).e= .agg [.d (.int .i64 b.now),.d (.int .i64 b.tick),.d (.int .i64 b.given),.d (aD b.objects),.d (aU b.grants),.d (.list R),.d (aG ps)]:=by
 subst h;rfl
theorem Cv (hb:dE L b=true) {k:Nat} (hk:k<b.ledgers.length):bk (k8 b.ledgers[k].free n) n=b.ledgers[k].free:=by
 have hs:g9 L b=true:=by
  unfold dE at hb
  simp only[Bool.and_eq_true] at hb
  exact hb.2.2.2.2.2.2
 simp only[g9,Bool.and_eq_true] at hs
 have hq:=vb (q:=fun g=> !decide (g.free<0)&&(!decide (g.free>g.most)&& !decide (g.most>1000000))) (fun p x h=>by simp only[gm,Bool.and_eq_true] at h ⊢;exact h.2.2.2) hs.2.2.1 _ (List.getElem_mem hk)
 simp only[Bool.and_eq_true,Bool.not_eq_true',decide_eq_false_iff_not] at hq
 have h0:(0:Int)≤b.ledgers[k].free∧b.ledgers[k].free≤1000000:=by omega
 unfold bk k8
 simp only[IntKind.wrap_i64]
 omega
end
set_option maxHeartbeats 4000000 in
theorem zw (L:GateLaw) (b:GateBook) (d t r:Bs) (n:Int):Spec P 35 [st L.e,st b.e,.d (.str d),.d (.str t),.d (.str r),.d (.int .i64 n)] (.tup [st (dR L b d t r n).1.e,.d (.int .i64 (dR L b d t r n).2)]):=by
 refine Spec.of_vc cA az [.cell 12 48,.tmp 13] Tryz.func35 rfl rfl rfl rfl (fun hok=>?_)
 cases hb:dE L b with
 |false=>
  rw[D9 hb]
  repeat refine ai ?_
  refine oc (mY L b) ?_
  rw[hb]
  repeat refine ai ?_
  refine ay ?_
  repeat refine ai ?_
  rfl
 |true=>
  obtain ⟨hch,h24⟩:=m9 hb
  repeat refine ai ?_
  refine oc (mY L b) ?_
  rw[hb]
  repeat refine ai ?_
  refine an ?_
  repeat refine ai ?_
  refine ow (BV b) ?_
  cases hp:decide (lj b t r≥0) with
  |false=>
   obtain ⟨e,_⟩:=nF hp
   rw[mo hb (by rw[hp];simp)]
   repeat refine ai ?_
   refine oc (un b t r (-1) e) ?_
   repeat refine ai ?_
   refine oc (bo d) ?_
   repeat refine ai ?_
   refine aj ?_ ?_<;>intro h1
   ·repeat refine ai ?_
    refine an ?_ (by simp)
    repeat refine ai ?_
    rfl
   ·repeat refine ai ?_
    rfl
  |true=>
   obtain ⟨k,hk,ek,_⟩:=cI hp
   repeat refine ai ?_
   refine oc (un b t r k ek) ?_
   repeat refine ai ?_
   refine oc (bo d) ?_
   repeat refine ai ?_
   refine aj ?_ ?_<;>intro h1
   ·have hd:aI d=true:=by simpa using h1
    repeat refine ai ?_
    refine ay ?_ (by simp)
    repeat refine ai ?_
    refine oc (d7 n 1 1000000) ?_
    repeat refine ai ?_
    refine aj ?_ ?_<;>intro h2
    ·rw[mo hb (by rw[show ee n 1 1000000=false from by simpa using h2];simp)]
     repeat refine ai ?_
     rfl
    ·have hn:ee n 1 1000000=true:=by simpa using h2
     rw[D8 hb hd hn hk ek]
     repeat refine ai ?_
     refine O (e:=GateLedger.e) (xs:=b.ledgers) (hk) rfl ?_
     repeat refine ai ?_
     refine aj ?_ ?_<;>intro h3
     ·rw[h3,cond_true]
      repeat refine ai ?_
      rfl
     ·rw[h3,cond_false]
      cases hj:decide (jR b d t r≥0) with
      |true=>
       obtain ⟨j,hjl,ej,hsame,_⟩:=cI hj
       have ej:jR b d t r=(j:Int):=ej
       have hset:le ⟨d,t,r,bk n b.purses[j].amount,bk b.tick 10⟩ b.purses=b.purses.set j {b.purses[j] with amount:=bk b.purses[j].amount n,until_:=bk b.tick 10}:=Dj hjl hch hsame
       have cp:=AK b.purses ⟨d,t,r,bk n b.purses[j].amount,bk b.tick 10⟩ h24
       rw[hset] at cp
       rw[cond_true,ej,Int.toNat_natCast,Bv hjl,AI b (b.ledgers.set k {b.ledgers[k] with free:=k8 b.ledgers[k].free n}) _ ((b.ledgers.map GateLedger.e).set k [.str b.ledgers[k].team,.str b.ledgers[k].resource,.int .i64 b.ledgers[k].most,.int .i64 (k8 b.ledgers[k].free n)]) (by rw[List.map_set];rfl)]
       repeat refine ai ?_
       refine oc (C6 b d t r j ej) ?_
       repeat refine ai ?_
       refine an ?_ (by simp)
       repeat refine ai ?_
       refine ay ?_ (by simp)
       repeat refine ai ?_
       refine Ey ?_
       repeat refine ai ?_
       refine O (e:=GatePurse.e) (xs:=b.purses) (hjl) rfl ?_
       repeat refine ai ?_
       refine Ey ?_
       repeat refine ai ?_
       refine fL (e:=GateLedger.e) (xs:=b.ledgers) hk ?_
       repeat refine ai ?_
       refine kq (e:=GateLedger.e) (xs:=b.ledgers) hk ?_
       repeat refine ai ?_
       refine fL (e:=GateLedger.e) (xs:=b.ledgers) hk ?_
       repeat refine ai ?_
       refine ⟨_,Cn hk,Nat.le_refl _,?_⟩
       repeat refine ai ?_
       refine ov (cp) ?_
       repeat refine ai ?_
       rfl
      |false=>
       obtain ⟨ej,hno⟩:=nF hj
       have hset:le ⟨d,t,r,n,bk b.tick 10⟩ b.purses=mf ⟨d,t,r,n,bk b.tick 10⟩ b.purses:=AZ hno
       have cp:=AK b.purses ⟨d,t,r,n,bk b.tick 10⟩ h24
       rw[hset] at cp
       rw[cond_false]
       repeat refine ai ?_
       refine oc (C6 b d t r (-1) ej) ?_
       repeat refine ai ?_
       refine ay ?_ (by simp)
       repeat refine ai ?_
       refine aj ?_ ?_<;>intro h6
       ·have h6:(b.purses.length==24)=true:=by
          rw[List.length_map] at h6
          have:=of_decide_eq_true h6
          exact beq_iff_eq.2 (by omega)
        rw[h6,cond_true]
        repeat refine ai ?_
        rfl
       ·have h6:(b.purses.length==24)=false:=by
          rw[List.length_map] at h6
          have:=of_decide_eq_false h6
          exact beq_eq_false_iff_ne.2 (by omega)
        rw[h6,cond_false,AI b (b.ledgers.set k {b.ledgers[k] with free:=k8 b.ledgers[k].free n}) _ ((b.ledgers.map GateLedger.e).set k [.str b.ledgers[k].team,.str b.ledgers[k].resource,.int .i64 b.ledgers[k].most,.int .i64 (k8 b.ledgers[k].free n)]) (by rw[List.map_set];rfl)]
        repeat refine ai ?_
        refine an ?_ (by simp)
        repeat refine ai ?_
        refine Ey ?_
        repeat refine ai ?_
        refine fL (e:=GateLedger.e) (xs:=b.ledgers) hk ?_
        repeat refine ai ?_
        refine kq (e:=GateLedger.e) (xs:=b.ledgers) hk ?_
        repeat refine ai ?_
        refine fL (e:=GateLedger.e) (xs:=b.ledgers) hk ?_
        repeat refine ai ?_
        refine ⟨_,Cn hk,Nat.le_refl _,?_⟩
        repeat refine ai ?_
        refine ov (cp) ?_
        repeat refine ai ?_
        rfl
   ·rw[mo hb (by rw[show aI d=false from by simpa using h1];rfl)]
    repeat refine ai ?_
    rfl
theorem DR (b:GateBook) (R:List (List D)) (d t r:Bs) (v:Int) (h24:b.purses.length≤24) (h:jR b d t r=v):Spec P 89 [.agg [.d (.int .i64 b.now),.d (.int .i64 b.tick),.d (.int .i64 b.given),.d (aD b.objects),.d (aU b.grants),.d (.list R),.d (aG b.purses)],.d (.str d),.d (.str t),.d (.str r)] (.d (.int .i64 v)):=by
 subst h
 refine Spec.of_vc aQ az [.tmp 8] Tryz.func89 rfl rfl rfl rfl (fun hok=>?_)
 have hbig:30≤ap:=by decide
 have hs:b.purses.length≤ap:=by omega
 repeat refine ai ?_
 refine dU (b.purses) (fun i=>jR b d t r=dQ (fun x=>x.door==d&&(x.team==t&&x.resource==r)) (b.purses.drop i) i) (fun i=>[(1,.d (.str d)),(2,.d (.str t)),(3,.d (.str r)),(4,.ptr 0 0),(12,.d (aG b.purses)),(13,.d (.int .i64 (b.purses.map GatePurse.e).length)),(14,.d (.int .i64 i))]) (fun i=>⟨[(0,.cells 48 [.d (.int .i64 b.now),.d (.int .i64 b.tick),.d (.int .i64 b.given),.d (aD b.objects),.d (aU b.grants),.d (.list R),.d (aG b.purses)])],1,0⟩) (rfl) ?_
 intro i hi hr
 repeat refine ai ?_
 refine aj ?_ ?_<;>intro h1
 ·have hlt:i<b.purses.length:=Y h1
  rw[cF hlt] at hr
  repeat refine ai ?_
  refine O (e:=GatePurse.e) (xs:=b.purses) (hlt) rfl ?_
  repeat refine ai ?_
  refine aj ?_ ?_<;>intro h2
  ·repeat refine ai ?_
   repeat refine ai ?_
   refine aj ?_ ?_<;>intro h3
   ·repeat refine ai ?_
    repeat refine ai ?_
    refine aj ?_ ?_<;>intro h4
    ·refine nd ?_
     rw[hr,h2,h3,h4];rfl
    ·repeat refine ai ?_
     exact bV hlt hs (by rw[hr,h2,h3,h4];rfl)
   ·repeat refine ai ?_
    exact bV hlt hs (by rw[hr,h2,h3];rfl)
  ·repeat refine ai ?_
   exact bV hlt hs (by rw[hr,h2];rfl)
 ·refine nd ?_
  rw[hr,dt (Z h1)]
theorem ET {g:GateLedger} {n:Int} (h:bk (k8 g.free n) n=g.free):[D.str g.team,D.str g.resource,D.int .i64 g.most,D.int .i64 (bk (k8 g.free n) n)]=GateLedger.e g:=by rw[h];rfl
theorem C4 {α:Type} {e:α→List D} {xs:List α} {k t sz:Nat} {fs:List NT} {q r:List D} (hk:k<xs.length) (hr:r=e xs[k]):some (AO.tree t sz fs (((xs.map e).set k q).set k r))=some (AO.tree t sz fs (xs.map e)):=by
 rw[List.set_set,hr,←List.map_set,List.set_getElem_self]
set_option maxHeartbeats 4000000 in
theorem Ah (L:GateLaw) (b:GateBook) (d t r:Bs) (n:Int):HSpec P 36 [st L.e,st b.e,.d (.str d),.d (.str t),.d (.str r),.d (.int .i64 n)] hp0 (.tup [.agg (dR L b d t r n).1.a,.d (.int .i64 (dR L b d t r n).2)]) ⟨(dR L b d t r n).1.o,4,0⟩:=by
 refine t9 cA az [.cell 12 48,.cell 13 3] Tryz.func36 Tryz.func101 rfl rfl rfl rfl rfl rfl rfl (fun hok=>?_)
 cases hb:dE L b with
 |false=>
  rw[D9 hb]
  repeat refine ai ?_
  refine oc (nI L b) ?_
  rw[hb]
  repeat refine ai ?_
  refine ay ?_
  repeat refine ai ?_
  exact ⟨[none,none,none,none],by repeat' first|exact rfl|exact trivial|refine aj ?_ ?_⟩
 |true=>
  obtain ⟨hch,h24⟩:=m9 hb
  repeat refine ai ?_
  refine oc (nI L b) ?_
  rw[hb]
  repeat refine ai ?_
  refine an ?_
  repeat refine ai ?_
  refine ow (Ae b) ?_
  cases hp:decide (lj b t r≥0) with
  |false=>
   obtain ⟨e,_⟩:=nF hp
   rw[mo hb (by rw[hp];simp)]
   repeat refine ai ?_
   refine ol (uW b t r (-1) e) ?_
   repeat refine ai ?_
   refine oc (cG d) ?_
   repeat refine ai ?_
   refine aj ?_ ?_<;>intro h1
   ·repeat refine ai ?_
    refine an ?_ (by simp)
    repeat refine ai ?_
    exact ⟨[some 5,some 6,some 7,some 8],by repeat' first|exact rfl|exact trivial|refine aj ?_ ?_⟩
   ·repeat refine ai ?_
    exact ⟨[some 5,some 6,some 7,some 8],by repeat' first|exact rfl|exact trivial|refine aj ?_ ?_⟩
  |true=>
   obtain ⟨k,hk,ek,_⟩:=cI hp
   repeat refine ai ?_
   refine ol (uW b t r k ek) ?_
   repeat refine ai ?_
   refine oc (cG d) ?_
   repeat refine ai ?_
   refine aj ?_ ?_<;>intro h1
   ·have hd:aI d=true:=by simpa using h1
    repeat refine ai ?_
    refine ay ?_ (by simp)
    repeat refine ai ?_
    refine aj ?_ ?_<;>intro h2
    ·repeat refine ai ?_
     refine aj ?_ ?_<;>intro h3
     ·rw[mo hb (by unfold ee;have:=of_decide_eq_true h3;rw[show decide (n≤1000000)=false from by rw[decide_eq_false_iff_not];omega];simp)]
      repeat refine ai ?_
      exact ⟨[some 5,some 6,some 7,some 8],by repeat' first|exact rfl|exact trivial|refine aj ?_ ?_⟩
     ·have hn:ee n 1 1000000=true:=by
       have g2:=of_decide_eq_false h2
       have g3:=of_decide_eq_false h3
       unfold ee
       simp only[Bool.and_eq_true,decide_eq_true_eq]
       omega
      rw[D8 hb hd hn hk ek]
      repeat refine ai ?_
      refine ak ?_
      repeat refine ai ?_
      refine fL (e:=GateLedger.e) (xs:=b.ledgers) hk ?_
      repeat refine ai ?_
      refine kq (e:=GateLedger.e) (xs:=b.ledgers) hk ?_
      repeat refine ai ?_
      refine aj ?_ ?_<;>intro h4
      ·rw[show decide (b.ledgers[k].free<n)=true from h4,cond_true]
       repeat refine ai ?_
       exact ⟨[some 5,some 6,some 7,some 8],by repeat' first|exact rfl|exact trivial|refine aj ?_ ?_⟩
      ·rw[show decide (b.ledgers[k].free<n)=false from h4,cond_false]
       cases hj:decide (jR b d t r≥0) with
       |true=>
        obtain ⟨j,hjl,ej,hsame,_⟩:=cI hj
        have ej:jR b d t r=(j:Int):=ej
        rw[cond_true,ej,Int.toNat_natCast j,Bv hjl]
        repeat refine ai ?_
        refine Ey ?_
        repeat refine ai ?_
        refine fL (e:=GateLedger.e) (xs:=b.ledgers) hk ?_
        repeat refine ai ?_
        refine kq (e:=GateLedger.e) (xs:=b.ledgers) hk ?_
        repeat refine ai ?_
        refine fL (e:=GateLedger.e) (xs:=b.ledgers) hk ?_
        repeat refine ai ?_
        refine ⟨_,Cn hk,Nat.le_refl _,?_⟩
        repeat refine ai ?_
        refine ol (DR b _ d t r j h24 ej) ?_
        repeat refine ai ?_
        refine an ?_ (by simp)
        repeat refine ai ?_
        refine Ey ?_
        repeat refine ai ?_
        refine fL (e:=GatePurse.e) (xs:=b.purses) hjl ?_
        repeat refine ai ?_
        refine kq (e:=GatePurse.e) (xs:=b.purses) hjl ?_
        repeat refine ai ?_
        refine fL (e:=GatePurse.e) (xs:=b.purses) hjl ?_
        repeat refine ai ?_
        refine ⟨_,Cn hjl,Nat.le_of_ble_eq_true rfl,?_⟩
        repeat refine ai ?_
        refine zU (e:=GatePurse.e) (xs:=b.purses) hjl ?_
        repeat refine ai ?_
        refine ⟨_,fD (by rw[List.length_map];exact hjl),Nat.le_refl _,?_⟩
        repeat refine ai ?_
        refine an ?_ (by simp)
        repeat refine ai ?_
        exact ⟨[some 5,some 6,some 7,some 8],by repeat' first|exact rfl|exact trivial|exact AJ rfl|exact C2 rfl|refine aj ?_ ?_⟩
       |false=>
        obtain ⟨ej,hno⟩:=nF hj
        rw[cond_false]
        repeat refine ai ?_
        refine Ey ?_
        repeat refine ai ?_
        refine fL (e:=GateLedger.e) (xs:=b.ledgers) hk ?_
        repeat refine ai ?_
        refine kq (e:=GateLedger.e) (xs:=b.ledgers) hk ?_
        repeat refine ai ?_
        refine fL (e:=GateLedger.e) (xs:=b.ledgers) hk ?_
        repeat refine ai ?_
        refine ⟨_,Cn hk,Nat.le_refl _,?_⟩
        repeat refine ai ?_
        refine ol (DR b _ d t r (-1) h24 ej) ?_
        repeat refine ai ?_
        refine ay ?_ (by simp)
        repeat refine ai ?_
        refine aj ?_ ?_<;>intro h6
        ·have h6:(b.purses.length==24)=true:=by
            rw[List.length_map] at h6
            have:=beq_iff_eq.1 h6
            exact beq_iff_eq.2 (by omega)
         rw[h6,cond_true]
         repeat refine ai ?_
         refine akp 3 (.one [0,1] [] 2 (.fin [] [1])) ?_
         repeat refine ai ?_
         refine ay ?_ (by simp)
         repeat refine ai ?_
         refine Ey ?_
         repeat refine ai ?_
         refine zU (e:=GateLedger.e) (xs:=b.ledgers) hk ?_
         repeat refine ai ?_
         refine ⟨_,fD (by rw[List.length_map];exact hk),?_⟩
         repeat refine ai ?_
         refine zU (e:=GateLedger.e) (xs:=b.ledgers) hk ?_
         repeat refine ai ?_
         refine ⟨_,fD (by rw[List.length_map];exact hk),Nat.le_refl _,?_⟩
         repeat refine ai ?_
         have hfb:=Cv (n:=n) hb hk
         exact ⟨[some 5,some 6,some 7,some 8],by repeat' first|exact rfl|exact trivial|exact C4 hk (ET hfb)|refine aj ?_ ?_⟩
        ·have h6:(b.purses.length==24)=false:=by
            rw[List.length_map] at h6
            have:=beq_eq_false_iff_ne.1 h6
            exact beq_eq_false_iff_ne.2 (by omega)
         rw[h6,cond_false]
         repeat refine ai ?_
         refine om [3,5,6,7,8] none (Aq _ _ _ _ _ _ _ _ _ _ _ _ _ _ _ b.purses ⟨d,t,r,n,bk b.tick 10⟩ h24) ?_
         repeat refine ai ?_
         refine an ?_ (by simp)
         repeat refine ai ?_
         exact ⟨[some 5,some 6,some 7,some 16],by repeat' first|exact rfl|exact trivial|exact AJ rfl|refine aj ?_ ?_⟩
    ·rw[mo hb (by unfold ee;have:=of_decide_eq_true h2;rw[show decide (n≥1)=false from by rw[decide_eq_false_iff_not];omega];simp)]
     repeat refine ai ?_
     exact ⟨[some 5,some 6,some 7,some 8],by repeat' first|exact rfl|exact trivial|refine aj ?_ ?_⟩
   ·rw[mo hb (by rw[show aI d=false from by simpa using h1];rfl)]
    repeat refine ai ?_
    exact ⟨[some 5,some 6,some 7,some 8],by repeat' first|exact rfl|exact trivial|refine aj ?_ ?_⟩
end Go.Vc
end
section
namespace Go.Vc
theorem yB (p:GatePurse):∀ps,(mf p ps).length=ps.length+1
 |[]=>rfl
 |y::ys=>by
  unfold mf
  cases bQ p y with
  |true=>rfl
  |false=>simp only[cond_false,List.length_cons,yB p ys]
theorem Ea (L:GateLaw) (b:GateBook) (d t r:Bs) (n:Int):(dR L b d t r n).1.el≤b.el+1:=by
 have h0:b.el≤b.el+1:=by omega
 unfold dR
 cases dE L b with
 |false=>exact Int.le_trans (DA b) h0
 |true=>
  simp only[cond_true]
  cases aI d&&(decide (lj b t r≥0)&&ee n 1 1000000) with
  |false=>exact h0
  |true=>
   simp only[cond_true]
   split
   ·rename_i g _
    cases decide (g.free<n) with
    |true=>exact h0
    |false=>
     simp only[cond_false]
     cases decide (jR b d t r≥0) with
     |true=>
      rw[GS,GS]
      simp only[cond_true,List.length_set]
      omega
     |false=>
      simp only[cond_false]
      cases b.purses.length==24 with
      |true=>exact h0
      |false=>
       rw[GS,GS]
       simp only[cond_false,List.length_set,yB]
       omega
   ·exact h0
end Go.Vc
end
