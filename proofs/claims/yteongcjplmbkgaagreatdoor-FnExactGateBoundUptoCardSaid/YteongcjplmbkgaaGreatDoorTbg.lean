/- Part 7 of a proof: Contracts: GateBound. Sizes of books that GateTick and GateBound answer. -/
import Derived.Test.YteongcjplmbkgaaGreatDoorTba
import Derived.Test.YteongcjplmbkgaaGreatDoorTbb
import Derived.Test.YteongcjplmbkgaaGreatDoorTbc
import Derived.Test.YteongcjplmbkgaaGreatDoorTbd
import Derived.Test.YteongcjplmbkgaaGreatDoorTbe
import Derived.Test.YteongcjplmbkgaaGreatDoorTbf
set_option linter.unusedVariables false
set_option linter.unusedSimpArgs false
section
namespace Go.Vc
open Go.Proofs
set_option maxRecDepth 100000
section
variable {α:Type} {e:α→List D} {xs:List α} {k:Nat}
theorem DN {K:Prop} {r:List D} (h:k<xs.length) (q:K):(0:Int)≤(k:Int)∧(k:Int)<((((xs.map e).set k r).length:Nat):Int)∧K:=⟨Int.natCast_nonneg _,by rw[List.length_set,List.length_map];omega,q⟩
theorem Da {t sz:Nat} {fs:List NT} {q r:List D} {y:α} (hr:r=e y):some (AO.tree t sz fs (((xs.map e).set k q).set k r))=some (AO.tree t sz fs ((xs.set k y).map e)):=by
 rw[List.set_set,hr,List.map_set]
end
def eF (a b:Int):Int:=IntKind.i64.wrap (a - b)
def kC (x:GateLedger):List GateLedger→List GateLedger
 |[]=>[x]
 |y::ys=>bif cL x.team x.resource y.team y.resource then x::y::ys else y::kC x ys
theorem uL {x:GateLedger} {ls:List GateLedger} {i:Nat} (h:i<ls.length):kC x (ls.drop i)=bif cL x.team x.resource ls[i].team ls[i].resource then x::ls[i]::ls.drop (i+1) else ls[i]::kC x (ls.drop (i+1)):=by
 rw[List.drop_eq_getElem_cons h];rfl
theorem yh (x:GateLedger):∀ls,(kC x ls).length=ls.length+1
 |[]=>rfl
 |y::ys=>by
  unfold kC
  cases cL x.team x.resource y.team y.resource with
  |true=>rfl
  |false=>simp only[cond_false,List.length_cons,yh x ys]
def bR (L:GateLaw) (b:GateBook) (t r:Bs) (n:Int):GateBook×Int:=
 bif cb L b then
  bif L.teams.any (fun x=>x.name==t)&&(aD r&&d9 n 0 1000000) then
   bif decide (ka b t r≥0) then
    (match b.ledgers[(ka b t r).toNat]? with
    |some g=>bif decide (eF (cq g.free n) g.most<0) then (b,3) else ({b with ledgers:=b.ledgers.set (ka b t r).toNat {g with most:=n,free:=eF (cq g.free n) g.most}},0)
    |none=>(b,3))
   else bif decide (eF n (cz L b t r)<0) then (b,3) else bif b.ledgers.length==10 then (b,4) else ({b with ledgers:=kC ⟨t,r,n,eF n (cz L b t r)⟩ b.ledgers},0)
  else (b,2)
 else (nilBk,1)
section
variable {L:GateLaw} {b:GateBook} {t r:Bs} {n:Int}
theorem BK (hb:cb L b=false):bR L b t r n=(nilBk,1):=by unfold bR;rw[hb];rfl
theorem jS (hb:cb L b=true) (h:(L.teams.any (fun x=>x.name==t)&&(aD r&&d9 n 0 1000000))=false):bR L b t r n=(b,2):=by unfold bR;rw[hb,h];rfl
theorem BJ (hb:cb L b=true) (h:(L.teams.any (fun x=>x.name==t)&&(aD r&&d9 n 0 1000000))=true) {k:Nat} (hk:k<b.ledgers.length) (e:ka b t r=(k:Int)) (hf:decide (eF (cq b.ledgers[k].free n) b.ledgers[k].most<0)=true):bR L b t r n=(b,3):=by
 unfold bR
 rw[hb,h,e,Int.toNat_natCast,List.getElem?_eq_getElem hk]
 simp only[hf,cond_true]
 rw[show decide ((k:Int)≥0)=true from by simp];rfl
theorem BL (hb:cb L b=true) (h:(L.teams.any (fun x=>x.name==t)&&(aD r&&d9 n 0 1000000))=true) {k:Nat} (hk:k<b.ledgers.length) (e:ka b t r=(k:Int)) (hf:decide (eF (cq b.ledgers[k].free n) b.ledgers[k].most<0)=false):
 bR L b t r n=({b with ledgers:=b.ledgers.set k {b.ledgers[k] with most:=n,free:=eF (cq b.ledgers[k].free n) b.ledgers[k].most}},0):=by
 unfold bR
 rw[hb,h,e,Int.toNat_natCast,List.getElem?_eq_getElem hk]
 simp only[hf,cond_true,cond_false]
 rw[show decide ((k:Int)≥0)=true from by simp];rfl
theorem BI (hb:cb L b=true) (h:(L.teams.any (fun x=>x.name==t)&&(aD r&&d9 n 0 1000000))=true) (hp:decide (ka b t r≥0)=false):
 bR L b t r n=bif decide (eF n (cz L b t r)<0) then (b,3) else bif b.ledgers.length==10 then (b,4) else ({b with ledgers:=kC ⟨t,r,n,eF n (cz L b t r)⟩ b.ledgers},0):=by
 unfold bR
 rw[hb,h,hp];rfl
theorem pp (hb:cb L b=true):b.ledgers.length≤10:=by
 have hs:ia L b=true:=by
  unfold cb at hb
  simp only[Bool.and_eq_true] at hb
  exact hb.2.2.2.2.2.2
 simp only[ia,Bool.and_eq_true,Bool.not_eq_true',decide_eq_false_iff_not] at hs
 omega
end
theorem F0 {α:Type} {p:α→Bool} {xs:List α} (h:decide (dW p xs<0)=true):xs.any p=false:=by
 rw[←iB]
 have:=of_decide_eq_true h
 rw[decide_eq_false_iff_not];omega
theorem Fm {α:Type} {p:α→Bool} {xs:List α} (h:decide (dW p xs<0)=false):xs.any p=true:=by
 rw[←iB]
 have:=of_decide_eq_false h
 rw[decide_eq_true_eq];omega
theorem CA (b:GateBook) (t r:Bs) (v:Int) (h:ka b t r=v):Spec P 98 [st b.e,.d (.str t),.d (.str r)] (.d (.int .i64 v)):=by
 rw[←h];exact sD b t r
theorem B5 (b:GateBook) (t r:Bs) (v:Int) (h:ka b t r=v):Spec P 93 [st b.e,.d (.str t),.d (.str r)] (.d (.int .i64 v)):=by
 rw[←h];exact mj b t r
theorem Eo:∀x y:Bs,(!(Op.bytesLess x y||x==y))=Op.bytesLess y x
 |[],[]=>rfl
 |[],_::_=>rfl
 |_::_,[]=>rfl
 |a::x,b::y=>by
  have ih:=Eo x y
  simp only[Op.bytesLess,List.cons_beq_cons]
  rcases Nat.lt_trichotomy a.toNat b.toNat with h|h|h
  ·have e:(a==b)=false:=by rw[beq_eq_false_iff_ne];rintro rfl;omega
   have e2:(b==a)=false:=by rw[beq_eq_false_iff_ne];rintro rfl;omega
   rw[show decide (a<b)=true from decide_eq_true (UInt8.lt_iff_toNat_lt.2 h),show decide (b<a)=false from decide_eq_false (fun g=>by have:=UInt8.lt_iff_toNat_lt.1 g;omega),e,e2]
   simp
  ·have e:a=b:=UInt8.toNat_inj.1 h
   subst e
   rw[show decide (a<a)=false from decide_eq_false (fun g=>by have:=UInt8.lt_iff_toNat_lt.1 g;omega),beq_self_eq_true]
   simpa using ih
  ·have e:(a==b)=false:=by rw[beq_eq_false_iff_ne];rintro rfl;omega
   have e2:(b==a)=false:=by rw[beq_eq_false_iff_ne];rintro rfl;omega
   rw[show decide (b<a)=true from decide_eq_true (UInt8.lt_iff_toNat_lt.2 h),show decide (a<b)=false from decide_eq_false (fun g=>by have:=UInt8.lt_iff_toNat_lt.1 g;omega),e,e2]
   simp
theorem Bu (a b:Bs):decide (kb a b>0)=Op.bytesLess b a:=by
 rw[←Eo a b]
 unfold kb
 cases h:Op.bytesLess a b<;>cases e:(a==b)<;>simp
theorem AY (a b c d:Bs):decide (zD a b c d>0)=cL c d a b:=by
 unfold zD cL
 cases e:(a==c) with
 |true=>
  have:a=c:=beq_iff_eq.1 e
  subst this
  have h0:kb a a=0:=by unfold kb;rw[ii];simp
  rw[h0,ii]
  simp[Bu]
 |false=>
  have h0:(kb a c==0)=false:=by
   unfold kb
   rw[e]
   cases h:Op.bytesLess a c<;>simp
  rw[h0]
  have e2:(c==a)=false:=by rw[beq_eq_false_iff_ne] at e ⊢;exact fun g=>e g.symm
  simp[Bu,e2]
set_option maxHeartbeats 4000000 in
theorem yZ (L:GateLaw) (b:GateBook) (t r:Bs) (n:Int):HSpec P 34 [st L.e,st b.e,.d (.str t),.d (.str r),.d (.int .i64 n)] hp0 (.tup [.agg (bR L b t r n).1.a,.d (.int .i64 (bR L b t r n).2)]) ⟨(bR L b t r n).1.o,4,0⟩:=by
 refine af bW av [.cell 10 48,.tmp 11] Tryz.func34 rfl rfl rfl rfl (fun hok=>?_)
 cases hb:cb L b with
 |false=>
  rw[BK hb]
  repeat refine ai ?_
  refine oc (dP L b) ?_
  rw[hb]
  repeat refine ai ?_
  refine ay ?_
  repeat refine ai ?_
  exact ⟨[none,none,none,none],by repeat' first|exact rfl|exact trivial|refine aj ?_ ?_⟩
 |true=>
  have hs:b.ledgers.length≤al:=(bT ⟨hok.2.1,trivial⟩).2.2.1
  have hs10:=pp hb
  have hbig:12≤al:=by decide
  repeat refine ai ?_
  refine oc (dP L b) ?_
  rw[hb]
  repeat refine ai ?_
  refine an ?_
  repeat refine ai ?_
  refine ow (jJ b) ?_
  repeat refine ai ?_
  refine oc (fF L.teams t) ?_
  repeat refine ai ?_
  refine aj ?_ ?_<;>intro h1
  ·have ha:=Fm h1
   repeat refine ai ?_
   refine oc (c9 r) ?_
   repeat refine ai ?_
   refine aj ?_ ?_<;>intro h2
   ·have hn:aD r=true:=by simpa using h2
    repeat refine ai ?_
    refine aj ?_ ?_<;>intro h3
    ·repeat refine ai ?_
     refine aj ?_ ?_<;>intro h4
     ·rw[jS hb (by rw[ha,hn];unfold d9;have:=of_decide_eq_true h4;rw[show decide (n≤1000000)=false from by rw[decide_eq_false_iff_not];omega];simp)]
      repeat refine ai ?_
      exact ⟨[some 3,some 4,some 5,some 6],by repeat' first|exact rfl|exact trivial|refine aj ?_ ?_⟩
     ·have hc:(L.teams.any (fun x=>x.name==t)&&(aD r&&d9 n 0 1000000))=true:=by
       have g3:=of_decide_eq_false h3
       have g4:=of_decide_eq_false h4
       rw[ha,hn]
       unfold d9
       simp only[Bool.true_and,Bool.and_eq_true,decide_eq_true_eq]
       omega
      cases hp:decide (ka b t r≥0) with
      |true=>
       obtain ⟨k,hk,ek,_⟩:=cx hp
       repeat refine ai ?_
       refine ol (vm b t r k ek) ?_
       repeat refine ai ?_
       refine ay ?_ (by simp)
       repeat refine ai ?_
       refine ak ?_
       repeat refine ai ?_
       refine dB (e:=GateLedger.e) (xs:=b.ledgers) hk ?_
       repeat refine ai ?_
       refine eL (e:=GateLedger.e) (xs:=b.ledgers) hk ?_
       repeat refine ai ?_
       refine dB (e:=GateLedger.e) (xs:=b.ledgers) hk ?_
       repeat refine ai ?_
       refine eL (e:=GateLedger.e) (xs:=b.ledgers) hk ?_
       repeat refine ai ?_
       refine aj ?_ ?_<;>intro h5
       ·rw[BJ hb hc hk ek h5]
        repeat refine ai ?_
        exact ⟨[some 3,some 4,some 5,some 6],by repeat' first|exact rfl|exact trivial|refine aj ?_ ?_⟩
       ·rw[BL hb hc hk ek h5]
        repeat refine ai ?_
        refine dB (e:=GateLedger.e) (xs:=b.ledgers) hk ?_
        repeat refine ai ?_
        refine ⟨_,DJ hk,Nat.le_refl _,?_⟩
        repeat refine ai ?_
        refine DN (e:=GateLedger.e) (xs:=b.ledgers) hk ?_
        repeat refine ai ?_
        refine ⟨_,gu (by rw[List.length_map];exact hk),Nat.le_of_ble_eq_true rfl,?_⟩
        repeat refine ai ?_
        exact ⟨[some 3,some 4,some 5,some 6],by repeat' first|exact rfl|exact trivial|exact Da rfl|refine aj ?_ ?_⟩
      |false=>
       obtain ⟨e,_⟩:=nR hp
       rw[BI hb hc hp]
       repeat refine ai ?_
       refine ol (CA b t r (-1) e) ?_
       repeat refine ai ?_
       refine an ?_
       repeat refine ai ?_
       refine ol (sE L b t r) ?_
       repeat refine ai ?_
       refine aj ?_ ?_<;>intro h5
       ·rw[show decide (eF n (cz L b t r)<0)=true from h5,cond_true]
        repeat refine ai ?_
        exact ⟨[some 3,some 4,some 5,some 6],by repeat' first|exact rfl|exact trivial|refine aj ?_ ?_⟩
       ·rw[show decide (eF n (cz L b t r)<0)=false from h5,cond_false]
        repeat refine ai ?_
        refine aj ?_ ?_<;>intro h6
        ·have h6:(b.ledgers.length==10)=true:=by
           rw[List.length_map] at h6
           have:=beq_iff_eq.1 h6
           exact beq_iff_eq.2 (by omega)
         rw[h6,cond_true]
         repeat refine ai ?_
         exact ⟨[some 3,some 4,some 5,some 6],by repeat' first|exact rfl|exact trivial|refine aj ?_ ?_⟩
        ·have h6:(b.ledgers.length==10)=false:=by
           rw[List.length_map] at h6
           have:=beq_eq_false_iff_ne.1 h6
           exact beq_eq_false_iff_ne.2 (by omega)
         rw[h6,cond_false]
         repeat refine ai ?_
         refine G5 (b.ledgers) (fun i (v:Bool) (ns:List GateLedger)=>kC ⟨t,r,n,eF n (cz L b t r)⟩ b.ledgers=ns++(bif v then b.ledgers.drop i else kC ⟨t,r,n,eF n (cz L b t r)⟩ (b.ledgers.drop i))∧ns.length≤i+(bif v then 1 else 0)) (fun i (v:Bool) (ns:List GateLedger)=>[(10,.ptr 2 0),(12,.ptr 7 0),(16,.ptr 8 0),(17,.own 9),(18,.d (.bool v)),(105,.own 5),(106,.d (.int .i64 (b.ledgers.map GateLedger.e).length)),(107,.d (.int .i64 i))]) (fun i (v:Bool) (ns:List GateLedger)=>⟨[(9,.tree 119 4 GateLedger.n (ns.map GateLedger.e)),(8,.cells 119 [.d (.str t),.d (.str r),.d (.int .i64 n),.d (.int .i64 (eF n (cz L b t r)))]),(7,vz b 3 4 5 6),(3,EH b),(4,Fr b),(5,Fq b),(6,Fp b),(2,.cells 48 [.d (.int .i64 0),.d (.int .i64 0),.d (.int .i64 0),.nils,.nils,.nils,.nils])],10,0⟩) ((show kC ⟨t,r,n,eF n (cz L b t r)⟩ b.ledgers=([]:List GateLedger)++(bif false then b.ledgers.drop 0 else kC ⟨t,r,n,eF n (cz L b t r)⟩ (b.ledgers.drop 0))∧([]:List GateLedger).length≤0+(bif false then 1 else 0) from ⟨rfl,Nat.zero_le _⟩)) ?_
         intro i v ns hi hr
         obtain ⟨hr,hl⟩:=hr
         repeat refine ai ?_
         refine aj ?_ ?_<;>intro g1
         ·have hlt:i<b.ledgers.length:=Y g1
          cases v with
          |true=>
           rw[cond_true,List.drop_eq_getElem_cons hlt] at hr
           rw[cond_true] at hl
           repeat refine ai ?_
           refine dB (e:=GateLedger.e) (xs:=b.ledgers) hlt ?_
           repeat refine ai ?_
           refine eL (e:=GateLedger.e) (xs:=b.ledgers) hlt ?_
           repeat refine ai ?_
           refine an ?_
           repeat refine ai ?_
           refine aj trivial ?_
           repeat refine ai ?_
           refine aj (by simp only[List.length_append,List.length_nil,List.length_cons,List.length_map] at*;omega) ?_
           repeat refine ai ?_
           exact Fs true (ns++[b.ledgers[i]]) hlt hs ⟨by rw[hr];simp,by simp only[List.length_append,List.length_cons,List.length_nil,cond_true,cond_false] at*;omega⟩ fun hw=>by repeat' first|exact rfl|exact trivial|exact nd hw|exact dJ (by simp only[List.map_append];rfl)|refine aj ?_ ?_
          |false=>
           rw[cond_false,uL hlt] at hr
           rw[cond_false] at hl
           dsimp only at hr
           repeat refine ai ?_
           refine dB (e:=GateLedger.e) (xs:=b.ledgers) hlt ?_
           repeat refine ai ?_
           refine eL (e:=GateLedger.e) (xs:=b.ledgers) hlt ?_
           repeat refine ai ?_
           refine ay ?_
           repeat refine ai ?_
           refine aj ?_ ?_<;>intro a1
           ·have a1:Op.bytesLess t b.ledgers[i].team=false:=a1
            repeat refine ai ?_
            refine aj ?_ ?_<;>intro a2
            ·have a2:(t==b.ledgers[i].team)=true:=a2
             repeat refine ai ?_
             refine aj ?_ ?_<;>intro a3
             ·have a3:Op.bytesLess r b.ledgers[i].resource=true:=a3
              have hq:cL t r b.ledgers[i].team b.ledgers[i].resource=true:=by simp only[cL,a1,a2,a3,Bool.and_self,bl]
              repeat refine ai ?_
              refine aj trivial ?_
              repeat refine ai ?_
              refine aj (by simp only[List.length_append,List.length_nil,List.length_cons,List.length_map] at*;omega) ?_
              repeat refine ai ?_
              refine aj trivial ?_
              repeat refine ai ?_
              refine aj (by simp only[List.length_append,List.length_nil,List.length_cons,List.length_map] at*;omega) ?_
              repeat refine ai ?_
              exact Fs true (ns++[⟨t,r,n,eF n (cz L b t r)⟩]++[b.ledgers[i]]) hlt hs ⟨by rw[hr,hq];simp,by simp only[List.length_append,List.length_cons,List.length_nil,cond_true,cond_false] at*;omega⟩ fun hw=>by repeat' first|exact rfl|exact trivial|exact nd hw|exact dJ (by simp only[List.map_append];rfl)|refine aj ?_ ?_
             ·have a3:Op.bytesLess r b.ledgers[i].resource=false:=a3
              have hq:cL t r b.ledgers[i].team b.ledgers[i].resource=false:=by simp only[cL,a1,a2,a3,Bool.or_self,bl]
              repeat refine ai ?_
              refine aj trivial ?_
              repeat refine ai ?_
              refine aj (by simp only[List.length_append,List.length_nil,List.length_cons,List.length_map] at*;omega) ?_
              repeat refine ai ?_
              exact Fs false (ns++[b.ledgers[i]]) hlt hs ⟨by rw[hr,hq];simp,by simp only[List.length_append,List.length_cons,List.length_nil,cond_true,cond_false] at*;omega⟩ fun hw=>by repeat' first|exact rfl|exact trivial|exact nd hw|exact dJ (by simp only[List.map_append];rfl)|refine aj ?_ ?_
            ·have a2:(t==b.ledgers[i].team)=false:=a2
             have hq:cL t r b.ledgers[i].team b.ledgers[i].resource=false:=by simp only[cL,a1,a2,Bool.or_self,bl]
             repeat refine ai ?_
             refine aj trivial ?_
             repeat refine ai ?_
             refine aj (by simp only[List.length_append,List.length_nil,List.length_cons,List.length_map] at*;omega) ?_
             repeat refine ai ?_
             exact Fs false (ns++[b.ledgers[i]]) hlt hs ⟨by rw[hr,hq];simp,by simp only[List.length_append,List.length_cons,List.length_nil,cond_true,cond_false] at*;omega⟩ fun hw=>by repeat' first|exact rfl|exact trivial|exact nd hw|exact dJ (by simp only[List.map_append];rfl)|refine aj ?_ ?_
           ·have a1:Op.bytesLess t b.ledgers[i].team=true:=a1
            have hq:cL t r b.ledgers[i].team b.ledgers[i].resource=true:=by simp only[cL,a1,Bool.and_self,bl]
            repeat refine ai ?_
            refine aj trivial ?_
            repeat refine ai ?_
            refine aj (by simp only[List.length_append,List.length_nil,List.length_cons,List.length_map] at*;omega) ?_
            repeat refine ai ?_
            refine aj trivial ?_
            repeat refine ai ?_
            refine aj (by simp only[List.length_append,List.length_nil,List.length_cons,List.length_map] at*;omega) ?_
            repeat refine ai ?_
            exact Fs true (ns++[⟨t,r,n,eF n (cz L b t r)⟩]++[b.ledgers[i]]) hlt hs ⟨by rw[hr,hq];simp,by simp only[List.length_append,List.length_cons,List.length_nil,cond_true,cond_false] at*;omega⟩ fun hw=>by repeat' first|exact rfl|exact trivial|exact nd hw|exact dJ (by simp only[List.map_append];rfl)|refine aj ?_ ?_
         ·rw[List.drop_of_length_le (Z g1)] at hr
          cases v with
          |true=>
           rw[cond_true,List.append_nil] at hr
           rw[cond_true] at hl
           repeat refine ai ?_
           refine an ?_
           repeat refine ai ?_
           exact ⟨[some 3,some 4,some 9,some 6],by repeat' first|exact rfl|exact trivial|exact dJ (by rw[hr])|refine aj ?_ ?_⟩
          |false=>
           rw[cond_false] at hr
           rw[cond_false] at hl
           repeat refine ai ?_
           refine ay ?_
           repeat refine ai ?_
           refine aj trivial ?_
           repeat refine ai ?_
           refine aj (by simp only[List.length_append,List.length_nil,List.length_cons,List.length_map] at*;omega) ?_
           repeat refine ai ?_
           exact ⟨[some 3,some 4,some 9,some 6],by repeat' first|exact rfl|exact trivial|exact dJ (by rw[hr,List.map_append];rfl)|refine aj ?_ ?_⟩
    ·rw[jS hb (by rw[ha,hn];unfold d9;have:=of_decide_eq_true h3;rw[show decide (n≥0)=false from by rw[decide_eq_false_iff_not];omega];simp)]
     repeat refine ai ?_
     exact ⟨[some 3,some 4,some 5,some 6],by repeat' first|exact rfl|exact trivial|refine aj ?_ ?_⟩
   ·rw[jS hb (by rw[show aD r=false from by simpa using h2];simp)]
    repeat refine ai ?_
    exact ⟨[some 3,some 4,some 5,some 6],by repeat' first|exact rfl|exact trivial|refine aj ?_ ?_⟩
  ·rw[jS hb (by rw[F0 h1];rfl)]
   repeat refine ai ?_
   exact ⟨[some 3,some 4,some 5,some 6],by repeat' first|exact rfl|exact trivial|refine aj ?_ ?_⟩
theorem wl (b:GateBook) (ls:List GateLedger) (R:List (List D)) (h:ls.map GateLedger.e=R):st ({b with ledgers:=ls}:GateBook).e= .agg [.d (.int .i64 b.now),.d (.int .i64 b.tick),.d (.int .i64 b.given),.d (aE b.objects),.d (aU b.grants),.d (.list R),.d (aN b.purses)]:=by
 subst h;rfl
set_option maxHeartbeats 4000000 in
theorem xX (L:GateLaw) (b:GateBook) (t r:Bs) (n:Int):Spec P 33 [st L.e,st b.e,.d (.str t),.d (.str r),.d (.int .i64 n)] (.tup [st (bR L b t r n).1.e,.d (.int .i64 (bR L b t r n).2)]):=by
 refine Spec.of_vc bW av [.cell 10 48,.tmp 11] Tryz.func33 rfl rfl rfl rfl (fun hok=>?_)
 cases hb:cb L b with
 |false=>
  rw[BK hb]
  repeat refine ai ?_
  refine oc (dL L b) ?_
  rw[hb]
  repeat refine ai ?_
  refine ay ?_
  repeat refine ai ?_
  rfl
 |true=>
  have hs:b.ledgers.length≤al:=(bT ⟨hok.2.1,trivial⟩).2.2.1
  have hs10:=pp hb
  have hbig:12≤al:=by decide
  repeat refine ai ?_
  refine oc (dL L b) ?_
  rw[hb]
  repeat refine ai ?_
  refine an ?_
  repeat refine ai ?_
  refine ow (li b) ?_
  repeat refine ai ?_
  refine oc (kw L.teams t) ?_
  repeat refine ai ?_
  refine aj ?_ ?_<;>intro h1
  ·have ha:L.teams.any (fun x=>x.name==t)=true:=by simpa using h1
   repeat refine ai ?_
   refine oc (bx r) ?_
   repeat refine ai ?_
   refine aj ?_ ?_<;>intro h2
   ·have hn:aD r=true:=by simpa using h2
    repeat refine ai ?_
    refine oc (eu n 0 1000000) ?_
    repeat refine ai ?_
    refine aj ?_ ?_<;>intro h3
    ·rw[jS hb (by rw[ha,hn,show d9 n 0 1000000=false from by simpa using h3];rfl)]
     repeat refine ai ?_
     rfl
    ·have hc:(L.teams.any (fun x=>x.name==t)&&(aD r&&d9 n 0 1000000))=true:=by
      rw[ha,hn,show d9 n 0 1000000=true from by simpa using h3];rfl
     cases hp:decide (ka b t r≥0) with
     |true=>
      obtain ⟨k,hk,ek,_⟩:=cx hp
      repeat refine ai ?_
      refine oc (uD b t r k ek) ?_
      repeat refine ai ?_
      refine ay ?_ (by simp)
      repeat refine ai ?_
      refine ak ?_
      repeat refine ai ?_
      refine U (e:=GateLedger.e) (xs:=b.ledgers) (hk) rfl ?_
      repeat refine ai ?_
      refine U (e:=GateLedger.e) (xs:=b.ledgers) (hk) rfl ?_
      repeat refine ai ?_
      refine aj ?_ ?_<;>intro h5
      ·rw[BJ hb hc hk ek h5]
       repeat refine ai ?_
       rfl
      ·rw[BL hb hc hk ek h5,wl b (b.ledgers.set k {b.ledgers[k] with most:=n,free:=eF (cq b.ledgers[k].free n) b.ledgers[k].most}) (((b.ledgers.map GateLedger.e).set k [.str b.ledgers[k].team,.str b.ledgers[k].resource,.int .i64 n,.int .i64 b.ledgers[k].free]).set k [.str b.ledgers[k].team,.str b.ledgers[k].resource,.int .i64 n,.int .i64 (eF (cq b.ledgers[k].free n) b.ledgers[k].most)]) (by rw[List.set_set,List.map_set];rfl)]
       repeat refine ai ?_
       refine dB (e:=GateLedger.e) (xs:=b.ledgers) hk ?_
       repeat refine ai ?_
       refine ⟨_,DJ hk,Nat.le_of_ble_eq_true rfl,?_⟩
       repeat refine ai ?_
       refine DN (e:=GateLedger.e) (xs:=b.ledgers) hk ?_
       repeat refine ai ?_
       refine ⟨_,gu (by rw[List.length_map];exact hk),Nat.le_refl _,?_⟩
       repeat refine ai ?_
       rfl
     |false=>
      obtain ⟨e,_⟩:=nR hp
      rw[BI hb hc hp]
      repeat refine ai ?_
      refine oc (B5 b t r (-1) e) ?_
      repeat refine ai ?_
      refine an ?_
      repeat refine ai ?_
      refine oc (rA L b t r) ?_
      repeat refine ai ?_
      refine aj ?_ ?_<;>intro h5
      ·rw[show decide (eF n (cz L b t r)<0)=true from h5,cond_true]
       repeat refine ai ?_
       rfl
      ·rw[show decide (eF n (cz L b t r)<0)=false from h5,cond_false]
       repeat refine ai ?_
       refine aj ?_ ?_<;>intro h6
       ·have h6:(b.ledgers.length==10)=true:=by
          rw[List.length_map] at h6
          have:=of_decide_eq_true h6
          have:=pp hb
          exact beq_iff_eq.2 (by omega)
        rw[h6,cond_true]
        repeat refine ai ?_
        rfl
       ·have h6:(b.ledgers.length==10)=false:=by
          rw[List.length_map] at h6
          have:=of_decide_eq_false h6
          exact beq_eq_false_iff_ne.2 (by omega)
        rw[h6,cond_false]
        repeat refine ai ?_
        refine G5 (b.ledgers) (fun i (v:Bool) (ns:List GateLedger)=>kC ⟨t,r,n,eF n (cz L b t r)⟩ b.ledgers=ns++(bif v then b.ledgers.drop i else kC ⟨t,r,n,eF n (cz L b t r)⟩ (b.ledgers.drop i))∧ns.length≤i+(bif v then 1 else 0)) (fun i (v:Bool) (ns:List GateLedger)=>[(2,.d (.str t)),(3,.d (.str r)),(10,.ptr 2 0),(12,.ptr 7 0),(15,.ptr 8 0),(16,.own 9),(17,.d (.bool v)),(18,.d (.int .i64 i))]) (fun i (v:Bool) (ns:List GateLedger)=>⟨[(9,.tree 119 4 GateLedger.n (ns.map GateLedger.e)),(8,.cells 119 [.d (.str t),.d (.str r),.d (.int .i64 n),.d (.int .i64 (eF n (cz L b t r)))]),(7,vz b 3 4 5 6),(3,EH b),(4,Fr b),(5,Fq b),(6,Fp b),(2,.cells 48 [.d (.int .i64 0),.d (.int .i64 0),.d (.int .i64 0),.nils,.nils,.nils,.nils])],10,0⟩) ((show kC ⟨t,r,n,eF n (cz L b t r)⟩ b.ledgers=([]:List GateLedger)++(bif false then b.ledgers.drop 0 else kC ⟨t,r,n,eF n (cz L b t r)⟩ (b.ledgers.drop 0))∧([]:List GateLedger).length≤0+(bif false then 1 else 0) from ⟨rfl,Nat.zero_le _⟩)) ?_
        intro i v ns hi hr
        obtain ⟨hr,hl⟩:=hr
        repeat refine ai ?_
        refine aj ?_ ?_<;>intro g1
        ·have hlt:i<b.ledgers.length:=Y g1
         cases v with
         |true=>
          rw[cond_true,List.drop_eq_getElem_cons hlt] at hr
          rw[cond_true] at hl
          repeat refine ai ?_
          refine ak ?_
          repeat refine ai ?_
          refine an ?_
          repeat refine ai ?_
          refine an ?_
          repeat refine ai ?_
          refine dB (e:=GateLedger.e) (xs:=b.ledgers) hlt ?_
          repeat refine ai ?_
          refine eL (e:=GateLedger.e) (xs:=b.ledgers) hlt ?_
          repeat refine ai ?_
          refine aj trivial ?_
          repeat refine ai ?_
          refine aj (by simp only[List.length_append,List.length_nil,List.length_cons,List.length_map] at*;omega) ?_
          repeat refine ai ?_
          exact Fs true (ns++[b.ledgers[i]]) hlt hs ⟨by rw[hr];simp,by simp only[List.length_append,List.length_cons,List.length_nil,cond_true,cond_false] at*;omega⟩ fun hw=>by repeat' first|exact rfl|exact trivial|exact nd hw|exact dJ (by simp only[List.map_append];rfl)|refine aj ?_ ?_
         |false=>
          rw[cond_false,uL hlt] at hr
          rw[cond_false] at hl
          dsimp only at hr
          repeat refine ai ?_
          refine ak ?_
          repeat refine ai ?_
          refine ay ?_
          repeat refine ai ?_
          refine dB (e:=GateLedger.e) (xs:=b.ledgers) hlt ?_
          repeat refine ai ?_
          refine eL (e:=GateLedger.e) (xs:=b.ledgers) hlt ?_
          repeat refine ai ?_
          refine dB (e:=GateLedger.e) (xs:=b.ledgers) hlt ?_
          repeat refine ai ?_
          refine eL (e:=GateLedger.e) (xs:=b.ledgers) hlt ?_
          repeat refine ai ?_
          refine oc (qs _ _ _ _) ?_
          repeat refine ai ?_
          refine aj ?_ ?_<;>intro a1
          ·have a1:cL t r b.ledgers[i].team b.ledgers[i].resource=true:=(AY _ _ _ _).symm.trans a1
           repeat refine ai ?_
           refine aj trivial ?_
           repeat refine ai ?_
           refine aj (by simp only[List.length_append,List.length_nil,List.length_cons,List.length_map] at*;omega) ?_
           repeat refine ai ?_
           refine dB (e:=GateLedger.e) (xs:=b.ledgers) hlt ?_
           repeat refine ai ?_
           refine eL (e:=GateLedger.e) (xs:=b.ledgers) hlt ?_
           repeat refine ai ?_
           refine aj trivial ?_
           repeat refine ai ?_
           refine aj (by simp only[List.length_append,List.length_nil,List.length_cons,List.length_map] at*;omega) ?_
           repeat refine ai ?_
           exact Fs true (ns++[⟨t,r,n,eF n (cz L b t r)⟩]++[b.ledgers[i]]) hlt hs ⟨by rw[hr,a1];simp,by simp only[List.length_append,List.length_cons,List.length_nil,cond_true,cond_false] at*;omega⟩ fun hw=>by repeat' first|exact rfl|exact trivial|exact nd hw|exact dJ (by simp only[List.map_append];rfl)|refine aj ?_ ?_
          ·have a1:cL t r b.ledgers[i].team b.ledgers[i].resource=false:=(AY _ _ _ _).symm.trans a1
           repeat refine ai ?_
           refine dB (e:=GateLedger.e) (xs:=b.ledgers) hlt ?_
           repeat refine ai ?_
           refine eL (e:=GateLedger.e) (xs:=b.ledgers) hlt ?_
           repeat refine ai ?_
           refine aj trivial ?_
           repeat refine ai ?_
           refine aj (by simp only[List.length_append,List.length_nil,List.length_cons,List.length_map] at*;omega) ?_
           repeat refine ai ?_
           exact Fs false (ns++[b.ledgers[i]]) hlt hs ⟨by rw[hr,a1];simp,by simp only[List.length_append,List.length_cons,List.length_nil,cond_true,cond_false] at*;omega⟩ fun hw=>by repeat' first|exact rfl|exact trivial|exact nd hw|exact dJ (by simp only[List.map_append];rfl)|refine aj ?_ ?_
        ·rw[List.drop_of_length_le (Z g1)] at hr
         cases v with
         |true=>
          rw[cond_true,List.append_nil] at hr
          rw[cond_true] at hl
          rw[hr,wl b ns _ rfl]
          repeat refine ai ?_
          refine an ?_
          repeat refine ai ?_
          rfl
         |false=>
          rw[cond_false] at hr
          rw[cond_false] at hl
          have hst:st ({b with ledgers:=kC ⟨t,r,n,eF n (cz L b t r)⟩ b.ledgers}:GateBook).e= .agg [.d (.int .i64 b.now),.d (.int .i64 b.tick),.d (.int .i64 b.given),.d (aE b.objects),.d (aU b.grants),.d (.list (ns.map GateLedger.e++[[.str t,.str r,.int .i64 n,.int .i64 (eF n (cz L b t r))]])),.d (aN b.purses)]:=
            wl b _ _ (by rw[show kC ⟨t,r,n,eF n (cz L b t r)⟩ b.ledgers=ns++[⟨t,r,n,eF n (cz L b t r)⟩] from hr,List.map_append];rfl)
          rw[hst]
          repeat refine ai ?_
          refine ay ?_
          repeat refine ai ?_
          refine aj trivial ?_
          repeat refine ai ?_
          refine aj (by simp only[List.length_append,List.length_nil,List.length_cons,List.length_map] at*;omega) ?_
          repeat refine ai ?_
          rfl
   ·rw[jS hb (by rw[show aD r=false from by simpa using h2];simp)]
    repeat refine ai ?_
    rfl
  ·rw[jS hb (by rw[show L.teams.any (fun x=>x.name==t)=false from by simpa using h1];rfl)]
   repeat refine ai ?_
   rfl
end Go.Vc
end
section
namespace Go.Vc
theorem xO:∀(m:Nat) (b:GateBook),(gH m b).el≤b.el
 |0,_=>Int.le_refl _
 |m+1,b=>by
  unfold gH
  refine Int.le_trans (xO m _) ?_
  have H:∀q:Bool,(bif q then oa b m else b).el≤b.el:=fun q=>by
   cases q with
   |true=>exact zr b m
   |false=>exact Int.le_refl _
  exact H _
theorem C1 (L:GateLaw) (b:GateBook):(cP L b).1.el≤b.el:=by
 unfold cP
 cases cb L b with
 |false=>exact rS b
 |true=>
  simp only[cond_true]
  cases b.tick==1000000 with
  |true=>exact Int.le_refl _
  |false=>exact xO _ _
theorem CI (L:GateLaw) (b:GateBook) (t r:Bs) (n:Int):(bR L b t r n).1.el≤b.el+1:=by
 have h0:b.el≤b.el+1:=by omega
 unfold bR
 cases cb L b with
 |false=>exact Int.le_trans (rS b) h0
 |true=>
  simp only[cond_true]
  cases L.teams.any (fun x=>x.name==t)&&(aD r&&d9 n 0 1000000) with
  |false=>exact h0
  |true=>
   simp only[cond_true]
   cases decide (ka b t r≥0) with
   |true=>
    simp only[cond_true]
    split
    ·rename_i g _
     cases decide (eF (cq g.free n) g.most<0) with
     |true=>exact h0
     |false=>
      rw[Gc,Gc]
      simp only[cond_false,List.length_set]
      omega
    ·exact h0
   |false=>
    simp only[cond_false]
    cases decide (eF n (cz L b t r)<0) with
    |true=>exact h0
    |false=>
     simp only[cond_false]
     cases b.ledgers.length==10 with
     |true=>exact h0
     |false=>
      rw[Gc,Gc]
      simp only[cond_false,yh]
      omega
end Go.Vc
end
