/- Part 7 of a proof: Contracts: GateDoomed, by the implementation. Contracts: GateDoomed, by the implementation: the whole. The text of a mark, and how many marks. What the marks are, printed by genlaws.py: the marked data, how many marks. Contracts of the laws' own mark.. and held.. functions, printed by genlaws.py. What a size that is not below zero tells, printed by genlaws.py. How far marks go, printed by genlaws.py. Helpers of the laws that mark. -/
import Derived.Test.YteongcjplmbkgaaGreatDoorGda
import Derived.Test.YteongcjplmbkgaaGreatDoorGdb
import Derived.Test.YteongcjplmbkgaaGreatDoorGdc
import Derived.Test.YteongcjplmbkgaaGreatDoorGdd
import Derived.Test.YteongcjplmbkgaaGreatDoorGde
import Derived.Test.YteongcjplmbkgaaGreatDoorGdf
set_option linter.unusedVariables false
set_option linter.unusedSimpArgs false
section
namespace Go.Vc
open Go.Proofs
set_option maxRecDepth 100000
theorem A1 {l:List Nat} {x:Nat} {K:Option AV→Prop} (h:x∈l) (k:K (some (.d (.int .i64 1)))):∃r,aq (l.map cb) [.int .i64 (x:Int)]=r∧K r:=⟨_,by rw[A3,if_pos h],k⟩
theorem Du {l:List Nat} {x:Nat} {K:Option AV→Prop} (h:x ∉ l) (k:K none):∃r,aq (l.map cb) [.int .i64 (x:Int)]=r∧K r:=⟨_,by rw[A3,if_neg h],k⟩
section
variable {n f i x:Nat} {nm:Nat→Nat→Bool} {l:List Nat} {I:Nat→Bool} {g:Nat→Option Nat}
theorem FW (h:x ∉ l):bn (l.map cb) [.int .i64 (x:Int)] (.d (.int .i64 1))=(yU n nm f x l 0).map cb:=Gr l x h
theorem E0 (h:nm i x=true):mY g ((wQ n nm f i (yU n nm f x l i)).map cb)=(yU n nm f x l (i+1)).map cb:=by rw[yf,r7,h];rfl
theorem EX (h:nm i x=false):(yU n nm f x l i).map cb=(yU n nm f x l (i+1)).map cb:=by rw[r7,h];rfl
theorem FV (h:I i=true):mY g ((wQ n nm n i (yT n nm I i)).map cb)=(yT n nm I (i+1)).map cb:=by rw[yf,qh,h];rfl
theorem EW (h:I i=false):(yT n nm I i).map cb=(yT n nm I (i+1)).map cb:=by rw[qh,h];rfl
end
set_option maxHeartbeats 4000000 in
theorem FU (L:GateLaw) (b:GateBook) (hs:b.objects.length≤big):∀(f x:Nat) (l:List Nat) (es:List (List D×AV)),es=l.map cb→x<b.objects.length→Gdl b.objects.length l→wL b.objects.length l≤f→FSpec P 76 [.d (.int .i64 (x:Int)),.ptr 1 0,.ptr 2 0,.ptr 3 0,.ptr 4 0]
 ⟨[(0,.map 99 (.del (.int .i64)) es),(1,.cells 99 [.mapr 0]),(2,.cells 48 (b.e.map .d)),(3,.cells 41 (L.e.map .d)),(4,.cells 100 [.fn 76 [.ptr 1 0,.ptr 2 0,.ptr 3 0,.ptr 4 0]])],5,5⟩ (.tup [])
 ⟨[(0,.map 99 (.del (.int .i64)) ((wQ b.objects.length (vW L b) f x l).map cb)),(1,.cells 99 [.mapr 0]),(2,.cells 48 (b.e.map .d)),(3,.cells 41 (L.e.map .d)),(4,.cells 100 [.fn 76 [.ptr 1 0,.ptr 2 0,.ptr 3 0,.ptr 4 0]])],5,5⟩:=by
 intro f
 induction f with
 |zero=>
  intro x l es he hx g hw
  subst he
  have hin:=Aw hx (by omega:wL b.objects.length l=0)
  rw[wG hin]
  refine FSpec.of_vc da aw [] Tryz.func76 rfl rfl rfl rfl rfl (fun hok hob=>?_)
  repeat refine ai ?_
  refine A1 hin ?_
  repeat refine ai ?_
  refine ay ?_
  repeat refine ai ?_
  all_goals (repeat' first|exact rfl|exact trivial|exact nA _ _|refine aj ?_ ?_)
 |succ f ih=>
  intro x l es he hx g hw
  subst he
  by_cases hin:x∈l
  ·rw[wG hin]
   refine FSpec.of_vc da aw [] Tryz.func76 rfl rfl rfl rfl rfl (fun hok hob=>?_)
   repeat refine ai ?_
   refine A1 hin ?_
   repeat refine ai ?_
   refine ay ?_
   repeat refine ai ?_
   all_goals (repeat' first|exact rfl|exact trivial|exact nA _ _|refine aj ?_ ?_)
  ·rw[Bl hin]
   refine FSpec.of_vc da aw [] Tryz.func76 rfl rfl rfl rfl rfl (fun hok hob=>?_)
   repeat refine ai ?_
   refine Du hin ?_
   repeat refine ai ?_
   refine an ?_
   repeat refine ai ?_
   refine ⟨I0 b.objects (fun i=>True) (fun i=>[(0,.d (.int .i64 (x:Int))),(1,.ptr 1 0),(2,.ptr 2 0),(3,.ptr 3 0),(4,.ptr 4 0),(15,.d (aE b.objects)),(16,.d (.int .i64 (b.objects.map GateObject.e).length)),(17,.d (.int .i64 i))]) (fun i=>⟨[(0,.map 99 (.del (.int .i64)) ((yU b.objects.length (vW L b) f x l i).map cb)),(1,.cells 99 [.mapr 0]),(2,.cells 48 (b.e.map .d)),(3,.cells 41 (L.e.map .d)),(4,.cells 100 [.fn 76 [.ptr 1 0,.ptr 2 0,.ptr 3 0,.ptr 4 0]])],5,5⟩),⟨_,_,_,⟨0,rfl,Nat.zero_le _,trivial,rfl,rfl⟩,by repeat' first|exact rfl|exact trivial|exact nA _ _|exact FW hin|refine aj ?_ ?_⟩,?_⟩
   rintro m ll hh ⟨i,rfl,hi,hr,rfl,rfl⟩
   have hm:=FZ (nm:=vW L b) hx g hw hin hi
   repeat refine ai ?_
   refine aj ?_ ?_<;>intro h1
   ·have hlt:i<b.objects.length:=V h1
    repeat refine ai ?_
    refine O (e:=GateObject.e) (xs:=b.objects) (hlt) rfl ?_
    repeat refine ai ?_
    refine ak ?_
    repeat refine ai ?_
    refine O (e:=GateObject.e) (xs:=b.objects) (hx) rfl ?_
    repeat refine ai ?_
    refine oc (og L _ _ 3) ?_
    repeat refine ai ?_
    refine aj ?_ ?_<;>intro c1
    ·have c1:vW L b i x=true:=by rw[vV hlt hx];exact c1
     repeat refine ai ?_
     refine om [0,1,2,3,4] none (ih i (yU b.objects.length (vW L b) f x l i) _ (yf _ _) hlt hm.good hm.few) ?_
     repeat refine ai ?_
     exact bL hlt hs trivial fun hw=>by repeat' first|exact rfl|exact trivial|exact nd hw|exact nA _ _|exact E0 c1|refine aj ?_ ?_
    ·have c1:vW L b i x=false:=by rw[vV hlt hx];exact c1
     repeat refine ai ?_
     exact bL hlt hs trivial fun hw=>by repeat' first|exact rfl|exact trivial|exact nd hw|exact nA _ _|exact EX c1|refine aj ?_ ?_
   ·have e:i=b.objects.length:=by have:=Y h1;omega
    subst e
    repeat refine ai ?_
    all_goals (repeat' first|exact rfl|exact trivial|exact nA _ _|refine aj ?_ ?_)
def pD (b:GateBook) (l:List Nat) (i:Nat) (x:Nat):Bool:=l.contains x&&(pO b x|| !decide (x<i))
theorem EA {b:GateBook} {l:List Nat}:fl (qY b.objects.length l) (pD b l 0)=l:=by
 rw[show pD b l 0=fun x=>l.contains x from by funext x;unfold pD;simp]
 exact EI
theorem EB {b:GateBook} {l:List Nat} {i:Nat} (h:pO b i=true):pD b l i=pD b l (i+1):=by
 funext x
 unfold pD
 by_cases e:x=i
 ·subst e;simp[h]
 ·rw[show decide (x<i+1)=decide (x<i) from by rw[decide_eq_decide];omega]
theorem EC {b:GateBook} {l:List Nat} {i:Nat} (h:pO b i=false):nj (pD b l i) i=pD b l (i+1):=by
 funext x
 unfold nj pD
 by_cases e:x=i
 ·subst e;simp[h]
 ·rw[show decide (x<i+1)=decide (x<i) from by rw[decide_eq_decide];omega]
  simp[e]
theorem EY {b:GateBook} {l:List Nat} {i:Nat} (h:pO b i=true):(fl (qY b.objects.length l) (pD b l i)).map cb=(fl (qY b.objects.length l) (pD b l (i+1))).map cb:=by rw[EB h]
theorem EZ {b:GateBook} {l:List Nat} {i:Nat} (g:Gdl b.objects.length l) (h:pO b i=false):eG ((fl (qY b.objects.length l) (pD b l i)).map cb) [.int .i64 (i:Int)]=(fl (qY b.objects.length l) (pD b l (i+1))).map cb:=by rw[Ab (vR g),EC h]
theorem EV {b:GateBook} {l:List Nat}:l.map cb=(fl (qY b.objects.length l) (pD b l 0)).map cb:=by rw[EA]
end Go.Vc
end
section
namespace Go.Vc
open Go.Proofs
set_option maxRecDepth 100000
abbrev Fi (b:GateBook):Nat→Bool:=eW (b.objects.map GateObject.ending)
theorem DV {b:GateBook} {x:Nat} (h:x<b.objects.length):Fi b x=b.objects[x].ending:=by
 show eW _ x=_
 rw[gf (by rw[List.length_map];exact h),List.getElem_map]
noncomputable abbrev F8 (L:GateLaw) (b:GateBook):List Nat:=yT b.objects.length (vW L b) (Fi b) b.objects.length
theorem GO (L:GateLaw) (b:GateBook):(List.range b.objects.length).map (GH L b (pD b (F8 L b) b.objects.length))=Cg L b (Em L b):=by
 unfold Cg
 refine List.map_congr_left (fun x hx=>Cf fun y hy=>?_)
 have h:eW (Em L b) y=BT b.objects.length (vW L b) (Fi b) y:=by
  unfold Em
  rw[gf (by simpa using hy),List.getElem_map,List.getElem_range]
 show ((F8 L b).contains y&&(pO b y|| !decide (y<b.objects.length)))=(eW (Em L b) y&&pO b y)
 rw[h,←Fn hy,decide_eq_true hy]
 simp
set_option maxHeartbeats 4000000 in
theorem nf (L:GateLaw) (b:GateBook):HSpec P 27 [st L.e,st b.e] hp0 (.own 0) ⟨[(0,.tree 3 1 [.leaf] ((gM L b).map eN))],1,0⟩:=by
 refine ax da aw [.tmp 4] Tryz.func27 rfl rfl rfl rfl (fun hok=>?_)
 cases hb:ge L b with
 |false=>
  rw[show gM L b=[] from by unfold gM;rw[hb];rfl]
  repeat refine ai ?_
  refine oc (ng L b) ?_
  rw[hb]
  repeat refine ai ?_
  refine ay ?_
  repeat refine ai ?_
  exact ⟨[none],by repeat' first|exact rfl|exact trivial|refine aj ?_ ?_⟩
 |true=>
  have hs:b.objects.length≤big:=(bP ⟨hok.2.1,trivial⟩).1
  rw[show gM L b=bO (fun v=>v) (Cg L b (Em L b)) 0 from by unfold gM;rw[hb];rfl,←GO]
  repeat refine ai ?_
  refine oc (ng L b) ?_
  rw[hb]
  repeat refine ai ?_
  refine an ?_
  repeat refine ai ?_
  refine ⟨I0 b.objects (fun i=>True) (fun i=>[(2,.ptr 0 0),(3,.ptr 1 0),(5,.ptr 3 0),(6,.ptr 4 0),(18,.d (aE b.objects)),(19,.d (.int .i64 (b.objects.map GateObject.e).length)),(20,.d (.int .i64 i))]) (fun i=>⟨[(2,.map 99 (.del (.int .i64)) ((yT b.objects.length (vW L b) (Fi b) i).map cb)),(3,.cells 99 [.mapr 2]),(4,.cells 100 [.fn 76 [.ptr 3 0,.ptr 1 0,.ptr 0 0,.ptr 4 0]]),(1,.cells 48 (b.e.map .d)),(0,.cells 41 (L.e.map .d))],5,0⟩),⟨_,_,_,⟨0,rfl,Nat.zero_le _,trivial,rfl,rfl⟩,by repeat' first|exact rfl|exact trivial|exact nA _ _|refine aj ?_ ?_⟩,?_⟩
  rintro m l hh ⟨i,rfl,hi,hr,rfl,rfl⟩
  have hm:=Fb (nm:=vW L b) (I:=Fi b) i hi
  repeat refine ai ?_
  refine aj ?_ ?_<;>intro h1
  ·have hlt:i<b.objects.length:=V h1
   repeat refine ai ?_
   refine O (e:=GateObject.e) (xs:=b.objects) (hlt) rfl ?_
   repeat refine ai ?_
   refine aj ?_ ?_<;>intro c1
   ·have c1:Fi b i=true:=by rw[DV hlt];exact c1
    repeat refine ai ?_
    refine om [2,3,1,0,4] none (FU L b hs b.objects.length i (yT b.objects.length (vW L b) (Fi b) i) _ (yf _ _) hlt hm.good (Fa _)) ?_
    repeat refine ai ?_
    exact bL hlt hs trivial fun hw=>by repeat' first|exact rfl|exact trivial|exact nd hw|exact nA _ _|exact FV c1|refine aj ?_ ?_
   ·have c1:Fi b i=false:=by rw[DV hlt];exact c1
    repeat refine ai ?_
    exact bL hlt hs trivial fun hw=>by repeat' first|exact rfl|exact trivial|exact nd hw|exact nA _ _|exact EW c1|refine aj ?_ ?_
  ·have e:i=b.objects.length:=by have:=Y h1;omega
   subst e
   repeat refine ai ?_
   refine ⟨I0 b.objects (fun i=>True) (fun i=>[(2,.ptr 0 0),(3,.ptr 1 0),(5,.ptr 3 0),(32,.d (aE b.objects)),(33,.d (.int .i64 (b.objects.map GateObject.e).length)),(34,.d (.int .i64 i))]) (fun i=>⟨[(2,.map 99 (.del (.int .i64)) ((fl (qY b.objects.length (F8 L b)) (pD b (F8 L b) i)).map cb)),(3,.cells 99 [.mapr 2]),(1,.cells 48 (b.e.map .d)),(0,.cells 41 (L.e.map .d))],5,0⟩),⟨_,_,_,⟨0,rfl,Nat.zero_le _,trivial,rfl,rfl⟩,by repeat' first|exact rfl|exact trivial|exact nA _ _|exact EV|refine aj ?_ ?_⟩,?_⟩
   rintro m l hh ⟨i,rfl,hi,hr,rfl,rfl⟩
   repeat refine ai ?_
   refine aj ?_ ?_<;>intro h2
   ·have hlt:i<b.objects.length:=V h2
    repeat refine ai ?_
    refine O (e:=GateObject.e) (xs:=b.objects) (hlt) rfl ?_
    repeat refine ai ?_
    refine aj ?_ ?_<;>intro c2
    ·have hp:pO b i=false:=by
      have c2:=of_decide_eq_true c2
      rw[List.length_map] at c2
      rw[wr hlt]
      exact beq_eq_false_iff_ne.2 (by omega)
     repeat refine ai ?_
     exact bL hlt hs trivial fun hw=>by repeat' first|exact rfl|exact trivial|exact nd hw|exact nA _ _|exact EZ hm.good hp|refine aj ?_ ?_
    ·have hp:pO b i=true:=by
      have c2:=of_decide_eq_false c2
      rw[List.length_map] at c2
      rw[wr hlt]
      exact beq_iff_eq.2 (by omega)
     repeat refine ai ?_
     exact bL hlt hs trivial fun hw=>by repeat' first|exact rfl|exact trivial|exact nd hw|exact nA _ _|exact EY hp|refine aj ?_ ?_
   ·have e:i=b.objects.length:=by have:=Y h2;omega
    subst e
    repeat refine ai ?_
    refine akp 6 (.one [0,1,2,3] [] 4 (.one [] [0] 5 (.fin [] []))) ?_
    repeat refine ai ?_
    refine om [2] none (DR L b _ (vR hm.good) (pD b (F8 L b) b.objects.length) (.del (.int .i64)) rfl _ (yf _ _)) ?_
    repeat refine ai ?_
    refine om [2] none (Cl b _ (vR hm.good) (GH L b (pD b (F8 L b) b.objects.length)) _ (Ff _ _ _)) ?_
    repeat refine ai ?_
    exact ⟨[some 8],by repeat' first|exact rfl|exact trivial|refine aj ?_ ?_⟩
theorem Cn (L:GateLaw) (b:GateBook):(gM L b).length≤b.objects.length:=by
 unfold gM
 cases ge L b with
 |true=>
  have:=oO (p:=fun v=>v) (Cg L b (Em L b)) 0
  simp only[cond_true]
  have h:(Cg L b (Em L b)).length=b.objects.length:=by unfold Cg;rw[List.length_map,List.length_range]
  omega
 |false=>exact Nat.zero_le _
end Go.Vc
end
section
namespace Go.Vc
open Go.Proofs
set_option maxRecDepth 100000
theorem aQ {k:Int} (h0:0≤k) (h:k+1≤1099511627776):wk k=k+1:=by
 unfold wk
 rw[IntKind.wrap_i64];omega
def mi (k:Int):Int:=k
def mb (k:Int):Bool:=k.tmod 3==0
def cD {α:Type} (f:α→Int):List α→Int
 |[]=>0
 |x::xs=>f x+cD f xs
def jC {α:Type} (f:α→Int):List α→Int
 |[]=>0
 |x::xs=>1+f x+jC f xs
theorem aZ {α:Type} {f:α→Int} (h:∀x,0≤f x):∀xs,0≤cD f xs
 |[]=>Int.le_refl _
 |x::xs=>by have:=aZ h xs;have:=h x;simp only[cD];omega
theorem bG {α:Type} {f:α→Int} (h:∀x,0≤f x):∀xs,0≤jC f xs
 |[]=>Int.le_refl _
 |x::xs=>by have:=bG h xs;have:=h x;simp only[jC];omega
theorem fB {α:Type} {f g:α→Int} (h:∀x,f x≤32+32*g x):∀xs,cD f xs≤32*jC g xs
 |[]=>by simp[cD,jC]
 |x::xs=>by have:=fB h xs;have:=h x;simp only[cD,jC];omega
theorem dl {α:Type} {f:α→Int→α×Int} {l:α→Int} (hf:∀x k,0≤k→k+l x≤1099511627776→(f x k).2=k+l x) (hl:∀x,0≤l x):∀(xs:List α) (k:Int),0≤k→k+cD l xs≤1099511627776→(aL f xs k).2=k+cD l xs
 |[],k,_,_=>by simp[aL,cD]
 |x::xs,k,h0,h=>by
  have p:=aZ hl xs
  have q:=hl x
  simp only[cD] at h
  simp only[aL,cD]
  rw[hf x k h0 (by omega),dl hf hl xs _ (by omega) (by omega)];omega
theorem FI {α:Type} {f:α→Int→α×Int} {l:α→Int} (hf:∀x k,0≤k→k+l x≤1099511627776→(f x k).2=k+l x) (hl:∀x,0≤l x) {xs:List α} {k:Int} {i:Nat} (h0:0≤k) (h:k+cD l xs≤1099511627776) (hi:i<xs.length):
 0≤mX f xs k i∧mX f xs k i+l xs[i]≤1099511627776:=by
 have split:∀(xs:List α) (i:Nat) (hi:i<xs.length),cD l (xs.take i)+l xs[i]≤cD l xs:=by
  intro xs
  induction xs with
  |nil=>intro i hi;simp at hi
  |cons x xs ih=>
   intro i hi
   have p:=aZ hl xs
   cases i with
   |zero=>simp only[List.take_zero,cD,List.getElem_cons_zero];omega
   |succ i=>
    have:=ih i (by simpa using hi)
    simp only[List.take_succ_cons,cD,List.getElem_cons_succ];omega
 have h1:=split xs i hi
 have h2:=aZ hl (xs.take i)
 have h3:=hl xs[i]
 unfold mX
 rw[dl hf hl _ _ h0 (by omega)];omega
def gD {α:Type} (_:α):Int:=1
def Bk {α:Type} (_:α):Int:=0
theorem d8 {α:Type} (x:α):0≤gD x:=by unfold gD;decide
theorem im {α:Type} (x:α):0≤Bk x:=by unfold Bk;decide
theorem v9 {α:Type} (x:α):gD x≤32+32*Bk x:=by unfold gD Bk;decide
def dg (k:Int):UInt8:=UInt8.ofNat (IntKind.u8.wrap (IntKind.i64.wrap (48+k.tmod 10))).toNat
def FG:Nat→Int→Bs→Bs
 |0,_,out=>out
 |n+1,k,out=>bif decide (k>0) then FG n (IntKind.i64.wrap (k.tdiv 10)) (dg k::out) else out
def mt (k:Int):Bs:=bif decide (k≤0) then [109,48] else 109::FG 21 k []
def Gu (out:Bs) (j:Int):Prop:=out=[]∨(1≤out.length∧out.length≤20∧j.toNat*10 ^ (out.length - 1)<10 ^ 19)
theorem EK {out:Bs} {j:Int} (h:Gu out j):out.length≤20:=by
 rcases h with rfl|h
 ·simp
 ·exact h.2.1
theorem Dq {out:Bs} {j:Int} (h:Gu out j) (hj:0<j):out.length≤19:=by
 rcases h with rfl|⟨h1,h2,h3⟩
 ·simp
 ·refine Nat.le_of_not_lt fun hl=>?_
  have e:out.length - 1=19:=by omega
  rw[e] at h3
  have:1≤j.toNat:=by omega
  omega
theorem Dp {out:Bs} {j:Int} {c:UInt8} (h:Gu out j) (hj:0<j):Gu (c::out) (IntKind.i64.wrap (j.tdiv 10)):=by
 have hl:=Dq h hj
 have hd:j.tdiv 10=j/10:=Int.tdiv_eq_ediv_of_nonneg (by omega)
 have hw:(IntKind.i64.wrap (j.tdiv 10)).toNat≤j.toNat/10∧(IntKind.i64.wrap (j.tdiv 10)).toNat<10 ^ 19:=by
  rw[hd,IntKind.wrap_i64]
  omega
 refine .inr ⟨by simp,by simp only[List.length_cons];omega,?_⟩
 simp only[List.length_cons,Nat.add_sub_cancel]
 rcases h with rfl|⟨h1,h2,h3⟩
 ·simpa using hw.2
 ·obtain ⟨n,hn⟩:∃n,out.length=n+1:=⟨out.length - 1,by omega⟩
  rw[hn,Nat.add_sub_cancel] at h3
  rw[hn,Nat.pow_succ]
  refine Nat.lt_of_le_of_lt ?_ h3
  rw[Nat.mul_comm (10 ^ n) 10,←Nat.mul_assoc]
  refine Nat.mul_le_mul_right _ ?_
  have:=hw.1
  omega
theorem qH (k:Int):Spec P 136 [.d (.int .i64 k)] (.d (.str (mt k))):=by
 refine Spec.of_vc aJ aw [.tmp 2] Tryz.func136 rfl rfl rfl rfl (fun hok=>?_)
 repeat refine ai ?_
 refine aj ?_ ?_<;>intro h0
 ·repeat refine ai ?_
  unfold mt
  rw[h0]
  rfl
 ·repeat refine ai ?_
  refine ⟨fun m l h=>∃(out:Bs) (j:Int),m=21 - out.length∧FG 21 k []=FG (21 - out.length) j out∧Gu out j∧l=[(0,.d (.int .i64 j)),(3,.d (.str out))]∧h=hp0,
   ⟨_,_,_,⟨[],k,rfl,rfl,.inl rfl,rfl,rfl⟩,rfl,rfl,⟨rfl,rfl,trivial⟩,trivial,trivial⟩,?_⟩
  rintro m l hh ⟨out,j,rfl,hr,hb,rfl,rfl⟩
  repeat refine ai ?_
  refine aj ?_ ?_<;>intro h1
  ·have hj:0<j:=of_decide_eq_true h1
   have hl:=Dq hb hj
   repeat refine ai ?_
   refine aj (by decide) ?_
   repeat refine ai ?_
   refine aj (by unfold big;simp) ?_
   repeat refine ai ?_
   refine aj (by unfold big;simp only[List.length_cons,List.length_nil];omega) ?_
   repeat refine ai ?_
   refine aj (by decide) ?_
   repeat refine ai ?_
   refine ⟨_,_,_,⟨dg j::out,IntKind.i64.wrap (j.tdiv 10),rfl,?_,Dp hb hj,rfl,rfl⟩,?_,rfl,rfl,⟨rfl,rfl,trivial⟩,trivial,trivial⟩
   ·rw[hr,show 21 - out.length=(21 - (dg j::out).length)+1 from by simp only[List.length_cons];omega]
    simp only[FG,h1,cond_true]
   ·simp only[List.length_cons];omega
  ·have hl:=EK hb
   repeat refine ai ?_
   refine aj (by unfold big;simp only[List.length_cons,List.length_nil];omega) ?_
   repeat refine ai ?_
   have hg:FG (21 - out.length) j out=out:=by
    rw[show 21 - out.length=(20 - out.length)+1 from by omega]
    simp only[FG,h1,cond_false]
   unfold mt
   rw[h0,hr,hg]
   rfl
def gQ (_:Bs) (k:Int):Bs×Int:=(mt k,wk k)
def jB (_:Int) (k:Int):Int×Int:=(mi k,wk k)
theorem v7 (x:Bs) (k:Int) (h0:0≤k) (h:k+gD x≤1099511627776):(gQ x k).2=k+gD x:=aQ h0 h
theorem v6 (x:Int) (k:Int) (h0:0≤k) (h:k+gD x≤1099511627776):(jB x k).2=k+gD x:=aQ h0 h
end Go.Vc
end
section
namespace Go.Vc
open Go.Proofs
noncomputable def GateField.mark (x:GateField) (k:Int):GateField×Int:=(⟨(mt k),(mi (wk k)),(mi (wk (wk k))),(mi (wk (wk (wk k)))),(aL gQ x.words (wk (wk (wk (wk k))))).1,(mt (aL gQ x.words (wk (wk (wk (wk k))))).2),(mi (wk (aL gQ x.words (wk (wk (wk (wk k))))).2)),(mb (wk (wk (aL gQ x.words (wk (wk (wk (wk k))))).2))),(mb (wk (wk (wk (aL gQ x.words (wk (wk (wk (wk k))))).2)))),(mt (wk (wk (wk (wk (aL gQ x.words (wk (wk (wk (wk k))))).2))))),(mt (wk (wk (wk (wk (wk (aL gQ x.words (wk (wk (wk (wk k))))).2))))))⟩,(wk (wk (wk (wk (wk (wk (aL gQ x.words (wk (wk (wk (wk k))))).2)))))))
noncomputable def GateField.marks (x:GateField) (k:Int):GateField×Int:=(⟨x.name,x.kind,x.least,x.most,(aL gQ x.words k).1,x.to_,x.role,x.must,x.fixed,x.default_,x.weighs⟩,(aL gQ x.words k).2)
def GateField.lv (x:GateField):Int:=10+cD gD x.words
def GateField.el (x:GateField):Int:=0+jC Bk x.words
theorem GateField.lv_nn (x:GateField):0≤x.lv:=by
 have p0:=aZ d8 x.words
 unfold GateField.lv;omega
theorem GateField.el_nn (x:GateField):0≤x.el:=by
 have p0:=bG im x.words
 unfold GateField.el;omega
theorem GateField.lv_le (x:GateField):x.lv≤32+32*x.el:=by
 have p0:=fB v9 x.words
 unfold GateField.lv GateField.el;omega
theorem GateField.mark_val (x:GateField) (k:Int) (h0:0≤k) (hB:k+(10+cD gD x.words)≤1099511627776):(GateField.mark x k).2=k+(10+cD gD x.words):=by
 have p0:=aZ d8 x.words
 have s0:(wk k)=k+1:=aQ (by omega) (by omega)
 have s1:(wk (wk k))=k+2:=by rw[s0,aQ (by omega) (by omega)];try omega
 have s2:(wk (wk (wk k)))=k+3:=by rw[s1,aQ (by omega) (by omega)];try omega
 have s3:(wk (wk (wk (wk k))))=k+4:=by rw[s2,aQ (by omega) (by omega)];try omega
 have s4:(aL gQ x.words (wk (wk (wk (wk k))))).2=k+4+cD gD x.words:=by rw[s3,dl (l:=gD) v7 d8 x.words _ (by omega) (by omega)];try omega
 have s5:(wk (aL gQ x.words (wk (wk (wk (wk k))))).2)=k+5+cD gD x.words:=by rw[s4,aQ (by omega) (by omega)];try omega
 have s6:(wk (wk (aL gQ x.words (wk (wk (wk (wk k))))).2))=k+6+cD gD x.words:=by rw[s5,aQ (by omega) (by omega)];try omega
 have s7:(wk (wk (wk (aL gQ x.words (wk (wk (wk (wk k))))).2)))=k+7+cD gD x.words:=by rw[s6,aQ (by omega) (by omega)];try omega
 have s8:(wk (wk (wk (wk (aL gQ x.words (wk (wk (wk (wk k))))).2))))=k+8+cD gD x.words:=by rw[s7,aQ (by omega) (by omega)];try omega
 have s9:(wk (wk (wk (wk (wk (aL gQ x.words (wk (wk (wk (wk k))))).2)))))=k+9+cD gD x.words:=by rw[s8,aQ (by omega) (by omega)];try omega
 have s10:(wk (wk (wk (wk (wk (wk (aL gQ x.words (wk (wk (wk (wk k))))).2))))))=k+10+cD gD x.words:=by rw[s9,aQ (by omega) (by omega)];try omega
 show (wk (wk (wk (wk (wk (wk (aL gQ x.words (wk (wk (wk (wk k))))).2))))))=_
 rw[s10];try omega
noncomputable def GateShape.mark (x:GateShape) (k:Int):GateShape×Int:=(⟨(mt k),(aL GateField.mark x.fields (wk k)).1⟩,(aL GateField.mark x.fields (wk k)).2)
noncomputable def GateShape.marks (x:GateShape) (k:Int):GateShape×Int:=(⟨x.kind,(aL GateField.mark x.fields k).1⟩,(aL GateField.mark x.fields k).2)
def GateShape.lv (x:GateShape):Int:=1+cD GateField.lv x.fields
def GateShape.el (x:GateShape):Int:=0+jC GateField.el x.fields
theorem GateShape.lv_nn (x:GateShape):0≤x.lv:=by
 have p0:=aZ GateField.lv_nn x.fields
 unfold GateShape.lv;omega
theorem GateShape.el_nn (x:GateShape):0≤x.el:=by
 have p0:=bG GateField.el_nn x.fields
 unfold GateShape.el;omega
theorem GateShape.lv_le (x:GateShape):x.lv≤32+32*x.el:=by
 have p0:=fB GateField.lv_le x.fields
 unfold GateShape.lv GateShape.el;omega
theorem GateShape.mark_val (x:GateShape) (k:Int) (h0:0≤k) (hB:k+(1+cD GateField.lv x.fields)≤1099511627776):(GateShape.mark x k).2=k+(1+cD GateField.lv x.fields):=by
 have p0:=aZ GateField.lv_nn x.fields
 have s0:(wk k)=k+1:=aQ (by omega) (by omega)
 have s1:(aL GateField.mark x.fields (wk k)).2=k+1+cD GateField.lv x.fields:=by rw[s0,dl (l:=GateField.lv) GateField.mark_val GateField.lv_nn x.fields _ (by omega) (by omega)];try omega
 show (aL GateField.mark x.fields (wk k)).2=_
 rw[s1];try omega
noncomputable def GateMend.mark (x:GateMend) (k:Int):GateMend×Int:=(⟨(mt k),(mt (wk k)),(mt (wk (wk k))),(mt (wk (wk (wk k)))),(mt (wk (wk (wk (wk k))))),(mt (wk (wk (wk (wk (wk k))))))⟩,(wk (wk (wk (wk (wk (wk k)))))))
noncomputable def GateMend.marks (x:GateMend) (k:Int):GateMend×Int:=(⟨x.kind,x.field,x.when_,x.is_,x.put,x.from_⟩,k)
def GateMend.lv (x:GateMend):Int:=6
def GateMend.el (x:GateMend):Int:=0
theorem GateMend.lv_nn (x:GateMend):0≤x.lv:=by
 unfold GateMend.lv;omega
theorem GateMend.el_nn (x:GateMend):0≤x.el:=by
 unfold GateMend.el;omega
theorem GateMend.lv_le (x:GateMend):x.lv≤32+32*x.el:=by
 unfold GateMend.lv GateMend.el;omega
theorem GateMend.mark_val (x:GateMend) (k:Int) (h0:0≤k) (hB:k+(6)≤1099511627776):(GateMend.mark x k).2=k+(6):=by
 have s0:(wk k)=k+1:=aQ (by omega) (by omega)
 have s1:(wk (wk k))=k+2:=by rw[s0,aQ (by omega) (by omega)];try omega
 have s2:(wk (wk (wk k)))=k+3:=by rw[s1,aQ (by omega) (by omega)];try omega
 have s3:(wk (wk (wk (wk k))))=k+4:=by rw[s2,aQ (by omega) (by omega)];try omega
 have s4:(wk (wk (wk (wk (wk k)))))=k+5:=by rw[s3,aQ (by omega) (by omega)];try omega
 have s5:(wk (wk (wk (wk (wk (wk k))))))=k+6:=by rw[s4,aQ (by omega) (by omega)];try omega
 show (wk (wk (wk (wk (wk (wk k))))))=_
 rw[s5];try omega
noncomputable def GateTeam.mark (x:GateTeam) (k:Int):GateTeam×Int:=(⟨(mt k),(mt (wk k))⟩,(wk (wk k)))
noncomputable def GateTeam.marks (x:GateTeam) (k:Int):GateTeam×Int:=(⟨x.name,x.over⟩,k)
def GateTeam.lv (x:GateTeam):Int:=2
def GateTeam.el (x:GateTeam):Int:=0
theorem GateTeam.lv_nn (x:GateTeam):0≤x.lv:=by
 unfold GateTeam.lv;omega
theorem GateTeam.el_nn (x:GateTeam):0≤x.el:=by
 unfold GateTeam.el;omega
theorem GateTeam.lv_le (x:GateTeam):x.lv≤32+32*x.el:=by
 unfold GateTeam.lv GateTeam.el;omega
theorem GateTeam.mark_val (x:GateTeam) (k:Int) (h0:0≤k) (hB:k+(2)≤1099511627776):(GateTeam.mark x k).2=k+(2):=by
 have s0:(wk k)=k+1:=aQ (by omega) (by omega)
 have s1:(wk (wk k))=k+2:=by rw[s0,aQ (by omega) (by omega)];try omega
 show (wk (wk k))=_
 rw[s1];try omega
noncomputable def GateLaw.mark (x:GateLaw) (k:Int):GateLaw×Int:=(⟨(aL GateShape.mark x.shapes k).1,(aL GateMend.mark x.mends (aL GateShape.mark x.shapes k).2).1,(aL GateTeam.mark x.teams (aL GateMend.mark x.mends (aL GateShape.mark x.shapes k).2).2).1⟩,(aL GateTeam.mark x.teams (aL GateMend.mark x.mends (aL GateShape.mark x.shapes k).2).2).2)
noncomputable def GateLaw.marks (x:GateLaw) (k:Int):GateLaw×Int:=(⟨(aL GateShape.mark x.shapes k).1,(aL GateMend.mark x.mends (aL GateShape.mark x.shapes k).2).1,(aL GateTeam.mark x.teams (aL GateMend.mark x.mends (aL GateShape.mark x.shapes k).2).2).1⟩,(aL GateTeam.mark x.teams (aL GateMend.mark x.mends (aL GateShape.mark x.shapes k).2).2).2)
def GateLaw.lv (x:GateLaw):Int:=0+cD GateShape.lv x.shapes+cD GateMend.lv x.mends+cD GateTeam.lv x.teams
def GateLaw.el (x:GateLaw):Int:=0+jC GateShape.el x.shapes+jC GateMend.el x.mends+jC GateTeam.el x.teams
theorem GateLaw.lv_nn (x:GateLaw):0≤x.lv:=by
 have p0:=aZ GateShape.lv_nn x.shapes
 have p1:=aZ GateMend.lv_nn x.mends
 have p2:=aZ GateTeam.lv_nn x.teams
 unfold GateLaw.lv;omega
theorem GateLaw.el_nn (x:GateLaw):0≤x.el:=by
 have p0:=bG GateShape.el_nn x.shapes
 have p1:=bG GateMend.el_nn x.mends
 have p2:=bG GateTeam.el_nn x.teams
 unfold GateLaw.el;omega
theorem GateLaw.lv_le (x:GateLaw):x.lv≤32+32*x.el:=by
 have p0:=fB GateShape.lv_le x.shapes
 have p1:=fB GateMend.lv_le x.mends
 have p2:=fB GateTeam.lv_le x.teams
 unfold GateLaw.lv GateLaw.el;omega
theorem GateLaw.marks_val (x:GateLaw) (k:Int) (h0:0≤k) (hB:k+(0+cD GateShape.lv x.shapes+cD GateMend.lv x.mends+cD GateTeam.lv x.teams)≤1099511627776):(GateLaw.marks x k).2=k+(0+cD GateShape.lv x.shapes+cD GateMend.lv x.mends+cD GateTeam.lv x.teams):=by
 have p0:=aZ GateShape.lv_nn x.shapes
 have p1:=aZ GateMend.lv_nn x.mends
 have p2:=aZ GateTeam.lv_nn x.teams
 have s0:(aL GateShape.mark x.shapes k).2=k+0+cD GateShape.lv x.shapes:=by rw[dl (l:=GateShape.lv) GateShape.mark_val GateShape.lv_nn x.shapes _ (by omega) (by omega)];try omega
 have s1:(aL GateMend.mark x.mends (aL GateShape.mark x.shapes k).2).2=k+0+cD GateShape.lv x.shapes+cD GateMend.lv x.mends:=by rw[s0,dl (l:=GateMend.lv) GateMend.mark_val GateMend.lv_nn x.mends _ (by omega) (by omega)];try omega
 have s2:(aL GateTeam.mark x.teams (aL GateMend.mark x.mends (aL GateShape.mark x.shapes k).2).2).2=k+0+cD GateShape.lv x.shapes+cD GateMend.lv x.mends+cD GateTeam.lv x.teams:=by rw[s1,dl (l:=GateTeam.lv) GateTeam.mark_val GateTeam.lv_nn x.teams _ (by omega) (by omega)];try omega
 show (aL GateTeam.mark x.teams (aL GateMend.mark x.mends (aL GateShape.mark x.shapes k).2).2).2=_
 rw[s2];try omega
noncomputable def GateObject.mark (x:GateObject) (k:Int):GateObject×Int:=(⟨(mt k),(mt (wk k)),(mt (wk (wk k))),(aL gQ x.values (wk (wk (wk k)))).1,(mb (aL gQ x.values (wk (wk (wk k)))).2),(aL gQ x.holds (wk (aL gQ x.values (wk (wk (wk k)))).2)).1,(mi (aL gQ x.holds (wk (aL gQ x.values (wk (wk (wk k)))).2)).2)⟩,(wk (aL gQ x.holds (wk (aL gQ x.values (wk (wk (wk k)))).2)).2))
noncomputable def GateObject.marks (x:GateObject) (k:Int):GateObject×Int:=(⟨x.kind,x.name,x.team,(aL gQ x.values k).1,x.ending,(aL gQ x.holds (aL gQ x.values k).2).1,x.version⟩,(aL gQ x.holds (aL gQ x.values k).2).2)
def GateObject.lv (x:GateObject):Int:=5+cD gD x.values+cD gD x.holds
def GateObject.el (x:GateObject):Int:=0+jC Bk x.values+jC Bk x.holds
theorem GateObject.lv_nn (x:GateObject):0≤x.lv:=by
 have p0:=aZ d8 x.values
 have p1:=aZ d8 x.holds
 unfold GateObject.lv;omega
theorem GateObject.el_nn (x:GateObject):0≤x.el:=by
 have p0:=bG im x.values
 have p1:=bG im x.holds
 unfold GateObject.el;omega
theorem GateObject.lv_le (x:GateObject):x.lv≤32+32*x.el:=by
 have p0:=fB v9 x.values
 have p1:=fB v9 x.holds
 unfold GateObject.lv GateObject.el;omega
theorem GateObject.mark_val (x:GateObject) (k:Int) (h0:0≤k) (hB:k+(5+cD gD x.values+cD gD x.holds)≤1099511627776):(GateObject.mark x k).2=k+(5+cD gD x.values+cD gD x.holds):=by
 have p0:=aZ d8 x.values
 have p1:=aZ d8 x.holds
 have s0:(wk k)=k+1:=aQ (by omega) (by omega)
 have s1:(wk (wk k))=k+2:=by rw[s0,aQ (by omega) (by omega)];try omega
 have s2:(wk (wk (wk k)))=k+3:=by rw[s1,aQ (by omega) (by omega)];try omega
 have s3:(aL gQ x.values (wk (wk (wk k)))).2=k+3+cD gD x.values:=by rw[s2,dl (l:=gD) v7 d8 x.values _ (by omega) (by omega)];try omega
 have s4:(wk (aL gQ x.values (wk (wk (wk k)))).2)=k+4+cD gD x.values:=by rw[s3,aQ (by omega) (by omega)];try omega
 have s5:(aL gQ x.holds (wk (aL gQ x.values (wk (wk (wk k)))).2)).2=k+4+cD gD x.values+cD gD x.holds:=by rw[s4,dl (l:=gD) v7 d8 x.holds _ (by omega) (by omega)];try omega
 have s6:(wk (aL gQ x.holds (wk (aL gQ x.values (wk (wk (wk k)))).2)).2)=k+5+cD gD x.values+cD gD x.holds:=by rw[s5,aQ (by omega) (by omega)];try omega
 show (wk (aL gQ x.holds (wk (aL gQ x.values (wk (wk (wk k)))).2)).2)=_
 rw[s6];try omega
noncomputable def GateRule.mark (x:GateRule) (k:Int):GateRule×Int:=(⟨(aL jB x.verbs k).1,(mt (aL jB x.verbs k).2),(mt (wk (aL jB x.verbs k).2)),(mt (wk (wk (aL jB x.verbs k).2)))⟩,(wk (wk (wk (aL jB x.verbs k).2))))
noncomputable def GateRule.marks (x:GateRule) (k:Int):GateRule×Int:=(⟨(aL jB x.verbs k).1,x.kind,x.team,x.prefix_⟩,(aL jB x.verbs k).2)
def GateRule.lv (x:GateRule):Int:=3+cD gD x.verbs
def GateRule.el (x:GateRule):Int:=0+jC Bk x.verbs
theorem GateRule.lv_nn (x:GateRule):0≤x.lv:=by
 have p0:=aZ d8 x.verbs
 unfold GateRule.lv;omega
theorem GateRule.el_nn (x:GateRule):0≤x.el:=by
 have p0:=bG im x.verbs
 unfold GateRule.el;omega
noncomputable def GateGrant.mark (x:GateGrant) (k:Int):GateGrant×Int:=(⟨(mi k),(mt (wk k)),(mt (wk (wk k))),⟨(aL jB x.rule.verbs (wk (wk (wk k)))).1,(mt (aL jB x.rule.verbs (wk (wk (wk k)))).2),(mt (wk (aL jB x.rule.verbs (wk (wk (wk k)))).2)),(mt (wk (wk (aL jB x.rule.verbs (wk (wk (wk k)))).2)))⟩⟩,(wk (wk (wk (aL jB x.rule.verbs (wk (wk (wk k)))).2))))
noncomputable def GateGrant.marks (x:GateGrant) (k:Int):GateGrant×Int:=(⟨x.number,x.to_,x.by_,⟨(aL jB x.rule.verbs k).1,x.rule.kind,x.rule.team,x.rule.prefix_⟩⟩,(aL jB x.rule.verbs k).2)
def GateGrant.lv (x:GateGrant):Int:=6+cD gD x.rule.verbs
def GateGrant.el (x:GateGrant):Int:=0+jC Bk x.rule.verbs
theorem GateGrant.lv_nn (x:GateGrant):0≤x.lv:=by
 have p0:=aZ d8 x.rule.verbs
 unfold GateGrant.lv;omega
theorem GateGrant.el_nn (x:GateGrant):0≤x.el:=by
 have p0:=bG im x.rule.verbs
 unfold GateGrant.el;omega
theorem GateGrant.lv_le (x:GateGrant):x.lv≤32+32*x.el:=by
 have p0:=fB v9 x.rule.verbs
 unfold GateGrant.lv GateGrant.el;omega
theorem GateGrant.mark_val (x:GateGrant) (k:Int) (h0:0≤k) (hB:k+(6+cD gD x.rule.verbs)≤1099511627776):(GateGrant.mark x k).2=k+(6+cD gD x.rule.verbs):=by
 have p0:=aZ d8 x.rule.verbs
 have s0:(wk k)=k+1:=aQ (by omega) (by omega)
 have s1:(wk (wk k))=k+2:=by rw[s0,aQ (by omega) (by omega)];try omega
 have s2:(wk (wk (wk k)))=k+3:=by rw[s1,aQ (by omega) (by omega)];try omega
 have s3:(aL jB x.rule.verbs (wk (wk (wk k)))).2=k+3+cD gD x.rule.verbs:=by rw[s2,dl (l:=gD) v6 d8 x.rule.verbs _ (by omega) (by omega)];try omega
 have s4:(wk (aL jB x.rule.verbs (wk (wk (wk k)))).2)=k+4+cD gD x.rule.verbs:=by rw[s3,aQ (by omega) (by omega)];try omega
 have s5:(wk (wk (aL jB x.rule.verbs (wk (wk (wk k)))).2))=k+5+cD gD x.rule.verbs:=by rw[s4,aQ (by omega) (by omega)];try omega
 have s6:(wk (wk (wk (aL jB x.rule.verbs (wk (wk (wk k)))).2)))=k+6+cD gD x.rule.verbs:=by rw[s5,aQ (by omega) (by omega)];try omega
 show (wk (wk (wk (aL jB x.rule.verbs (wk (wk (wk k)))).2)))=_
 rw[s6];try omega
noncomputable def GateLedger.mark (x:GateLedger) (k:Int):GateLedger×Int:=(⟨(mt k),(mt (wk k)),(mi (wk (wk k))),(mi (wk (wk (wk k))))⟩,(wk (wk (wk (wk k)))))
noncomputable def GateLedger.marks (x:GateLedger) (k:Int):GateLedger×Int:=(⟨x.team,x.resource,x.most,x.free⟩,k)
def GateLedger.lv (x:GateLedger):Int:=4
def GateLedger.el (x:GateLedger):Int:=0
theorem GateLedger.lv_nn (x:GateLedger):0≤x.lv:=by
 unfold GateLedger.lv;omega
theorem GateLedger.el_nn (x:GateLedger):0≤x.el:=by
 unfold GateLedger.el;omega
theorem GateLedger.lv_le (x:GateLedger):x.lv≤32+32*x.el:=by
 unfold GateLedger.lv GateLedger.el;omega
theorem GateLedger.mark_val (x:GateLedger) (k:Int) (h0:0≤k) (hB:k+(4)≤1099511627776):(GateLedger.mark x k).2=k+(4):=by
 have s0:(wk k)=k+1:=aQ (by omega) (by omega)
 have s1:(wk (wk k))=k+2:=by rw[s0,aQ (by omega) (by omega)];try omega
 have s2:(wk (wk (wk k)))=k+3:=by rw[s1,aQ (by omega) (by omega)];try omega
 have s3:(wk (wk (wk (wk k))))=k+4:=by rw[s2,aQ (by omega) (by omega)];try omega
 show (wk (wk (wk (wk k))))=_
 rw[s3];try omega
noncomputable def GatePurse.mark (x:GatePurse) (k:Int):GatePurse×Int:=(⟨(mt k),(mt (wk k)),(mt (wk (wk k))),(mi (wk (wk (wk k)))),(mi (wk (wk (wk (wk k)))))⟩,(wk (wk (wk (wk (wk k))))))
noncomputable def GatePurse.marks (x:GatePurse) (k:Int):GatePurse×Int:=(⟨x.door,x.team,x.resource,x.amount,x.until_⟩,k)
def GatePurse.lv (x:GatePurse):Int:=5
def GatePurse.el (x:GatePurse):Int:=0
theorem GatePurse.lv_nn (x:GatePurse):0≤x.lv:=by
 unfold GatePurse.lv;omega
theorem GatePurse.el_nn (x:GatePurse):0≤x.el:=by
 unfold GatePurse.el;omega
theorem GatePurse.lv_le (x:GatePurse):x.lv≤32+32*x.el:=by
 unfold GatePurse.lv GatePurse.el;omega
theorem GatePurse.mark_val (x:GatePurse) (k:Int) (h0:0≤k) (hB:k+(5)≤1099511627776):(GatePurse.mark x k).2=k+(5):=by
 have s0:(wk k)=k+1:=aQ (by omega) (by omega)
 have s1:(wk (wk k))=k+2:=by rw[s0,aQ (by omega) (by omega)];try omega
 have s2:(wk (wk (wk k)))=k+3:=by rw[s1,aQ (by omega) (by omega)];try omega
 have s3:(wk (wk (wk (wk k))))=k+4:=by rw[s2,aQ (by omega) (by omega)];try omega
 have s4:(wk (wk (wk (wk (wk k)))))=k+5:=by rw[s3,aQ (by omega) (by omega)];try omega
 show (wk (wk (wk (wk (wk k)))))=_
 rw[s4];try omega
noncomputable def GateBook.mark (x:GateBook) (k:Int):GateBook×Int:=(⟨(mi k),(mi (wk k)),(mi (wk (wk k))),(aL GateObject.mark x.objects (wk (wk (wk k)))).1,(aL GateGrant.mark x.grants (aL GateObject.mark x.objects (wk (wk (wk k)))).2).1,(aL GateLedger.mark x.ledgers (aL GateGrant.mark x.grants (aL GateObject.mark x.objects (wk (wk (wk k)))).2).2).1,(aL GatePurse.mark x.purses (aL GateLedger.mark x.ledgers (aL GateGrant.mark x.grants (aL GateObject.mark x.objects (wk (wk (wk k)))).2).2).2).1⟩,(aL GatePurse.mark x.purses (aL GateLedger.mark x.ledgers (aL GateGrant.mark x.grants (aL GateObject.mark x.objects (wk (wk (wk k)))).2).2).2).2)
noncomputable def GateBook.marks (x:GateBook) (k:Int):GateBook×Int:=(⟨x.now,x.tick,x.given,(aL GateObject.mark x.objects k).1,(aL GateGrant.mark x.grants (aL GateObject.mark x.objects k).2).1,(aL GateLedger.mark x.ledgers (aL GateGrant.mark x.grants (aL GateObject.mark x.objects k).2).2).1,(aL GatePurse.mark x.purses (aL GateLedger.mark x.ledgers (aL GateGrant.mark x.grants (aL GateObject.mark x.objects k).2).2).2).1⟩,(aL GatePurse.mark x.purses (aL GateLedger.mark x.ledgers (aL GateGrant.mark x.grants (aL GateObject.mark x.objects k).2).2).2).2)
def GateBook.lv (x:GateBook):Int:=3+cD GateObject.lv x.objects+cD GateGrant.lv x.grants+cD GateLedger.lv x.ledgers+cD GatePurse.lv x.purses
def GateBook.el (x:GateBook):Int:=0+jC GateObject.el x.objects+jC GateGrant.el x.grants+jC GateLedger.el x.ledgers+jC GatePurse.el x.purses
theorem GateBook.lv_nn (x:GateBook):0≤x.lv:=by
 have p0:=aZ GateObject.lv_nn x.objects
 have p1:=aZ GateGrant.lv_nn x.grants
 have p2:=aZ GateLedger.lv_nn x.ledgers
 have p3:=aZ GatePurse.lv_nn x.purses
 unfold GateBook.lv;omega
theorem GateBook.el_nn (x:GateBook):0≤x.el:=by
 have p0:=bG GateObject.el_nn x.objects
 have p1:=bG GateGrant.el_nn x.grants
 have p2:=bG GateLedger.el_nn x.ledgers
 have p3:=bG GatePurse.el_nn x.purses
 unfold GateBook.el;omega
theorem GateBook.lv_le (x:GateBook):x.lv≤32+32*x.el:=by
 have p0:=fB GateObject.lv_le x.objects
 have p1:=fB GateGrant.lv_le x.grants
 have p2:=fB GateLedger.lv_le x.ledgers
 have p3:=fB GatePurse.lv_le x.purses
 unfold GateBook.lv GateBook.el;omega
theorem GateBook.marks_val (x:GateBook) (k:Int) (h0:0≤k) (hB:k+(0+cD GateObject.lv x.objects+cD GateGrant.lv x.grants+cD GateLedger.lv x.ledgers+cD GatePurse.lv x.purses)≤1099511627776):(GateBook.marks x k).2=k+(0+cD GateObject.lv x.objects+cD GateGrant.lv x.grants+cD GateLedger.lv x.ledgers+cD GatePurse.lv x.purses):=by
 have p0:=aZ GateObject.lv_nn x.objects
 have p1:=aZ GateGrant.lv_nn x.grants
 have p2:=aZ GateLedger.lv_nn x.ledgers
 have p3:=aZ GatePurse.lv_nn x.purses
 have s0:(aL GateObject.mark x.objects k).2=k+0+cD GateObject.lv x.objects:=by rw[dl (l:=GateObject.lv) GateObject.mark_val GateObject.lv_nn x.objects _ (by omega) (by omega)];try omega
 have s1:(aL GateGrant.mark x.grants (aL GateObject.mark x.objects k).2).2=k+0+cD GateObject.lv x.objects+cD GateGrant.lv x.grants:=by rw[s0,dl (l:=GateGrant.lv) GateGrant.mark_val GateGrant.lv_nn x.grants _ (by omega) (by omega)];try omega
 have s2:(aL GateLedger.mark x.ledgers (aL GateGrant.mark x.grants (aL GateObject.mark x.objects k).2).2).2=k+0+cD GateObject.lv x.objects+cD GateGrant.lv x.grants+cD GateLedger.lv x.ledgers:=by rw[s1,dl (l:=GateLedger.lv) GateLedger.mark_val GateLedger.lv_nn x.ledgers _ (by omega) (by omega)];try omega
 have s3:(aL GatePurse.mark x.purses (aL GateLedger.mark x.ledgers (aL GateGrant.mark x.grants (aL GateObject.mark x.objects k).2).2).2).2=k+0+cD GateObject.lv x.objects+cD GateGrant.lv x.grants+cD GateLedger.lv x.ledgers+cD GatePurse.lv x.purses:=by rw[s2,dl (l:=GatePurse.lv) GatePurse.mark_val GatePurse.lv_nn x.purses _ (by omega) (by omega)];try omega
 show (aL GatePurse.mark x.purses (aL GateLedger.mark x.ledgers (aL GateGrant.mark x.grants (aL GateObject.mark x.objects k).2).2).2).2=_
 rw[s3];try omega
end Go.Vc
end
section
namespace Go.Vc
open Go.Proofs
set_option maxRecDepth 100000
set_option maxHeartbeats 8000000 in
theorem ja (xs:List Bs) (k:Int):FSpec P 138 [.own 0,.d (.int .i64 k)] ⟨[(0,.tree 9 1 [.leaf] (xs.map eB))],1,1⟩ (.d (.int .i64 (aL gQ xs k).2)) ⟨[(0,.tree 9 1 [.leaf] ((aL gQ xs k).1.map eB))],1,1⟩:=by
 refine FSpec.of_vc da aw [.tmp 4] Tryz.func138 rfl rfl rfl rfl rfl (fun hok hob=>?_)
 have hs:xs.length≤big:=by have:=(hob 0 _ rfl).1;rwa [List.length_map] at this
 repeat refine ai ?_
 refine ⟨fun m l h=>∃i:Nat,m=xs.length - i∧i≤xs.length∧l=[(0,.own 0),(1,.d (.int .i64 (mX gQ xs k i))),(5,.d (.int .i64 i))]∧h=⟨[(0,.tree 9 1 [.leaf] (t9 gQ eB xs k i))],1,1⟩,
  ⟨_,_,_,⟨0,rfl,Nat.zero_le _,rfl,rfl⟩,rfl,rfl,⟨rfl,rfl,rfl,trivial⟩,⟨rfl,trivial⟩,⟨rfl,trivial⟩⟩,?_⟩
 rintro m l h1 ⟨i,rfl,hi,rfl,rfl⟩
 refine aj ?_ ?_<;>intro h1
 ·have hlt:i<xs.length:=by
   have:=of_decide_eq_true h1
   rw[bW _ hi] at this;omega
  repeat' first
   |refine ai ?_
   |refine aj (Int.natCast_nonneg _) (aj (Int.ofNat_lt.2 (by (try simp only[List.length_set]);exact bf hlt)) ?_)
   |refine Exists.intro _ (aj (aP hlt) (aj (Nat.le_of_ble_eq_true rfl) ?_))
   |refine Exists.intro _ (aj (gp (by (try simp only[List.length_set]);exact bf hlt)) (aj (Nat.le_of_ble_eq_true rfl) ?_))
   |refine Exists.intro _ (aj (aP hlt) (aj rfl ?_))
   |refine aj (show (3:Int)≠0 by decide) ?_
   |refine Or.inl (Exists.intro _ (aj (qH _) ?_))
   |refine Exists.intro _ (aj (aP hlt) ?_)
   |refine Exists.intro _ (aj (gp (by (try simp only[List.length_set]);exact bf hlt)) ?_)
  refine ⟨_,_,_,⟨i+1,rfl,hlt,rfl,rfl⟩,by omega,rfl,rfl,⟨rfl,nd (dO (f:=gQ) hlt k),nd (Z hlt hs),trivial⟩,⟨rfl,trivial⟩,⟨?_,trivial⟩⟩
  refine congrArg some (congrArg (AO.tree _ _ _) ?_)
  try simp only[List.set_set]
  exact er hlt rfl
 ·have hge:xs.length≤i:=by
   have:=of_decide_eq_false h1
   rw[bW _ hi] at this;omega
  refine aj (nd (fh hge)) (aj rfl (aj rfl (aj rfl (aj trivial (aj ⟨rfl,trivial⟩ ⟨?_,trivial⟩)))))
  exact congrArg some (congrArg (AO.tree _ _ _) (fL hge))
set_option maxHeartbeats 8000000 in
theorem vZ (xs:List Int) (k:Int):FSpec P 22 [.own 0,.d (.int .i64 k)] ⟨[(0,.tree 3 1 [.leaf] (xs.map eN))],1,1⟩ (.d (.int .i64 (aL jB xs k).2)) ⟨[(0,.tree 3 1 [.leaf] ((aL jB xs k).1.map eN))],1,1⟩:=by
 refine FSpec.of_vc da aw [.tmp 4] Tryz.func22 rfl rfl rfl rfl rfl (fun hok hob=>?_)
 have hs:xs.length≤big:=by have:=(hob 0 _ rfl).1;rwa [List.length_map] at this
 repeat refine ai ?_
 refine ⟨fun m l h=>∃i:Nat,m=xs.length - i∧i≤xs.length∧l=[(0,.own 0),(1,.d (.int .i64 (mX jB xs k i))),(5,.d (.int .i64 i))]∧h=⟨[(0,.tree 3 1 [.leaf] (t9 jB eN xs k i))],1,1⟩,
  ⟨_,_,_,⟨0,rfl,Nat.zero_le _,rfl,rfl⟩,rfl,rfl,⟨rfl,rfl,rfl,trivial⟩,⟨rfl,trivial⟩,⟨rfl,trivial⟩⟩,?_⟩
 rintro m l h1 ⟨i,rfl,hi,rfl,rfl⟩
 refine aj ?_ ?_<;>intro h1
 ·have hlt:i<xs.length:=by
   have:=of_decide_eq_true h1
   rw[bW _ hi] at this;omega
  repeat' first
   |refine ai ?_
   |refine aj (Int.natCast_nonneg _) (aj (Int.ofNat_lt.2 (by (try simp only[List.length_set]);exact bf hlt)) ?_)
   |refine Exists.intro _ (aj (aP hlt) (aj (Nat.le_of_ble_eq_true rfl) ?_))
   |refine Exists.intro _ (aj (gp (by (try simp only[List.length_set]);exact bf hlt)) (aj (Nat.le_of_ble_eq_true rfl) ?_))
   |refine Exists.intro _ (aj (aP hlt) (aj rfl ?_))
   |refine aj (show (3:Int)≠0 by decide) ?_
   |refine Or.inl (Exists.intro _ (aj (qH _) ?_))
   |refine Exists.intro _ (aj (aP hlt) ?_)
   |refine Exists.intro _ (aj (gp (by (try simp only[List.length_set]);exact bf hlt)) ?_)
  refine ⟨_,_,_,⟨i+1,rfl,hlt,rfl,rfl⟩,by omega,rfl,rfl,⟨rfl,nd (dO (f:=jB) hlt k),nd (Z hlt hs),trivial⟩,⟨rfl,trivial⟩,⟨?_,trivial⟩⟩
  refine congrArg some (congrArg (AO.tree _ _ _) ?_)
  try simp only[List.set_set]
  exact er hlt rfl
 ·have hge:xs.length≤i:=by
   have:=of_decide_eq_false h1
   rw[bW _ hi] at this;omega
  refine aj (nd (fh hge)) (aj rfl (aj rfl (aj rfl (aj trivial (aj ⟨rfl,trivial⟩ ⟨?_,trivial⟩)))))
  exact congrArg some (congrArg (AO.tree _ _ _) (fL hge))
set_option maxHeartbeats 8000000 in
theorem kT (xs:List GateField) (k:Int):FSpec P 137 [.own 0,.d (.int .i64 k)] ⟨[(0,.tree 138 11 GateField.n (xs.map GateField.e))],1,1⟩ (.d (.int .i64 (aL GateField.mark xs k).2)) ⟨[(0,.tree 138 11 GateField.n ((aL GateField.mark xs k).1.map GateField.e))],1,1⟩:=by
 refine FSpec.of_vc da aw [.tmp 4] Tryz.func137 rfl rfl rfl rfl rfl (fun hok hob=>?_)
 have hs:xs.length≤big:=by have:=(hob 0 _ rfl).1;rwa [List.length_map] at this
 repeat refine ai ?_
 refine ⟨fun m l h=>∃i:Nat,m=xs.length - i∧i≤xs.length∧l=[(0,.own 0),(1,.d (.int .i64 (mX GateField.mark xs k i))),(5,.d (.int .i64 i))]∧h=⟨[(0,.tree 138 11 GateField.n (t9 GateField.mark GateField.e xs k i))],1,1⟩,
  ⟨_,_,_,⟨0,rfl,Nat.zero_le _,rfl,rfl⟩,rfl,rfl,⟨rfl,rfl,rfl,trivial⟩,⟨rfl,trivial⟩,⟨rfl,trivial⟩⟩,?_⟩
 rintro m l h1 ⟨i,rfl,hi,rfl,rfl⟩
 refine aj ?_ ?_<;>intro h1
 ·have hlt:i<xs.length:=by
   have:=of_decide_eq_true h1
   rw[bW _ hi] at this;omega
  repeat' first
   |refine ai ?_
   |refine aj (Int.natCast_nonneg _) (aj (Int.ofNat_lt.2 (by (try simp only[List.length_set]);exact bf hlt)) ?_)
   |refine Exists.intro _ (aj (aP hlt) (aj (Nat.le_of_ble_eq_true rfl) ?_))
   |refine Exists.intro _ (aj (gp (by (try simp only[List.length_set]);exact bf hlt)) (aj (Nat.le_of_ble_eq_true rfl) ?_))
   |refine Exists.intro _ (aj (aP hlt) (aj rfl ?_))
   |refine aj (show (3:Int)≠0 by decide) ?_
   |refine Or.inl (Exists.intro _ (aj (qH _) ?_))
   |refine Or.inr (Or.inr (Or.inr (Or.inr (Or.inr (Or.inr (Or.inr (Or.inr (aj rfl (Exists.intro _ (Exists.intro _ (aj (gp (by (try simp only[List.length_set]);exact bf hlt)) (aj rfl (Exists.intro _ (Exists.intro _ (aj rfl (aj (ja _ _) (Exists.intro _ (aj rfl ?_))))))))))))))))))
   |refine Or.inr (Or.inr (Or.inr (Or.inr (Or.inr (Or.inr (Or.inr (Or.inr (aj rfl (Exists.intro _ (Exists.intro _ (aj (aP hlt) (aj rfl (Exists.intro _ (Exists.intro _ (aj rfl (aj (ja _ _) (Exists.intro _ (aj rfl ?_))))))))))))))))))
   |refine Exists.intro _ (aj (aP hlt) ?_)
   |refine Exists.intro _ (aj (gp (by (try simp only[List.length_set]);exact bf hlt)) ?_)
  refine ⟨_,_,_,⟨i+1,rfl,hlt,rfl,rfl⟩,by omega,rfl,rfl,⟨rfl,nd (dO (f:=GateField.mark) hlt k),nd (Z hlt hs),trivial⟩,⟨rfl,trivial⟩,⟨?_,trivial⟩⟩
  refine congrArg some (congrArg (AO.tree _ _ _) ?_)
  try simp only[List.set_set]
  exact er hlt rfl
 ·have hge:xs.length≤i:=by
   have:=of_decide_eq_false h1
   rw[bW _ hi] at this;omega
  refine aj (nd (fh hge)) (aj rfl (aj rfl (aj rfl (aj trivial (aj ⟨rfl,trivial⟩ ⟨?_,trivial⟩)))))
  exact congrArg some (congrArg (AO.tree _ _ _) (fL hge))
set_option maxHeartbeats 8000000 in
theorem sX (xs:List GateShape) (k:Int):FSpec P 64 [.own 0,.d (.int .i64 k)] ⟨[(0,.tree 164 2 GateShape.n (xs.map GateShape.e))],1,1⟩ (.d (.int .i64 (aL GateShape.mark xs k).2)) ⟨[(0,.tree 164 2 GateShape.n ((aL GateShape.mark xs k).1.map GateShape.e))],1,1⟩:=by
 refine FSpec.of_vc da aw [.tmp 4] Tryz.func64 rfl rfl rfl rfl rfl (fun hok hob=>?_)
 have hs:xs.length≤big:=by have:=(hob 0 _ rfl).1;rwa [List.length_map] at this
 repeat refine ai ?_
 refine ⟨fun m l h=>∃i:Nat,m=xs.length - i∧i≤xs.length∧l=[(0,.own 0),(1,.d (.int .i64 (mX GateShape.mark xs k i))),(5,.d (.int .i64 i))]∧h=⟨[(0,.tree 164 2 GateShape.n (t9 GateShape.mark GateShape.e xs k i))],1,1⟩,
  ⟨_,_,_,⟨0,rfl,Nat.zero_le _,rfl,rfl⟩,rfl,rfl,⟨rfl,rfl,rfl,trivial⟩,⟨rfl,trivial⟩,⟨rfl,trivial⟩⟩,?_⟩
 rintro m l h1 ⟨i,rfl,hi,rfl,rfl⟩
 refine aj ?_ ?_<;>intro h1
 ·have hlt:i<xs.length:=by
   have:=of_decide_eq_true h1
   rw[bW _ hi] at this;omega
  repeat' first
   |refine ai ?_
   |refine aj (Int.natCast_nonneg _) (aj (Int.ofNat_lt.2 (by (try simp only[List.length_set]);exact bf hlt)) ?_)
   |refine Exists.intro _ (aj (aP hlt) (aj (Nat.le_of_ble_eq_true rfl) ?_))
   |refine Exists.intro _ (aj (gp (by (try simp only[List.length_set]);exact bf hlt)) (aj (Nat.le_of_ble_eq_true rfl) ?_))
   |refine Exists.intro _ (aj (aP hlt) (aj rfl ?_))
   |refine aj (show (3:Int)≠0 by decide) ?_
   |refine Or.inl (Exists.intro _ (aj (qH _) ?_))
   |refine Or.inr (Or.inr (Or.inr (Or.inr (Or.inr (Or.inr (Or.inr (Or.inr (aj rfl (Exists.intro _ (Exists.intro _ (aj (gp (by (try simp only[List.length_set]);exact bf hlt)) (aj rfl (Exists.intro _ (Exists.intro _ (aj rfl (aj (kT _ _) (Exists.intro _ (aj rfl ?_))))))))))))))))))
   |refine Or.inr (Or.inr (Or.inr (Or.inr (Or.inr (Or.inr (Or.inr (Or.inr (aj rfl (Exists.intro _ (Exists.intro _ (aj (aP hlt) (aj rfl (Exists.intro _ (Exists.intro _ (aj rfl (aj (kT _ _) (Exists.intro _ (aj rfl ?_))))))))))))))))))
   |refine Exists.intro _ (aj (aP hlt) ?_)
   |refine Exists.intro _ (aj (gp (by (try simp only[List.length_set]);exact bf hlt)) ?_)
  refine ⟨_,_,_,⟨i+1,rfl,hlt,rfl,rfl⟩,by omega,rfl,rfl,⟨rfl,nd (dO (f:=GateShape.mark) hlt k),nd (Z hlt hs),trivial⟩,⟨rfl,trivial⟩,⟨?_,trivial⟩⟩
  refine congrArg some (congrArg (AO.tree _ _ _) ?_)
  try simp only[List.set_set]
  exact er hlt rfl
 ·have hge:xs.length≤i:=by
   have:=of_decide_eq_false h1
   rw[bW _ hi] at this;omega
  refine aj (nd (fh hge)) (aj rfl (aj rfl (aj rfl (aj trivial (aj ⟨rfl,trivial⟩ ⟨?_,trivial⟩)))))
  exact congrArg some (congrArg (AO.tree _ _ _) (fL hge))
set_option maxHeartbeats 8000000 in
theorem v4 (xs:List GateMend) (k:Int):FSpec P 65 [.own 0,.d (.int .i64 k)] ⟨[(0,.tree 166 6 GateMend.n (xs.map GateMend.e))],1,1⟩ (.d (.int .i64 (aL GateMend.mark xs k).2)) ⟨[(0,.tree 166 6 GateMend.n ((aL GateMend.mark xs k).1.map GateMend.e))],1,1⟩:=by
 refine FSpec.of_vc da aw [.tmp 4] Tryz.func65 rfl rfl rfl rfl rfl (fun hok hob=>?_)
 have hs:xs.length≤big:=by have:=(hob 0 _ rfl).1;rwa [List.length_map] at this
 repeat refine ai ?_
 refine ⟨fun m l h=>∃i:Nat,m=xs.length - i∧i≤xs.length∧l=[(0,.own 0),(1,.d (.int .i64 (mX GateMend.mark xs k i))),(5,.d (.int .i64 i))]∧h=⟨[(0,.tree 166 6 GateMend.n (t9 GateMend.mark GateMend.e xs k i))],1,1⟩,
  ⟨_,_,_,⟨0,rfl,Nat.zero_le _,rfl,rfl⟩,rfl,rfl,⟨rfl,rfl,rfl,trivial⟩,⟨rfl,trivial⟩,⟨rfl,trivial⟩⟩,?_⟩
 rintro m l h1 ⟨i,rfl,hi,rfl,rfl⟩
 refine aj ?_ ?_<;>intro h1
 ·have hlt:i<xs.length:=by
   have:=of_decide_eq_true h1
   rw[bW _ hi] at this;omega
  repeat' first
   |refine ai ?_
   |refine aj (Int.natCast_nonneg _) (aj (Int.ofNat_lt.2 (by (try simp only[List.length_set]);exact bf hlt)) ?_)
   |refine Exists.intro _ (aj (aP hlt) (aj (Nat.le_of_ble_eq_true rfl) ?_))
   |refine Exists.intro _ (aj (gp (by (try simp only[List.length_set]);exact bf hlt)) (aj (Nat.le_of_ble_eq_true rfl) ?_))
   |refine Exists.intro _ (aj (aP hlt) (aj rfl ?_))
   |refine aj (show (3:Int)≠0 by decide) ?_
   |refine Or.inl (Exists.intro _ (aj (qH _) ?_))
   |refine Exists.intro _ (aj (aP hlt) ?_)
   |refine Exists.intro _ (aj (gp (by (try simp only[List.length_set]);exact bf hlt)) ?_)
  refine ⟨_,_,_,⟨i+1,rfl,hlt,rfl,rfl⟩,by omega,rfl,rfl,⟨rfl,nd (dO (f:=GateMend.mark) hlt k),nd (Z hlt hs),trivial⟩,⟨rfl,trivial⟩,⟨?_,trivial⟩⟩
  refine congrArg some (congrArg (AO.tree _ _ _) ?_)
  try simp only[List.set_set]
  exact er hlt rfl
 ·have hge:xs.length≤i:=by
   have:=of_decide_eq_false h1
   rw[bW _ hi] at this;omega
  refine aj (nd (fh hge)) (aj rfl (aj rfl (aj rfl (aj trivial (aj ⟨rfl,trivial⟩ ⟨?_,trivial⟩)))))
  exact congrArg some (congrArg (AO.tree _ _ _) (fL hge))
set_option maxHeartbeats 8000000 in
theorem v3 (xs:List GateTeam) (k:Int):FSpec P 66 [.own 0,.d (.int .i64 k)] ⟨[(0,.tree 168 2 GateTeam.n (xs.map GateTeam.e))],1,1⟩ (.d (.int .i64 (aL GateTeam.mark xs k).2)) ⟨[(0,.tree 168 2 GateTeam.n ((aL GateTeam.mark xs k).1.map GateTeam.e))],1,1⟩:=by
 refine FSpec.of_vc da aw [.tmp 4] Tryz.func66 rfl rfl rfl rfl rfl (fun hok hob=>?_)
 have hs:xs.length≤big:=by have:=(hob 0 _ rfl).1;rwa [List.length_map] at this
 repeat refine ai ?_
 refine ⟨fun m l h=>∃i:Nat,m=xs.length - i∧i≤xs.length∧l=[(0,.own 0),(1,.d (.int .i64 (mX GateTeam.mark xs k i))),(5,.d (.int .i64 i))]∧h=⟨[(0,.tree 168 2 GateTeam.n (t9 GateTeam.mark GateTeam.e xs k i))],1,1⟩,
  ⟨_,_,_,⟨0,rfl,Nat.zero_le _,rfl,rfl⟩,rfl,rfl,⟨rfl,rfl,rfl,trivial⟩,⟨rfl,trivial⟩,⟨rfl,trivial⟩⟩,?_⟩
 rintro m l h1 ⟨i,rfl,hi,rfl,rfl⟩
 refine aj ?_ ?_<;>intro h1
 ·have hlt:i<xs.length:=by
   have:=of_decide_eq_true h1
   rw[bW _ hi] at this;omega
  repeat' first
   |refine ai ?_
   |refine aj (Int.natCast_nonneg _) (aj (Int.ofNat_lt.2 (by (try simp only[List.length_set]);exact bf hlt)) ?_)
   |refine Exists.intro _ (aj (aP hlt) (aj (Nat.le_of_ble_eq_true rfl) ?_))
   |refine Exists.intro _ (aj (gp (by (try simp only[List.length_set]);exact bf hlt)) (aj (Nat.le_of_ble_eq_true rfl) ?_))
   |refine Exists.intro _ (aj (aP hlt) (aj rfl ?_))
   |refine aj (show (3:Int)≠0 by decide) ?_
   |refine Or.inl (Exists.intro _ (aj (qH _) ?_))
   |refine Exists.intro _ (aj (aP hlt) ?_)
   |refine Exists.intro _ (aj (gp (by (try simp only[List.length_set]);exact bf hlt)) ?_)
  refine ⟨_,_,_,⟨i+1,rfl,hlt,rfl,rfl⟩,by omega,rfl,rfl,⟨rfl,nd (dO (f:=GateTeam.mark) hlt k),nd (Z hlt hs),trivial⟩,⟨rfl,trivial⟩,⟨?_,trivial⟩⟩
  refine congrArg some (congrArg (AO.tree _ _ _) ?_)
  try simp only[List.set_set]
  exact er hlt rfl
 ·have hge:xs.length≤i:=by
   have:=of_decide_eq_false h1
   rw[bW _ hi] at this;omega
  refine aj (nd (fh hge)) (aj rfl (aj rfl (aj rfl (aj trivial (aj ⟨rfl,trivial⟩ ⟨?_,trivial⟩)))))
  exact congrArg some (congrArg (AO.tree _ _ _) (fL hge))
set_option maxHeartbeats 8000000 in
theorem zF (x:GateLaw) (k:Int):FSpec P 20 [.agg x.a,.d (.int .i64 k)] ⟨x.o,3,3⟩ (.d (.int .i64 (GateLaw.marks x k).2)) ⟨(GateLaw.marks x k).1.o,3,3⟩:=by
 refine FSpec.of_vc da aw [.tmp 4] Tryz.func20 rfl rfl rfl rfl rfl (fun hok hob=>?_)
 repeat refine ai ?_
 refine om [0] none (sX _ _) ?_
 repeat refine ai ?_
 refine om [1] none (v4 _ _) ?_
 repeat refine ai ?_
 refine om [2] none (v3 _ _) ?_
 repeat refine ai ?_
 repeat' first|exact rfl|exact trivial|refine aj ?_ ?_
set_option maxHeartbeats 8000000 in
theorem rg (xs:List GateObject) (k:Int):FSpec P 67 [.own 0,.d (.int .i64 k)] ⟨[(0,.tree 103 7 GateObject.n (xs.map GateObject.e))],1,1⟩ (.d (.int .i64 (aL GateObject.mark xs k).2)) ⟨[(0,.tree 103 7 GateObject.n ((aL GateObject.mark xs k).1.map GateObject.e))],1,1⟩:=by
 refine FSpec.of_vc da aw [.tmp 4] Tryz.func67 rfl rfl rfl rfl rfl (fun hok hob=>?_)
 have hs:xs.length≤big:=by have:=(hob 0 _ rfl).1;rwa [List.length_map] at this
 repeat refine ai ?_
 refine ⟨fun m l h=>∃i:Nat,m=xs.length - i∧i≤xs.length∧l=[(0,.own 0),(1,.d (.int .i64 (mX GateObject.mark xs k i))),(5,.d (.int .i64 i))]∧h=⟨[(0,.tree 103 7 GateObject.n (t9 GateObject.mark GateObject.e xs k i))],1,1⟩,
  ⟨_,_,_,⟨0,rfl,Nat.zero_le _,rfl,rfl⟩,rfl,rfl,⟨rfl,rfl,rfl,trivial⟩,⟨rfl,trivial⟩,⟨rfl,trivial⟩⟩,?_⟩
 rintro m l h1 ⟨i,rfl,hi,rfl,rfl⟩
 refine aj ?_ ?_<;>intro h1
 ·have hlt:i<xs.length:=by
   have:=of_decide_eq_true h1
   rw[bW _ hi] at this;omega
  repeat' first
   |refine ai ?_
   |refine aj (Int.natCast_nonneg _) (aj (Int.ofNat_lt.2 (by (try simp only[List.length_set]);exact bf hlt)) ?_)
   |refine Exists.intro _ (aj (aP hlt) (aj (Nat.le_of_ble_eq_true rfl) ?_))
   |refine Exists.intro _ (aj (gp (by (try simp only[List.length_set]);exact bf hlt)) (aj (Nat.le_of_ble_eq_true rfl) ?_))
   |refine Exists.intro _ (aj (aP hlt) (aj rfl ?_))
   |refine aj (show (3:Int)≠0 by decide) ?_
   |refine Or.inl (Exists.intro _ (aj (qH _) ?_))
   |refine Or.inr (Or.inr (Or.inr (Or.inr (Or.inr (Or.inr (Or.inr (Or.inr (aj rfl (Exists.intro _ (Exists.intro _ (aj (gp (by (try simp only[List.length_set]);exact bf hlt)) (aj rfl (Exists.intro _ (Exists.intro _ (aj rfl (aj (ja _ _) (Exists.intro _ (aj rfl ?_))))))))))))))))))
   |refine Or.inr (Or.inr (Or.inr (Or.inr (Or.inr (Or.inr (Or.inr (Or.inr (aj rfl (Exists.intro _ (Exists.intro _ (aj (aP hlt) (aj rfl (Exists.intro _ (Exists.intro _ (aj rfl (aj (ja _ _) (Exists.intro _ (aj rfl ?_))))))))))))))))))
   |refine Exists.intro _ (aj (aP hlt) ?_)
   |refine Exists.intro _ (aj (gp (by (try simp only[List.length_set]);exact bf hlt)) ?_)
  refine ⟨_,_,_,⟨i+1,rfl,hlt,rfl,rfl⟩,by omega,rfl,rfl,⟨rfl,nd (dO (f:=GateObject.mark) hlt k),nd (Z hlt hs),trivial⟩,⟨rfl,trivial⟩,⟨?_,trivial⟩⟩
  refine congrArg some (congrArg (AO.tree _ _ _) ?_)
  try simp only[List.set_set]
  exact er hlt rfl
 ·have hge:xs.length≤i:=by
   have:=of_decide_eq_false h1
   rw[bW _ hi] at this;omega
  refine aj (nd (fh hge)) (aj rfl (aj rfl (aj rfl (aj trivial (aj ⟨rfl,trivial⟩ ⟨?_,trivial⟩)))))
  exact congrArg some (congrArg (AO.tree _ _ _) (fL hge))
set_option maxHeartbeats 8000000 in
theorem sZ (xs:List GateGrant) (k:Int):FSpec P 68 [.own 0,.d (.int .i64 k)] ⟨[(0,.tree 173 7 GateGrant.n (xs.map GateGrant.e))],1,1⟩ (.d (.int .i64 (aL GateGrant.mark xs k).2)) ⟨[(0,.tree 173 7 GateGrant.n ((aL GateGrant.mark xs k).1.map GateGrant.e))],1,1⟩:=by
 refine FSpec.of_vc da aw [.tmp 4] Tryz.func68 rfl rfl rfl rfl rfl (fun hok hob=>?_)
 have hs:xs.length≤big:=by have:=(hob 0 _ rfl).1;rwa [List.length_map] at this
 repeat refine ai ?_
 refine ⟨fun m l h=>∃i:Nat,m=xs.length - i∧i≤xs.length∧l=[(0,.own 0),(1,.d (.int .i64 (mX GateGrant.mark xs k i))),(5,.d (.int .i64 i))]∧h=⟨[(0,.tree 173 7 GateGrant.n (t9 GateGrant.mark GateGrant.e xs k i))],1,1⟩,
  ⟨_,_,_,⟨0,rfl,Nat.zero_le _,rfl,rfl⟩,rfl,rfl,⟨rfl,rfl,rfl,trivial⟩,⟨rfl,trivial⟩,⟨rfl,trivial⟩⟩,?_⟩
 rintro m l h1 ⟨i,rfl,hi,rfl,rfl⟩
 refine aj ?_ ?_<;>intro h1
 ·have hlt:i<xs.length:=by
   have:=of_decide_eq_true h1
   rw[bW _ hi] at this;omega
  repeat' first
   |refine ai ?_
   |refine aj (Int.natCast_nonneg _) (aj (Int.ofNat_lt.2 (by (try simp only[List.length_set]);exact bf hlt)) ?_)
   |refine Exists.intro _ (aj (aP hlt) (aj (Nat.le_of_ble_eq_true rfl) ?_))
   |refine Exists.intro _ (aj (gp (by (try simp only[List.length_set]);exact bf hlt)) (aj (Nat.le_of_ble_eq_true rfl) ?_))
   |refine Exists.intro _ (aj (aP hlt) (aj rfl ?_))
   |refine aj (show (3:Int)≠0 by decide) ?_
   |refine Or.inl (Exists.intro _ (aj (qH _) ?_))
   |refine Or.inr (Or.inr (Or.inr (Or.inr (Or.inr (Or.inr (Or.inr (Or.inr (aj rfl (Exists.intro _ (Exists.intro _ (aj (gp (by (try simp only[List.length_set]);exact bf hlt)) (aj rfl (Exists.intro _ (Exists.intro _ (aj rfl (aj (vZ _ _) (Exists.intro _ (aj rfl ?_))))))))))))))))))
   |refine Or.inr (Or.inr (Or.inr (Or.inr (Or.inr (Or.inr (Or.inr (Or.inr (aj rfl (Exists.intro _ (Exists.intro _ (aj (aP hlt) (aj rfl (Exists.intro _ (Exists.intro _ (aj rfl (aj (vZ _ _) (Exists.intro _ (aj rfl ?_))))))))))))))))))
   |refine Exists.intro _ (aj (aP hlt) ?_)
   |refine Exists.intro _ (aj (gp (by (try simp only[List.length_set]);exact bf hlt)) ?_)
  refine ⟨_,_,_,⟨i+1,rfl,hlt,rfl,rfl⟩,by omega,rfl,rfl,⟨rfl,nd (dO (f:=GateGrant.mark) hlt k),nd (Z hlt hs),trivial⟩,⟨rfl,trivial⟩,⟨?_,trivial⟩⟩
  refine congrArg some (congrArg (AO.tree _ _ _) ?_)
  try simp only[List.set_set]
  exact er hlt rfl
 ·have hge:xs.length≤i:=by
   have:=of_decide_eq_false h1
   rw[bW _ hi] at this;omega
  refine aj (nd (fh hge)) (aj rfl (aj rfl (aj rfl (aj trivial (aj ⟨rfl,trivial⟩ ⟨?_,trivial⟩)))))
  exact congrArg some (congrArg (AO.tree _ _ _) (fL hge))
set_option maxHeartbeats 8000000 in
theorem rh (xs:List GateLedger) (k:Int):FSpec P 69 [.own 0,.d (.int .i64 k)] ⟨[(0,.tree 119 4 GateLedger.n (xs.map GateLedger.e))],1,1⟩ (.d (.int .i64 (aL GateLedger.mark xs k).2)) ⟨[(0,.tree 119 4 GateLedger.n ((aL GateLedger.mark xs k).1.map GateLedger.e))],1,1⟩:=by
 refine FSpec.of_vc da aw [.tmp 4] Tryz.func69 rfl rfl rfl rfl rfl (fun hok hob=>?_)
 have hs:xs.length≤big:=by have:=(hob 0 _ rfl).1;rwa [List.length_map] at this
 repeat refine ai ?_
 refine ⟨fun m l h=>∃i:Nat,m=xs.length - i∧i≤xs.length∧l=[(0,.own 0),(1,.d (.int .i64 (mX GateLedger.mark xs k i))),(5,.d (.int .i64 i))]∧h=⟨[(0,.tree 119 4 GateLedger.n (t9 GateLedger.mark GateLedger.e xs k i))],1,1⟩,
  ⟨_,_,_,⟨0,rfl,Nat.zero_le _,rfl,rfl⟩,rfl,rfl,⟨rfl,rfl,rfl,trivial⟩,⟨rfl,trivial⟩,⟨rfl,trivial⟩⟩,?_⟩
 rintro m l h1 ⟨i,rfl,hi,rfl,rfl⟩
 refine aj ?_ ?_<;>intro h1
 ·have hlt:i<xs.length:=by
   have:=of_decide_eq_true h1
   rw[bW _ hi] at this;omega
  repeat' first
   |refine ai ?_
   |refine aj (Int.natCast_nonneg _) (aj (Int.ofNat_lt.2 (by (try simp only[List.length_set]);exact bf hlt)) ?_)
   |refine Exists.intro _ (aj (aP hlt) (aj (Nat.le_of_ble_eq_true rfl) ?_))
   |refine Exists.intro _ (aj (gp (by (try simp only[List.length_set]);exact bf hlt)) (aj (Nat.le_of_ble_eq_true rfl) ?_))
   |refine Exists.intro _ (aj (aP hlt) (aj rfl ?_))
   |refine aj (show (3:Int)≠0 by decide) ?_
   |refine Or.inl (Exists.intro _ (aj (qH _) ?_))
   |refine Exists.intro _ (aj (aP hlt) ?_)
   |refine Exists.intro _ (aj (gp (by (try simp only[List.length_set]);exact bf hlt)) ?_)
  refine ⟨_,_,_,⟨i+1,rfl,hlt,rfl,rfl⟩,by omega,rfl,rfl,⟨rfl,nd (dO (f:=GateLedger.mark) hlt k),nd (Z hlt hs),trivial⟩,⟨rfl,trivial⟩,⟨?_,trivial⟩⟩
  refine congrArg some (congrArg (AO.tree _ _ _) ?_)
  try simp only[List.set_set]
  exact er hlt rfl
 ·have hge:xs.length≤i:=by
   have:=of_decide_eq_false h1
   rw[bW _ hi] at this;omega
  refine aj (nd (fh hge)) (aj rfl (aj rfl (aj rfl (aj trivial (aj ⟨rfl,trivial⟩ ⟨?_,trivial⟩)))))
  exact congrArg some (congrArg (AO.tree _ _ _) (fL hge))
set_option maxHeartbeats 8000000 in
theorem sY (xs:List GatePurse) (k:Int):FSpec P 70 [.own 0,.d (.int .i64 k)] ⟨[(0,.tree 109 5 GatePurse.n (xs.map GatePurse.e))],1,1⟩ (.d (.int .i64 (aL GatePurse.mark xs k).2)) ⟨[(0,.tree 109 5 GatePurse.n ((aL GatePurse.mark xs k).1.map GatePurse.e))],1,1⟩:=by
 refine FSpec.of_vc da aw [.tmp 4] Tryz.func70 rfl rfl rfl rfl rfl (fun hok hob=>?_)
 have hs:xs.length≤big:=by have:=(hob 0 _ rfl).1;rwa [List.length_map] at this
 repeat refine ai ?_
 refine ⟨fun m l h=>∃i:Nat,m=xs.length - i∧i≤xs.length∧l=[(0,.own 0),(1,.d (.int .i64 (mX GatePurse.mark xs k i))),(5,.d (.int .i64 i))]∧h=⟨[(0,.tree 109 5 GatePurse.n (t9 GatePurse.mark GatePurse.e xs k i))],1,1⟩,
  ⟨_,_,_,⟨0,rfl,Nat.zero_le _,rfl,rfl⟩,rfl,rfl,⟨rfl,rfl,rfl,trivial⟩,⟨rfl,trivial⟩,⟨rfl,trivial⟩⟩,?_⟩
 rintro m l h1 ⟨i,rfl,hi,rfl,rfl⟩
 refine aj ?_ ?_<;>intro h1
 ·have hlt:i<xs.length:=by
   have:=of_decide_eq_true h1
   rw[bW _ hi] at this;omega
  repeat' first
   |refine ai ?_
   |refine aj (Int.natCast_nonneg _) (aj (Int.ofNat_lt.2 (by (try simp only[List.length_set]);exact bf hlt)) ?_)
   |refine Exists.intro _ (aj (aP hlt) (aj (Nat.le_of_ble_eq_true rfl) ?_))
   |refine Exists.intro _ (aj (gp (by (try simp only[List.length_set]);exact bf hlt)) (aj (Nat.le_of_ble_eq_true rfl) ?_))
   |refine Exists.intro _ (aj (aP hlt) (aj rfl ?_))
   |refine aj (show (3:Int)≠0 by decide) ?_
   |refine Or.inl (Exists.intro _ (aj (qH _) ?_))
   |refine Exists.intro _ (aj (aP hlt) ?_)
   |refine Exists.intro _ (aj (gp (by (try simp only[List.length_set]);exact bf hlt)) ?_)
  refine ⟨_,_,_,⟨i+1,rfl,hlt,rfl,rfl⟩,by omega,rfl,rfl,⟨rfl,nd (dO (f:=GatePurse.mark) hlt k),nd (Z hlt hs),trivial⟩,⟨rfl,trivial⟩,⟨?_,trivial⟩⟩
  refine congrArg some (congrArg (AO.tree _ _ _) ?_)
  try simp only[List.set_set]
  exact er hlt rfl
 ·have hge:xs.length≤i:=by
   have:=of_decide_eq_false h1
   rw[bW _ hi] at this;omega
  refine aj (nd (fh hge)) (aj rfl (aj rfl (aj rfl (aj trivial (aj ⟨rfl,trivial⟩ ⟨?_,trivial⟩)))))
  exact congrArg some (congrArg (AO.tree _ _ _) (fL hge))
set_option maxHeartbeats 8000000 in
theorem xT (x:GateBook) (k:Int):FSpec P 21 [.agg x.a,.d (.int .i64 k)] ⟨x.o,4,4⟩ (.d (.int .i64 (GateBook.marks x k).2)) ⟨(GateBook.marks x k).1.o,4,4⟩:=by
 refine FSpec.of_vc da aw [.tmp 4] Tryz.func21 rfl rfl rfl rfl rfl (fun hok hob=>?_)
 repeat refine ai ?_
 refine om [0] none (rg _ _) ?_
 repeat refine ai ?_
 refine om [1] none (sZ _ _) ?_
 repeat refine ai ?_
 refine om [2] none (rh _ _) ?_
 repeat refine ai ?_
 refine om [3] none (sY _ _) ?_
 repeat refine ai ?_
 repeat' first|exact rfl|exact trivial|refine aj ?_ ?_
set_option maxHeartbeats 8000000 in
theorem A9 (xs:List Int) (k:Int) (h0:0≤k) (hB:k+cD gD xs≤1099511627776):Spec P 23 [.d (lI (aL jB xs k).1),.d (.int .i64 k)] (.d (.int .i64 (aL jB xs k).2)):=by
 refine Spec.of_vc aJ aw [.tmp 4] Tryz.func23 rfl rfl rfl rfl (fun hok=>?_)
 have hs:xs.length≤big:=by have:=hok.1.1;rwa [List.length_map,fM] at this
 repeat refine ai ?_
 refine ⟨fun m l h=>∃i:Nat,m=xs.length - i∧i≤xs.length∧l=[(0,.d (lI (aL jB xs k).1)),(1,.d (.int .i64 (mX jB xs k i))),(5,.d (.int .i64 i))]∧h=hp0,
  ⟨_,_,_,⟨0,rfl,Nat.zero_le _,rfl,rfl⟩,rfl,rfl,⟨rfl,rfl,rfl,trivial⟩,trivial,trivial⟩,?_⟩
 rintro m l h1 ⟨i,rfl,hi,rfl,rfl⟩
 refine aj ?_ ?_<;>intro h1
 ·have hlt:i<xs.length:=by
   have:=of_decide_eq_true h1
   rw[List.length_map,fM] at this;omega
  have hK:=FI (l:=gD) v6 d8 h0 hB hlt
  have hstep:=dO (f:=jB) hlt k
  have hix:∀{sz:Nat} {Kp:List D→Prop},(eN (jB xs[i] (mX jB xs k i)).1).length=sz→Kp (eN (jB xs[i] (mX jB xs k i)).1)→(0:Int)≤(i:Int)∧∃b,(((aL jB xs k).1).map eN)[(i:Int).toNat]? =some b∧b.length=sz∧Kp b:=fun hs h=>GB hlt hs h
  generalize mX jB xs k i=K at*
  simp only[gD] at hK
  have s0:(wk K)=K+1:=aQ (by omega) (by omega)
  repeat' first
   |refine ai ?_
   |refine hix rfl ?_
   |refine aj (show (3:Int)≠0 by decide) ?_
   |refine Or.inl (Exists.intro _ (aj (qH _) ?_))
   |skip;fail
   |refine aj (fun h=>absurd h (by simp[jB,mi,mb,wk])) (fun _=>?_)
   |refine ak ?_
  exact ⟨_,_,_,⟨i+1,rfl,hlt,rfl,rfl⟩,by omega,rfl,rfl,⟨rfl,nd hstep,nd (Z hlt hs),trivial⟩,trivial,trivial⟩
 ·have hge:xs.length≤i:=by
   have:=of_decide_eq_false h1
   rw[List.length_map,fM] at this;omega
  exact nd (fh hge)
end Go.Vc
end
section
namespace Go.Vc
open Go.Proofs
theorem aR {a:Int} {k:Int→Int} (h:0≤aH a k):0≤a∧aH a k=k a:=by
 unfold aH at h ⊢
 cases hd:decide (a<0) with
 |true=>rw[hd] at h;simp at h
 |false=>have:=of_decide_eq_false hd;exact ⟨by omega,rfl⟩
theorem ba {n:Int} {l:Nat} (h:n≤1048576) (hl:l≤big) (h0: -1≤n):IntKind.i64.wrap (n - (l:Int))=n - l:=by
 unfold big at hl
 rw[IntKind.wrap_i64];omega
theorem CT {α:Type} {m:α→Int→Int} {el:α→Int} {ok:α→Prop} (hm:∀x n,ok x→0≤n→n≤1048576→0≤m x n→m x n+el x≤n) (he:∀x,0≤el x):∀(xs:List α) (n:Int),(∀x∈xs,ok x)→0≤n→n≤1048576→0≤gP m xs n→gP m xs n+jC el xs≤n+xs.length
 |[],n,_,_,_,_=>by simp[gP,jC]
 |x::xs,n,hx,h0,hn,h=>by
  simp only[gP] at h
  obtain ⟨h1,h2⟩:=aR h
  have h3:=hm x n (hx x (List.mem_cons_self ..)) h0 hn h1
  have h4:=he x
  rw[h2] at h
  have:=CT hm he xs (m x n) (fun y hy=>hx y (List.mem_cons_of_mem _ hy)) h1 (by omega) h
  simp only[gP,jC,List.length_cons]
  rw[h2];omega
theorem iV {α:Type} {e:α→List D} {m:α→Int→Int} {el:α→Int} {ok:α→Prop} (hm:∀x n,ok x→0≤n→n≤1048576→0≤m x n→m x n+el x≤n) (he:∀x,0≤el x) (xs:List α) (n:Int) (hl:xs.length≤big) (hx:∀x∈xs,ok x) (h0:0≤n) (hn:n≤1048576)
 (h:0≤aH (IntKind.i64.wrap (n - ((xs.map e).length:Int))) fun n=>gP m xs n):(aH (IntKind.i64.wrap (n - ((xs.map e).length:Int))) fun n=>gP m xs n)+jC el xs≤n:=by
 obtain ⟨h1,h2⟩:=aR h
 rw[h2] at h ⊢
 rw[List.length_map] at*
 rw[ba hn hl (by omega)] at*
 have:=CT hm he xs _ hx h1 (by omega) h
 omega
theorem eg {α:Type} {e:α→List D} {xs:List α} (h:(D.list (xs.map e)).ok):xs.length≤big∧∀x∈xs,bA (e x):=by
 simp only[D.ok] at h
 refine ⟨by have:=h.1;rwa [List.length_map] at this,fun x hx=>okRows_iff.1 h.2 _ (List.mem_map.2 ⟨x,hx,rfl⟩)⟩
theorem Bj:∀xs:List Int,jC Bk xs=xs.length
 |[]=>rfl
 |x::xs=>by simp only[jC,Bj xs,Bk,List.length_cons];omega
theorem cF:∀{ds:List D},bA ds→∀d∈ds,d.ok
 |[],_,d,hd=>by cases hd
 |x::ds,h,d,hd=>by
  rcases List.mem_cons.1 hd with rfl|hd
  ·exact h.1
  ·exact cF h.2 d hd
theorem xN:∀{ds:List D},(∀d∈ds,d.ok)→bA ds
 |[],_=>trivial
 |x::ds,h=>⟨h x (List.mem_cons_self ..),xN fun d hd=>h d (List.mem_cons_of_mem _ hd)⟩
theorem gK (xs:List Bs) (n:Int) (hx:(lS xs).ok) (h0:0≤n) (hn:n≤1048576) (h:0≤aY xs n):aY xs n+jC Bk xs≤n:=by
 obtain ⟨hl,hr⟩:=eg hx
 refine iV (ok:=fun s:Bs=>bA (eB s)) (fun s n hs h0 hn h=>?_) im xs n hl hr h0 hn h
 have hs:s.length≤big:=by simpa [eB,bA,D.ok] using hs
 rw[ba hn hs (by omega)] at*
 simp only[Bk];omega
theorem xk (xs:List Int) (n:Int) (hx:(lI xs).ok) (h0:0≤n) (hn:n≤1048576) (h:0≤dr xs n):dr xs n+jC Bk xs≤n:=by
 obtain ⟨hl,_⟩:=eg hx
 unfold dr at h ⊢
 obtain ⟨h1,h2⟩:=aR h
 rw[h2] at h ⊢
 rw[List.length_map] at*
 rw[ba hn hl (by omega)] at*
 rw[Bj];omega
theorem nJ (x:GateField) (n:Int) (hx:bA x.e) (h0:0≤n) (hn:n≤1048576) (h:0≤cr x n):cr x n+x.el≤n:=by
 have hx:=cF hx
 unfold cr at h ⊢
 unfold GateField.el
 obtain ⟨a0,e0⟩:=aR h
 rw[e0] at h ⊢
 have l0:x.name.length≤big:=hx (.str x.name) (by simp[GateField.e])
 have b0:IntKind.i64.wrap (n - (x.name.length:Int))=n - x.name.length:=ba (by omega) l0 (by omega)
 obtain ⟨a1,e1⟩:=aR h
 rw[e1] at h ⊢
 have b1:=gK x.words (IntKind.i64.wrap (n - (x.name.length:Int))) (hx _ (by simp[GateField.e])) (by omega) (by omega) a1
 have q1:=bG im x.words
 obtain ⟨a2,e2⟩:=aR h
 rw[e2] at h ⊢
 have l2:x.to_.length≤big:=hx (.str x.to_) (by simp[GateField.e])
 have b2:IntKind.i64.wrap (aY x.words (IntKind.i64.wrap (n - (x.name.length:Int))) - (x.to_.length:Int))=aY x.words (IntKind.i64.wrap (n - (x.name.length:Int))) - x.to_.length:=ba (by omega) l2 (by omega)
 obtain ⟨a3,e3⟩:=aR h
 rw[e3] at h ⊢
 have l3:x.default_.length≤big:=hx (.str x.default_) (by simp[GateField.e])
 have b3:IntKind.i64.wrap (IntKind.i64.wrap (aY x.words (IntKind.i64.wrap (n - (x.name.length:Int))) - (x.to_.length:Int)) - (x.default_.length:Int))=IntKind.i64.wrap (aY x.words (IntKind.i64.wrap (n - (x.name.length:Int))) - (x.to_.length:Int)) - x.default_.length:=ba (by omega) l3 (by omega)
 obtain ⟨a4,e4⟩:=aR h
 rw[e4] at h ⊢
 have l4:x.weighs.length≤big:=hx (.str x.weighs) (by simp[GateField.e])
 have b4:IntKind.i64.wrap (IntKind.i64.wrap (IntKind.i64.wrap (aY x.words (IntKind.i64.wrap (n - (x.name.length:Int))) - (x.to_.length:Int)) - (x.default_.length:Int)) - (x.weighs.length:Int))=IntKind.i64.wrap (IntKind.i64.wrap (aY x.words (IntKind.i64.wrap (n - (x.name.length:Int))) - (x.to_.length:Int)) - (x.default_.length:Int)) - x.weighs.length:=ba (by omega) l4 (by omega)
 omega
theorem mj (xs:List GateField) (n:Int) (hx:(ab xs).ok) (h0:0≤n) (hn:n≤1048576) (h:0≤dL xs n):dL xs n+jC GateField.el xs≤n:=by
 obtain ⟨hl,hr⟩:=eg hx
 exact iV (ok:=fun x:GateField=>bA x.e) nJ GateField.el_nn xs n hl hr h0 hn h
theorem nF (x:GateShape) (n:Int) (hx:bA x.e) (h0:0≤n) (hn:n≤1048576) (h:0≤cn x n):cn x n+x.el≤n:=by
 have hx:=cF hx
 unfold cn at h ⊢
 unfold GateShape.el
 obtain ⟨a0,e0⟩:=aR h
 rw[e0] at h ⊢
 have l0:x.kind.length≤big:=hx (.str x.kind) (by simp[GateShape.e])
 have b0:IntKind.i64.wrap (n - (x.kind.length:Int))=n - x.kind.length:=ba (by omega) l0 (by omega)
 obtain ⟨a1,e1⟩:=aR h
 rw[e1] at h ⊢
 have b1:=mj x.fields (IntKind.i64.wrap (n - (x.kind.length:Int))) (hx _ (by simp[GateShape.e])) (by omega) (by omega) a1
 have q1:=bG GateField.el_nn x.fields
 omega
theorem md (xs:List GateShape) (n:Int) (hx:(aa xs).ok) (h0:0≤n) (hn:n≤1048576) (h:0≤cv xs n):cv xs n+jC GateShape.el xs≤n:=by
 obtain ⟨hl,hr⟩:=eg hx
 exact iV (ok:=fun x:GateShape=>bA x.e) nF GateShape.el_nn xs n hl hr h0 hn h
theorem pn (x:GateMend) (n:Int) (hx:bA x.e) (h0:0≤n) (hn:n≤1048576) (h:0≤cH x n):cH x n+x.el≤n:=by
 have hx:=cF hx
 unfold cH at h ⊢
 unfold GateMend.el
 obtain ⟨a0,e0⟩:=aR h
 rw[e0] at h ⊢
 have l0:x.kind.length≤big:=hx (.str x.kind) (by simp[GateMend.e])
 have b0:IntKind.i64.wrap (n - (x.kind.length:Int))=n - x.kind.length:=ba (by omega) l0 (by omega)
 obtain ⟨a1,e1⟩:=aR h
 rw[e1] at h ⊢
 have l1:x.field.length≤big:=hx (.str x.field) (by simp[GateMend.e])
 have b1:IntKind.i64.wrap (IntKind.i64.wrap (n - (x.kind.length:Int)) - (x.field.length:Int))=IntKind.i64.wrap (n - (x.kind.length:Int)) - x.field.length:=ba (by omega) l1 (by omega)
 obtain ⟨a2,e2⟩:=aR h
 rw[e2] at h ⊢
 have l2:x.when_.length≤big:=hx (.str x.when_) (by simp[GateMend.e])
 have b2:IntKind.i64.wrap (IntKind.i64.wrap (IntKind.i64.wrap (n - (x.kind.length:Int)) - (x.field.length:Int)) - (x.when_.length:Int))=IntKind.i64.wrap (IntKind.i64.wrap (n - (x.kind.length:Int)) - (x.field.length:Int)) - x.when_.length:=ba (by omega) l2 (by omega)
 obtain ⟨a3,e3⟩:=aR h
 rw[e3] at h ⊢
 have l3:x.is_.length≤big:=hx (.str x.is_) (by simp[GateMend.e])
 have b3:IntKind.i64.wrap (IntKind.i64.wrap (IntKind.i64.wrap (IntKind.i64.wrap (n - (x.kind.length:Int)) - (x.field.length:Int)) - (x.when_.length:Int)) - (x.is_.length:Int))=IntKind.i64.wrap (IntKind.i64.wrap (IntKind.i64.wrap (n - (x.kind.length:Int)) - (x.field.length:Int)) - (x.when_.length:Int)) - x.is_.length:=ba (by omega) l3 (by omega)
 obtain ⟨a4,e4⟩:=aR h
 rw[e4] at h ⊢
 have l4:x.put.length≤big:=hx (.str x.put) (by simp[GateMend.e])
 have b4:IntKind.i64.wrap (IntKind.i64.wrap (IntKind.i64.wrap (IntKind.i64.wrap (IntKind.i64.wrap (n - (x.kind.length:Int)) - (x.field.length:Int)) - (x.when_.length:Int)) - (x.is_.length:Int)) - (x.put.length:Int))=IntKind.i64.wrap (IntKind.i64.wrap (IntKind.i64.wrap (IntKind.i64.wrap (n - (x.kind.length:Int)) - (x.field.length:Int)) - (x.when_.length:Int)) - (x.is_.length:Int)) - x.put.length:=ba (by omega) l4 (by omega)
 obtain ⟨a5,e5⟩:=aR h
 rw[e5] at h ⊢
 have l5:x.from_.length≤big:=hx (.str x.from_) (by simp[GateMend.e])
 have b5:IntKind.i64.wrap (IntKind.i64.wrap (IntKind.i64.wrap (IntKind.i64.wrap (IntKind.i64.wrap (IntKind.i64.wrap (n - (x.kind.length:Int)) - (x.field.length:Int)) - (x.when_.length:Int)) - (x.is_.length:Int)) - (x.put.length:Int)) - (x.from_.length:Int))=IntKind.i64.wrap (IntKind.i64.wrap (IntKind.i64.wrap (IntKind.i64.wrap (IntKind.i64.wrap (n - (x.kind.length:Int)) - (x.field.length:Int)) - (x.when_.length:Int)) - (x.is_.length:Int)) - (x.put.length:Int)) - x.from_.length:=ba (by omega) l5 (by omega)
 omega
theorem nH (xs:List GateMend) (n:Int) (hx:(af xs).ok) (h0:0≤n) (hn:n≤1048576) (h:0≤dv xs n):dv xs n+jC GateMend.el xs≤n:=by
 obtain ⟨hl,hr⟩:=eg hx
 exact iV (ok:=fun x:GateMend=>bA x.e) pn GateMend.el_nn xs n hl hr h0 hn h
theorem pj (x:GateTeam) (n:Int) (hx:bA x.e) (h0:0≤n) (hn:n≤1048576) (h:0≤cG x n):cG x n+x.el≤n:=by
 have hx:=cF hx
 unfold cG at h ⊢
 unfold GateTeam.el
 obtain ⟨a0,e0⟩:=aR h
 rw[e0] at h ⊢
 have l0:x.name.length≤big:=hx (.str x.name) (by simp[GateTeam.e])
 have b0:IntKind.i64.wrap (n - (x.name.length:Int))=n - x.name.length:=ba (by omega) l0 (by omega)
 obtain ⟨a1,e1⟩:=aR h
 rw[e1] at h ⊢
 have l1:x.over.length≤big:=hx (.str x.over) (by simp[GateTeam.e])
 have b1:IntKind.i64.wrap (IntKind.i64.wrap (n - (x.name.length:Int)) - (x.over.length:Int))=IntKind.i64.wrap (n - (x.name.length:Int)) - x.over.length:=ba (by omega) l1 (by omega)
 omega
theorem nE (xs:List GateTeam) (n:Int) (hx:(am xs).ok) (h0:0≤n) (hn:n≤1048576) (h:0≤ec xs n):ec xs n+jC GateTeam.el xs≤n:=by
 obtain ⟨hl,hr⟩:=eg hx
 exact iV (ok:=fun x:GateTeam=>bA x.e) pj GateTeam.el_nn xs n hl hr h0 hn h
theorem qD (x:GateLaw) (n:Int) (hx:bA x.e) (h0:0≤n) (hn:n≤1048576) (h:0≤eQ x n):eQ x n+x.el≤n:=by
 have hx:=cF hx
 unfold eQ at h ⊢
 unfold GateLaw.el
 obtain ⟨a0,e0⟩:=aR h
 rw[e0] at h ⊢
 have b0:=md x.shapes (n) (hx _ (by simp[GateLaw.e])) (by omega) (by omega) a0
 have q0:=bG GateShape.el_nn x.shapes
 obtain ⟨a1,e1⟩:=aR h
 rw[e1] at h ⊢
 have b1:=nH x.mends (cv x.shapes (n)) (hx _ (by simp[GateLaw.e])) (by omega) (by omega) a1
 have q1:=bG GateMend.el_nn x.mends
 obtain ⟨a2,e2⟩:=aR h
 rw[e2] at h ⊢
 have b2:=nE x.teams (dv x.mends (cv x.shapes (n))) (hx _ (by simp[GateLaw.e])) (by omega) (by omega) a2
 have q2:=bG GateTeam.el_nn x.teams
 omega
theorem mf (x:GateObject) (n:Int) (hx:bA x.e) (h0:0≤n) (hn:n≤1048576) (h:0≤bY x n):bY x n+x.el≤n:=by
 have hx:=cF hx
 unfold bY at h ⊢
 unfold GateObject.el
 obtain ⟨a0,e0⟩:=aR h
 rw[e0] at h ⊢
 have l0:x.kind.length≤big:=hx (.str x.kind) (by simp[GateObject.e])
 have b0:IntKind.i64.wrap (n - (x.kind.length:Int))=n - x.kind.length:=ba (by omega) l0 (by omega)
 obtain ⟨a1,e1⟩:=aR h
 rw[e1] at h ⊢
 have l1:x.name.length≤big:=hx (.str x.name) (by simp[GateObject.e])
 have b1:IntKind.i64.wrap (IntKind.i64.wrap (n - (x.kind.length:Int)) - (x.name.length:Int))=IntKind.i64.wrap (n - (x.kind.length:Int)) - x.name.length:=ba (by omega) l1 (by omega)
 obtain ⟨a2,e2⟩:=aR h
 rw[e2] at h ⊢
 have l2:x.team.length≤big:=hx (.str x.team) (by simp[GateObject.e])
 have b2:IntKind.i64.wrap (IntKind.i64.wrap (IntKind.i64.wrap (n - (x.kind.length:Int)) - (x.name.length:Int)) - (x.team.length:Int))=IntKind.i64.wrap (IntKind.i64.wrap (n - (x.kind.length:Int)) - (x.name.length:Int)) - x.team.length:=ba (by omega) l2 (by omega)
 obtain ⟨a3,e3⟩:=aR h
 rw[e3] at h ⊢
 have b3:=gK x.values (IntKind.i64.wrap (IntKind.i64.wrap (IntKind.i64.wrap (n - (x.kind.length:Int)) - (x.name.length:Int)) - (x.team.length:Int))) (hx _ (by simp[GateObject.e])) (by omega) (by omega) a3
 have q3:=bG im x.values
 obtain ⟨a4,e4⟩:=aR h
 rw[e4] at h ⊢
 have b4:=gK x.holds (aY x.values (IntKind.i64.wrap (IntKind.i64.wrap (IntKind.i64.wrap (n - (x.kind.length:Int)) - (x.name.length:Int)) - (x.team.length:Int)))) (hx _ (by simp[GateObject.e])) (by omega) (by omega) a4
 have q4:=bG im x.holds
 omega
theorem li (xs:List GateObject) (n:Int) (hx:(aE xs).ok) (h0:0≤n) (hn:n≤1048576) (h:0≤bK xs n):bK xs n+jC GateObject.el xs≤n:=by
 obtain ⟨hl,hr⟩:=eg hx
 exact iV (ok:=fun x:GateObject=>bA x.e) mf GateObject.el_nn xs n hl hr h0 hn h
theorem pk (x:GateRule) (n:Int) (hx:bA x.e) (h0:0≤n) (hn:n≤1048576) (h:0≤dU x n):dU x n+x.el≤n:=by
 have hx:=cF hx
 unfold dU at h ⊢
 unfold GateRule.el
 obtain ⟨a0,e0⟩:=aR h
 rw[e0] at h ⊢
 have b0:=xk x.verbs (n) (hx _ (by simp[GateRule.e])) (by omega) (by omega) a0
 have q0:=bG im x.verbs
 obtain ⟨a1,e1⟩:=aR h
 rw[e1] at h ⊢
 have l1:x.kind.length≤big:=hx (.str x.kind) (by simp[GateRule.e])
 have b1:IntKind.i64.wrap (dr x.verbs (n) - (x.kind.length:Int))=dr x.verbs (n) - x.kind.length:=ba (by omega) l1 (by omega)
 obtain ⟨a2,e2⟩:=aR h
 rw[e2] at h ⊢
 have l2:x.team.length≤big:=hx (.str x.team) (by simp[GateRule.e])
 have b2:IntKind.i64.wrap (IntKind.i64.wrap (dr x.verbs (n) - (x.kind.length:Int)) - (x.team.length:Int))=IntKind.i64.wrap (dr x.verbs (n) - (x.kind.length:Int)) - x.team.length:=ba (by omega) l2 (by omega)
 obtain ⟨a3,e3⟩:=aR h
 rw[e3] at h ⊢
 have l3:x.prefix_.length≤big:=hx (.str x.prefix_) (by simp[GateRule.e])
 have b3:IntKind.i64.wrap (IntKind.i64.wrap (IntKind.i64.wrap (dr x.verbs (n) - (x.kind.length:Int)) - (x.team.length:Int)) - (x.prefix_.length:Int))=IntKind.i64.wrap (IntKind.i64.wrap (dr x.verbs (n) - (x.kind.length:Int)) - (x.team.length:Int)) - x.prefix_.length:=ba (by omega) l3 (by omega)
 omega
theorem nI (x:GateGrant) (n:Int) (hx:bA x.e) (h0:0≤n) (hn:n≤1048576) (h:0≤cq x n):cq x n+x.el≤n:=by
 have hx:=cF hx
 unfold cq at h ⊢
 unfold GateGrant.el
 obtain ⟨a0,e0⟩:=aR h
 rw[e0] at h ⊢
 have l0:x.to_.length≤big:=hx (.str x.to_) (by simp[GateGrant.e])
 have b0:IntKind.i64.wrap (n - (x.to_.length:Int))=n - x.to_.length:=ba (by omega) l0 (by omega)
 obtain ⟨a1,e1⟩:=aR h
 rw[e1] at h ⊢
 have l1:x.by_.length≤big:=hx (.str x.by_) (by simp[GateGrant.e])
 have b1:IntKind.i64.wrap (IntKind.i64.wrap (n - (x.to_.length:Int)) - (x.by_.length:Int))=IntKind.i64.wrap (n - (x.to_.length:Int)) - x.by_.length:=ba (by omega) l1 (by omega)
 obtain ⟨a2,e2⟩:=aR h
 rw[e2] at h ⊢
 have b2:=pk x.rule (IntKind.i64.wrap (IntKind.i64.wrap (n - (x.to_.length:Int)) - (x.by_.length:Int))) (xN fun d hd=>hx d (by simp[GateGrant.e,GateRule.e] at hd ⊢;simp[hd])) (by omega) (by omega) a2
 have q2:=GateRule.el_nn x.rule
 unfold GateRule.el at b2 q2
 omega
theorem mh (xs:List GateGrant) (n:Int) (hx:(bp xs).ok) (h0:0≤n) (hn:n≤1048576) (h:0≤cw xs n):cw xs n+jC GateGrant.el xs≤n:=by
 obtain ⟨hl,hr⟩:=eg hx
 exact iV (ok:=fun x:GateGrant=>bA x.e) nI GateGrant.el_nn xs n hl hr h0 hn h
theorem mg (x:GateLedger) (n:Int) (hx:bA x.e) (h0:0≤n) (hn:n≤1048576) (h:0≤bZ x n):bZ x n+x.el≤n:=by
 have hx:=cF hx
 unfold bZ at h ⊢
 unfold GateLedger.el
 obtain ⟨a0,e0⟩:=aR h
 rw[e0] at h ⊢
 have l0:x.team.length≤big:=hx (.str x.team) (by simp[GateLedger.e])
 have b0:IntKind.i64.wrap (n - (x.team.length:Int))=n - x.team.length:=ba (by omega) l0 (by omega)
 obtain ⟨a1,e1⟩:=aR h
 rw[e1] at h ⊢
 have l1:x.resource.length≤big:=hx (.str x.resource) (by simp[GateLedger.e])
 have b1:IntKind.i64.wrap (IntKind.i64.wrap (n - (x.team.length:Int)) - (x.resource.length:Int))=IntKind.i64.wrap (n - (x.team.length:Int)) - x.resource.length:=ba (by omega) l1 (by omega)
 omega
theorem lj (xs:List GateLedger) (n:Int) (hx:(aW xs).ok) (h0:0≤n) (hn:n≤1048576) (h:0≤cE xs n):cE xs n+jC GateLedger.el xs≤n:=by
 obtain ⟨hl,hr⟩:=eg hx
 exact iV (ok:=fun x:GateLedger=>bA x.e) mg GateLedger.el_nn xs n hl hr h0 hn h
theorem nG (x:GatePurse) (n:Int) (hx:bA x.e) (h0:0≤n) (hn:n≤1048576) (h:0≤co x n):co x n+x.el≤n:=by
 have hx:=cF hx
 unfold co at h ⊢
 unfold GatePurse.el
 obtain ⟨a0,e0⟩:=aR h
 rw[e0] at h ⊢
 have l0:x.door.length≤big:=hx (.str x.door) (by simp[GatePurse.e])
 have b0:IntKind.i64.wrap (n - (x.door.length:Int))=n - x.door.length:=ba (by omega) l0 (by omega)
 obtain ⟨a1,e1⟩:=aR h
 rw[e1] at h ⊢
 have l1:x.team.length≤big:=hx (.str x.team) (by simp[GatePurse.e])
 have b1:IntKind.i64.wrap (IntKind.i64.wrap (n - (x.door.length:Int)) - (x.team.length:Int))=IntKind.i64.wrap (n - (x.door.length:Int)) - x.team.length:=ba (by omega) l1 (by omega)
 obtain ⟨a2,e2⟩:=aR h
 rw[e2] at h ⊢
 have l2:x.resource.length≤big:=hx (.str x.resource) (by simp[GatePurse.e])
 have b2:IntKind.i64.wrap (IntKind.i64.wrap (IntKind.i64.wrap (n - (x.door.length:Int)) - (x.team.length:Int)) - (x.resource.length:Int))=IntKind.i64.wrap (IntKind.i64.wrap (n - (x.door.length:Int)) - (x.team.length:Int)) - x.resource.length:=ba (by omega) l2 (by omega)
 omega
theorem me (xs:List GatePurse) (n:Int) (hx:(bo xs).ok) (h0:0≤n) (hn:n≤1048576) (h:0≤dK xs n):dK xs n+jC GatePurse.el xs≤n:=by
 obtain ⟨hl,hr⟩:=eg hx
 exact iV (ok:=fun x:GatePurse=>bA x.e) nG GatePurse.el_nn xs n hl hr h0 hn h
theorem po (x:GateBook) (n:Int) (hx:bA x.e) (h0:0≤n) (hn:n≤1048576) (h:0≤e7 x n):e7 x n+x.el≤n:=by
 have hx:=cF hx
 unfold e7 at h ⊢
 unfold GateBook.el
 obtain ⟨a0,e0⟩:=aR h
 rw[e0] at h ⊢
 have b0:=li x.objects (n) (hx _ (by simp[GateBook.e])) (by omega) (by omega) a0
 have q0:=bG GateObject.el_nn x.objects
 obtain ⟨a1,e1⟩:=aR h
 rw[e1] at h ⊢
 have b1:=mh x.grants (bK x.objects (n)) (hx _ (by simp[GateBook.e])) (by omega) (by omega) a1
 have q1:=bG GateGrant.el_nn x.grants
 obtain ⟨a2,e2⟩:=aR h
 rw[e2] at h ⊢
 have b2:=lj x.ledgers (cw x.grants (bK x.objects (n))) (hx _ (by simp[GateBook.e])) (by omega) (by omega) a2
 have q2:=bG GateLedger.el_nn x.ledgers
 obtain ⟨a3,e3⟩:=aR h
 rw[e3] at h ⊢
 have b3:=me x.purses (cE x.ledgers (cw x.grants (bK x.objects (n)))) (hx _ (by simp[GateBook.e])) (by omega) (by omega) a3
 have q3:=bG GatePurse.el_nn x.purses
 omega
end Go.Vc
end
section
namespace Go.Vc
open Go.Proofs
theorem GateLaw.marks_le (x:GateLaw) (k:Int) (h0:0≤k) (hB:k+x.lv≤1099511627776):k≤(GateLaw.marks x k).2∧(GateLaw.marks x k).2≤k+x.lv:=by
 have p0:=aZ GateShape.lv_nn x.shapes
 have p1:=aZ GateMend.lv_nn x.mends
 have p2:=aZ GateTeam.lv_nn x.teams
 unfold GateLaw.lv at*
 have:=GateLaw.marks_val x k h0 (by omega)
 omega
theorem GateBook.marks_le (x:GateBook) (k:Int) (h0:0≤k) (hB:k+x.lv≤1099511627776):k≤(GateBook.marks x k).2∧(GateBook.marks x k).2≤k+x.lv:=by
 have p0:=aZ GateObject.lv_nn x.objects
 have p1:=aZ GateGrant.lv_nn x.grants
 have p2:=aZ GateLedger.lv_nn x.ledgers
 have p3:=aZ GatePurse.lv_nn x.purses
 unfold GateBook.lv at*
 have:=GateBook.marks_val x k h0 (by omega)
 omega
end Go.Vc
end
section
namespace Go.Vc
theorem Fd {ds:List D} (h:AV.ok (st ds)):bA ds:=by
 unfold st at h
 simp only[AV.ok] at h
 induction ds with
 |nil=>exact trivial
 |cons d ds ih=>exact ⟨h.1,ih h.2⟩
theorem DZ {α:Type} {f:α→Int} (h:∀x,0≤f x):∀xs:List α,(xs.length:Int)≤jC f xs
 |[]=>Int.le_refl _
 |x::xs=>by
  have:=h x
  have:=DZ h xs
  simp only[jC,List.length_cons];omega
theorem AX {α:Type}:∀xs:List α,cD gD xs=xs.length
 |[]=>rfl
 |x::xs=>by simp only[cD,AX xs,gD,List.length_cons];omega
end Go.Vc
end
