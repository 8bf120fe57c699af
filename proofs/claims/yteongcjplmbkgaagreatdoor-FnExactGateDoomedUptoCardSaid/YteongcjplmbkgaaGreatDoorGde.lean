/- Part 5 of a proof: Contracts: GateCheck of the program. Contracts: copies of objects; values that are not set. Contracts: values that are not set. Rows in which each stands behind what it reads: one by one (greedy) and depth first come to the same. Plain Lean, no program. What a field's mends read; rows of fields: pure facts. Contracts: mends of the specification. Contracts: what a field's mends read (a closure), depth first (a closure that calls itself), rows of fields. Contracts: the walk depth first, a closure that calls itself. Contracts: rows of fields. Mended values: the order of the fields does not count, -/
import Derived.Test.YteongcjplmbkgaaGreatDoorGda
import Derived.Test.YteongcjplmbkgaaGreatDoorGdb
import Derived.Test.YteongcjplmbkgaaGreatDoorGdc
import Derived.Test.YteongcjplmbkgaaGreatDoorGdd
set_option linter.unusedVariables false
set_option linter.unusedSimpArgs false
section
namespace Go.Vc
open Go.Proofs
set_option maxRecDepth 100000
def Af (p:Int×Int):AV:=bif p.1==0 then .val .nilIface else .iface 264 (.at_ [.int .i64 p.1,.int .i64 p.2])
theorem Hg {b:Bool} (h:b=false):AV.iface 264 (.at_ [.int .i64 1,.int .i64 0])=Af (bif b then (0,0) else (1,0)):=by rw[h];rfl
theorem Hh {b:Bool} (h:b=true):AV.val .nilIface=Af (bif b then (0,0) else (1,0)):=by rw[h];rfl
theorem FX {p:Int×Int} {a b:Int} (h:p=(a,b)) (ha:(a==0)=false):AV.iface 264 (.at_ [.int .i64 a,.int .i64 b])=Af p:=by rw[h,Af,ha];rfl
theorem Dz {x:Int}:fj x 0 1000000=(!decide (x<0)&& !decide (x>1000000)):=by
 unfold fj
 by_cases h1:x<0<;>by_cases h2:x>1000000<;>simp[h1,h2]<;>omega
theorem yp (xs:List GateShape) (o:GateObject):Spec P 213 [.d (aa xs),st o.e] (Af (bif kb xs o&&aI xs then (0,0) else (1,0))):=by
 refine Spec.of_vc aJ aw [.tmp 4] Tryz.func213 rfl rfl rfl rfl (fun hok=>?_)
 repeat refine ai ?_
 refine oc (fC _ _) ?_
 repeat' first
  |refine ai ?_
  |(refine aj ?_ ?_<;>intro h)
  |refine oc (fk _) ?_
  |refine oc (c8 _) ?_
  |refine oc (fD _) ?_
 all_goals first
  |(refine Hg ?_;(try simp only[Bool.not_eq_true',Bool.not_eq_false',List.length_map] at*);simp only[kb,Dz, *,cond_true,cond_false,bl];done)
  |(refine Hh ?_;(try simp only[Bool.not_eq_true',Bool.not_eq_false',List.length_map] at*);simp only[kb,Dz, *,cond_true,cond_false,bl];done)
theorem th (xs:List GateShape) (o:GateObject):Spec P 214 [.d (aa xs),st o.e] (Af (fp (ah xs o.kind o.values.length).1 o.values 0)):=by
 refine Spec.of_vc aJ aw [.tmp 4] Tryz.func214 rfl rfl rfl rfl (fun hok=>?_)
 have hb:=i5 (o:=o) ⟨hok.2.1,trivial⟩
 repeat refine ai ?_
 refine oc (fC _ _) ?_
 obtain ⟨hl,_⟩:=ct (xs:=xs) (k:=o.kind) (n:=o.values.length)
 generalize (ah xs o.kind o.values.length).1=fs at*
 repeat refine ai ?_
 refine d9 (fs) (fun i=>fp fs o.values 0=fp (fs.drop i) (o.values.drop i) i) (fun i=>[(3,.ptr 0 0),(15,.d (ab fs)),(16,.d (.int .i64 (fs.map GateField.e).length)),(17,.d (.int .i64 i))]) (fun i=>⟨[(0,.cells 103 (o.e.map .d))],1,0⟩) (rfl) ?_
 intro i hi hr
 have hs:fs.length≤big:=by omega
 repeat refine ai ?_
 refine aj ?_ ?_<;>intro g1
 ·have hlt:i<fs.length:=V g1
  have hlt2:i<o.values.length:=by omega
  rw[uC hlt hlt2] at hr
  repeat refine ai ?_
  refine O (e:=GateField.e) (xs:=fs) (hlt) rfl ?_
  repeat refine ai ?_
  refine aj ?_ ?_<;>intro g2
  ·repeat refine ai ?_
   refine O (e:=eB) (xs:=o.values) (hlt2) rfl ?_
   repeat refine ai ?_
   refine aj ?_ ?_<;>intro g3
   ·refine FX ?_ rfl
    simp only[hr, *,cond_true,cond_false]
   ·repeat refine ai ?_
    refine ak ?_
    repeat refine ai ?_
    refine O (e:=eB) (xs:=o.values) (hlt2) rfl ?_
    repeat refine ai ?_
    refine aj ?_ ?_<;>intro g4
    ·repeat refine ai ?_
     refine O (e:=eB) (xs:=o.values) (hlt2) rfl ?_
     repeat refine ai ?_
     refine oc (eJ _ _) ?_
     repeat refine ai ?_
     refine aj ?_ ?_<;>intro g5
     ·simp only[bne,cond_true,cond_false,Bool.not_eq_true',Bool.not_eq_false'] at*
      refine FX ?_ rfl
      first|(simp only[hr, *,cond_true,cond_false];done)|(simp_all;done)
     ·simp only[bne,cond_true,cond_false,Bool.not_eq_true',Bool.not_eq_false'] at*
      have hq:fp fs o.values 0=fp (fs.drop (i+1)) (o.values.drop (i+1)) (i+1):=by first|(simp only[hr, *,cond_true,cond_false];done)|(simp_all;done)
      repeat refine ai ?_
      exact bL hlt hs hq
    ·repeat refine ai ?_
     refine an ?_
     simp only[bne,cond_true,cond_false,Bool.not_eq_true',Bool.not_eq_false'] at*
     have hq:fp fs o.values 0=fp (fs.drop (i+1)) (o.values.drop (i+1)) (i+1):=by first|(simp only[hr, *,cond_true,cond_false];done)|(simp_all;done)
     repeat refine ai ?_
     exact bL hlt hs hq
  ·repeat refine ai ?_
   refine ak ?_
   repeat refine ai ?_
   refine O (e:=eB) (xs:=o.values) (hlt2) rfl ?_
   repeat refine ai ?_
   refine aj ?_ ?_<;>intro g4
   ·repeat refine ai ?_
    refine O (e:=eB) (xs:=o.values) (hlt2) rfl ?_
    repeat refine ai ?_
    refine oc (eJ _ _) ?_
    repeat refine ai ?_
    refine aj ?_ ?_<;>intro g5
    ·simp only[bne,cond_true,cond_false,Bool.not_eq_true',Bool.not_eq_false'] at*
     refine FX ?_ rfl
     first|(simp only[hr, *,cond_true,cond_false];done)|(simp_all;done)
    ·simp only[bne,cond_true,cond_false,Bool.not_eq_true',Bool.not_eq_false'] at*
     have hq:fp fs o.values 0=fp (fs.drop (i+1)) (o.values.drop (i+1)) (i+1):=by first|(simp only[hr, *,cond_true,cond_false];done)|(simp_all;done)
     repeat refine ai ?_
     exact bL hlt hs hq
   ·repeat refine ai ?_
    refine an ?_
    simp only[bne,cond_true,cond_false,Bool.not_eq_true',Bool.not_eq_false'] at*
    have hq:fp fs o.values 0=fp (fs.drop (i+1)) (o.values.drop (i+1)) (i+1):=by first|(simp only[hr, *,cond_true,cond_false];done)|(simp_all;done)
    repeat refine ai ?_
    exact bL hlt hs hq
 ·have e:fp fs o.values 0=(0,0):=by rw[hr,yL (Y g1)]
  rw[e]
  rfl
theorem Cp {fs:List GateField} {vs:List Bs}:∀{i:Nat},((fp fs vs i).1==0)=true→fp fs vs i=(0,0):=by
 induction fs generalizing vs with
 |nil=>intro i _;rfl
 |cons f fs ih=>
  intro i h
  cases vs with
  |nil=>rfl
  |cons v vs=>
   simp only[fp] at h ⊢
   cases h1:v==[]<;>cases h2:f.must<;>cases h3:de f v<;>simp only[h1,h2,h3,cond_true,cond_false] at h ⊢ <;>first|exact ih h|(simp at h;done)
theorem j9 (xs:List GateShape) (o:GateObject):Spec P 183 [.d (aa xs),st o.e] (Df (jm xs o)):=by
 refine Spec.of_vc aJ aw [.tmp 4,.tmp 5] Tryz.func183 rfl rfl rfl rfl (fun hok=>?_)
 have hform:=yp xs o
 have hfields:=th xs o
 have hpair:jm xs o=bif kb xs o&&aI xs then fp (ah xs o.kind o.values.length).1 o.values 0 else (1,0):=by
  unfold jm A5
  cases aI xs<;>cases kb xs o<;>rfl
 rw[hpair]
 generalize (kb xs o&&aI xs)=b at*
 repeat refine ai ?_
 refine ⟨fun m l h=>∃i:Nat,m=2 - i∧i≤2∧(i=0∨b=true)∧(i=2→((fp (ah xs o.kind o.values.length).1 o.values 0).1==0)=true)∧l=[(0,.d (aa xs)),(3,.ptr 0 0),(9,.d (.list [[.fn 213],[.fn 214]])),(10,.d (.int .i64 2)),(11,.d (.int .i64 i))]∧h=⟨[(0,.cells 103 (o.e.map .d))],1,0⟩,
  ⟨_,_,_,⟨0,rfl,Nat.zero_le _,.inl rfl,fun h=>(by cases h),rfl,rfl⟩,rfl,rfl,⟨rfl,rfl,rfl,rfl,rfl,trivial⟩,⟨rfl,trivial⟩,⟨rfl,trivial⟩⟩,?_⟩
 rintro m l hh ⟨i,rfl,hi,hb,hz,rfl,rfl⟩
 rcases (show i=0∨i=1∨i=2 by omega) with rfl|rfl|rfl
 ·repeat refine ai ?_
  refine ay ?_
  repeat refine ai ?_
  refine ⟨by decide,_,rfl,rfl,?_⟩
  cases b with
  |false=>
   replace hform:Spec P 213 [.d (aa xs),st o.e] (.iface 264 (.at_ [.int .i64 1,.int .i64 0])):=hform
   repeat refine ai ?_
   refine oc (hform) ?_
   repeat refine ai ?_
   refine ay ?_
   repeat refine ai ?_
   refine oc (DC _ _) ?_
   rfl
  |true=>
   replace hform:Spec P 213 [.d (aa xs),st o.e] (.val .nilIface):=hform
   repeat refine ai ?_
   refine oc (hform) ?_
   repeat refine ai ?_
   refine an ?_
   repeat refine ai ?_
   exact ⟨_,_,_,⟨1,rfl,by decide,.inr rfl,fun h=>(by cases h),rfl,rfl⟩,by decide,rfl,rfl,⟨rfl,rfl,rfl,rfl,rfl,trivial⟩,⟨rfl,trivial⟩,⟨rfl,trivial⟩⟩
 ·have hb':b=true:=by rcases hb with h|h;cases h;exact h
  subst hb'
  repeat refine ai ?_
  refine ay ?_
  repeat refine ai ?_
  refine ⟨by decide,_,rfl,rfl,?_⟩
  unfold Af at hfields
  cases hq:((fp (ah xs o.kind o.values.length).1 o.values 0).1==0) with
  |false=>
   rw[hq] at hfields
   simp only[cond_true,cond_false] at hfields
   repeat refine ai ?_
   refine oc (hfields) ?_
   repeat refine ai ?_
   refine ay ?_
   repeat refine ai ?_
   refine oc (DC _ _) ?_
   rfl
  |true=>
   rw[hq] at hfields
   simp only[cond_true,cond_false] at hfields
   repeat refine ai ?_
   refine oc (hfields) ?_
   repeat refine ai ?_
   refine an ?_
   repeat refine ai ?_
   exact ⟨_,_,_,⟨2,rfl,by decide,.inr rfl,fun _=>rfl,rfl,rfl⟩,by decide,rfl,rfl,⟨rfl,rfl,rfl,rfl,rfl,trivial⟩,⟨rfl,trivial⟩,⟨rfl,trivial⟩⟩
 ·have hb':b=true:=by rcases hb with h|h;cases h;exact h
  subst hb'
  repeat refine ai ?_
  refine an ?_
  rw[cond_true,Cp (hz rfl)]
  rfl
end Go.Vc
end
section
namespace Go.Vc
open Go.Proofs
set_option maxRecDepth 100000
theorem GX (n:Nat) (z:List D):(List.replicate n z).length=n:=List.length_replicate
theorem pL (xs:List Bs):∀r∈xs.map eB,r.length=1:=fun r hr=>by
 obtain ⟨x,_,rfl⟩:=List.mem_map.1 hr
 rfl
theorem wn (xs:List Bs) (h0:0<xs.length) (hs:xs.length≤big):HSpec P 192 [.d (lS xs)] hp0 (.own 0) ⟨[(0,.row 9 1 (xs.map eB))],1,0⟩:=by
 refine js aJ aw [.tmp 2] Tryz.func192 rfl rfl rfl rfl rfl (fun hok=>?_)
 repeat refine ai ?_
 refine aj ?_ ?_<;>intro h1
 ·rw[List.length_map] at h1
  exfalso
  have:=beq_iff_eq.1 h1
  omega
 ·repeat refine ai ?_
  refine ⟨Int.natCast_nonneg _,Int.le_refl _,dN hs,?_⟩
  repeat refine ai ?_
  refine ⟨?_,?_,pL xs,?_⟩
  ·simp
  ·simpa using h0
  repeat refine ai ?_
  all_goals (repeat' first|exact rfl|exact trivial|refine aj ?_ ?_)
theorem j8 (xs:List Bs):Spec P 192 [.d (lS xs)] (.d (lS xs)):=by
 refine Spec.of_vc aJ aw [.tmp 2] Tryz.func192 rfl rfl rfl rfl (fun hok=>?_)
 have hs:xs.length≤big:=az hok.1.1
 repeat refine ai ?_
 refine aj ?_ ?_<;>intro h1
 ·rw[List.length_map] at h1
  have:=beq_iff_eq.1 h1
  have:xs=[]:=List.eq_nil_of_length_eq_zero (by omega)
  subst this
  rfl
 ·rw[List.length_map] at h1
  have h1:=beq_eq_false_iff_ne.1 h1
  repeat refine ai ?_
  refine ⟨Int.natCast_nonneg _,Int.le_refl _,dN hs,?_⟩
  repeat refine ai ?_
  refine ⟨?_,?_,pL xs,?_⟩
  ·simp
  ·rw[List.length_map];omega
  repeat refine ai ?_
  rfl
theorem zO (o:GateObject):Spec P 145 [st o.e] (st o.e):=by
 refine Spec.of_vc aJ aw [.cell 2 103] Tryz.func145 rfl rfl rfl rfl (fun hok=>?_)
 repeat refine ai ?_
 refine oc (j8 _) ?_
 repeat refine ai ?_
 refine oc (j8 _) ?_
 repeat refine ai ?_
 exact rfl
theorem A8 (o:GateObject) (h0:0<o.values.length):HSpec P 145 [st o.e] hp0 (zA o (.own 2) (.d (lS o.holds))) ⟨[(2,.row 9 1 (o.values.map eB))],3,0⟩:=by
 refine js aJ aw [.cell 2 103] Tryz.func145 rfl rfl rfl rfl rfl (fun hok=>?_)
 have hb:=i5 (o:=o) hok
 repeat refine ai ?_
 refine ow (wn o.values h0 hb.1) ?_
 repeat refine ai ?_
 refine oc (j8 _) ?_
 repeat refine ai ?_
 all_goals (repeat' first|exact rfl|exact trivial|refine aj ?_ ?_)
theorem tP (o:GateObject) (hv:o.values.length≤big) (hh:o.holds.length≤big):HSpec P 141 [st o.e] hp0 (zA o (.own 2) (.own 3)) ⟨[(3,.row 9 1 (o.holds.map eB)),(2,.row 9 1 (o.values.map eB))],4,0⟩:=by
 refine js aJ aw [.cell 2 103] Tryz.func141 rfl rfl rfl rfl rfl (fun hok=>?_)
 repeat refine ai ?_
 refine aj (pL _) ?_
 repeat refine ai ?_
 refine aj (by simpa using hv) ?_
 repeat refine ai ?_
 refine aj (pL _) ?_
 repeat refine ai ?_
 refine aj (by simpa using hh) ?_
 repeat refine ai ?_
 all_goals (repeat' first|exact rfl|exact trivial|refine aj ?_ ?_)
end Go.Vc
end
section
namespace Go.Vc
open Go.Proofs
set_option maxRecDepth 100000
def jy (f:GateField) (v:Bs):Bs:=bif v==[] then f.default_ else v
def fr:List GateField→List Bs→List Bs
 |f::fs,v::vs=>jy f v::fr fs vs
 |_,vs=>vs
theorem Gf (vs:List Bs):fr [] vs=vs:=rfl
theorem ox:∀(fs:List GateField) (vs:List Bs),(fr fs vs).length=vs.length
 |[],vs=>rfl
 |f::fs,[]=>rfl
 |f::fs,v::vs=>by simp[fr,ox fs vs]
theorem yB:∀{fs:List GateField} {vs:List Bs} {i:Nat},i<fs.length→(fr (fs.take i) vs)[i]? =vs[i]?
 |[],_,_,h=>by simp at h
 |f::fs,[],i,h=>by cases i<;>simp[fr]
 |f::fs,v::vs,0,h=>rfl
 |f::fs,v::vs,i+1,h=>by simpa [fr] using yB (fs:=fs) (vs:=vs) (i:=i) (by simpa using h)
theorem rS:∀{fs:List GateField} {vs:List Bs} {i:Nat} (h:i<fs.length) (h2:i<vs.length),fr (fs.take (i+1)) vs=(fr (fs.take i) vs).set i (jy fs[i] vs[i])
 |[],_,_,h,_=>by simp at h
 |f::fs,[],i,h,h2=>by simp at h2
 |f::fs,v::vs,0,h,h2=>by simp[fr]
 |f::fs,v::vs,i+1,h,h2=>by simpa [fr] using rS (fs:=fs) (vs:=vs) (i:=i) (by simpa using h) (by simpa using h2)
theorem Bh {fs:List GateField} {vs:List Bs} {i:Nat} (h:i<fs.length) (h2:i<vs.length) (h3:i<(fr (fs.take i) vs).length):(fr (fs.take i) vs)[i]=vs[i]:=by
 have:=yB (vs:=vs) h
 rw[List.getElem?_eq_getElem h3,List.getElem?_eq_getElem h2] at this
 exact Option.some.inj this
theorem qF {α:Type} {l:List α} {i:Nat} (h:i<l.length) {x:α} (e:l[i]=x):l.set i x=l:=by
 subst e;simp
theorem qN {t n:Nat} {W:List Bs} {i:Nat} {v:Bs} (h:i<W.length):some (AO.row t n ((W.map eB).set i (dD (eB W[i]) 0 (eB v))))=some (AO.row t n ((W.set i v).map eB)):=by
 congr 2
 simp only[List.map_set]
 rfl
def fH (xs:List GateShape) (o:GateObject):GateObject:={o with values:=fr (ah xs o.kind o.values.length).1 o.values}
theorem CZ (xs:List GateShape) (o:GateObject):Spec P 207 [.d (aa xs),st o.e] (st (fH xs o).e):=by
 refine Spec.of_vc aJ aw [.cell 4 103] Tryz.func207 rfl rfl rfl rfl (fun hok=>?_)
 have hb:=i5 (o:=o) ⟨hok.2.1,trivial⟩
 repeat refine ai ?_
 refine ow (tP o hb.1 hb.2) ?_
 repeat refine ai ?_
 refine oc (eD _ _) ?_
 obtain ⟨hl,hl2⟩:=ct (xs:=xs) (k:=o.kind) (n:=o.values.length)
 have hfs:(ah xs o.kind o.values.length).2=false→(ah xs o.kind o.values.length).1=[]:=by
  rcases dp (xs:=xs) (k:=o.kind) (n:=o.values.length) with ⟨h1,h2⟩|⟨j,hj,_,h,_⟩
  ·exact fun _=>h2
  ·rw[h];exact fun h=>by cases h
 repeat refine ai ?_
 refine aj ?_ ?_<;>intro h0
 ·simp only[Bool.not_eq_true'] at h0
  have e:fH xs o=o:=by unfold fH;rw[hfs h0];rfl
  rw[e]
  repeat refine ai ?_
  exact rfl
 ·simp only[Bool.not_eq_false'] at h0
  have hl:=hl2 h0
  unfold fH
  generalize (ah xs o.kind o.values.length).1=fs at*
  repeat refine ai ?_
  refine m4 (fs) (fun i (W:List Bs)=>W=fr (fs.take i) o.values) (fun i (W:List Bs)=>[(4,.ptr 1 0),(5,.ptr 6 0),(6,.d (ab fs)),(8,.d (.int .i64 i))]) (fun i (W:List Bs)=>⟨[(6,.cells 103 [.d (.str o.kind),.d (.str o.name),.d (.str o.team),.own 4,.d (.bool o.ending),.own 5,.d (.int .i64 o.version)]),(4,.row 9 1 (W.map eB)),(5,.row 9 1 (o.holds.map eB)),(1,.cells 103 [.d (.str []),.d (.str []),.d (.str []),.nils,.d (.bool false),.nils,.d (.int .i64 0)])],7,0⟩) (rfl) ?_
  intro i W hi hr
  have hs:fs.length≤big:=by omega
  have hW:W.length=o.values.length:=by rw[hr,ox]
  repeat refine ai ?_
  refine aj ?_ ?_<;>intro h1
  ·have hlt:i<fs.length:=V h1
   have hlt2:i<o.values.length:=by omega
   have hlt3:i<W.length:=by omega
   have hv:W[i]=o.values[i]:=by simp only[hr];exact Bh hlt hlt2 _
   have hst:fr (fs.take (i+1)) o.values=W.set i (jy fs[i] o.values[i]):=by rw[hr,←rS hlt hlt2]
   repeat refine ai ?_
   refine aj (Int.natCast_nonneg _) (aj (by rw[List.length_map];omega) ?_)
   repeat refine ai ?_
   refine ⟨_,ws hlt3,?_⟩
   repeat refine ai ?_
   refine aj ?_ ?_<;>intro h2
   ·have hf:jy fs[i] o.values[i]=fs[i].default_:=by unfold jy;rw[←hv,show (W[i]==[])=true from h2];rfl
    repeat refine ai ?_
    refine Hk ?_
    repeat refine ai ?_
    refine O (e:=GateField.e) (xs:=fs) (hlt) rfl ?_
    repeat refine ai ?_
    refine aj (Int.natCast_nonneg _) (aj (by rw[List.length_map];omega) ?_)
    repeat refine ai ?_
    refine ⟨_,ws hlt3,Nat.le_refl _,?_⟩
    repeat refine ai ?_
    exact cQ (W.set i fs[i].default_) hlt hs (by rw[hst,hf]) fun hw=>by repeat' first|exact rfl|exact trivial|exact nd hw|exact qN hlt3|refine aj ?_ ?_
   ·have hf:jy fs[i] o.values[i]=W[i]:=by unfold jy;rw[←hv,show (W[i]==[])=false from h2];rfl
    repeat refine ai ?_
    exact cQ W hlt hs (by rw[hst,hf,qF hlt3 rfl])
  ·have hi':fs.length≤i:=Y h1
   rw[List.take_of_length_le hi'] at hr
   rw[←hr]
   repeat refine ai ?_
   exact rfl
theorem Ck {xs:List GateShape} {o:GateObject} (h0:(ah xs o.kind o.values.length).2=false):fH xs o=o:=by
 unfold fH
 rcases dp (xs:=xs) (k:=o.kind) (n:=o.values.length) with ⟨h1,h2⟩|⟨j,hj,_,h,_⟩
 ·rw[h2];rfl
 ·rw[h] at h0;cases h0
theorem Ad {xs:List GateShape} {o:GateObject} (h0:o.values=[]):fH xs o=o:=by
 unfold fH
 rw[h0]
 cases o
 simp only at h0
 subst h0
 generalize (ah xs _ _).1=fs
 cases fs<;>rfl
theorem zT (xs:List GateShape) (o:GateObject):Spec P 217 [.d (aa xs),st o.e] (st (bif aI xs then fH xs o else o).e):=by
 refine Spec.of_vc aJ aw [.cell 4 103] Tryz.func217 rfl rfl rfl rfl (fun hok=>?_)
 have hb:=i5 (o:=o) ⟨hok.2.1,trivial⟩
 obtain ⟨hl,hl2⟩:=ct (xs:=xs) (k:=o.kind) (n:=o.values.length)
 cases hv:o.values with
 |nil=>
  repeat refine ai ?_
  refine oc (zO _) ?_
  repeat refine ai ?_
  refine oc (fC _ _) ?_
  rw[Ad hv]
  repeat refine ai ?_
  refine aj ?_ ?_<;>intro h0
  ·repeat refine ai ?_
   refine oc (fk _) ?_
   repeat refine ai ?_
   refine aj ?_ ?_<;>intro h1
   ·repeat refine ai ?_
    cases aI xs<;>exact rfl
   ·simp only[Bool.not_eq_false'] at h0 h1
    have hl:=hl2 h0
    rw[hv] at hl
    simp only[hv] at hl ⊢
    generalize (ah xs o.kind ([]:List Bs).length).1=fs at*
    have:fs=[]:=List.eq_nil_of_length_eq_zero hl
    subst this
    repeat refine ai ?_
    refine ⟨I0 ([]:List GateField) (fun _=>True) (fun i=>[(3,.ptr 0 0),(4,.ptr 1 0),(25,.d (ab [])),(26,.d (.int .i64 0)),(27,.d (.int .i64 i))]) (fun i=>⟨[(0,.cells 103 [.d (.str o.kind),.d (.str o.name),.d (.str o.team),.d (lS []),.d (.bool o.ending),.d (lS o.holds),.d (.int .i64 o.version)]),(1,.cells 103 [.d (.str []),.d (.str []),.d (.str []),.nils,.d (.bool false),.nils,.d (.int .i64 0)])],2,0⟩),⟨_,_,_,⟨0,rfl,Nat.zero_le _,trivial,rfl,rfl⟩,by repeat' first|exact rfl|exact trivial|refine aj ?_ ?_⟩,?_⟩
    rintro m l hh ⟨i,rfl,hi,hr,rfl,rfl⟩
    repeat refine ai ?_
    refine aj ?_ ?_<;>intro g1
    ·exact absurd (of_decide_eq_true g1) (by omega)
    ·have ho:st o.e=zA o (.d (lS [])) (.d (lS o.holds)):=by rw[Fo,hv]
     repeat refine ai ?_
     cases aI xs<;>exact ho.symm
  ·repeat refine ai ?_
   cases aI xs<;>exact rfl
 |cons v0 vr=>
  have hpos:0<o.values.length:=by rw[hv];simp
  clear hv
  repeat refine ai ?_
  refine ow (A8 o hpos) ?_
  repeat refine ai ?_
  refine oe (fun g=>o4 xs o g 4) ?_
  repeat refine ai ?_
  refine aj ?_ ?_<;>intro h0
  ·repeat refine ai ?_
   refine oc (fk _) ?_
   repeat refine ai ?_
   refine aj ?_ ?_<;>intro h1
   ·simp only[Bool.not_eq_true',Bool.not_eq_false'] at h0 h1
    rw[h1]
    repeat refine ai ?_
    exact rfl
   ·simp only[Bool.not_eq_false'] at h0 h1
    have hl:=hl2 h0
    rw[h1]
    unfold fH
    generalize (ah xs o.kind o.values.length).1=fs at*
    repeat refine ai ?_
    refine m4 (fs) (fun i (W:List Bs)=>W=fr (fs.take i) o.values) (fun i (W:List Bs)=>[(3,.ptr 0 0),(4,.ptr 1 0),(25,.d (ab fs)),(26,.d (.int .i64 (fs.map GateField.e).length)),(27,.d (.int .i64 i))]) (fun i (W:List Bs)=>⟨[(0,.cells 103 [.d (.str o.kind),.d (.str o.name),.d (.str o.team),.own 4,.d (.bool o.ending),.d (lS o.holds),.d (.int .i64 o.version)]),(4,.row 9 1 (W.map eB)),(1,.cells 103 [.d (.str []),.d (.str []),.d (.str []),.nils,.d (.bool false),.nils,.d (.int .i64 0)])],5,0⟩) (rfl) ?_
    intro i W hi hr
    have hs:fs.length≤big:=by omega
    have hW:W.length=o.values.length:=by rw[hr,ox]
    repeat refine ai ?_
    refine aj ?_ ?_<;>intro g1
    ·have hlt:i<fs.length:=V g1
     have hlt2:i<o.values.length:=by omega
     have hlt3:i<W.length:=by omega
     have hv:W[i]=o.values[i]:=by simp only[hr];exact Bh hlt hlt2 _
     have hst:fr (fs.take (i+1)) o.values=W.set i (jy fs[i] o.values[i]):=by rw[hr,←rS hlt hlt2]
     repeat refine ai ?_
     refine O (e:=GateField.e) (xs:=fs) (hlt) rfl ?_
     repeat refine ai ?_
     refine aj (Int.natCast_nonneg _) (aj (by rw[List.length_map];omega) ?_)
     repeat refine ai ?_
     refine ⟨_,ws hlt3,?_⟩
     repeat refine ai ?_
     refine aj ?_ ?_<;>intro h2
     ·have hf:jy fs[i] o.values[i]=fs[i].default_:=by unfold jy;rw[←hv,show (W[i]==[])=true from h2];rfl
      repeat refine ai ?_
      refine aj (Int.natCast_nonneg _) (aj (by rw[List.length_map];omega) ?_)
      repeat refine ai ?_
      refine ⟨_,ws hlt3,Nat.le_refl _,?_⟩
      repeat refine ai ?_
      exact cQ (W.set i fs[i].default_) hlt hs (by rw[hst,hf]) fun hw=>by repeat' first|exact rfl|exact trivial|exact nd hw|exact qN hlt3|refine aj ?_ ?_
     ·have hf:jy fs[i] o.values[i]=W[i]:=by unfold jy;rw[←hv,show (W[i]==[])=false from h2];rfl
      repeat refine ai ?_
      exact cQ W hlt hs (by rw[hst,hf,qF hlt3 rfl])
    ·have hi':fs.length≤i:=Y g1
     rw[List.take_of_length_le hi'] at hr
     rw[←hr]
     repeat refine ai ?_
     exact rfl
  ·simp only[Bool.not_eq_true'] at h0
   rw[Ck h0]
   repeat refine ai ?_
   cases aI xs<;>exact rfl
end Go.Vc
end
section
namespace Go.Vc
def Ho (rd:Bs→List Bs) (ns:List Bs):Prop:=∃r:Bs→Nat,∀n∈ns,∀y∈rd n,r y<r n
def stepG (rd:Bs→List Bs) (ns row:List Bs):List Bs:=
 match ns.find? (fun f=> !row.contains f&&(rd f).all row.contains) with
 |some f=>row++[f]
 |none=>row
def fE (rd:Bs→List Bs) (ns:List Bs):Nat→List Bs
 |0=>[]
 |k+1=>stepG rd ns (fE rd ns k)
theorem eH:∀{xs ys:List Bs},xs.Nodup→(∀x∈xs,x∈ys)→xs.length≤ys.length
 |[],_,_,_=>Nat.zero_le _
 |x::xs,ys,hn,hs=>by
  have hn':=List.nodup_cons.1 hn
  have hx:x∈ys:=hs x List.mem_cons_self
  have h1:xs.length≤(ys.erase x).length:=eH hn'.2 (fun y hy=>by
   have hne:y≠x:=fun e=>hn'.1 (e▸hy)
   exact (List.mem_erase_of_ne hne).2 (hs y (List.mem_cons_of_mem _ hy)))
  have h2:=List.length_erase_of_mem hx
  have h3:=List.length_pos_of_mem hx
  simp only[List.length_cons];omega
theorem yA {α:Type} (p:α→Prop) (r:α→Nat):∀m:Nat,(∃x,p x∧r x≤m)→∃x,p x∧∀y,p y→r x≤r y
 |0,⟨x,hx,hr⟩=>⟨x,hx,fun y _=>by omega⟩
 |m+1,⟨x,hx,hr⟩=>by
  by_cases h:∃y,p y∧r y≤m
  ·exact yA p r m h
  ·exact ⟨x,hx,fun y hy=>by
    have:¬r y≤m:=fun c=>h ⟨y,hy,c⟩
    omega⟩
theorem Ae:∀{ns row:List Bs},ns.Nodup→row.length<ns.length→∃x,x∈ns∧x ∉ row:=by
 intro ns row hn hl
 refine Classical.byContradiction fun h=>?_
 have:ns.length≤row.length:=eH hn (fun x hx=>Classical.byContradiction fun hx'=>h ⟨x,hx,hx'⟩)
 omega
structure tA (rd:Bs→List Bs) (ns row:List Bs):Prop where
 nd:row.Nodup
 sub:∀x∈row,x∈ns
 beh:∀x∈row,∀y∈rd x,row.idxOf y<row.idxOf x
theorem gF {row:List Bs} {x f:Bs} (h:x∈row):(row++[f]).idxOf x=row.idxOf x:=by
 rw[List.idxOf_append,if_pos h]
theorem Ch {rd:Bs→List Bs} {ns row:List Bs} {f:Bs} (g:tA rd ns row) (hf:f∈ns) (h:f ∉ row) (hr:∀y∈rd f,y∈row):tA rd ns (row++[f]):=by
 refine ⟨?_,?_,?_⟩
 ·rw[List.nodup_append]
  refine ⟨g.nd,by simp,?_⟩
  intro a ha b hb e
  rw[List.mem_singleton] at hb
  exact h (hb▸e▸ha)
 ·intro x hx
  rcases List.mem_append.1 hx with hx|hx
  ·exact g.sub x hx
  ·rw[List.mem_singleton] at hx;exact hx▸hf
 ·intro x hx y hy
  rcases List.mem_append.1 hx with hx|hx
  ·have h1:=g.beh x hx y hy
   have h2:row.idxOf x<row.length:=List.idxOf_lt_length_of_mem hx
   have hy':y∈row:=List.idxOf_lt_length_iff.1 (by omega)
   rw[gF hx,gF hy'];exact h1
  ·rw[List.mem_singleton] at hx
   subst hx
   have hy':=hr y hy
   rw[gF hy',List.idxOf_append,if_neg h]
   have:=List.idxOf_lt_length_of_mem hy'
   omega
theorem zb {rd:Bs→List Bs} {ns row:List Bs} (g:tA rd ns row):tA rd ns (stepG rd ns row):=by
 unfold stepG
 split
 ·rename_i f hf
  have h1:=List.find?_some hf
  rw[Bool.and_eq_true,Bool.not_eq_true'] at h1
  refine Ch g (List.mem_of_find?_eq_some hf) ?_ ?_
  ·intro c
   have:=h1.1
   rw[←Bool.not_eq_true,List.contains_iff_mem] at this
   exact this c
  ·intro y hy
   have:=List.all_eq_true.1 h1.2 y hy
   exact List.contains_iff_mem.1 this
 ·exact g
theorem fY (rd:Bs→List Bs) (ns:List Bs):∀k,tA rd ns (fE rd ns k)
 |0=>⟨List.nodup_nil,(fun x hx=>absurd hx List.not_mem_nil),(fun x hx=>absurd hx List.not_mem_nil)⟩
 |k+1=>zb (fY rd ns k)
theorem o5 {rd:Bs→List Bs} {ns:List Bs} (hn:ns.Nodup) (hin:∀n∈ns,∀y∈rd n,y∈ns) (ha:Ho rd ns):∀k,k≤ns.length→(fE rd ns k).length=k
 |0,_=>rfl
 |k+1,h=>by
  have ih:=o5 hn hin ha k (by omega)
  have g:=fY rd ns k
  obtain ⟨r,hr⟩:=ha
  obtain ⟨x0,hx0,hx0'⟩:=Ae (row:=fE rd ns k) hn (by omega)
  obtain ⟨x,⟨hx,hxr⟩,hmin⟩:=yA (fun x=>x∈ns∧x ∉ fE rd ns k) r (r x0) ⟨x0,⟨hx0,hx0'⟩,Nat.le_refl _⟩
  have hready:(!(fE rd ns k).contains x&&(rd x).all (fE rd ns k).contains)=true:=by
   rw[Bool.and_eq_true,Bool.not_eq_true',List.all_eq_true]
   refine ⟨?_,fun y hy=>?_⟩
   ·rw[←Bool.not_eq_true,List.contains_iff_mem];exact hxr
   ·refine List.contains_iff_mem.2 (Classical.byContradiction fun c=>?_)
    have:=hmin y ⟨hin x hx y hy,c⟩
    have:=hr x hx y hy
    omega
  show (stepG rd ns (fE rd ns k)).length=k+1
  unfold stepG
  split
  ·rw[List.length_append,ih];rfl
  ·rename_i hf
   have:=List.find?_eq_none.1 hf x hx
   exact absurd hready this
theorem zW {rd:Bs→List Bs} {ns:List Bs} (hn:ns.Nodup) (h:(fE rd ns ns.length).length=ns.length):Ho rd ns:=by
 have g:=fY rd ns ns.length
 refine ⟨(fE rd ns ns.length).idxOf,fun n hm y hy=>g.beh n ?_ y hy⟩
 refine Classical.byContradiction fun c=>?_
 have:(n::fE rd ns ns.length).length≤ns.length:=eH (List.nodup_cons.2 ⟨c,g.nd⟩) (fun x hx=>by
  rcases List.mem_cons.1 hx with e|e
  ·exact e▸hm
  ·exact g.sub x e)
 rw[List.length_cons] at this
 omega
structure Wk where
 st:List (Bs×Int)
 out:List Bs
def lk:List (Bs×Int)→Bs→Int
 |[],_=>0
 |(k,v)::r,x=>bif k==x then v else lk r x
def pt:List (Bs×Int)→Bs→Int→List (Bs×Int)
 |[],x,v=>[(x,v)]
 |(k,u)::r,x,v=>bif k==x then (k,v)::r else (k,u)::pt r x v
theorem fi {x y:Bs} {v:Int}:∀{s:List (Bs×Int)},lk (pt s x v) y=bif x==y then v else lk s y
 |[]=>by simp only[pt,lk]
 |(k,u)::r=>by
  cases h:k==x with
  |true=>
   have e:k=x:=beq_iff_eq.1 h
   subst e
   simp only[pt,h,cond_true,lk]
   cases k==y<;>rfl
  |false=>
   simp only[pt,h,cond_false,lk,fi (s:=r)]
   cases h2:k==y with
   |true=>
    have e:k=y:=beq_iff_eq.1 h2
    subst e
    have:(x==k)=false:=by rw[←Bool.not_eq_true,beq_iff_eq];rw[←Bool.not_eq_true,beq_iff_eq] at h;exact fun c=>h c.symm
    rw[this];rfl
   |false=>rfl
def bJ (w:Bs→Wk→Bool×Wk):List Bs→Wk→Bool×Wk
 |[],s=>(true,s)
 |y::ys,s=>match w y s with
  |(false,s')=>(false,s')
  |(true,s')=>bJ w ys s'
def bX (rd:Bs→List Bs):Nat→Bs→Wk→Bool×Wk
 |0,_,s=>(false,s)
 |k+1,x,s=>bif lk s.st x==1 then (false,s) else bif lk s.st x==2 then (true,s) else
  match bJ (bX rd k) (rd x) ⟨pt s.st x 1,s.out⟩ with
  |(false,s')=>(false,s')
  |(true,s')=>(true,⟨pt s'.st x 2,s'.out++[x]⟩)
def white (ns:List Bs) (s:Wk):Nat:=(ns.filter fun n=>lk s.st n==0).length
structure nw (rd:Bs→List Bs) (ns:List Bs) (s:Wk):Prop where
 nd:s.out.Nodup
 sub:∀x∈s.out,x∈ns
 val:∀x,lk s.st x=0∨lk s.st x=1∨lk s.st x=2
 two:∀x,lk s.st x=2↔x∈s.out
 beh:∀x∈s.out,∀y∈rd x,s.out.idxOf y<s.out.idxOf x
structure WkLe (s s':Wk):Prop where
 one:∀x,lk s.st x=1↔lk s'.st x=1
 two:∀x,lk s.st x=2→lk s'.st x=2
 white:∀x,lk s'.st x=0→lk s.st x=0
theorem WkLe.refl (s:Wk):WkLe s s:=⟨fun _=>Iff.rfl,fun _ h=>h,fun _ h=>h⟩
theorem WkLe.trans {a b c:Wk} (h:WkLe a b) (k:WkLe b c):WkLe a c:=⟨fun x=>(h.one x).trans (k.one x),fun x e=>k.two x (h.two x e),fun x e=>h.white x (k.white x e)⟩
theorem ik {p q:Bs→Bool}:∀{ns:List Bs},(∀x,p x=true→q x=true)→(ns.filter p).length≤(ns.filter q).length
 |[],_=>Nat.le_refl _
 |n::ns,h=>by
  have ih:=ik (ns:=ns) h
  cases hp:p n with
  |true=>rw[List.filter_cons_of_pos hp,List.filter_cons_of_pos (h n hp)];simp only[List.length_cons];omega
  |false=>
   rw[List.filter_cons_of_neg (by rw[hp];simp)]
   cases hq:q n with
   |true=>rw[List.filter_cons_of_pos hq];simp only[List.length_cons];omega
   |false=>rw[List.filter_cons_of_neg (by rw[hq];simp)];exact ih
theorem kZ {p q:Bs→Bool} {a:Bs}:∀{ns:List Bs},(∀x,p x=true→q x=true)→a∈ns→p a=false→q a=true→(ns.filter p).length<(ns.filter q).length
 |[],_,h,_,_=>absurd h List.not_mem_nil
 |n::ns,h,ha,h1,h2=>by
  by_cases e:n=a
  ·subst e
   rw[List.filter_cons_of_neg (by rw[h1];simp),List.filter_cons_of_pos h2]
   have:=ik (ns:=ns) h
   simp only[List.length_cons];omega
  ·have hm:a∈ns:=(List.mem_cons.1 ha).resolve_left (fun c=>e c.symm)
   have ih:=kZ (ns:=ns) h hm h1 h2
   cases hp:p n with
   |true=>rw[List.filter_cons_of_pos hp,List.filter_cons_of_pos (h n hp)];simp only[List.length_cons];omega
   |false=>
    rw[List.filter_cons_of_neg (by rw[hp];simp)]
    cases hq:q n with
    |true=>rw[List.filter_cons_of_pos hq];simp only[List.length_cons];omega
    |false=>rw[List.filter_cons_of_neg (by rw[hq];simp)];exact ih
theorem wU {ns:List Bs} {s s':Wk} (h:WkLe s s'):white ns s'≤white ns s:=ik (fun x hx=>by
 rw[beq_iff_eq] at hx ⊢;exact h.white x hx)
theorem wT {ns:List Bs} {s:Wk} {x:Bs} (hx:x∈ns) (h:lk s.st x=0) (o:List Bs):white ns ⟨pt s.st x 1,o⟩<white ns s:=by
 refine kZ (a:=x) (fun y hy=>?_) hx ?_ ?_
 ·simp only[fi] at hy
  cases e:x==y with
  |true=>rw[e] at hy;simp at hy
  |false=>rw[e] at hy;exact hy
 ·simp only[fi,BEq.rfl,cond_true];rfl
 ·rw[h];rfl
def yR (rd:Bs→List Bs) (ns:List Bs) (x:Bs) (s:Wk) (r:Bool×Wk):Prop:=
 (r.1=true→nw rd ns r.2∧WkLe s r.2∧lk r.2.st x=2)∧
 (r.1=false→∀rk:Bs→Nat,(∀n∈ns,∀y∈rd n,rk y<rk n)→∃z,lk s.st z=1∧rk z≤rk x)
theorem iN {rd:Bs→List Bs} {ns:List Bs} {w:Bs→Wk→Bool×Wk} {n:Nat}:∀(ys:List Bs) (s:Wk),(∀y∈ys,∀s,nw rd ns s→white ns s≤n→yR rd ns y s (w y s))→nw rd ns s→white ns s≤n→
 ((bJ w ys s).1=true→nw rd ns (bJ w ys s).2∧WkLe s (bJ w ys s).2∧∀y∈ys,lk (bJ w ys s).2.st y=2)∧
 ((bJ w ys s).1=false→∀rk:Bs→Nat,(∀n∈ns,∀y∈rd n,rk y<rk n)→∃z y,y∈ys∧lk s.st z=1∧rk z≤rk y)
 |[],s,_,hs,_=>⟨fun _=>⟨hs,WkLe.refl _,fun y hy=>absurd hy List.not_mem_nil⟩,fun h=>by simp[bJ] at h⟩
 |y::ys,s,hw,hs,hn=>by
  have g:=hw y List.mem_cons_self s hs hn
  unfold bJ
  cases e:w y s with
  |mk b s'=>cases b with
   |false=>
    refine ⟨fun h=>by simp at h,fun _ rk hrk=>?_⟩
    rw[e] at g
    obtain ⟨z,h1,h2⟩:=g.2 rfl rk hrk
    exact ⟨z,y,List.mem_cons_self,h1,h2⟩
   |true=>
    rw[e] at g
    obtain ⟨g1,g2,g3⟩:=g.1 rfl
    have ih:=iN ys s' (fun y hy=>hw y (List.mem_cons_of_mem _ hy)) g1 (Nat.le_trans (wU g2) hn)
    refine ⟨fun h=>?_,fun h rk hrk=>?_⟩
    ·obtain ⟨i1,i2,i3⟩:=ih.1 h
     refine ⟨i1,g2.trans i2,fun u hu=>?_⟩
     rcases List.mem_cons.1 hu with c|c
     ·rw[c];exact i2.two y g3
     ·exact i3 u c
    ·obtain ⟨z,u,hu,h1,h2⟩:=ih.2 h rk hrk
     exact ⟨z,u,List.mem_cons_of_mem _ hu,(g2.one z).2 h1,h2⟩
theorem gz {rd:Bs→List Bs} {ns:List Bs} (hin:∀n∈ns,∀y∈rd n,y∈ns):∀(k:Nat) (x:Bs) (s:Wk),x∈ns→nw rd ns s→white ns s<k→yR rd ns x s (bX rd k x s)
 |0,_,_,_,_,h=>by omega
 |k+1,x,s,hx,hs,hn=>by
  unfold bX
  cases h1:lk s.st x==1 with
  |true=>
   rw[beq_iff_eq] at h1
   exact ⟨fun h=>by simp at h,fun _ rk _=>⟨x,h1,Nat.le_refl _⟩⟩
  |false=>cases h2:lk s.st x==2 with
   |true=>
    rw[beq_iff_eq] at h2
    exact ⟨fun _=>⟨hs,WkLe.refl _,h2⟩,fun h=>by simp at h⟩
   |false=>
    have h0:lk s.st x=0:=by
     have e1:lk s.st x≠1:=fun c=>by rw[c] at h1;simp at h1
     have e2:lk s.st x≠2:=fun c=>by rw[c] at h2;simp at h2
     rcases hs.val x with c|c|c
     ·exact c
     ·exact absurd c e1
     ·exact absurd c e2
    have hout:x ∉ s.out:=fun c=>by
     have:=(hs.two x).2 c
     rw[h0] at this;exact absurd this (by decide)
    simp only[cond_false]
    have hs1:nw rd ns ⟨pt s.st x 1,s.out⟩:=by
     refine ⟨hs.nd,hs.sub,fun y=>?_,fun y=>?_,hs.beh⟩
     ·simp only[fi]
      cases x==y
      ·exact hs.val y
      ·exact .inr (.inl rfl)
     ·simp only[fi]
      cases e:x==y with
      |true=>
       have e':x=y:=beq_iff_eq.1 e
       subst e'
       exact ⟨fun c=>by simp at c,fun c=>absurd c hout⟩
      |false=>exact hs.two y
    have hw:=wT hx h0 s.out
    have g:=iN (rd:=rd) (ns:=ns) (w:=bX rd k) (n:=white ns ⟨pt s.st x 1,s.out⟩) (rd x) ⟨pt s.st x 1,s.out⟩
     (fun y hy s' hs' hl=>gz hin k y s' (hin x hx y hy) hs' (by omega)) hs1 (Nat.le_refl _)
    cases e:bJ (bX rd k) (rd x) ⟨pt s.st x 1,s.out⟩ with
    |mk b s'=>
     rw[e] at g
     cases b with
     |false=>
      refine ⟨fun h=>by simp at h,fun _ rk hrk=>?_⟩
      obtain ⟨z,y,hy,hz,hle⟩:=g.2 rfl rk hrk
      have hlt:=hrk x hx y hy
      refine ⟨z,?_,by omega⟩
      have hz':lk (pt s.st x 1) z=1:=hz
      rw[fi] at hz'
      cases e2:x==z with
      |true=>
       have e3:x=z:=beq_iff_eq.1 e2
       subst e3
       omega
      |false=>rw[e2] at hz';exact hz'
     |true=>
      obtain ⟨g1,g2,g3⟩:=g.1 rfl
      have g1:nw rd ns s':=g1
      have g3:∀y∈rd x,lk s'.st y=2:=g3
      refine ⟨fun _=>?_,fun h=>by simp at h⟩
      have hx1:lk s'.st x=1:=(g2.one x).1 (by simp only[fi,BEq.rfl,cond_true])
      have hx':x ∉ s'.out:=fun c=>by
       have:=(g1.two x).2 c
       rw[hx1] at this;exact absurd this (by decide)
      refine ⟨⟨?_,?_,fun y=>?_,fun y=>?_,?_⟩,⟨fun y=>?_,fun y hy=>?_,fun y hy=>?_⟩,?_⟩
      ·show (s'.out++[x]).Nodup
       rw[List.nodup_append]
       refine ⟨g1.nd,by simp,?_⟩
       intro a ha b hb e
       rw[List.mem_singleton] at hb
       exact hx' (hb▸e▸ha)
      ·intro y hy
       rcases List.mem_append.1 hy with hy|hy
       ·exact g1.sub y hy
       ·rw[List.mem_singleton] at hy;exact hy▸hx
      ·simp only[fi]
       cases x==y
       ·exact g1.val y
       ·exact .inr (.inr rfl)
      ·simp only[fi,List.mem_append,List.mem_singleton]
       cases e2:x==y with
       |true=>
        have e3:x=y:=beq_iff_eq.1 e2
        exact ⟨fun _=> .inr e3.symm,fun _=>rfl⟩
       |false=>
        have e3:x≠y:=fun c=>by rw[c] at e2;simp at e2
        exact (g1.two y).trans ⟨.inl,fun c=>c.resolve_right (fun c=>e3 c.symm)⟩
      ·intro u hu y hy
       rcases List.mem_append.1 hu with hu|hu
       ·have q1:=g1.beh u hu y hy
        have q2:s'.out.idxOf u<s'.out.length:=List.idxOf_lt_length_of_mem hu
        have hy':y∈s'.out:=List.idxOf_lt_length_iff.1 (by omega)
        rw[gF hu,gF hy'];exact q1
       ·rw[List.mem_singleton] at hu
        subst hu
        have hy':=(g1.two y).1 (g3 y hy)
        rw[gF hy',List.idxOf_append,if_neg hx']
        have:=List.idxOf_lt_length_of_mem hy'
        omega
      ·simp only[fi]
       cases e2:x==y with
       |true=>
        have e3:x=y:=beq_iff_eq.1 e2
        subst e3
        rw[h0]
        exact ⟨fun c=>by simp at c,fun c=>by simp at c⟩
       |false=>
        have:=g2.one y
        simp only[fi,e2,cond_false] at this
        exact this
      ·simp only[fi]
       cases e2:x==y with
       |true=>rfl
       |false=>
        have:=g2.two y
        simp only[fi,e2,cond_false] at this
        exact this hy
      ·simp only[fi] at hy
       cases e2:x==y with
       |true=>rw[e2] at hy;simp at hy
       |false=>
        rw[e2] at hy
        have:=g2.white y hy
        simp only[fi,e2,cond_false] at this
        exact this
      ·simp only[fi,BEq.rfl,cond_true]
def Bq:Wk:=⟨[],[]⟩
theorem yV (rd:Bs→List Bs) (ns:List Bs):nw rd ns Bq:=⟨List.nodup_nil,fun x h=>absurd h List.not_mem_nil,fun _=> .inl rfl,fun x=>⟨fun h=>absurd (show (0:Int)=2 from h) (by decide),fun h=>absurd h List.not_mem_nil⟩,fun x h=>absurd h List.not_mem_nil⟩
theorem ko (ns:List Bs) (s:Wk):white ns s≤ns.length:=List.length_filter_le _ _
theorem tD {w:Bs→Wk→Bool×Wk} (hw:∀y s,∃t,(w y s).2.out=s.out++t):∀(ys:List Bs) (s:Wk),∃t,(bJ w ys s).2.out=s.out++t
 |[],s=>⟨[],by simp[bJ]⟩
 |y::ys,s=>by
  obtain ⟨t,ht⟩:=hw y s
  unfold bJ
  cases e:w y s with
  |mk b s'=>
   rw[e] at ht
   cases b with
   |false=>exact ⟨t,ht⟩
   |true=>
    obtain ⟨t2,ht2⟩:=tD hw ys s'
    exact ⟨t++t2,by rw[←List.append_assoc,←ht];exact ht2⟩
theorem gI (rd:Bs→List Bs):∀(k:Nat) (x:Bs) (s:Wk),∃t,(bX rd k x s).2.out=s.out++t
 |0,_,s=>⟨[],by simp[bX]⟩
 |k+1,x,s=>by
  unfold bX
  cases lk s.st x==1 with
  |true=>exact ⟨[],by simp⟩
  |false=>cases lk s.st x==2 with
   |true=>exact ⟨[],by simp⟩
   |false=>
    obtain ⟨t,ht⟩:=tD (w:=bX rd k) (gI rd k) (rd x) ⟨pt s.st x 1,s.out⟩
    simp only[cond_false]
    cases e:bJ (bX rd k) (rd x) ⟨pt s.st x 1,s.out⟩ with
    |mk b s'=>
     rw[e] at ht
     cases b with
     |false=>exact ⟨t,ht⟩
     |true=>exact ⟨t++[x],by rw[←List.append_assoc,←ht]⟩
theorem lW {rd:Bs→List Bs} {k:Nat} {x:Bs} {s:Wk} (h:(lk s.st x==1)=true):bX rd (k+1) x s=(false,s):=by
 unfold bX;rw[h];rfl
theorem lV {rd:Bs→List Bs} {k:Nat} {x:Bs} {s:Wk} (h:(lk s.st x==1)=false) (h2:(lk s.st x==2)=true):bX rd (k+1) x s=(true,s):=by
 unfold bX;rw[h,h2];rfl
theorem gT {rd:Bs→List Bs} {k:Nat} {x:Bs} {s s':Wk} (h:(lk s.st x==1)=false) (h2:(lk s.st x==2)=false) (e:bJ (bX rd k) (rd x) ⟨pt s.st x 1,s.out⟩=(false,s')):bX rd (k+1) x s=(false,s'):=by
 unfold bX;rw[h,h2,e];rfl
theorem ip {rd:Bs→List Bs} {k:Nat} {x:Bs} {s s':Wk} (h:(lk s.st x==1)=false) (h2:(lk s.st x==2)=false) (e:bJ (bX rd k) (rd x) ⟨pt s.st x 1,s.out⟩=(true,s')):bX rd (k+1) x s=(true,⟨pt s'.st x 2,s'.out++[x]⟩):=by
 unfold bX;rw[h,h2,e];rfl
theorem dG {w:Bs→Wk→Bool×Wk} {ys:List Bs} {i:Nat} {s:Wk} (h:i<ys.length):bJ w (ys.drop i) s=match w ys[i] s with
 |(false,s')=>(false,s')
 |(true,s')=>bJ w (ys.drop (i+1)) s':=by
 rw[List.drop_eq_getElem_cons h];rfl
theorem eO {w:Bs→Wk→Bool×Wk} {ys:List Bs} {i:Nat} {s:Wk} (h:ys.length≤i):bJ w (ys.drop i) s=(true,s):=by
 rw[List.drop_of_length_le h];rfl
structure yQ (rd:Bs→List Bs) (ns:List Bs) (x:Bs) (s s1:Wk):Prop where
 ok:nw rd ns s1
 one:lk s1.st x=1
 white:white ns s1<white ns s
theorem lU {rd:Bs→List Bs} {ns:List Bs} {x:Bs} {s:Wk} (hx:x∈ns) (hs:nw rd ns s) (h1:(lk s.st x==1)=false) (h2:(lk s.st x==2)=false):yQ rd ns x s ⟨pt s.st x 1,s.out⟩:=by
 have h0:lk s.st x=0:=by
  rcases hs.val x with c|c|c
  ·exact c
  ·rw[c] at h1;simp at h1
  ·rw[c] at h2;simp at h2
 have hout:x ∉ s.out:=fun c=>by
  have:=(hs.two x).2 c
  rw[h0] at this;exact absurd this (by decide)
 refine ⟨⟨hs.nd,hs.sub,fun y=>?_,fun y=>?_,hs.beh⟩,by simp only[fi,BEq.rfl,cond_true],wT hx h0 _⟩
 ·simp only[fi]
  cases x==y
  ·exact hs.val y
  ·exact .inr (.inl rfl)
 ·simp only[fi]
  cases e:x==y with
  |true=>
   have e':x=y:=beq_iff_eq.1 e
   subst e'
   exact ⟨fun c=>by simp at c,fun c=>absurd c hout⟩
  |false=>exact hs.two y
theorem gR {rd:Bs→List Bs} {ns:List Bs} (hin:∀n∈ns,∀y∈rd n,y∈ns) {k:Nat} {x y:Bs} {s s1 s2:Wk} (h:yQ rd ns x s s1) (hk:white ns s<k+1) (hy:y∈ns) (e:bX rd k y s1=(true,s2)):yQ rd ns x s s2:=by
 have hw:=h.white
 have g:=gz hin k y s1 hy h.ok (by omega)
 rw[e] at g
 obtain ⟨g1,g2,_⟩:=g.1 rfl
 exact ⟨g1,(g2.one x).1 h.one,Nat.lt_of_le_of_lt (wU g2) h.white⟩
theorem kn {rd:Bs→List Bs} {ns:List Bs} {x:Bs} {s s1:Wk} (hx:x∈ns) (h:yQ rd ns x s s1):s1.out.length+1≤ns.length:=by
 have:(x::s1.out).length≤ns.length:=eH (List.nodup_cons.2 ⟨fun c=>by
  have:=(h.ok.two x).2 c
  rw[h.one] at this;exact absurd this (by decide),h.ok.nd⟩) (fun y hy=>by
  rcases List.mem_cons.1 hy with e|e
  ·exact e▸hx
  ·exact h.ok.sub y e)
 exact this
theorem CG {rd:Bs→List Bs} {ns:List Bs} (hin:∀n∈ns,∀y∈rd n,y∈ns):(bJ (bX rd (ns.length+1)) ns Bq).1=true↔Ho rd ns:=by
 have g:=iN (rd:=rd) (ns:=ns) (w:=bX rd (ns.length+1)) (n:=ns.length) ns Bq
  (fun y hy s hs hl=>gz hin _ y s hy hs (by omega)) (yV rd ns) (ko _ _)
 constructor
 ·intro h
  obtain ⟨g1,g2,g3⟩:=g.1 h
  exact ⟨(bJ (bX rd (ns.length+1)) ns Bq).2.out.idxOf,fun n hn y hy=>g1.beh n ((g1.two n).1 (g3 n hn)) y hy⟩
 ·rintro ⟨rk,hrk⟩
  cases e:(bJ (bX rd (ns.length+1)) ns Bq).1 with
  |true=>rfl
  |false=>
   obtain ⟨z,y,hy,hz,_⟩:=g.2 e rk hrk
   exact absurd hz (by show ¬((0:Int)=1);decide)
theorem wV {rd:Bs→List Bs} {ns:List Bs} (hn:ns.Nodup) (hin:∀n∈ns,∀y∈rd n,y∈ns):
 (bJ (bX rd (ns.length+1)) ns Bq).1=decide ((fE rd ns ns.length).length=ns.length):=by
 rw[Bool.eq_iff_iff,decide_eq_true_eq,CG hin]
 exact ⟨fun h=>o5 hn hin h _ (Nat.le_refl _),zW hn⟩
end Go.Vc
end
section
namespace Go.Vc
theorem Bn {α:Type} {key:α→Bs}:∀{xs:List α} {p:Option Bs},dF key p xs=true→∀a∈xs,∀b∈xs,key a=key b→a=b
 |[],_,_,a,ha,_,_,_=>by cases ha
 |x::xs,p,h,a,ha,b,hb,e=>by
  simp only[dF,Bool.and_eq_true] at h
  rcases List.mem_cons.1 ha with rfl|ha'
  ·rcases List.mem_cons.1 hb with rfl|hb'
   ·rfl
   ·have:=nu h.2 b hb'
    rw[←e,jp] at this;cases this
  ·rcases List.mem_cons.1 hb with rfl|hb'
   ·have:=nu h.2 a ha'
    rw[e,jp] at this;cases this
   ·exact Bn h.2 a ha' b hb' e
def jA (s:Bs):List Bs:=bif s==[] then [] else [s]
def AH (k n:Bs) (m:GateMend):List Bs:=bif m.kind==k&&m.field==n then jA m.when_++jA m.from_ else []
def U (k:Bs) (ms:List GateMend) (n:Bs):List Bs:=(ms.map (AH k n)).flatten
def Ga (k f:Bs) (row:List Bs) (m:GateMend):Bool:=
 !((m.kind==k&&m.field==f)&&((!(m.when_==[])&& !row.any (·==m.when_))||(!(m.from_==[])&& !row.any (·==m.from_))))
def qS (k f:Bs) (row:List Bs) (ms:List GateMend):Bool:=ms.all (Ga k f row)
theorem jq {row:List Bs} {s:Bs}:row.any (·==s)=row.contains s:=by
 rw[Bool.eq_iff_iff,List.any_eq_true,List.contains_iff_mem]
 constructor
 ·rintro ⟨x,hx,e⟩;rw[beq_iff_eq] at e;exact e▸hx
 ·intro h;exact ⟨s,h,BEq.rfl⟩
theorem Dm {s:Bs} {p:Bs→Bool}:(jA s).all p= !(!(s==[])&& !p s):=by
 unfold jA
 cases s==[]<;>simp
theorem Ez {k f:Bs} {row:List Bs} {m:GateMend}:Ga k f row m=(AH k f m).all row.contains:=by
 unfold Ga AH
 cases (m.kind==k&&m.field==f) with
 |false=>rfl
 |true=>
  simp only[cond_true,List.all_append,Dm,jq,Bool.true_and,Bool.not_or]
theorem pa {p:Bs→Bool}:∀{l:List (List Bs)},l.flatten.all p=l.all (·.all p)
 |[]=>rfl
 |x::l=>by simp only[List.flatten_cons,List.all_append,List.all_cons,pa]
theorem zq {k f:Bs} {row:List Bs} {ms:List GateMend}:qS k f row ms=(U k ms f).all row.contains:=by
 unfold qS U
 rw[pa,List.all_map]
 congr 1
 funext m
 exact Ez
def bk (s:GateShape):List Bs:=s.fields.map (·.name)
def hP (s:GateShape) (ms:List GateMend) (row:List Bs) (f:Bs):Bool:= !row.any (·==f)&&qS s.kind f row ms
def gr (s:GateShape) (ms:List GateMend) (n:Nat):List Bs:=fE (U s.kind ms) (bk s) n
def mB (s:GateShape) (ms:List GateMend):List Bs:=gr s ms s.fields.length
theorem Bm {s:GateShape} {ms:List GateMend} {row:List Bs}:hP s ms row=fun f=> !row.contains f&&(U s.kind ms f).all row.contains:=by
 funext f
 unfold hP
 rw[jq,zq]
theorem Ba {s:GateShape} {ms:List GateMend} {n:Nat} {f:Bs} (h:(bk s).find? (hP s ms (gr s ms n))=some f):gr s ms (n+1)=gr s ms n++[f]:=by
 rw[Bm] at h
 show stepG _ _ _=_
 unfold stepG
 unfold gr at h ⊢
 rw[h]
theorem Bb {s:GateShape} {ms:List GateMend} {n:Nat} (h:(bk s).find? (hP s ms (gr s ms n))=none):gr s ms (n+1)=gr s ms n:=by
 rw[Bm] at h
 show stepG _ _ _=_
 unfold stepG
 unfold gr at h ⊢
 rw[h]
theorem FQ (s:GateShape) (ms:List GateMend) (n:Nat):(gr s ms n).length≤s.fields.length:=by
 have g:=fY (U s.kind ms) (bk s) n
 have:=eH g.nd g.sub
 rw[bk,List.length_map] at this
 exact this
theorem Fh (s:GateShape) (ms:List GateMend):∀n,(gr s ms n).length≤n
 |0=>Nat.le_refl _
 |n+1=>by
  have ih:=Fh s ms n
  cases h:(bk s).find? (hP s ms (gr s ms n)) with
  |none=>rw[Bb h];omega
  |some f=>rw[Ba h,List.length_append,List.length_singleton];omega
def oX (s:GateShape) (ms:List GateMend) (row:List Bs) (l:List GateField):Option Bs:=(l.map (·.name)).find? (hP s ms row)
theorem lE {s:GateShape} {ms:List GateMend} {row:List Bs} {xs:List GateField} {i:Nat} (h:i<xs.length):oX s ms row (xs.drop i)=bif hP s ms row xs[i].name then some xs[i].name else oX s ms row (xs.drop (i+1)):=by
 unfold oX
 rw[List.drop_eq_getElem_cons h,List.map_cons,List.find?_cons]
 cases hP s ms row xs[i].name<;>rfl
theorem B6 {s:GateShape} {ms:List GateMend} {row:List Bs} {xs:List GateField} {i:Nat} (h:xs.length≤i):oX s ms row (xs.drop i)=none:=by
 rw[List.drop_of_length_le h];rfl
def bw (shapes:List GateShape) (ms:List GateMend):Bool:=
 aI shapes&&(!decide ((ms.length:Int)>12)&&(ms.all (bF shapes)&&shapes.all fun s=>((mB s ms).length:Int)==(s.fields.length:Int)))
theorem rP {kinds:List Bs}:∀{fs:List GateField} {pre:List Bs},kN kinds pre fs=true→(fs.map (·.name)).Nodup∧∀x∈pre,x ∉ fs.map (·.name)
 |[],_,_=>⟨List.nodup_nil,fun _ _ h=>by cases h⟩
 |f::fs,pre,h=>by
  simp only[kN,Bool.and_eq_true,Bool.not_eq_true'] at h
  obtain ⟨h1,_,h3⟩:=h
  obtain ⟨g1,g2⟩:=rP h3
  rw[jq] at h1
  refine ⟨?_,fun x hx c=>?_⟩
  ·rw[List.map_cons,List.nodup_cons]
   exact ⟨g2 f.name (List.mem_append.2 (.inr List.mem_cons_self)),g1⟩
  ·rw[List.map_cons] at c
   rcases List.mem_cons.1 c with c|c
   ·have:pre.contains f.name=true:=List.contains_iff_mem.2 (c▸hx)
    rw[h1] at this;cases this
   ·exact g2 x (List.mem_append.2 (.inl hx)) c
theorem mo {xs:List GateShape} (h:aI xs=true) {s:GateShape} (hs:s∈xs):(bk s).Nodup:=by
 unfold aI at h
 simp only[Bool.and_eq_true] at h
 have:=List.all_eq_true.1 h.2.2 s hs
 unfold bt at this
 simp only[Bool.and_eq_true] at this
 exact (rP this.2).1
theorem zc {xs:List GateShape} (h:aI xs=true) {a b:GateShape} (ha:a∈xs) (hb:b∈xs) (e:a.kind=b.kind):a=b:=by
 unfold aI at h
 simp only[Bool.and_eq_true] at h
 exact Bn h.2.1 a ha b hb e
theorem mJ {fs:List GateField} {n:Bs} (h:fc fs n=true):n∈fs.map (·.name):=by
 unfold fc at h
 rw[Bool.and_eq_true,nb] at h
 obtain ⟨f,hf,e⟩:=List.any_eq_true.1 h.1
 rw[beq_iff_eq] at e
 exact List.mem_map.2 ⟨f,hf,e⟩
theorem xJ {s y:Bs} (h:y∈jA s):y=s∧(s==[])=false:=by
 unfold jA at h
 cases e:s==[] with
 |true=>rw[e] at h;cases h
 |false=>rw[e] at h;exact ⟨List.mem_singleton.1 h,rfl⟩
theorem AU {xs:List GateShape} (h:aI xs=true) {s:GateShape} (hs:s∈xs) {m:GateMend} (hm:bF xs m=true) (e:m.kind=s.kind):iD s.fields m=true:=by
 unfold bF at hm
 split at hm
 ·rename_i s' hq
  rw[Bool.and_eq_true] at hm
  obtain ⟨j,hj,h1,h2,_⟩:=dE hm.1
  rw[h1,Int.toNat_natCast,List.getElem?_eq_getElem hj] at hq
  have e1:s'=xs[j]:=(Option.some.inj hq).symm
  have e2:xs[j].kind=m.kind:=by simpa using h2
  have:s'=s:=zc h (e1▸List.getElem_mem hj) hs (by rw[e1,e2,e])
  exact this▸hm.2
 ·cases hm
theorem jT {xs:List GateShape} {ms:List GateMend} (h:aI xs=true) (hm:ms.all (bF xs)=true) {s:GateShape} (hs:s∈xs):∀n,∀y∈U s.kind ms n,y∈bk s:=by
 intro n y hy
 unfold U at hy
 obtain ⟨l,hl,hy⟩:=List.mem_flatten.1 hy
 obtain ⟨m,hm1,rfl⟩:=List.mem_map.1 hl
 unfold AH at hy
 cases e:(m.kind==s.kind&&m.field==n) with
 |false=>rw[e] at hy;cases hy
 |true=>
  rw[e] at hy
  rw[Bool.and_eq_true,beq_iff_eq] at e
  have hf:=AU h hs (List.all_eq_true.1 hm m hm1) e.1
  unfold iD at hf
  simp only[Bool.and_eq_true,Bool.or_eq_true] at hf
  rcases List.mem_append.1 hy with hy|hy
  ·obtain ⟨rfl,hne⟩:=xJ hy
   rcases hf.1.2.1 with c|c
   ·rw[hne] at c;cases c
   ·exact mJ c
  ·obtain ⟨rfl,hne⟩:=xJ hy
   rcases hf.1.2.2 with c|c
   ·rw[hne] at c;cases c
   ·exact mJ c
end Go.Vc
end
section
namespace Go.Vc
open Go.Proofs
set_option maxRecDepth 100000
theorem BJ (ms:List GateMend) (k f:Bs) (row:List Bs):Spec P 223 [.d (af ms),.d (.str k),.d (.str f),.d (lS row)] (.d (.bool (qS k f row ms))):=by
 refine Spec.of_vc aJ aw [.tmp 8] Tryz.func223 rfl rfl rfl rfl (fun hok=>?_)
 have hs:ms.length≤big:=az hok.1.1
 repeat refine ai ?_
 refine d9 (ms) (fun i=>qS k f row ms=(ms.drop i).all (Ga k f row)) (fun i=>[(0,.d (af ms)),(1,.d (.str k)),(2,.d (.str f)),(3,.d (lS row)),(9,.d (.int .i64 i))]) (fun i=>hp0) (rfl) ?_
 intro i hi hr
 repeat refine ai ?_
 refine aj ?_ ?_<;>intro h1
 ·have hlt:i<ms.length:=V h1
  rw[aF hlt] at hr
  repeat refine ai ?_
  refine O (e:=GateMend.e) (xs:=ms) (hlt) rfl ?_
  repeat refine ai ?_
  repeat' first
   |refine ai ?_
   |(refine aj ?_ ?_<;>intro h)
   |refine oc (vC _ _) ?_
  all_goals first
   |(refine bd ?_;(try simp only[Bool.not_eq_true',Bool.not_eq_false'] at*);rw[hr];simp only[Ga, *,bl];done)
   |exact ⟨_,_,_,⟨i+1,rfl,hlt,(by (try simp only[Bool.not_eq_true',Bool.not_eq_false'] at*);rw[hr];simp only[Ga, *,bl]),rfl,rfl⟩,by omega,rfl,rfl,⟨rfl,rfl,rfl,rfl,nd (Z hlt hs),trivial⟩,trivial,trivial⟩
 ·refine bd ?_
  rw[hr,cm (Y h1)]
theorem fg (s:GateShape):(st s.e)= .agg [.d (.str s.kind),.d (ab s.fields)]:=rfl
theorem Az (s:GateShape) (ms:List GateMend):Spec P 203 [st s.e,.d (af ms)] (.d (lS (mB s ms))):=by
 refine Spec.of_vc aJ aw [.tmp 4] Tryz.func203 rfl rfl rfl rfl (fun hok=>?_)
 have hs:s.fields.length≤big:=by
  have:=hok.1
  simp only[st,AV.ok,GateShape.e,List.map,ei] at this
  exact az this.2.1.1
 repeat refine ai ?_
 refine d9 (s.fields) (fun n=>True) (fun n=>[(1,.d (af ms)),(2,.ptr 0 0),(5,.own 1),(6,.d (.int .i64 n))]) (fun n=>⟨[(1,.row 9 1 ((gr s ms n).map eB)),(0,.cells 164 (s.e.map .d))],2,0⟩) (trivial) ?_
 intro n hn hr
 repeat refine ai ?_
 refine aj ?_ ?_<;>intro h1
 ·have hlt0:n<s.fields.length:=V h1
  repeat refine ai ?_
  refine d9 (s.fields) (fun i=>oX s ms (gr s ms n) s.fields=oX s ms (gr s ms n) (s.fields.drop i)) (fun i=>[(1,.d (af ms)),(2,.ptr 0 0),(5,.own 1),(6,.d (.int .i64 n)),(7,.d (.int .i64 i))]) (fun i=>⟨[(1,.row 9 1 ((gr s ms n).map eB)),(0,.cells 164 (s.e.map .d))],2,0⟩) (rfl) ?_
  intro i hi hr
  repeat refine ai ?_
  refine aj ?_ ?_<;>intro h2
  ·have hlt:i<s.fields.length:=V h2
   repeat refine ai ?_
   refine O (e:=GateField.e) (xs:=s.fields) (hlt) rfl ?_
   repeat refine ai ?_
   refine oc (vC _ _) ?_
   repeat refine ai ?_
   refine aj ?_ ?_<;>intro h3
   ·simp only[Bool.not_eq_true',Bool.not_eq_false'] at h3
    repeat refine ai ?_
    refine oc (BJ _ _ _ _) ?_
    repeat refine ai ?_
    refine aj ?_ ?_<;>intro h4
    ·repeat refine ai ?_
     refine aj (fun r hr=>by rw[List.mem_singleton.1 hr];rfl) ?_
     repeat refine ai ?_
     refine aj (by have:=Fh s ms n;simp only[List.length_map,List.length_cons,List.length_nil];unfold big at*;omega) ?_
     have hc:hP s ms (gr s ms n) s.fields[i].name=true:=by unfold hP;rw[h3,h4];rfl
     have hg:gr s ms (n+1)=gr s ms n++[s.fields[i].name]:=Ba (by
      show oX s ms (gr s ms n) s.fields=_
      rw[hr,lE hlt,hc];rfl)
     repeat refine ai ?_
     exact bL hlt0 hs trivial fun hw=>⟨rfl,rfl,⟨rfl,rfl,rfl,nd hw,trivial⟩,⟨rfl,rfl,trivial⟩,⟨dj (by rw[hg,List.map_append];rfl),rfl,trivial⟩⟩
    ·repeat refine ai ?_
     exact bL hlt hs (by rw[hr,lE hlt,show hP s ms (gr s ms n) s.fields[i].name=false from by unfold hP;rw[h4,Bool.and_false]];rfl)
   ·simp only[Bool.not_eq_true',Bool.not_eq_false'] at h3
    repeat refine ai ?_
    exact bL hlt hs (by rw[hr,lE hlt,show hP s ms (gr s ms n) s.fields[i].name=false from by unfold hP;rw[h3];rfl];rfl)
  ·have hg:gr s ms (n+1)=gr s ms n:=Bb (by
    show oX s ms (gr s ms n) s.fields=_
    rw[hr,B6 (Y h2)])
   repeat refine ai ?_
   exact bL hlt0 hs trivial fun hw=>⟨rfl,rfl,⟨rfl,rfl,rfl,nd hw,trivial⟩,⟨rfl,rfl,trivial⟩,⟨dj (by rw[hg]),rfl,trivial⟩⟩
 ·refine ld ?_
  rw[show n=s.fields.length from by have:=Y h1;omega];rfl
theorem sT (xs:List GateShape) (ms:List GateMend):Spec P 170 [.d (aa xs),.d (af ms)] (.d (.bool (bw xs ms))):=by
 refine Spec.of_vc aJ aw [.tmp 4] Tryz.func170 rfl rfl rfl rfl (fun hok=>?_)
 have hs:xs.length≤big:=az hok.1.1
 have hsm:ms.length≤big:=az hok.2.1.1
 repeat refine ai ?_
 refine oc (qJ _) ?_
 repeat refine ai ?_
 refine aj ?_ ?_<;>intro h0
 ·simp only[Bool.not_eq_true',Bool.not_eq_false'] at h0
  repeat refine ai ?_
  refine aj ?_ ?_<;>intro h1
  ·rw[List.length_map] at h1
   refine bd ?_
   simp only[bw,h1,bl]
  ·rw[List.length_map] at h1
   have e:bw xs ms=(ms.all (bF xs)&&xs.all fun s=>((mB s ms).length:Int)==(s.fields.length:Int)):=by simp only[bw,h0,h1,bl]
   rw[e]
   repeat refine ai ?_
   refine d9 (ms) (fun i=>ms.all (bF xs)=(ms.drop i).all (bF xs)) (fun i=>[(0,.d (aa xs)),(1,.d (af ms)),(5,.d (.int .i64 i))]) (fun i=>hp0) (rfl) ?_
   intro i hi hr
   repeat refine ai ?_
   refine aj ?_ ?_<;>intro h2
   ·have hlt:i<ms.length:=V h2
    rw[aF hlt] at hr
    repeat refine ai ?_
    refine O (e:=GateMend.e) (xs:=ms) (hlt) rfl ?_
    repeat refine ai ?_
    refine oc (zj _ _) ?_
    repeat refine ai ?_
    refine aj ?_ ?_<;>intro h3
    ·simp only[Bool.not_eq_true',Bool.not_eq_false'] at h3
     refine bd ?_
     rw[hr,h3];rfl
    ·simp only[Bool.not_eq_true',Bool.not_eq_false'] at h3
     repeat refine ai ?_
     exact bL hlt hsm (by rw[hr,h3];rfl)
   ·rw[cm (Y h2)] at hr
    rw[hr,Bool.true_and]
    repeat refine ai ?_
    refine d9 (xs) (fun i=>(xs.all fun s=>((mB s ms).length:Int)==(s.fields.length:Int))=((xs.drop i).all fun s=>((mB s ms).length:Int)==(s.fields.length:Int))) (fun i=>[(0,.d (aa xs)),(1,.d (af ms)),(6,.d (.int .i64 i))]) (fun i=>hp0) (rfl) ?_
    intro i hi hr
    repeat refine ai ?_
    refine aj ?_ ?_<;>intro h4
    ·have hlt:i<xs.length:=V h4
     rw[aF hlt] at hr
     repeat refine ai ?_
     refine ak ?_
     repeat refine ai ?_
     refine O (e:=GateShape.e) (xs:=xs) (hlt) rfl ?_
     repeat refine ai ?_
     refine oc (Az _ _) ?_
     repeat refine ai ?_
     refine O (e:=GateShape.e) (xs:=xs) (hlt) rfl ?_
     repeat refine ai ?_
     refine aj ?_ ?_<;>intro h5
     ·simp only[bne,Bool.not_eq_true',Bool.not_eq_false',List.length_map] at h5
      refine bd ?_
      rw[hr,h5];rfl
     ·simp only[bne,Bool.not_eq_true',Bool.not_eq_false',List.length_map] at h5
      repeat refine ai ?_
      exact bL hlt hs (by rw[hr,h5];rfl)
    ·refine bd ?_
     rw[hr,cm (Y h4)]
 ·simp only[Bool.not_eq_true',Bool.not_eq_false'] at h0
  refine bd ?_
  simp only[bw,h0,Bool.false_and]
end Go.Vc
end
section
namespace Go.Vc
open Go.Proofs
set_option maxRecDepth 100000
def C5 (id:Nat):List Bs→AV
 |[]=> .nils
 |_::_=> .own id
def AF (objs:List (Nat×AO)) (nx id:Nat):List Bs→Heap
 |[]=>⟨objs,nx,nx⟩
 |x::xs=>⟨(id,.row 9 1 ((x::xs).map eB))::objs,id+1,nx⟩
def il (p:Bs×Int):List D×AV:=([.str p.1],.d (.int .i64 p.2))
def ww:AV:= .fn 231 [.ptr 1 0,.ptr 0 0]
def FR:AV:= .fn 236 [.ptr 6 0,.ptr 4 0,.ptr 8 0,.ptr 7 0]
def oS (s:GateShape):AO:= .cells 164 (s.e.map .d)
def oM (ms:List GateMend):AO:= .cells 38 [.d (af ms)]
def oA (all:List Bs):AO:= .row 9 1 (all.map eB)
def oR:AO:= .cells 263 [ww]
def oT (w:Wk):AO:= .map 271 .str (w.st.map il)
def oP:AO:= .cells 271 [.mapr 5]
def oW:AO:= .cells 115 [FR]
def hWo (s:GateShape) (ms:List GateMend) (all:List Bs) (es:List (List D×AV)):List Bs→List (Nat×AO)
 |[]=>[(8,oW),(7,.cells 101 [.nils]),(6,oP),(5,.map 271 .str es),(4,oR),(1,oM ms),(0,oS s)]
 |x::xs=>[(9,.row 9 1 ((x::xs).map eB)),(8,oW),(7,.cells 101 [.own 9]),(6,oP),(5,.map 271 .str es),(4,oR),(1,oM ms),(0,oS s)]
def HE:List Bs→Nat
 |[]=>9
 |_::_=>10
def Hd (lo:Nat) (s:GateShape) (ms:List GateMend) (all:List Bs) (es:List (List D×AV)) (out:List Bs):Heap:=⟨hWo s ms all es out,HE out,lo⟩
def hW (lo:Nat) (s:GateShape) (ms:List GateMend) (all:List Bs) (w:Wk):Heap:=Hd lo s ms all (w.st.map il) w.out
theorem cf {k n:Bs} {ms:List GateMend} {i:Nat} (h:i<ms.length):U k (ms.take (i+1)) n=U k (ms.take i) n++AH k n ms[i]:=by
 unfold U
 rw[List.take_succ_eq_append_getElem h,List.map_append,List.flatten_append]
 simp
theorem xK (s:Bs):(jA s).length≤1:=by unfold jA;cases s==[]<;>simp
theorem fw {k n:Bs}:∀{ms:List GateMend},(U k ms n).length≤2*ms.length
 |[]=>Nat.le_refl _
 |m::ms=>by
  have ih:=fw (k:=k) (n:=n) (ms:=ms)
  unfold U at ih ⊢
  simp only[List.map_cons,List.flatten_cons,List.length_append,List.length_cons]
  have:(AH k n m).length≤2:=by
   have h1:=xK m.when_
   have h2:=xK m.from_
   unfold AH
   cases (m.kind==k&&m.field==n)
   ·simp
   ·simp only[cond_true,List.length_append];omega
  omega
theorem ap {n:Nat}:∀{st:List (Bs×Int)},Ek n (st.map il)
 |[]=>trivial
 |_::_=>⟨rfl,ap⟩
theorem pJ {k n:Bs} {m:GateMend} (h:(m.kind==k)=false):AH k n m=[]:=by unfold AH;rw[h];rfl
theorem mF {k n:Bs} {m:GateMend} (h:(m.field==n)=false):AH k n m=[]:=by unfold AH;rw[h,Bool.and_false];rfl
theorem vL {k n:Bs} {m:GateMend} (h:(m.kind==k)=true) (h2:(m.field==n)=true):AH k n m=jA m.when_++jA m.from_:=by unfold AH;rw[h,h2];rfl
theorem eA {s:Bs} (h:(s==[])=true):jA s=[]:=by unfold jA;rw[h];rfl
theorem du {s:Bs} (h:(s==[])=false):jA s=[s]:=by unfold jA;rw[h];rfl
theorem bD (t n:Nat) (a:Bs) (r:List Bs) (w:Bs):some (AO.row t n ((a::r).map eB++[[.str w]]))=some (AO.row t n ((a::(r++[w])).map eB)):=by simp[eB]
theorem dt (t n:Nat) (a:Bs) (r:List Bs) (w f:Bs):some (AO.row t n (((a::r).map eB++[[.str w]])++[[.str f]]))=some (AO.row t n ((a::(r++[w,f])).map eB)):=by simp[eB]
theorem pM (lo:Nat) (s:GateShape) (ms:List GateMend) (hm:ms.length≤12) (all:List Bs) (es:List (List D×AV)) (hes:∀n,Ek n es) (hsub:∀i b,y8 i b es=es) (out:List Bs) (n:Bs):
 HSpec P 231 [.d (.str n),.ptr 1 0,.ptr 0 0] (Hd lo s ms all es out) (.d (lS (U s.kind ms n))) (Hd lo s ms all es out):=by
 have hs:ms.length≤big:=by unfold big;omega
 cases out with
 |nil=>
  refine HSpec.of_vc aJ aw [.tmp 4] Tryz.func231 rfl rfl rfl rfl rfl (fun hok=>?_)
  repeat refine ai ?_
  refine m4 (ms) (fun i (A:List Bs)=>A=U s.kind (ms.take i) n) (fun i (A:List Bs)=>[(0,.d (.str n)),(1,.ptr 1 0),(2,.ptr 0 0),(5,C5 10 A),(8,.d (af ms)),(9,.d (.int .i64 (ms.map GateMend.e).length)),(10,.d (.int .i64 i))]) (fun i (A:List Bs)=>AF [(8,oW),(7,.cells 101 [.nils]),(6,oP),(5,.map 271 .str es),(4,oR),(1,oM ms),(0,oS s)] 9 10 A) (rfl) ?_ ⟨rfl,rfl,⟨rfl,rfl,rfl,rfl,rfl,rfl,rfl,trivial⟩,⟨rfl,rfl,rfl,⟨rfl,hes _⟩,rfl,rfl,rfl,trivial⟩,⟨rfl,rfl,rfl,rfl,rfl,rfl,rfl,trivial⟩⟩
  intro i A hi hr
  have hAl:A.length≤24:=by
   have:=fw (k:=s.kind) (n:=n) (ms:=ms.take i)
   rw[←hr,List.length_take] at this
   omega
  repeat refine ai ?_
  refine aj ?_ ?_<;>intro h1
  ·have hlt:i<ms.length:=V h1
   repeat refine ai ?_
   refine O (e:=GateMend.e) (xs:=ms) (hlt) rfl ?_
   repeat refine ai ?_
   cases A with
   |nil=>
    repeat refine ai ?_
    refine aj ?_ ?_<;>intro h2
    ·simp only[bne,Bool.not_eq_true',Bool.not_eq_false'] at h2
     repeat refine ai ?_
     refine aj ?_ ?_<;>intro h3
     ·simp only[bne,Bool.not_eq_true',Bool.not_eq_false'] at h3
      repeat refine ai ?_
      exact cQ ([]) hlt hs (by rw[cf hlt,←hr,mF h3,List.append_nil]) fun hw=>by repeat' first|exact rfl|exact trivial|exact nd hw|exact hes _|refine aj ?_ ?_
     ·simp only[bne,Bool.not_eq_true',Bool.not_eq_false'] at h3
      have hstep:=cf (k:=s.kind) (n:=n) hlt
      rw[vL h2 h3,←hr] at hstep
      repeat refine ai ?_
      refine aj ?_ ?_<;>intro h4
      ·simp only[bne,Bool.not_eq_true',Bool.not_eq_false'] at h4
       rw[du h4] at hstep
       repeat refine ai ?_
       refine aj (fun r hr=>by rw[List.mem_singleton.1 hr];rfl) ?_
       repeat refine ai ?_
       refine aj (by simp only[List.length_nil,List.length_cons,List.length_map] at*;unfold big;omega) ?_
       repeat refine ai ?_
       refine aj ?_ ?_<;>intro h5
       ·simp only[bne,Bool.not_eq_true',Bool.not_eq_false'] at h5
        rw[du h5] at hstep
        repeat refine ai ?_
        refine aj (fun r hr=>by rw[List.mem_singleton.1 hr];rfl) ?_
        repeat refine ai ?_
        refine aj (by simp only[List.length_append,List.length_nil,List.length_cons,List.length_map] at*;unfold big;omega) ?_
        repeat refine ai ?_
        exact cQ ([ms[i].when_,ms[i].from_]) hlt hs (by rw[hstep];rfl) fun hw=>by repeat' first|exact rfl|exact trivial|exact nd hw|exact hes _|exact aK (hsub _ _)|exact aK (by rw[hsub,hsub])|exact dj rfl|exact bD _ _ _ _ _|exact dt _ _ _ _ _ _|refine aj ?_ ?_
       ·simp only[bne,Bool.not_eq_true',Bool.not_eq_false'] at h5
        rw[eA h5] at hstep
        repeat refine ai ?_
        exact cQ ([ms[i].when_]) hlt hs (by rw[hstep];rfl) fun hw=>by repeat' first|exact rfl|exact trivial|exact nd hw|exact hes _|exact aK (hsub _ _)|exact aK (by rw[hsub,hsub])|exact dj rfl|exact bD _ _ _ _ _|exact dt _ _ _ _ _ _|refine aj ?_ ?_
      ·simp only[bne,Bool.not_eq_true',Bool.not_eq_false'] at h4
       rw[eA h4] at hstep
       repeat refine ai ?_
       refine aj ?_ ?_<;>intro h5
       ·simp only[bne,Bool.not_eq_true',Bool.not_eq_false'] at h5
        rw[du h5] at hstep
        repeat refine ai ?_
        refine aj (fun r hr=>by rw[List.mem_singleton.1 hr];rfl) ?_
        repeat refine ai ?_
        refine aj (by simp only[List.length_nil,List.length_cons,List.length_map] at*;unfold big;omega) ?_
        repeat refine ai ?_
        exact cQ ([ms[i].from_]) hlt hs (by rw[hstep];rfl) fun hw=>by repeat' first|exact rfl|exact trivial|exact nd hw|exact hes _|exact aK (hsub _ _)|exact aK (by rw[hsub,hsub])|exact dj rfl|exact bD _ _ _ _ _|exact dt _ _ _ _ _ _|refine aj ?_ ?_
       ·simp only[bne,Bool.not_eq_true',Bool.not_eq_false'] at h5
        rw[eA h5] at hstep
        repeat refine ai ?_
        exact cQ ([]) hlt hs (by rw[hstep];simp) fun hw=>by repeat' first|exact rfl|exact trivial|exact nd hw|exact hes _|refine aj ?_ ?_
    ·simp only[bne,Bool.not_eq_true',Bool.not_eq_false'] at h2
     repeat refine ai ?_
     exact cQ ([]) hlt hs (by rw[cf hlt,←hr,pJ h2,List.append_nil]) fun hw=>by repeat' first|exact rfl|exact trivial|exact nd hw|exact hes _|refine aj ?_ ?_
   |cons a tl=>
    repeat refine ai ?_
    refine aj ?_ ?_<;>intro h2
    ·simp only[bne,Bool.not_eq_true',Bool.not_eq_false'] at h2
     repeat refine ai ?_
     refine aj ?_ ?_<;>intro h3
     ·simp only[bne,Bool.not_eq_true',Bool.not_eq_false'] at h3
      repeat refine ai ?_
      exact cQ (a::tl) hlt hs (by rw[cf hlt,←hr,mF h3,List.append_nil]) fun hw=>by repeat' first|exact rfl|exact trivial|exact nd hw|exact hes _|refine aj ?_ ?_
     ·simp only[bne,Bool.not_eq_true',Bool.not_eq_false'] at h3
      have hstep:=cf (k:=s.kind) (n:=n) hlt
      rw[vL h2 h3,←hr] at hstep
      repeat refine ai ?_
      refine aj ?_ ?_<;>intro h4
      ·simp only[bne,Bool.not_eq_true',Bool.not_eq_false'] at h4
       rw[du h4] at hstep
       repeat refine ai ?_
       refine aj (fun r hr=>by rw[List.mem_singleton.1 hr];rfl) ?_
       repeat refine ai ?_
       refine aj (by simp only[List.length_append,List.length_nil,List.length_cons,List.length_map] at*;unfold big;omega) ?_
       repeat refine ai ?_
       refine aj ?_ ?_<;>intro h5
       ·simp only[bne,Bool.not_eq_true',Bool.not_eq_false'] at h5
        rw[du h5] at hstep
        repeat refine ai ?_
        refine aj (fun r hr=>by rw[List.mem_singleton.1 hr];rfl) ?_
        repeat refine ai ?_
        refine aj (by simp only[List.length_append,List.length_nil,List.length_cons,List.length_map] at*;unfold big;omega) ?_
        repeat refine ai ?_
        exact cQ (a::(tl++[ms[i].when_,ms[i].from_])) hlt hs (by rw[hstep];rfl) fun hw=>by repeat' first|exact rfl|exact trivial|exact nd hw|exact hes _|exact aK (hsub _ _)|exact aK (by rw[hsub,hsub])|exact dj rfl|exact bD _ _ _ _ _|exact dt _ _ _ _ _ _|refine aj ?_ ?_
       ·simp only[bne,Bool.not_eq_true',Bool.not_eq_false'] at h5
        rw[eA h5] at hstep
        repeat refine ai ?_
        exact cQ (a::(tl++[ms[i].when_])) hlt hs (by rw[hstep];rfl) fun hw=>by repeat' first|exact rfl|exact trivial|exact nd hw|exact hes _|exact aK (hsub _ _)|exact aK (by rw[hsub,hsub])|exact dj rfl|exact bD _ _ _ _ _|exact dt _ _ _ _ _ _|refine aj ?_ ?_
      ·simp only[bne,Bool.not_eq_true',Bool.not_eq_false'] at h4
       rw[eA h4] at hstep
       repeat refine ai ?_
       refine aj ?_ ?_<;>intro h5
       ·simp only[bne,Bool.not_eq_true',Bool.not_eq_false'] at h5
        rw[du h5] at hstep
        repeat refine ai ?_
        refine aj (fun r hr=>by rw[List.mem_singleton.1 hr];rfl) ?_
        repeat refine ai ?_
        refine aj (by simp only[List.length_append,List.length_nil,List.length_cons,List.length_map] at*;unfold big;omega) ?_
        repeat refine ai ?_
        exact cQ (a::(tl++[ms[i].from_])) hlt hs (by rw[hstep];rfl) fun hw=>by repeat' first|exact rfl|exact trivial|exact nd hw|exact hes _|exact aK (hsub _ _)|exact aK (by rw[hsub,hsub])|exact dj rfl|exact bD _ _ _ _ _|exact dt _ _ _ _ _ _|refine aj ?_ ?_
       ·simp only[bne,Bool.not_eq_true',Bool.not_eq_false'] at h5
        rw[eA h5] at hstep
        repeat refine ai ?_
        exact cQ (a::tl) hlt hs (by rw[hstep];simp) fun hw=>by repeat' first|exact rfl|exact trivial|exact nd hw|exact hes _|refine aj ?_ ?_
    ·simp only[bne,Bool.not_eq_true',Bool.not_eq_false'] at h2
     repeat refine ai ?_
     exact cQ (a::tl) hlt hs (by rw[cf hlt,←hr,pJ h2,List.append_nil]) fun hw=>by repeat' first|exact rfl|exact trivial|exact nd hw|exact hes _|refine aj ?_ ?_
  ·have ha:A=U s.kind ms n:=by rw[hr,List.take_of_length_le (Y h1)]
   rw[←ha]
   cases A with
   |nil=>
    refine aj rfl (aj rfl ⟨rfl,rfl,?_,?_,?_⟩)
    all_goals (repeat' first|exact rfl|exact trivial|exact hes _|exact aK (hsub _ _)|refine aj ?_ ?_)
   |cons a tl=>
    refine aj rfl (aj rfl ⟨rfl,rfl,?_,?_,?_⟩)
    all_goals (repeat' first|exact rfl|exact trivial|exact hes _|exact aK (hsub _ _)|refine aj ?_ ?_)
 |cons x xs=>
  refine HSpec.of_vc aJ aw [.tmp 4] Tryz.func231 rfl rfl rfl rfl rfl (fun hok=>?_)
  repeat refine ai ?_
  refine m4 (ms) (fun i (A:List Bs)=>A=U s.kind (ms.take i) n) (fun i (A:List Bs)=>[(0,.d (.str n)),(1,.ptr 1 0),(2,.ptr 0 0),(5,C5 11 A),(8,.d (af ms)),(9,.d (.int .i64 (ms.map GateMend.e).length)),(10,.d (.int .i64 i))]) (fun i (A:List Bs)=>AF [(9,.row 9 1 ((x::xs).map eB)),(8,oW),(7,.cells 101 [.own 9]),(6,oP),(5,.map 271 .str es),(4,oR),(1,oM ms),(0,oS s)] 10 11 A) (rfl) ?_ ⟨rfl,rfl,⟨rfl,rfl,rfl,rfl,rfl,rfl,rfl,trivial⟩,⟨rfl,rfl,rfl,rfl,⟨rfl,hes _⟩,rfl,rfl,rfl,trivial⟩,⟨rfl,rfl,rfl,rfl,rfl,rfl,rfl,rfl,trivial⟩⟩
  intro i A hi hr
  have hAl:A.length≤24:=by
   have:=fw (k:=s.kind) (n:=n) (ms:=ms.take i)
   rw[←hr,List.length_take] at this
   omega
  repeat refine ai ?_
  refine aj ?_ ?_<;>intro h1
  ·have hlt:i<ms.length:=V h1
   repeat refine ai ?_
   refine O (e:=GateMend.e) (xs:=ms) (hlt) rfl ?_
   repeat refine ai ?_
   cases A with
   |nil=>
    repeat refine ai ?_
    refine aj ?_ ?_<;>intro h2
    ·simp only[bne,Bool.not_eq_true',Bool.not_eq_false'] at h2
     repeat refine ai ?_
     refine aj ?_ ?_<;>intro h3
     ·simp only[bne,Bool.not_eq_true',Bool.not_eq_false'] at h3
      repeat refine ai ?_
      exact cQ ([]) hlt hs (by rw[cf hlt,←hr,mF h3,List.append_nil]) fun hw=>by repeat' first|exact rfl|exact trivial|exact nd hw|exact hes _|refine aj ?_ ?_
     ·simp only[bne,Bool.not_eq_true',Bool.not_eq_false'] at h3
      have hstep:=cf (k:=s.kind) (n:=n) hlt
      rw[vL h2 h3,←hr] at hstep
      repeat refine ai ?_
      refine aj ?_ ?_<;>intro h4
      ·simp only[bne,Bool.not_eq_true',Bool.not_eq_false'] at h4
       rw[du h4] at hstep
       repeat refine ai ?_
       refine aj (fun r hr=>by rw[List.mem_singleton.1 hr];rfl) ?_
       repeat refine ai ?_
       refine aj (by simp only[List.length_nil,List.length_cons,List.length_map] at*;unfold big;omega) ?_
       repeat refine ai ?_
       refine aj ?_ ?_<;>intro h5
       ·simp only[bne,Bool.not_eq_true',Bool.not_eq_false'] at h5
        rw[du h5] at hstep
        repeat refine ai ?_
        refine aj (fun r hr=>by rw[List.mem_singleton.1 hr];rfl) ?_
        repeat refine ai ?_
        refine aj (by simp only[List.length_append,List.length_nil,List.length_cons,List.length_map] at*;unfold big;omega) ?_
        repeat refine ai ?_
        exact cQ ([ms[i].when_,ms[i].from_]) hlt hs (by rw[hstep];rfl) fun hw=>by repeat' first|exact rfl|exact trivial|exact nd hw|exact hes _|exact aK (hsub _ _)|exact aK (by rw[hsub,hsub])|exact dj rfl|exact bD _ _ _ _ _|exact dt _ _ _ _ _ _|refine aj ?_ ?_
       ·simp only[bne,Bool.not_eq_true',Bool.not_eq_false'] at h5
        rw[eA h5] at hstep
        repeat refine ai ?_
        exact cQ ([ms[i].when_]) hlt hs (by rw[hstep];rfl) fun hw=>by repeat' first|exact rfl|exact trivial|exact nd hw|exact hes _|exact aK (hsub _ _)|exact aK (by rw[hsub,hsub])|exact dj rfl|exact bD _ _ _ _ _|exact dt _ _ _ _ _ _|refine aj ?_ ?_
      ·simp only[bne,Bool.not_eq_true',Bool.not_eq_false'] at h4
       rw[eA h4] at hstep
       repeat refine ai ?_
       refine aj ?_ ?_<;>intro h5
       ·simp only[bne,Bool.not_eq_true',Bool.not_eq_false'] at h5
        rw[du h5] at hstep
        repeat refine ai ?_
        refine aj (fun r hr=>by rw[List.mem_singleton.1 hr];rfl) ?_
        repeat refine ai ?_
        refine aj (by simp only[List.length_nil,List.length_cons,List.length_map] at*;unfold big;omega) ?_
        repeat refine ai ?_
        exact cQ ([ms[i].from_]) hlt hs (by rw[hstep];rfl) fun hw=>by repeat' first|exact rfl|exact trivial|exact nd hw|exact hes _|exact aK (hsub _ _)|exact aK (by rw[hsub,hsub])|exact dj rfl|exact bD _ _ _ _ _|exact dt _ _ _ _ _ _|refine aj ?_ ?_
       ·simp only[bne,Bool.not_eq_true',Bool.not_eq_false'] at h5
        rw[eA h5] at hstep
        repeat refine ai ?_
        exact cQ ([]) hlt hs (by rw[hstep];simp) fun hw=>by repeat' first|exact rfl|exact trivial|exact nd hw|exact hes _|refine aj ?_ ?_
    ·simp only[bne,Bool.not_eq_true',Bool.not_eq_false'] at h2
     repeat refine ai ?_
     exact cQ ([]) hlt hs (by rw[cf hlt,←hr,pJ h2,List.append_nil]) fun hw=>by repeat' first|exact rfl|exact trivial|exact nd hw|exact hes _|refine aj ?_ ?_
   |cons a tl=>
    repeat refine ai ?_
    refine aj ?_ ?_<;>intro h2
    ·simp only[bne,Bool.not_eq_true',Bool.not_eq_false'] at h2
     repeat refine ai ?_
     refine aj ?_ ?_<;>intro h3
     ·simp only[bne,Bool.not_eq_true',Bool.not_eq_false'] at h3
      repeat refine ai ?_
      exact cQ (a::tl) hlt hs (by rw[cf hlt,←hr,mF h3,List.append_nil]) fun hw=>by repeat' first|exact rfl|exact trivial|exact nd hw|exact hes _|refine aj ?_ ?_
     ·simp only[bne,Bool.not_eq_true',Bool.not_eq_false'] at h3
      have hstep:=cf (k:=s.kind) (n:=n) hlt
      rw[vL h2 h3,←hr] at hstep
      repeat refine ai ?_
      refine aj ?_ ?_<;>intro h4
      ·simp only[bne,Bool.not_eq_true',Bool.not_eq_false'] at h4
       rw[du h4] at hstep
       repeat refine ai ?_
       refine aj (fun r hr=>by rw[List.mem_singleton.1 hr];rfl) ?_
       repeat refine ai ?_
       refine aj (by simp only[List.length_append,List.length_nil,List.length_cons,List.length_map] at*;unfold big;omega) ?_
       repeat refine ai ?_
       refine aj ?_ ?_<;>intro h5
       ·simp only[bne,Bool.not_eq_true',Bool.not_eq_false'] at h5
        rw[du h5] at hstep
        repeat refine ai ?_
        refine aj (fun r hr=>by rw[List.mem_singleton.1 hr];rfl) ?_
        repeat refine ai ?_
        refine aj (by simp only[List.length_append,List.length_nil,List.length_cons,List.length_map] at*;unfold big;omega) ?_
        repeat refine ai ?_
        exact cQ (a::(tl++[ms[i].when_,ms[i].from_])) hlt hs (by rw[hstep];rfl) fun hw=>by repeat' first|exact rfl|exact trivial|exact nd hw|exact hes _|exact aK (hsub _ _)|exact aK (by rw[hsub,hsub])|exact dj rfl|exact bD _ _ _ _ _|exact dt _ _ _ _ _ _|refine aj ?_ ?_
       ·simp only[bne,Bool.not_eq_true',Bool.not_eq_false'] at h5
        rw[eA h5] at hstep
        repeat refine ai ?_
        exact cQ (a::(tl++[ms[i].when_])) hlt hs (by rw[hstep];rfl) fun hw=>by repeat' first|exact rfl|exact trivial|exact nd hw|exact hes _|exact aK (hsub _ _)|exact aK (by rw[hsub,hsub])|exact dj rfl|exact bD _ _ _ _ _|exact dt _ _ _ _ _ _|refine aj ?_ ?_
      ·simp only[bne,Bool.not_eq_true',Bool.not_eq_false'] at h4
       rw[eA h4] at hstep
       repeat refine ai ?_
       refine aj ?_ ?_<;>intro h5
       ·simp only[bne,Bool.not_eq_true',Bool.not_eq_false'] at h5
        rw[du h5] at hstep
        repeat refine ai ?_
        refine aj (fun r hr=>by rw[List.mem_singleton.1 hr];rfl) ?_
        repeat refine ai ?_
        refine aj (by simp only[List.length_append,List.length_nil,List.length_cons,List.length_map] at*;unfold big;omega) ?_
        repeat refine ai ?_
        exact cQ (a::(tl++[ms[i].from_])) hlt hs (by rw[hstep];rfl) fun hw=>by repeat' first|exact rfl|exact trivial|exact nd hw|exact hes _|exact aK (hsub _ _)|exact aK (by rw[hsub,hsub])|exact dj rfl|exact bD _ _ _ _ _|exact dt _ _ _ _ _ _|refine aj ?_ ?_
       ·simp only[bne,Bool.not_eq_true',Bool.not_eq_false'] at h5
        rw[eA h5] at hstep
        repeat refine ai ?_
        exact cQ (a::tl) hlt hs (by rw[hstep];simp) fun hw=>by repeat' first|exact rfl|exact trivial|exact nd hw|exact hes _|refine aj ?_ ?_
    ·simp only[bne,Bool.not_eq_true',Bool.not_eq_false'] at h2
     repeat refine ai ?_
     exact cQ (a::tl) hlt hs (by rw[cf hlt,←hr,pJ h2,List.append_nil]) fun hw=>by repeat' first|exact rfl|exact trivial|exact nd hw|exact hes _|refine aj ?_ ?_
  ·have ha:A=U s.kind ms n:=by rw[hr,List.take_of_length_le (Y h1)]
   rw[←ha]
   cases A with
   |nil=>
    refine aj rfl (aj rfl ⟨rfl,rfl,?_,?_,?_⟩)
    all_goals (repeat' first|exact rfl|exact trivial|exact hes _|exact aK (hsub _ _)|refine aj ?_ ?_)
   |cons a tl=>
    refine aj rfl (aj rfl ⟨rfl,rfl,?_,?_,?_⟩)
    all_goals (repeat' first|exact rfl|exact trivial|exact hes _|exact aK (hsub _ _)|refine aj ?_ ?_)
end Go.Vc
end
section
namespace Go.Vc
open Go.Proofs
set_option maxRecDepth 100000
theorem ir {i:Nat} {b:AV}:∀{st:List (Bs×Int)},y8 i b (st.map il)=st.map il
 |[]=>rfl
 |p::st=>by
  have ih:=ir (i:=i) (b:=b) (st:=st)
  simp only[List.map_cons,y8,il,ih,AV.sub]
theorem fb {x:Bs} {v:Int}:∀{st:List (Bs×Int)},bn (st.map il) [.str x] (.d (.int .i64 v))=(pt st x v).map il
 |[]=>rfl
 |(k,u)::st=>by
  have ih:=fb (x:=x) (v:=v) (st:=st)
  simp only[List.map_cons,il,bn,cL,pt,nr x k]
  cases k==x with
  |true=>rfl
  |false=>simp only[cond_false,List.map_cons,il];exact congrArg _ ih
theorem rA {x:Bs}:∀(st:List (Bs×Int)),(aq (st.map il) [.str x]=none∧lk st x=0)∨aq (st.map il) [.str x]=some (.d (.int .i64 (lk st x)))
 |[]=> .inl ⟨rfl,rfl⟩
 |(k,u)::st=>by
  simp only[List.map_cons,il,aq,cL,lk,nr x k]
  cases k==x with
  |true=>exact .inr rfl
  |false=>exact rA st
theorem fK {t:Nat} {tk:TK} {x:Bs} {v:Int} {st:List (Bs×Int)}:some (AO.map t tk (bn (st.map il) [.str x] (.d (.int .i64 v))))=some (AO.map t tk ((pt st x v).map il)):=by rw[fb]
theorem ix {t:Nat} {tk:TK} {x:Bs} {v:Int} {st:List (Bs×Int)} {i:Nat} {b:AV}:some (AO.map t tk (y8 i b (bn (st.map il) [.str x] (.d (.int .i64 v)))))=some (AO.map t tk ((pt st x v).map il)):=by rw[fb,ir]
theorem j7 (s:GateShape) (ms:List GateMend) (hm:ms.length≤12) (all N:List Bs) (hN:N.length≤big) (hin:∀n∈N,∀y∈U s.kind ms n,y∈N):
 ∀(k lo:Nat) (x:Bs) (w:Wk),x∈N→nw (U s.kind ms) N w→white N w<k→
 HSpec P 236 [.d (.str x),.ptr 6 0,.ptr 4 0,.ptr 8 0,.ptr 7 0] (hW lo s ms all w) (.d (.bool (bX (U s.kind ms) k x w).1)) (hW lo s ms all (bX (U s.kind ms) k x w).2)
 |0,_,_,_,_,_,h=>by omega
 |k+1,lo,x,w,hx,hwk,hk=>by
  obtain ⟨st,out⟩:=w
  generalize hq:bX (U s.kind ms) (k+1) x ⟨st,out⟩=q
  obtain ⟨b,w2⟩:=q
  show HSpec P _ _ _ (.d (.bool b)) (hW lo s ms all w2)
  cases out with
  |nil=>
   refine HSpec.of_vc aJ aw [.tmp 6] Tryz.func236 rfl rfl rfl rfl rfl (fun hok=>?_)
   repeat refine ai ?_
   rcases rA (x:=x) st with ⟨e0,e1⟩|e1
   ·refine ⟨_,e0,?_⟩
    repeat refine ai ?_
    refine aj ?_ ?_<;>intro g1
    ·have g1':(lk st x==1)=true:=by first|exact g1|(rw[e1];exact g1)
     rw[lW g1'] at hq
     obtain ⟨rfl,rfl⟩:=Prod.mk.inj hq
     refine aj rfl (aj rfl ⟨rfl,rfl,?_,?_,?_⟩)
     all_goals (repeat' first|exact rfl|exact trivial|exact ap|refine aj ?_ ?_)
    ·have g1':(lk st x==1)=false:=by first|exact g1|(rw[e1];exact g1)
     repeat refine ai ?_
     refine aj ?_ ?_<;>intro g2
     ·have g2':(lk st x==2)=true:=by first|exact g2|(rw[e1];exact g2)
      rw[lV g1' g2'] at hq
      obtain ⟨rfl,rfl⟩:=Prod.mk.inj hq
      refine aj rfl (aj rfl ⟨rfl,rfl,?_,?_,?_⟩)
      all_goals (repeat' first|exact rfl|exact trivial|exact ap|refine aj ?_ ?_)
     ·have g2':(lk st x==2)=false:=by first|exact g2|(rw[e1];exact g2)
      repeat refine ai ?_
      refine oh (pM _ s ms hm all (bn (st.map il) [.str x] (.d (.int .i64 1))) (fun n=>by rw[fb];exact ap) (fun i b=>by rw[fb];exact ir) [] x) ?_
      have hs:(U s.kind ms x).length≤big:=by
       have:=fw (k:=s.kind) (n:=x) (ms:=ms)
       unfold big;omega
      repeat refine ai ?_
      refine m4 ((U s.kind ms x)) (fun i (u:Wk)=>bJ (bX (U s.kind ms) k) (U s.kind ms x) ⟨pt st x 1,[]⟩=bJ (bX (U s.kind ms) k) ((U s.kind ms x).drop i) u∧yQ (U s.kind ms) N x ⟨st,[]⟩ u∧∃t,u.out=[]++t) (fun i (u:Wk)=>[(0,.d (.str x)),(1,.ptr 6 0),(2,.ptr 4 0),(3,.ptr 8 0),(4,.ptr 7 0),(20,.d (lS (U s.kind ms x))),(21,.d (.int .i64 ((U s.kind ms x).map eB).length)),(22,.d (.int .i64 i))]) (fun i (u:Wk)=>hW 9 s ms all u) (⟨rfl,lU hx hwk g1' g2',[],by simp⟩) ?_ ⟨rfl,rfl,⟨rfl,rfl,rfl,rfl,rfl,rfl,rfl,rfl,trivial⟩,(by repeat' first|exact rfl|exact trivial|exact ap|refine aj ?_ ?_),(by repeat' first|exact rfl|exact trivial|exact fK|refine aj ?_ ?_)⟩
      intro i u hi hr
      obtain ⟨hE,hI,hT⟩:=hr
      obtain ⟨st1,out1⟩:=u
      cases out1 with
      |nil=>
       repeat refine ai ?_
       refine aj ?_ ?_<;>intro h1
       ·have hlt:i<(U s.kind ms x).length:=V h1
        have hy:(U s.kind ms x)[i]∈N:=hin x hx _ (List.getElem_mem hlt)
        have hc:=j7 s ms hm all N hN hin k 9 (U s.kind ms x)[i] ⟨st1,[]⟩ hy hI.ok (by have:=hI.white;omega)
        rw[dG hlt] at hE
        generalize hv:bX (U s.kind ms) k (U s.kind ms x)[i] ⟨st1,[]⟩=v at hc hE
        obtain ⟨b3,st3,out3⟩:=v
        have hO:∃t,out3=[]++t:=by
             have:=gI (U s.kind ms) k (U s.kind ms x)[i] ⟨st1,[]⟩
             rw[hv] at this;exact this
        have hT3:∃t,out3=[]++t:=by
             obtain ⟨t,ht⟩:=hT
             obtain ⟨t2,ht2⟩:=hO
             exact ⟨t++t2,by rw[ht2,←List.append_assoc];exact congrArg (·++t2) ht⟩
        repeat refine ai ?_
        refine aC (e:=eB) (xs:=(U s.kind ms x)) (hlt) (rfl) rfl ?_
        repeat refine ai ?_
        cases out3 with
        |nil=>
         cases b3 with
         |false=>
          refine Or.inr (Or.inl (Exists.intro _ (Exists.intro _ (aj (aj rfl hc) ?_))))
          repeat refine ai ?_
          refine ay ?_
          rw[gT g1' g2' hE] at hq
          obtain ⟨rfl,rfl⟩:=Prod.mk.inj hq
          refine aj rfl (aj rfl ⟨rfl,rfl,?_,?_,?_⟩)
          all_goals (repeat' first|exact rfl|exact trivial|exact ap|refine aj ?_ ?_)
         |true=>
          refine Or.inr (Or.inl (Exists.intro _ (Exists.intro _ (aj (aj rfl hc) ?_))))
          repeat refine ai ?_
          refine an ?_
          repeat refine ai ?_
          exact cQ ⟨st3,[]⟩ hlt hs ⟨hE,gR hin hI hk hy hv,hT3⟩ fun hw=>by repeat' first|exact rfl|exact trivial|exact nd hw|exact ap|refine aj ?_ ?_
        |cons z zs=>
         cases b3 with
         |false=>
          refine Or.inr (Or.inl (Exists.intro _ (Exists.intro _ (aj (aj rfl hc) ?_))))
          repeat refine ai ?_
          refine ay ?_
          rw[gT g1' g2' hE] at hq
          obtain ⟨rfl,rfl⟩:=Prod.mk.inj hq
          refine aj rfl (aj rfl ⟨rfl,rfl,?_,?_,?_⟩)
          all_goals (repeat' first|exact rfl|exact trivial|exact ap|refine aj ?_ ?_)
         |true=>
          refine Or.inr (Or.inl (Exists.intro _ (Exists.intro _ (aj (aj rfl hc) ?_))))
          repeat refine ai ?_
          refine an ?_
          repeat refine ai ?_
          exact cQ ⟨st3,(z::zs)⟩ hlt hs ⟨hE,gR hin hI hk hy hv,hT3⟩ fun hw=>by repeat' first|exact rfl|exact trivial|exact nd hw|exact ap|refine aj ?_ ?_
       ·rw[eO (Y h1)] at hE
        rw[ip g1' g2' hE] at hq
        obtain ⟨rfl,rfl⟩:=Prod.mk.inj hq
        have hroom:=kn hx hI
        repeat refine ai ?_
        refine aj (fun r hr=>by rw[List.mem_singleton.1 hr];rfl) ?_
        repeat refine ai ?_
        refine aj (by simp only[List.length_append,List.length_nil,List.length_cons,List.length_map] at*;unfold big at*;omega) ?_
        refine aj rfl (aj rfl ⟨rfl,rfl,?_,?_,?_⟩)
        all_goals (repeat' first|exact rfl|exact trivial|exact ap|exact fK|exact ix|exact bD _ _ _ _ _|refine aj ?_ ?_)
      |cons y ys=>
       repeat refine ai ?_
       refine aj ?_ ?_<;>intro h1
       ·have hlt:i<(U s.kind ms x).length:=V h1
        have hy:(U s.kind ms x)[i]∈N:=hin x hx _ (List.getElem_mem hlt)
        have hc:=j7 s ms hm all N hN hin k 9 (U s.kind ms x)[i] ⟨st1,(y::ys)⟩ hy hI.ok (by have:=hI.white;omega)
        rw[dG hlt] at hE
        generalize hv:bX (U s.kind ms) k (U s.kind ms x)[i] ⟨st1,(y::ys)⟩=v at hc hE
        obtain ⟨b3,st3,out3⟩:=v
        have hO:∃t,out3=(y::ys)++t:=by
             have:=gI (U s.kind ms) k (U s.kind ms x)[i] ⟨st1,(y::ys)⟩
             rw[hv] at this;exact this
        have hT3:∃t,out3=[]++t:=by
             obtain ⟨t,ht⟩:=hT
             obtain ⟨t2,ht2⟩:=hO
             exact ⟨t++t2,by rw[ht2,←List.append_assoc];exact congrArg (·++t2) ht⟩
        repeat refine ai ?_
        refine aC (e:=eB) (xs:=(U s.kind ms x)) (hlt) (rfl) rfl ?_
        repeat refine ai ?_
        cases out3 with
        |nil=>
         obtain ⟨t,ht⟩:=hO
         cases ht
        |cons z zs=>
         cases b3 with
         |false=>
          refine Or.inr (Or.inl (Exists.intro _ (Exists.intro _ (aj (aj rfl hc) ?_))))
          repeat refine ai ?_
          refine ay ?_
          rw[gT g1' g2' hE] at hq
          obtain ⟨rfl,rfl⟩:=Prod.mk.inj hq
          refine aj rfl (aj rfl ⟨rfl,rfl,?_,?_,?_⟩)
          all_goals (repeat' first|exact rfl|exact trivial|exact ap|refine aj ?_ ?_)
         |true=>
          refine Or.inr (Or.inl (Exists.intro _ (Exists.intro _ (aj (aj rfl hc) ?_))))
          repeat refine ai ?_
          refine an ?_
          repeat refine ai ?_
          exact cQ ⟨st3,(z::zs)⟩ hlt hs ⟨hE,gR hin hI hk hy hv,hT3⟩ fun hw=>by repeat' first|exact rfl|exact trivial|exact nd hw|exact ap|refine aj ?_ ?_
       ·rw[eO (Y h1)] at hE
        rw[ip g1' g2' hE] at hq
        obtain ⟨rfl,rfl⟩:=Prod.mk.inj hq
        have hroom:=kn hx hI
        repeat refine ai ?_
        refine aj (fun r hr=>by rw[List.mem_singleton.1 hr];rfl) ?_
        repeat refine ai ?_
        refine aj (by simp only[List.length_append,List.length_nil,List.length_cons,List.length_map] at*;unfold big at*;omega) ?_
        refine aj rfl (aj rfl ⟨rfl,rfl,?_,?_,?_⟩)
        all_goals (repeat' first|exact rfl|exact trivial|exact ap|exact fK|exact ix|exact bD _ _ _ _ _|refine aj ?_ ?_)
   ·refine ⟨_,e1,?_⟩
    repeat refine ai ?_
    refine aj ?_ ?_<;>intro g1
    ·have g1':(lk st x==1)=true:=by first|exact g1|(rw[e1];exact g1)
     rw[lW g1'] at hq
     obtain ⟨rfl,rfl⟩:=Prod.mk.inj hq
     refine aj rfl (aj rfl ⟨rfl,rfl,?_,?_,?_⟩)
     all_goals (repeat' first|exact rfl|exact trivial|exact ap|refine aj ?_ ?_)
    ·have g1':(lk st x==1)=false:=by first|exact g1|(rw[e1];exact g1)
     repeat refine ai ?_
     refine aj ?_ ?_<;>intro g2
     ·have g2':(lk st x==2)=true:=by first|exact g2|(rw[e1];exact g2)
      rw[lV g1' g2'] at hq
      obtain ⟨rfl,rfl⟩:=Prod.mk.inj hq
      refine aj rfl (aj rfl ⟨rfl,rfl,?_,?_,?_⟩)
      all_goals (repeat' first|exact rfl|exact trivial|exact ap|refine aj ?_ ?_)
     ·have g2':(lk st x==2)=false:=by first|exact g2|(rw[e1];exact g2)
      repeat refine ai ?_
      refine oh (pM _ s ms hm all (bn (st.map il) [.str x] (.d (.int .i64 1))) (fun n=>by rw[fb];exact ap) (fun i b=>by rw[fb];exact ir) [] x) ?_
      have hs:(U s.kind ms x).length≤big:=by
       have:=fw (k:=s.kind) (n:=x) (ms:=ms)
       unfold big;omega
      repeat refine ai ?_
      refine m4 ((U s.kind ms x)) (fun i (u:Wk)=>bJ (bX (U s.kind ms) k) (U s.kind ms x) ⟨pt st x 1,[]⟩=bJ (bX (U s.kind ms) k) ((U s.kind ms x).drop i) u∧yQ (U s.kind ms) N x ⟨st,[]⟩ u∧∃t,u.out=[]++t) (fun i (u:Wk)=>[(0,.d (.str x)),(1,.ptr 6 0),(2,.ptr 4 0),(3,.ptr 8 0),(4,.ptr 7 0),(20,.d (lS (U s.kind ms x))),(21,.d (.int .i64 ((U s.kind ms x).map eB).length)),(22,.d (.int .i64 i))]) (fun i (u:Wk)=>hW 9 s ms all u) (⟨rfl,lU hx hwk g1' g2',[],by simp⟩) ?_ ⟨rfl,rfl,⟨rfl,rfl,rfl,rfl,rfl,rfl,rfl,rfl,trivial⟩,(by repeat' first|exact rfl|exact trivial|exact ap|refine aj ?_ ?_),(by repeat' first|exact rfl|exact trivial|exact fK|refine aj ?_ ?_)⟩
      intro i u hi hr
      obtain ⟨hE,hI,hT⟩:=hr
      obtain ⟨st1,out1⟩:=u
      cases out1 with
      |nil=>
       repeat refine ai ?_
       refine aj ?_ ?_<;>intro h1
       ·have hlt:i<(U s.kind ms x).length:=V h1
        have hy:(U s.kind ms x)[i]∈N:=hin x hx _ (List.getElem_mem hlt)
        have hc:=j7 s ms hm all N hN hin k 9 (U s.kind ms x)[i] ⟨st1,[]⟩ hy hI.ok (by have:=hI.white;omega)
        rw[dG hlt] at hE
        generalize hv:bX (U s.kind ms) k (U s.kind ms x)[i] ⟨st1,[]⟩=v at hc hE
        obtain ⟨b3,st3,out3⟩:=v
        have hO:∃t,out3=[]++t:=by
             have:=gI (U s.kind ms) k (U s.kind ms x)[i] ⟨st1,[]⟩
             rw[hv] at this;exact this
        have hT3:∃t,out3=[]++t:=by
             obtain ⟨t,ht⟩:=hT
             obtain ⟨t2,ht2⟩:=hO
             exact ⟨t++t2,by rw[ht2,←List.append_assoc];exact congrArg (·++t2) ht⟩
        repeat refine ai ?_
        refine aC (e:=eB) (xs:=(U s.kind ms x)) (hlt) (rfl) rfl ?_
        repeat refine ai ?_
        cases out3 with
        |nil=>
         cases b3 with
         |false=>
          refine Or.inr (Or.inl (Exists.intro _ (Exists.intro _ (aj (aj rfl hc) ?_))))
          repeat refine ai ?_
          refine ay ?_
          rw[gT g1' g2' hE] at hq
          obtain ⟨rfl,rfl⟩:=Prod.mk.inj hq
          refine aj rfl (aj rfl ⟨rfl,rfl,?_,?_,?_⟩)
          all_goals (repeat' first|exact rfl|exact trivial|exact ap|refine aj ?_ ?_)
         |true=>
          refine Or.inr (Or.inl (Exists.intro _ (Exists.intro _ (aj (aj rfl hc) ?_))))
          repeat refine ai ?_
          refine an ?_
          repeat refine ai ?_
          exact cQ ⟨st3,[]⟩ hlt hs ⟨hE,gR hin hI hk hy hv,hT3⟩ fun hw=>by repeat' first|exact rfl|exact trivial|exact nd hw|exact ap|refine aj ?_ ?_
        |cons z zs=>
         cases b3 with
         |false=>
          refine Or.inr (Or.inl (Exists.intro _ (Exists.intro _ (aj (aj rfl hc) ?_))))
          repeat refine ai ?_
          refine ay ?_
          rw[gT g1' g2' hE] at hq
          obtain ⟨rfl,rfl⟩:=Prod.mk.inj hq
          refine aj rfl (aj rfl ⟨rfl,rfl,?_,?_,?_⟩)
          all_goals (repeat' first|exact rfl|exact trivial|exact ap|refine aj ?_ ?_)
         |true=>
          refine Or.inr (Or.inl (Exists.intro _ (Exists.intro _ (aj (aj rfl hc) ?_))))
          repeat refine ai ?_
          refine an ?_
          repeat refine ai ?_
          exact cQ ⟨st3,(z::zs)⟩ hlt hs ⟨hE,gR hin hI hk hy hv,hT3⟩ fun hw=>by repeat' first|exact rfl|exact trivial|exact nd hw|exact ap|refine aj ?_ ?_
       ·rw[eO (Y h1)] at hE
        rw[ip g1' g2' hE] at hq
        obtain ⟨rfl,rfl⟩:=Prod.mk.inj hq
        have hroom:=kn hx hI
        repeat refine ai ?_
        refine aj (fun r hr=>by rw[List.mem_singleton.1 hr];rfl) ?_
        repeat refine ai ?_
        refine aj (by simp only[List.length_append,List.length_nil,List.length_cons,List.length_map] at*;unfold big at*;omega) ?_
        refine aj rfl (aj rfl ⟨rfl,rfl,?_,?_,?_⟩)
        all_goals (repeat' first|exact rfl|exact trivial|exact ap|exact fK|exact ix|exact bD _ _ _ _ _|refine aj ?_ ?_)
      |cons y ys=>
       repeat refine ai ?_
       refine aj ?_ ?_<;>intro h1
       ·have hlt:i<(U s.kind ms x).length:=V h1
        have hy:(U s.kind ms x)[i]∈N:=hin x hx _ (List.getElem_mem hlt)
        have hc:=j7 s ms hm all N hN hin k 9 (U s.kind ms x)[i] ⟨st1,(y::ys)⟩ hy hI.ok (by have:=hI.white;omega)
        rw[dG hlt] at hE
        generalize hv:bX (U s.kind ms) k (U s.kind ms x)[i] ⟨st1,(y::ys)⟩=v at hc hE
        obtain ⟨b3,st3,out3⟩:=v
        have hO:∃t,out3=(y::ys)++t:=by
             have:=gI (U s.kind ms) k (U s.kind ms x)[i] ⟨st1,(y::ys)⟩
             rw[hv] at this;exact this
        have hT3:∃t,out3=[]++t:=by
             obtain ⟨t,ht⟩:=hT
             obtain ⟨t2,ht2⟩:=hO
             exact ⟨t++t2,by rw[ht2,←List.append_assoc];exact congrArg (·++t2) ht⟩
        repeat refine ai ?_
        refine aC (e:=eB) (xs:=(U s.kind ms x)) (hlt) (rfl) rfl ?_
        repeat refine ai ?_
        cases out3 with
        |nil=>
         obtain ⟨t,ht⟩:=hO
         cases ht
        |cons z zs=>
         cases b3 with
         |false=>
          refine Or.inr (Or.inl (Exists.intro _ (Exists.intro _ (aj (aj rfl hc) ?_))))
          repeat refine ai ?_
          refine ay ?_
          rw[gT g1' g2' hE] at hq
          obtain ⟨rfl,rfl⟩:=Prod.mk.inj hq
          refine aj rfl (aj rfl ⟨rfl,rfl,?_,?_,?_⟩)
          all_goals (repeat' first|exact rfl|exact trivial|exact ap|refine aj ?_ ?_)
         |true=>
          refine Or.inr (Or.inl (Exists.intro _ (Exists.intro _ (aj (aj rfl hc) ?_))))
          repeat refine ai ?_
          refine an ?_
          repeat refine ai ?_
          exact cQ ⟨st3,(z::zs)⟩ hlt hs ⟨hE,gR hin hI hk hy hv,hT3⟩ fun hw=>by repeat' first|exact rfl|exact trivial|exact nd hw|exact ap|refine aj ?_ ?_
       ·rw[eO (Y h1)] at hE
        rw[ip g1' g2' hE] at hq
        obtain ⟨rfl,rfl⟩:=Prod.mk.inj hq
        have hroom:=kn hx hI
        repeat refine ai ?_
        refine aj (fun r hr=>by rw[List.mem_singleton.1 hr];rfl) ?_
        repeat refine ai ?_
        refine aj (by simp only[List.length_append,List.length_nil,List.length_cons,List.length_map] at*;unfold big at*;omega) ?_
        refine aj rfl (aj rfl ⟨rfl,rfl,?_,?_,?_⟩)
        all_goals (repeat' first|exact rfl|exact trivial|exact ap|exact fK|exact ix|exact bD _ _ _ _ _|refine aj ?_ ?_)
  |cons a tl=>
   refine HSpec.of_vc aJ aw [.tmp 6] Tryz.func236 rfl rfl rfl rfl rfl (fun hok=>?_)
   repeat refine ai ?_
   rcases rA (x:=x) st with ⟨e0,e1⟩|e1
   ·refine ⟨_,e0,?_⟩
    repeat refine ai ?_
    refine aj ?_ ?_<;>intro g1
    ·have g1':(lk st x==1)=true:=by first|exact g1|(rw[e1];exact g1)
     rw[lW g1'] at hq
     obtain ⟨rfl,rfl⟩:=Prod.mk.inj hq
     refine aj rfl (aj rfl ⟨rfl,rfl,?_,?_,?_⟩)
     all_goals (repeat' first|exact rfl|exact trivial|exact ap|refine aj ?_ ?_)
    ·have g1':(lk st x==1)=false:=by first|exact g1|(rw[e1];exact g1)
     repeat refine ai ?_
     refine aj ?_ ?_<;>intro g2
     ·have g2':(lk st x==2)=true:=by first|exact g2|(rw[e1];exact g2)
      rw[lV g1' g2'] at hq
      obtain ⟨rfl,rfl⟩:=Prod.mk.inj hq
      refine aj rfl (aj rfl ⟨rfl,rfl,?_,?_,?_⟩)
      all_goals (repeat' first|exact rfl|exact trivial|exact ap|refine aj ?_ ?_)
     ·have g2':(lk st x==2)=false:=by first|exact g2|(rw[e1];exact g2)
      repeat refine ai ?_
      refine oh (pM _ s ms hm all (bn (st.map il) [.str x] (.d (.int .i64 1))) (fun n=>by rw[fb];exact ap) (fun i b=>by rw[fb];exact ir) (a::tl) x) ?_
      have hs:(U s.kind ms x).length≤big:=by
       have:=fw (k:=s.kind) (n:=x) (ms:=ms)
       unfold big;omega
      repeat refine ai ?_
      refine m4 ((U s.kind ms x)) (fun i (u:Wk)=>bJ (bX (U s.kind ms) k) (U s.kind ms x) ⟨pt st x 1,(a::tl)⟩=bJ (bX (U s.kind ms) k) ((U s.kind ms x).drop i) u∧yQ (U s.kind ms) N x ⟨st,(a::tl)⟩ u∧∃t,u.out=(a::tl)++t) (fun i (u:Wk)=>[(0,.d (.str x)),(1,.ptr 6 0),(2,.ptr 4 0),(3,.ptr 8 0),(4,.ptr 7 0),(20,.d (lS (U s.kind ms x))),(21,.d (.int .i64 ((U s.kind ms x).map eB).length)),(22,.d (.int .i64 i))]) (fun i (u:Wk)=>hW 10 s ms all u) (⟨rfl,lU hx hwk g1' g2',[],by simp⟩) ?_ ⟨rfl,rfl,⟨rfl,rfl,rfl,rfl,rfl,rfl,rfl,rfl,trivial⟩,(by repeat' first|exact rfl|exact trivial|exact ap|refine aj ?_ ?_),(by repeat' first|exact rfl|exact trivial|exact fK|refine aj ?_ ?_)⟩
      intro i u hi hr
      obtain ⟨hE,hI,hT⟩:=hr
      obtain ⟨st1,out1⟩:=u
      cases out1 with
      |nil=>
       obtain ⟨t,ht⟩:=hT
       cases ht
      |cons y ys=>
       repeat refine ai ?_
       refine aj ?_ ?_<;>intro h1
       ·have hlt:i<(U s.kind ms x).length:=V h1
        have hy:(U s.kind ms x)[i]∈N:=hin x hx _ (List.getElem_mem hlt)
        have hc:=j7 s ms hm all N hN hin k 10 (U s.kind ms x)[i] ⟨st1,(y::ys)⟩ hy hI.ok (by have:=hI.white;omega)
        rw[dG hlt] at hE
        generalize hv:bX (U s.kind ms) k (U s.kind ms x)[i] ⟨st1,(y::ys)⟩=v at hc hE
        obtain ⟨b3,st3,out3⟩:=v
        have hO:∃t,out3=(y::ys)++t:=by
             have:=gI (U s.kind ms) k (U s.kind ms x)[i] ⟨st1,(y::ys)⟩
             rw[hv] at this;exact this
        have hT3:∃t,out3=(a::tl)++t:=by
             obtain ⟨t,ht⟩:=hT
             obtain ⟨t2,ht2⟩:=hO
             exact ⟨t++t2,by rw[ht2,←List.append_assoc];exact congrArg (·++t2) ht⟩
        repeat refine ai ?_
        refine aC (e:=eB) (xs:=(U s.kind ms x)) (hlt) (rfl) rfl ?_
        repeat refine ai ?_
        cases out3 with
        |nil=>
         obtain ⟨t,ht⟩:=hO
         cases ht
        |cons z zs=>
         cases b3 with
         |false=>
          refine Or.inr (Or.inl (Exists.intro _ (Exists.intro _ (aj (aj rfl hc) ?_))))
          repeat refine ai ?_
          refine ay ?_
          rw[gT g1' g2' hE] at hq
          obtain ⟨rfl,rfl⟩:=Prod.mk.inj hq
          refine aj rfl (aj rfl ⟨rfl,rfl,?_,?_,?_⟩)
          all_goals (repeat' first|exact rfl|exact trivial|exact ap|refine aj ?_ ?_)
         |true=>
          refine Or.inr (Or.inl (Exists.intro _ (Exists.intro _ (aj (aj rfl hc) ?_))))
          repeat refine ai ?_
          refine an ?_
          repeat refine ai ?_
          exact cQ ⟨st3,(z::zs)⟩ hlt hs ⟨hE,gR hin hI hk hy hv,hT3⟩ fun hw=>by repeat' first|exact rfl|exact trivial|exact nd hw|exact ap|refine aj ?_ ?_
       ·rw[eO (Y h1)] at hE
        rw[ip g1' g2' hE] at hq
        obtain ⟨rfl,rfl⟩:=Prod.mk.inj hq
        have hroom:=kn hx hI
        repeat refine ai ?_
        refine aj (fun r hr=>by rw[List.mem_singleton.1 hr];rfl) ?_
        repeat refine ai ?_
        refine aj (by simp only[List.length_append,List.length_nil,List.length_cons,List.length_map] at*;unfold big at*;omega) ?_
        refine aj rfl (aj rfl ⟨rfl,rfl,?_,?_,?_⟩)
        all_goals (repeat' first|exact rfl|exact trivial|exact ap|exact fK|exact ix|exact bD _ _ _ _ _|refine aj ?_ ?_)
   ·refine ⟨_,e1,?_⟩
    repeat refine ai ?_
    refine aj ?_ ?_<;>intro g1
    ·have g1':(lk st x==1)=true:=by first|exact g1|(rw[e1];exact g1)
     rw[lW g1'] at hq
     obtain ⟨rfl,rfl⟩:=Prod.mk.inj hq
     refine aj rfl (aj rfl ⟨rfl,rfl,?_,?_,?_⟩)
     all_goals (repeat' first|exact rfl|exact trivial|exact ap|refine aj ?_ ?_)
    ·have g1':(lk st x==1)=false:=by first|exact g1|(rw[e1];exact g1)
     repeat refine ai ?_
     refine aj ?_ ?_<;>intro g2
     ·have g2':(lk st x==2)=true:=by first|exact g2|(rw[e1];exact g2)
      rw[lV g1' g2'] at hq
      obtain ⟨rfl,rfl⟩:=Prod.mk.inj hq
      refine aj rfl (aj rfl ⟨rfl,rfl,?_,?_,?_⟩)
      all_goals (repeat' first|exact rfl|exact trivial|exact ap|refine aj ?_ ?_)
     ·have g2':(lk st x==2)=false:=by first|exact g2|(rw[e1];exact g2)
      repeat refine ai ?_
      refine oh (pM _ s ms hm all (bn (st.map il) [.str x] (.d (.int .i64 1))) (fun n=>by rw[fb];exact ap) (fun i b=>by rw[fb];exact ir) (a::tl) x) ?_
      have hs:(U s.kind ms x).length≤big:=by
       have:=fw (k:=s.kind) (n:=x) (ms:=ms)
       unfold big;omega
      repeat refine ai ?_
      refine m4 ((U s.kind ms x)) (fun i (u:Wk)=>bJ (bX (U s.kind ms) k) (U s.kind ms x) ⟨pt st x 1,(a::tl)⟩=bJ (bX (U s.kind ms) k) ((U s.kind ms x).drop i) u∧yQ (U s.kind ms) N x ⟨st,(a::tl)⟩ u∧∃t,u.out=(a::tl)++t) (fun i (u:Wk)=>[(0,.d (.str x)),(1,.ptr 6 0),(2,.ptr 4 0),(3,.ptr 8 0),(4,.ptr 7 0),(20,.d (lS (U s.kind ms x))),(21,.d (.int .i64 ((U s.kind ms x).map eB).length)),(22,.d (.int .i64 i))]) (fun i (u:Wk)=>hW 10 s ms all u) (⟨rfl,lU hx hwk g1' g2',[],by simp⟩) ?_ ⟨rfl,rfl,⟨rfl,rfl,rfl,rfl,rfl,rfl,rfl,rfl,trivial⟩,(by repeat' first|exact rfl|exact trivial|exact ap|refine aj ?_ ?_),(by repeat' first|exact rfl|exact trivial|exact fK|refine aj ?_ ?_)⟩
      intro i u hi hr
      obtain ⟨hE,hI,hT⟩:=hr
      obtain ⟨st1,out1⟩:=u
      cases out1 with
      |nil=>
       obtain ⟨t,ht⟩:=hT
       cases ht
      |cons y ys=>
       repeat refine ai ?_
       refine aj ?_ ?_<;>intro h1
       ·have hlt:i<(U s.kind ms x).length:=V h1
        have hy:(U s.kind ms x)[i]∈N:=hin x hx _ (List.getElem_mem hlt)
        have hc:=j7 s ms hm all N hN hin k 10 (U s.kind ms x)[i] ⟨st1,(y::ys)⟩ hy hI.ok (by have:=hI.white;omega)
        rw[dG hlt] at hE
        generalize hv:bX (U s.kind ms) k (U s.kind ms x)[i] ⟨st1,(y::ys)⟩=v at hc hE
        obtain ⟨b3,st3,out3⟩:=v
        have hO:∃t,out3=(y::ys)++t:=by
             have:=gI (U s.kind ms) k (U s.kind ms x)[i] ⟨st1,(y::ys)⟩
             rw[hv] at this;exact this
        have hT3:∃t,out3=(a::tl)++t:=by
             obtain ⟨t,ht⟩:=hT
             obtain ⟨t2,ht2⟩:=hO
             exact ⟨t++t2,by rw[ht2,←List.append_assoc];exact congrArg (·++t2) ht⟩
        repeat refine ai ?_
        refine aC (e:=eB) (xs:=(U s.kind ms x)) (hlt) (rfl) rfl ?_
        repeat refine ai ?_
        cases out3 with
        |nil=>
         obtain ⟨t,ht⟩:=hO
         cases ht
        |cons z zs=>
         cases b3 with
         |false=>
          refine Or.inr (Or.inl (Exists.intro _ (Exists.intro _ (aj (aj rfl hc) ?_))))
          repeat refine ai ?_
          refine ay ?_
          rw[gT g1' g2' hE] at hq
          obtain ⟨rfl,rfl⟩:=Prod.mk.inj hq
          refine aj rfl (aj rfl ⟨rfl,rfl,?_,?_,?_⟩)
          all_goals (repeat' first|exact rfl|exact trivial|exact ap|refine aj ?_ ?_)
         |true=>
          refine Or.inr (Or.inl (Exists.intro _ (Exists.intro _ (aj (aj rfl hc) ?_))))
          repeat refine ai ?_
          refine an ?_
          repeat refine ai ?_
          exact cQ ⟨st3,(z::zs)⟩ hlt hs ⟨hE,gR hin hI hk hy hv,hT3⟩ fun hw=>by repeat' first|exact rfl|exact trivial|exact nd hw|exact ap|refine aj ?_ ?_
       ·rw[eO (Y h1)] at hE
        rw[ip g1' g2' hE] at hq
        obtain ⟨rfl,rfl⟩:=Prod.mk.inj hq
        have hroom:=kn hx hI
        repeat refine ai ?_
        refine aj (fun r hr=>by rw[List.mem_singleton.1 hr];rfl) ?_
        repeat refine ai ?_
        refine aj (by simp only[List.length_append,List.length_nil,List.length_cons,List.length_map] at*;unfold big at*;omega) ?_
        refine aj rfl (aj rfl ⟨rfl,rfl,?_,?_,?_⟩)
        all_goals (repeat' first|exact rfl|exact trivial|exact ap|exact fK|exact ix|exact bD _ _ _ _ _|refine aj ?_ ?_)
end Go.Vc
end
section
namespace Go.Vc
open Go.Proofs
set_option maxRecDepth 100000
def iw (rd:Bs→List Bs) (all:List Bs):List Bs×Bool:=match bJ (bX rd (all.length+1)) all Bq with
 |(true,u)=>(u.out,true)
 |(false,_)=>([],false)
theorem AE {rd:Bs→List Bs} {all:List Bs}:(iw rd all).2=(bJ (bX rd (all.length+1)) all Bq).1:=by
 unfold iw
 split<;>(rename_i h;rw[h])
theorem pI {rd:Bs→List Bs} {all:List Bs} {u:Wk} (h:bJ (bX rd (all.length+1)) all Bq=(false,u)):iw rd all=([],false):=by
 unfold iw;rw[h]
theorem qO {rd:Bs→List Bs} {all:List Bs} {u:Wk} (h:bJ (bX rd (all.length+1)) all Bq=(true,u)):iw rd all=(u.out,true):=by
 unfold iw;rw[h]
def hA (lo nx:Nat) (s:GateShape) (ms:List GateMend):Heap:=⟨[(1,oM ms),(0,oS s)],nx,lo⟩
theorem GC (s:GateShape) (ms:List GateMend) (hm:ms.length≤12) (all:List Bs) (hN:all.length≤big) (hin:∀n∈all,∀y∈U s.kind ms n,y∈all) (lo:Nat):
 HSpec P 230 [.d (lS all),ww] (hA lo 4 s ms) (.tup [.d (lS (iw (U s.kind ms) all).1),.d (.bool (iw (U s.kind ms) all).2)]) (hA lo 4 s ms):=by
 refine HSpec.of_vc aJ aw [.tmp 4,.tmp 5] Tryz.func230 rfl rfl rfl rfl rfl (fun hok=>?_)
 have hs:=hN
 repeat refine ai ?_
 refine m4 (all) (fun i (u:Wk)=>bJ (bX (U s.kind ms) (all.length+1)) all Bq=bJ (bX (U s.kind ms) (all.length+1)) (all.drop i) u∧nw (U s.kind ms) all u) (fun i (u:Wk)=>[(7,.ptr 7 0),(8,.ptr 8 0),(13,.d (lS all)),(14,.d (.int .i64 (all.map eB).length)),(15,.d (.int .i64 i))]) (fun i (u:Wk)=>hW 4 s ms all u) (⟨rfl,yV _ _⟩) ?_ ⟨rfl,rfl,⟨rfl,rfl,rfl,rfl,rfl,trivial⟩,(by repeat' first|exact rfl|exact trivial|exact ap|refine aj ?_ ?_),(by repeat' first|exact rfl|exact trivial|refine aj ?_ ?_)⟩
 intro i u hi hr
 obtain ⟨hE,hI⟩:=hr
 obtain ⟨st1,out1⟩:=u
 cases out1 with
 |nil=>
  repeat refine ai ?_
  refine aj ?_ ?_<;>intro h1
  ·have hlt:i<all.length:=V h1
   have hy:all[i]∈all:=List.getElem_mem hlt
   have hwl:white all ⟨st1,[]⟩<all.length+1:=Nat.lt_succ_of_le (ko _ _)
   have hc:=j7 s ms hm all all hN hin (all.length+1) 4 all[i] ⟨st1,[]⟩ hy hI hwl
   have hg:=gz hin (all.length+1) all[i] ⟨st1,[]⟩ hy hI hwl
   rw[dG hlt] at hE
   generalize hv:bX (U s.kind ms) (all.length+1) all[i] ⟨st1,[]⟩=v at hc hE hg
   obtain ⟨b3,st3,out3⟩:=v
   repeat refine ai ?_
   refine O (e:=eB) (xs:=all) (hlt) rfl ?_
   repeat refine ai ?_
   cases b3 with
   |false=>
    cases out3 with
    |nil=>
     rw[pI hE]
     refine Or.inr (Or.inl (Exists.intro _ (Exists.intro _ (aj (aj rfl hc) ?_))))
     repeat refine ai ?_
     refine ay ?_
     refine aj rfl (aj rfl ⟨rfl,rfl,?_,?_,?_⟩)
     all_goals (repeat' first|exact rfl|exact trivial|exact ap|refine aj ?_ ?_)
    |cons z zs=>
     rw[pI hE]
     refine Or.inr (Or.inl (Exists.intro _ (Exists.intro _ (aj (aj rfl hc) ?_))))
     repeat refine ai ?_
     refine ay ?_
     refine aj rfl (aj rfl ⟨rfl,rfl,?_,?_,?_⟩)
     all_goals (repeat' first|exact rfl|exact trivial|exact ap|refine aj ?_ ?_)
   |true=>
    have hok3:nw (U s.kind ms) all ⟨st3,out3⟩:=(hg.1 rfl).1
    cases out3 with
    |nil=>
     refine Or.inr (Or.inl (Exists.intro _ (Exists.intro _ (aj (aj rfl hc) ?_))))
     repeat refine ai ?_
     refine an ?_
     repeat refine ai ?_
     exact cQ ⟨st3,[]⟩ hlt hs ⟨hE,hok3⟩ fun hw=>by repeat' first|exact rfl|exact trivial|exact nd hw|exact ap|refine aj ?_ ?_
    |cons z zs=>
     refine Or.inr (Or.inl (Exists.intro _ (Exists.intro _ (aj (aj rfl hc) ?_))))
     repeat refine ai ?_
     refine an ?_
     repeat refine ai ?_
     exact cQ ⟨st3,(z::zs)⟩ hlt hs ⟨hE,hok3⟩ fun hw=>by repeat' first|exact rfl|exact trivial|exact nd hw|exact ap|refine aj ?_ ?_
  ·rw[eO (Y h1)] at hE
   rw[qO hE]
   refine aj rfl (aj rfl ⟨rfl,rfl,?_,?_,?_⟩)
   all_goals (repeat' first|exact rfl|exact trivial|exact ap|refine aj ?_ ?_)
 |cons y ys=>
  repeat refine ai ?_
  refine aj ?_ ?_<;>intro h1
  ·have hlt:i<all.length:=V h1
   have hy:all[i]∈all:=List.getElem_mem hlt
   have hwl:white all ⟨st1,(y::ys)⟩<all.length+1:=Nat.lt_succ_of_le (ko _ _)
   have hc:=j7 s ms hm all all hN hin (all.length+1) 4 all[i] ⟨st1,(y::ys)⟩ hy hI hwl
   have hg:=gz hin (all.length+1) all[i] ⟨st1,(y::ys)⟩ hy hI hwl
   rw[dG hlt] at hE
   generalize hv:bX (U s.kind ms) (all.length+1) all[i] ⟨st1,(y::ys)⟩=v at hc hE hg
   obtain ⟨b3,st3,out3⟩:=v
   repeat refine ai ?_
   refine O (e:=eB) (xs:=all) (hlt) rfl ?_
   repeat refine ai ?_
   cases b3 with
   |false=>
    cases out3 with
    |nil=>
     rw[pI hE]
     refine Or.inr (Or.inl (Exists.intro _ (Exists.intro _ (aj (aj rfl hc) ?_))))
     repeat refine ai ?_
     refine ay ?_
     refine aj rfl (aj rfl ⟨rfl,rfl,?_,?_,?_⟩)
     all_goals (repeat' first|exact rfl|exact trivial|exact ap|refine aj ?_ ?_)
    |cons z zs=>
     rw[pI hE]
     refine Or.inr (Or.inl (Exists.intro _ (Exists.intro _ (aj (aj rfl hc) ?_))))
     repeat refine ai ?_
     refine ay ?_
     refine aj rfl (aj rfl ⟨rfl,rfl,?_,?_,?_⟩)
     all_goals (repeat' first|exact rfl|exact trivial|exact ap|refine aj ?_ ?_)
   |true=>
    have hok3:nw (U s.kind ms) all ⟨st3,out3⟩:=(hg.1 rfl).1
    cases out3 with
    |nil=>
     refine Or.inr (Or.inl (Exists.intro _ (Exists.intro _ (aj (aj rfl hc) ?_))))
     repeat refine ai ?_
     refine an ?_
     repeat refine ai ?_
     exact cQ ⟨st3,[]⟩ hlt hs ⟨hE,hok3⟩ fun hw=>by repeat' first|exact rfl|exact trivial|exact nd hw|exact ap|refine aj ?_ ?_
    |cons z zs=>
     refine Or.inr (Or.inl (Exists.intro _ (Exists.intro _ (aj (aj rfl hc) ?_))))
     repeat refine ai ?_
     refine an ?_
     repeat refine ai ?_
     exact cQ ⟨st3,(z::zs)⟩ hlt hs ⟨hE,hok3⟩ fun hw=>by repeat' first|exact rfl|exact trivial|exact nd hw|exact ap|refine aj ?_ ?_
  ·rw[eO (Y h1)] at hE
   rw[qO hE]
   refine aj rfl (aj rfl ⟨rfl,rfl,?_,?_,?_⟩)
   all_goals (repeat' first|exact rfl|exact trivial|exact ap|refine aj ?_ ?_)
theorem FP (s:GateShape) (ms:List GateMend) (lo:Nat):HSpec P 230 [.nils,ww] (hA lo 2 s ms) (.tup [.d (lS []),.d (.bool true)]) (hA lo 2 s ms):=by
 refine HSpec.of_vc aJ aw [.tmp 4,.tmp 5] Tryz.func230 rfl rfl rfl rfl rfl (fun hok=>?_)
 have hs:([]:List Bs).length≤big:=Nat.zero_le _
 repeat refine ai ?_
 refine d9 (([]:List Bs)) (fun i=>True) (fun i=>[(7,.ptr 5 0),(13,.nils),(14,.d (.int .i64 0)),(15,.d (.int .i64 i))]) (fun i=>⟨[(5,.cells 101 [.nils]),(1,oM ms),(0,oS s)],7,2⟩) (trivial) ?_
 intro i hi hr
 repeat refine ai ?_
 refine aj ?_ ?_<;>intro h1
 ·exact absurd (of_decide_eq_true h1) (by omega)
 ·refine aj rfl (aj rfl ⟨rfl,rfl,?_,?_,?_⟩)
  all_goals (repeat' first|exact rfl|exact trivial|refine aj ?_ ?_)
theorem wm (s:GateShape) (ms:List GateMend) (hm:ms.length≤12) (hin:∀n∈bk s,∀y∈U s.kind ms n,y∈bk s):
 Spec P 212 [st s.e,.d (af ms)] (.tup [.d (lS (iw (U s.kind ms) (bk s)).1),.d (.bool (iw (U s.kind ms) (bk s)).2)]):=by
 refine Spec.of_vc aJ aw [.tmp 4,.tmp 5] Tryz.func212 rfl rfl rfl rfl (fun hok=>?_)
 have hs:s.fields.length≤big:=by
  have:=hok.1
  simp only[st,AV.ok,GateShape.e,List.map,ei] at this
  exact az this.2.1.1
 repeat refine ai ?_
 refine m4 (s.fields) (fun i (A:List Bs)=>A=(s.fields.take i).map (·.name)) (fun i (A:List Bs)=>[(2,.ptr 0 0),(3,.ptr 1 0),(6,C5 3 A),(10,.d (ab s.fields)),(11,.d (.int .i64 (s.fields.map GateField.e).length)),(12,.d (.int .i64 i))]) (fun i (A:List Bs)=>⟨(AF [(1,oM ms),(0,oS s)] 2 3 A).objs,(AF [(1,oM ms),(0,oS s)] 2 3 A).nx,0⟩) (rfl) ?_
 intro i A hi hr
 have hA:A.length≤s.fields.length:=by rw[hr,List.length_map,List.length_take];omega
 have hA2:A.length≤i:=by rw[hr,List.length_map,List.length_take];omega
 repeat refine ai ?_
 refine aj ?_ ?_<;>intro h1
 ·have hlt:i<s.fields.length:=V h1
  have hstep:(s.fields.take (i+1)).map (·.name)=A++[s.fields[i].name]:=by
   rw[List.take_succ_eq_append_getElem hlt,List.map_append,←hr];rfl
  repeat refine ai ?_
  refine O (e:=GateField.e) (xs:=s.fields) (hlt) rfl ?_
  repeat refine ai ?_
  cases A with
  |nil=>
   repeat refine ai ?_
   refine aj (fun r hr=>by rw[List.mem_singleton.1 hr];rfl) ?_
   repeat refine ai ?_
   refine aj (by simp only[List.length_nil,List.length_cons,List.length_map] at*;unfold big;omega) ?_
   repeat refine ai ?_
   exact cQ ([s.fields[i].name]) hlt hs (by rw[hstep];rfl)
  |cons a tl=>
   repeat refine ai ?_
   refine aj (fun r hr=>by rw[List.mem_singleton.1 hr];rfl) ?_
   repeat refine ai ?_
   refine aj (by simp only[List.length_append,List.length_nil,List.length_cons,List.length_map] at*;unfold big at*;omega) ?_
   repeat refine ai ?_
   exact cQ (a::(tl++[s.fields[i].name])) hlt hs (by rw[hstep];rfl) fun hw=>by repeat' first|exact rfl|exact trivial|exact nd hw|exact bD _ _ _ _ _|refine aj ?_ ?_
 ·have ha:A=bk s:=by rw[hr,List.take_of_length_le (Y h1)];rfl
  rw[←ha] at hin ⊢
  cases A with
  |nil=>
   repeat refine ai ?_
   refine oh (FP s ms _) ?_
   rfl
  |cons a tl=>
   repeat refine ai ?_
   refine op (GC s ms hm (a::tl) (Nat.le_trans hA hs) hin _) ?_
   rfl
def qP (s:GateShape) (ms:List GateMend):Bool:=((mB s ms).length:Int)==(s.fields.length:Int)
theorem lA {xs:List GateShape} {ms:List GateMend} (h:aI xs=true) (hm:ms.all (bF xs)=true) {s:GateShape} (hs:s∈xs):(iw (U s.kind ms) (bk s)).2=qP s ms:=by
 rw[AE,wV (mo h hs) (fun n _=>jT h hm hs n)]
 have e:(bk s).length=s.fields.length:=by rw[bk,List.length_map]
 unfold qP mB gr
 rw[e,Bool.eq_iff_iff,decide_eq_true_eq,beq_iff_eq]
 omega
theorem Ca {xs:List GateShape} {m:GateMend} {j:Nat} (hj:j<xs.length) (e:dB (·.kind==m.kind) xs=(j:Int)):bF xs m=iD xs[j].fields m:=by
 unfold bF
 rw[e,Int.toNat_natCast,List.getElem?_eq_getElem hj]
 have:decide ((j:Int)≥0)=true:=decide_eq_true (by omega)
 simp only[this,Bool.true_and]
theorem yb {xs:List GateShape} {m:GateMend} (h:decide (dB (·.kind==m.kind) xs<0)=true):bF xs m=false:=by
 have h':decide (dB (·.kind==m.kind) xs≥0)=false:=decide_eq_false (by have:=of_decide_eq_true h;omega)
 unfold bF
 split<;>simp only[h',Bool.false_and]
theorem fP (xs:List GateShape) (ms:List GateMend):Spec P 181 [.d (aa xs),.d (af ms)] (.d (.bool (bw xs ms))):=by
 refine Spec.of_vc aJ aw [.tmp 4] Tryz.func181 rfl rfl rfl rfl (fun hok=>?_)
 have hs:xs.length≤big:=az hok.1.1
 have hsm:ms.length≤big:=az hok.2.1.1
 repeat refine ai ?_
 refine oc (fk _) ?_
 repeat refine ai ?_
 refine aj ?_ ?_<;>intro h0
 ·simp only[Bool.not_eq_true',Bool.not_eq_false'] at h0
  repeat refine ai ?_
  refine aj ?_ ?_<;>intro h1
  ·rw[List.length_map] at h1
   refine bd ?_
   simp only[bw,h1,bl]
  ·rw[List.length_map] at h1
   have hm12:ms.length≤12:=by have:=of_decide_eq_false h1;omega
   have e:bw xs ms=(ms.all (bF xs)&&xs.all fun s=>qP s ms):=by simp only[bw,h0,h1,bl];rfl
   rw[e]
   repeat refine ai ?_
   refine d9 (ms) (fun i=>ms.all (bF xs)=(ms.drop i).all (bF xs)) (fun i=>[(0,.d (aa xs)),(1,.d (af ms)),(20,.d (af ms)),(21,.d (.int .i64 (ms.map GateMend.e).length)),(22,.d (.int .i64 i))]) (fun i=>hp0) (rfl) ?_
   intro i hi hr
   repeat refine ai ?_
   refine aj ?_ ?_<;>intro h2
   ·have hlt:i<ms.length:=V h2
    rw[aF hlt] at hr
    repeat refine ai ?_
    refine O (e:=GateMend.e) (xs:=ms) (hlt) rfl ?_
    repeat refine ai ?_
    refine oc (iG _ _) ?_
    repeat refine ai ?_
    refine ak ?_
    repeat refine ai ?_
    refine aj ?_ ?_<;>intro h3
    ·obtain ⟨j,hj,ej,_⟩:=dE (p:=fun s:GateShape=>s.kind==ms[i].kind) (xs:=xs) (decide_eq_true (by have:=of_decide_eq_false h3;omega))
     repeat refine ai ?_
     refine aC (e:=GateShape.e) (xs:=xs) (hj) (ej) rfl ?_
     repeat refine ai ?_
     refine oc (DJ _ _) ?_
     rw[Ca hj ej] at hr
     repeat refine ai ?_
     refine aj ?_ ?_<;>intro h4
     ·change (!iD xs[j].fields ms[i])=true at h4
      simp only[Bool.not_eq_true',Bool.not_eq_false'] at h4
      refine bd ?_
      rw[hr,h4];rfl
     ·change (!iD xs[j].fields ms[i])=false at h4
      simp only[Bool.not_eq_true',Bool.not_eq_false'] at h4
      repeat refine ai ?_
      exact bL hlt hsm (by rw[hr,h4];rfl)
    ·repeat refine ai ?_
     refine ay ?_
     refine bd ?_
     rw[hr,yb h3];rfl
   ·rw[cm (Y h2)] at hr
    rw[hr,Bool.true_and]
    repeat refine ai ?_
    refine d9 (xs) (fun i=>(xs.all fun s=>qP s ms)=((xs.drop i).all fun s=>qP s ms)) (fun i=>[(0,.d (aa xs)),(1,.d (af ms)),(43,.d (aa xs)),(44,.d (.int .i64 (xs.map GateShape.e).length)),(45,.d (.int .i64 i))]) (fun i=>hp0) (rfl) ?_
    intro i hi hr
    repeat refine ai ?_
    refine aj ?_ ?_<;>intro h5
    ·have hlt:i<xs.length:=V h5
     rw[aF hlt] at hr
     repeat refine ai ?_
     refine O (e:=GateShape.e) (xs:=xs) (hlt) rfl ?_
     repeat refine ai ?_
     refine oc (wm xs[i] ms hm12 (fun n _=>jT h0 (by assumption) (List.getElem_mem hlt) n)) ?_
     rw[lA h0 (by assumption) (List.getElem_mem hlt)]
     repeat refine ai ?_
     refine aj ?_ ?_<;>intro h6
     ·simp only[Bool.not_eq_true',Bool.not_eq_false'] at h6
      refine bd ?_
      rw[hr,h6];rfl
     ·simp only[Bool.not_eq_true',Bool.not_eq_false'] at h6
      repeat refine ai ?_
      exact bL hlt hs (by rw[hr,h6];rfl)
    ·refine bd ?_
     rw[hr,cm (Y h5)]
 ·simp only[Bool.not_eq_true',Bool.not_eq_false'] at h0
  refine bd ?_
  simp only[bw,h0,Bool.false_and]
end Go.Vc
end
section
namespace Go.Vc
def cA (fs:List GateField) (vals:List Bs) (n:Bs):Bs:=match vals[(dB (·.name==n) fs).toNat]? with|some v=>v|none=>[]
def kh (e:Bs→Bs) (k n:Bs) (m:GateMend):Bool:=(m.kind==k&&m.field==n)&&((m.when_==[]||e m.when_==m.is_)&&(m.from_==[]|| !(e m.from_==[])))
def kU (e:Bs→Bs) (m:GateMend):Bs:=bif m.from_==[] then m.put else e m.from_
def oz (e:Bs→Bs) (k n d:Bs):List GateMend→Bs
 |[]=>d
 |m::ms=>bif kh e k n m then kU e m else oz e k n d ms
def r9 (fs:List GateField) (ms:List GateMend) (k:Bs) (vals:List Bs) (n:Bs):Bs:=oz (cA fs vals) k n (cA fs vals n) ms
def bv (fs:List GateField) (ms:List GateMend) (k:Bs) (vals:List Bs) (n:Bs):List Bs:=vals.set (dB (·.name==n) fs).toNat (r9 fs ms k vals n)
def bS (fs:List GateField) (ms:List GateMend) (k:Bs) (row:List Bs) (vals:List Bs):List Bs:=row.foldl (bv fs ms k) vals
theorem lO {e1 e2:Bs→Bs} {k n d:Bs}:∀{ms:List GateMend},(∀y∈U k ms n,e1 y=e2 y)→oz e1 k n d ms=oz e2 k n d ms
 |[],_=>rfl
 |m::ms,h=>by
  have ih:=lO (e1:=e1) (e2:=e2) (k:=k) (n:=n) (d:=d) (ms:=ms) (fun y hy=>h y (by simp only[U,List.map_cons,List.flatten_cons,List.mem_append];exact .inr hy))
  simp only[oz,ih]
  cases hkf:(m.kind==k&&m.field==n) with
  |false=>simp only[kh,hkf,Bool.false_and,cond_false]
  |true=>
   have hr:∀y∈jA m.when_++jA m.from_,e1 y=e2 y:=fun y hy=>h y (by simp only[U,List.map_cons,List.flatten_cons,List.mem_append,AH,hkf,cond_true];exact .inl (List.mem_append.1 hy))
   have hw:(m.when_==[])=true∨e1 m.when_=e2 m.when_:=by
    cases hq:m.when_==[] with
    |true=>exact .inl rfl
    |false=>exact .inr (hr _ (List.mem_append.2 (.inl (by simp[jA,hq]))))
   have hf:(m.from_==[])=true∨e1 m.from_=e2 m.from_:=by
    cases hq:m.from_==[] with
    |true=>exact .inl rfl
    |false=>exact .inr (hr _ (List.mem_append.2 (.inr (by simp[jA,hq]))))
   have hc:kh e1 k n m=kh e2 k n m:=by
    simp only[kh]
    rcases hw with hw|hw<;>rcases hf with hf|hf<;>simp only[hw,hf,Bool.true_or]
   have hg:kU e1 m=kU e2 m:=by
    simp only[kU]
    rcases hf with hf|hf<;>simp only[hf,cond_true]
   rw[hc,hg]
theorem fV {fs:List GateField} {n:Bs} (h:n∈fs.map (·.name)):∃j:Nat,∃h:j<fs.length,dB (·.name==n) fs=(j:Int)∧fs[j].name=n:=by
 rcases gL (p:=fun f:GateField=>f.name==n) fs 0 with ⟨h1,h2⟩|⟨j,hj,h1,h2,_⟩
 ·obtain ⟨f,hf,rfl⟩:=List.mem_map.1 h
  have:=List.any_eq_false.1 h2 f hf
  simp at this
 ·exact ⟨j,hj,by unfold dB;rw[h1,Nat.zero_add],beq_iff_eq.1 h2⟩
theorem Do {fs:List GateField} (hn:(fs.map (·.name)).Nodup) {i j:Nat} (hi:i<fs.length) (hj:j<fs.length) (h:fs[i].name=fs[j].name):i=j:=by
 have e:(fs.map GateField.name)[i]'(by simpa using hi)=(fs.map GateField.name)[j]'(by simpa using hj):=by simpa using h
 exact (List.getElem_inj hn).1 e
section
variable {fs:List GateField} {ms:List GateMend} {k:Bs}
theorem fS {vals:List Bs} {n:Bs} {j:Nat} (e:dB (·.name==n) fs=(j:Int)) (h:j<vals.length):cA fs vals n=vals[j]:=by
 unfold cA
 rw[e,Int.toNat_natCast,List.getElem?_eq_getElem h]
theorem nD {vals:List Bs} (hl:vals.length=fs.length) {n y v:Bs} (hn:n∈fs.map (·.name)) (hy:y∈fs.map (·.name)):cA fs (vals.set (dB (·.name==n) fs).toNat v) y=if y=n then v else cA fs vals y:=by
 obtain ⟨i,hi,e1,e2⟩:=fV hn
 obtain ⟨j,hj,e3,e4⟩:=fV hy
 rw[e1,Int.toNat_natCast,fS e3 (by rw[List.length_set];omega),List.getElem_set]
 by_cases h:i=j
 ·subst h
  rw[if_pos rfl,if_pos (by rw[←e4,←e2])]
 ·rw[if_neg h,fS e3 (by omega),if_neg]
  intro e
  subst e
  rw[e1] at e3
  exact h (by omega)
theorem jb (vals:List Bs) (n:Bs):(bv fs ms k vals n).length=vals.length:=List.length_set ..
theorem gC:∀(row:List Bs) (vals:List Bs),(bS fs ms k row vals).length=vals.length
 |[],_=>rfl
 |n::row,vals=>by
  show (bS fs ms k row (bv fs ms k vals n)).length=_
  rw[gC row,jb]
theorem g9:∀{row:List Bs} {vals:List Bs},vals.length=fs.length→(∀x∈row,x∈fs.map (·.name))→∀{y:Bs},y∈fs.map (·.name)→y ∉ row→cA fs (bS fs ms k row vals) y=cA fs vals y
 |[],_,_,_,_,_,_=>rfl
 |n::row,vals,hl,hr,y,hy,hne=>by
  show cA fs (bS fs ms k row (bv fs ms k vals n)) y=_
  rw[g9 (by rw[jb];exact hl) (fun x hx=>hr x (List.mem_cons_of_mem _ hx)) hy (fun h=>hne (List.mem_cons_of_mem _ h))]
  unfold bv
  rw[nD hl (hr n List.mem_cons_self) hy,if_neg (fun e:y=n=>hne (e▸List.mem_cons_self))]
theorem ub (a b:List Bs) (vals:List Bs):bS fs ms k (a++b) vals=bS fs ms k b (bS fs ms k a vals):=by
 unfold bS;exact List.foldl_append
theorem ya {row:List Bs} (g:tA (U k ms) (fs.map (·.name)) row) {vals:List Bs} (hl:vals.length=fs.length) {n:Bs} (hn:n∈row):
 cA fs (bS fs ms k row vals) n=oz (cA fs (bS fs ms k row vals)) k n (cA fs vals n) ms:=by
 obtain ⟨pre,post,rfl⟩:=List.append_of_mem hn
 have hnd:=g.nd
 rw[List.nodup_append] at hnd
 obtain ⟨_,hpost,hdis⟩:=hnd
 rw[List.nodup_cons] at hpost
 have hpre:n ∉ pre:=fun h=>hdis n h n List.mem_cons_self rfl
 have hsub:∀x∈pre++n::post,x∈fs.map (·.name):=g.sub
 have hl1:(bS fs ms k pre vals).length=fs.length:=by rw[gC,hl]
 have hn':=hsub n (by simp)
 have e0:bS fs ms k (pre++n::post) vals=bS fs ms k post (bv fs ms k (bS fs ms k pre vals) n):=by rw[ub];rfl
 have hl2:(bv fs ms k (bS fs ms k pre vals) n).length=fs.length:=by rw[jb,hl1]
 have hps:∀x∈post,x∈fs.map (·.name):=fun x hx=>hsub x (by simp[hx])
 have e1:cA fs (bS fs ms k (pre++n::post) vals) n=r9 fs ms k (bS fs ms k pre vals) n:=by
  rw[e0,g9 hl2 hps hn' hpost.1]
  unfold bv
  rw[nD hl1 hn' hn',if_pos rfl]
 rw[e1]
 unfold r9
 have e2:cA fs (bS fs ms k pre vals) n=cA fs vals n:=g9 hl (fun x hx=>hsub x (by simp[hx])) hn' hpre
 rw[e2]
 refine lO fun y hy=>?_
 have hb:=g.beh n (by simp) y hy
 have hni:(pre++n::post).idxOf n=pre.length:=by rw[List.idxOf_append,if_neg hpre];simp
 have hyp:y∈pre:=by
  rw[hni] at hb
  rw[List.idxOf_append] at hb
  split at hb
  ·assumption
  ·omega
 have hy':=hsub y (by simp[hyp])
 rw[e0,g9 hl2 hps hy' (fun h=>hdis y hyp y (List.mem_cons_of_mem _ h) rfl)]
 unfold bv
 rw[nD hl1 hn' hy',if_neg (fun e:y=n=>hpre (e▸hyp))]
theorem xZ (hnd:(fs.map (·.name)).Nodup) {r1 r2:List Bs} (g1:tA (U k ms) (fs.map (·.name)) r1) (g2:tA (U k ms) (fs.map (·.name)) r2) (h1:∀n∈fs.map (·.name),n∈r1) (h2:∀n∈fs.map (·.name),n∈r2)
 {vals:List Bs} (hl:vals.length=fs.length):bS fs ms k r1 vals=bS fs ms k r2 vals:=by
 have key:∀(i:Nat) (n:Bs),n∈fs.map (·.name)→r1.idxOf n=i→cA fs (bS fs ms k r1 vals) n=cA fs (bS fs ms k r2 vals) n:=by
  intro i
  induction i using Nat.strongRecOn with
  |_ i ih=>
   intro n hn hi
   rw[ya g1 hl (h1 n hn),ya g2 hl (h2 n hn)]
   refine lO fun y hy=>?_
   have hb:=g1.beh n (h1 n hn) y hy
   have hyr:y∈r1:=List.idxOf_lt_length_iff.1 (by have:=List.idxOf_lt_length_of_mem (h1 n hn);omega)
   exact ih _ (hi▸hb) y (g1.sub y hyr) rfl
 have l1:(bS fs ms k r1 vals).length=fs.length:=by rw[gC,hl]
 have l2:(bS fs ms k r2 vals).length=fs.length:=by rw[gC,hl]
 apply List.ext_getElem (by rw[l1,l2])
 intro j hj1 hj2
 have hj:j<fs.length:=by omega
 have hm:fs[j].name∈fs.map (·.name):=List.mem_map.2 ⟨_,List.getElem_mem hj,rfl⟩
 obtain ⟨j',hj',e1,e2⟩:=fV hm
 have:=Do hnd hj' hj e2
 subst this
 have hk:=key _ _ hm rfl
 rw[fS e1 hj1,fS e1 hj2] at hk
 exact hk
end
theorem tT (s:GateShape) (ms:List GateMend):tA (U s.kind ms) (bk s) (mB s ms):=fY _ _ _
theorem DO:∀{ns row:List Bs},ns.Nodup→row.Nodup→(∀x∈row,x∈ns)→row.length=ns.length→∀n∈ns,n∈row:=by
 intro ns row hn hr hs hl n hm
 refine Classical.byContradiction fun h=>?_
 have:(n::row).length≤ns.length:=eH (List.nodup_cons.2 ⟨h,hr⟩) (fun x hx=>by
  rcases List.mem_cons.1 hx with e|e
  ·exact e▸hm
  ·exact hs x e)
 simp only[List.length_cons] at this
 omega
theorem tS {rd:Bs→List Bs} {ns:List Bs} (hin:∀n∈ns,∀y∈rd n,y∈ns) (h:(iw rd ns).2=true):tA rd ns (iw rd ns).1∧∀n∈ns,n∈(iw rd ns).1:=by
 have g:=iN (rd:=rd) (ns:=ns) (w:=bX rd (ns.length+1)) (n:=ns.length) ns Bq
  (fun y hy s hs hl=>gz hin _ y s hy hs (by omega)) (yV rd ns) (ko _ _)
 rw[AE] at h
 obtain ⟨g1,g2,g3⟩:=g.1 h
 cases e:bJ (bX rd (ns.length+1)) ns Bq with
 |mk b u=>
  rw[e] at h g1 g2 g3
  simp only at h
  subst h
  rw[qO e]
  exact ⟨⟨g1.nd,g1.sub,g1.beh⟩,fun n hn=>(g1.two n).1 (g3 n hn)⟩
end Go.Vc
end
section
namespace Go.Vc
open Go.Proofs
set_option maxRecDepth 100000
theorem Dd {fs:List GateField} {vals:List Bs} (hl:vals.length=fs.length) (h0:0<fs.length) (y:Bs) (c:Prop) (hc:c→y∈fs.map (·.name)):∃j,∃hj:j<vals.length,c→(dB (·.name==y) fs=(j:Int)∧cA fs vals y=vals[j]):=by
 by_cases h:c
 ·obtain ⟨j,hj,e,_⟩:=fV (hc h)
  exact ⟨j,by omega,fun _=>⟨e,fS e (by omega)⟩⟩
 ·exact ⟨0,by omega,fun g=>absurd g h⟩
def Ej (fs:List GateField) (k:Bs) (m:GateMend):Prop:=(m.kind==k)=true→((m.when_==[])=false→m.when_∈fs.map (·.name))∧((m.from_==[])=false→m.from_∈fs.map (·.name))
theorem ux {e:Bs→Bs} {k n d:Bs} {ms:List GateMend} {i:Nat} (h:i<ms.length):oz e k n d (ms.drop i)=bif kh e k n ms[i] then kU e ms[i] else oz e k n d (ms.drop (i+1)):=by
 rw[List.drop_eq_getElem_cons h];rfl
theorem yK {e:Bs→Bs} {k n d:Bs} {ms:List GateMend} {i:Nat} (h:ms.length≤i):oz e k n d (ms.drop i)=d:=by
 rw[List.drop_of_length_le h];rfl
set_option maxHeartbeats 4000000 in
theorem xo (fs:List GateField) (ms:List GateMend) (o:GateObject) (n:Bs) (hl:o.values.length=fs.length) (hn:n∈fs.map (·.name)) (hm:∀m∈ms,Ej fs o.kind m):
 Spec P 224 [.d (ab fs),.d (af ms),st o.e,.d (.str n)] (.d (.str (r9 fs ms o.kind o.values n))):=by
 refine Spec.of_vc aJ aw [.tmp 8] Tryz.func224 rfl rfl rfl rfl (fun hok=>?_)
 have hs:ms.length≤big:=az hok.2.1.1
 obtain ⟨jn,hjn,en,_⟩:=fV hn
 repeat refine ai ?_
 refine d9 (ms) (fun i=>r9 fs ms o.kind o.values n=oz (cA fs o.values) o.kind n (cA fs o.values n) (ms.drop i)) (fun i=>[(0,.d (ab fs)),(1,.d (af ms)),(3,.d (.str n)),(6,.ptr 0 0),(9,.d (.int .i64 i))]) (fun i=>⟨[(0,.cells 103 (o.e.map .d))],1,0⟩) (rfl) ?_
 intro i hi hr
 repeat refine ai ?_
 refine aj ?_ ?_<;>intro h1
 ·have hlt:i<ms.length:=V h1
  rw[ux hlt] at hr
  have hmi:=hm ms[i] (List.getElem_mem hlt)
  obtain ⟨jw,hjw,ew⟩:=Dd hl (by omega) ms[i].when_ ((ms[i].kind==o.kind)=true∧(ms[i].when_==[])=false) (fun h=>(hmi h.1).1 h.2)
  obtain ⟨jf,hjf,ef⟩:=Dd hl (by omega) ms[i].from_ ((ms[i].kind==o.kind)=true∧(ms[i].from_==[])=false) (fun h=>(hmi h.1).2 h.2)
  generalize hd:oz (cA fs o.values) o.kind n (cA fs o.values n) (ms.drop (i+1))=rest at hr
  repeat refine ai ?_
  refine O (e:=GateMend.e) (xs:=ms) (hlt) rfl ?_
  repeat refine ai ?_
  refine ak ?_
  repeat refine ai ?_
  repeat' first
   |refine ai ?_
   |(refine aj ?_ ?_<;>intro h)
   |refine oc (iu _ _) ?_
   |refine ak ?_
   |refine aC (e:=eB) (xs:=o.values) hjw (ew (by simp_all)).1 rfl ?_
   |refine aC (e:=eB) (xs:=o.values) hjf (ef (by simp_all)).1 rfl ?_
  all_goals (simp only[cond_false,cond_true,Bool.not_eq_true',Bool.not_eq_false',reduceCtorEq] at*)
  all_goals (try have ew':=(ew ⟨by assumption,by assumption⟩).2)
  all_goals (try have ef':=(ef ⟨by assumption,by assumption⟩).2)
  all_goals first
   |(refine sd ?_;rw[hr];simp only[kh,kU, *,cond_true,cond_false,bl];done)
   |(have hq:r9 fs ms o.kind o.values n=rest:=(by rw[hr];simp only[kh,kU, *,cond_true,cond_false,bl]);exact bL hlt hs (hq.trans hd.symm))
 ·repeat refine ai ?_
  refine ak ?_
  repeat refine ai ?_
  refine oc (iu _ _) ?_
  repeat refine ai ?_
  refine aC (e:=eB) (xs:=o.values) ((show jn<o.values.length by omega)) (en) rfl ?_
  repeat refine ai ?_
  refine sd ?_
  rw[hr,yK (Y h1),fS en (by omega)]
theorem uc {xs:List GateShape} {ms:List GateMend} (h:aI xs=true) (hm:ms.all (bF xs)=true) {s:GateShape} (hs:s∈xs):∀m∈ms,Ej s.fields s.kind m:=by
 intro m hmm hk
 have hf:=AU h hs (List.all_eq_true.1 hm m hmm) (beq_iff_eq.1 hk)
 unfold iD at hf
 simp only[Bool.and_eq_true,Bool.or_eq_true] at hf
 obtain ⟨⟨_,h2,h3⟩,_⟩:=hf
 refine ⟨fun g=>?_,fun g=>?_⟩
 ·rcases h2 with h2|h2
  ·rw[g] at h2;cases h2
  ·exact mJ h2
 ·rcases h3 with h3|h3
  ·rw[g] at h3;cases h3
  ·exact mJ h3
def dX (xs:List GateShape) (ms:List GateMend) (o:GateObject):GateObject:=match xs[(dB (·.kind==o.kind) xs).toNat]? with
 |some s=>bif (ah xs o.kind o.values.length).2 then {o with values:=bS s.fields ms o.kind (mB s ms) o.values} else o
 |none=>o
theorem rj {xs:List GateShape} {ms:List GateMend} {o:GateObject} (h:(ah xs o.kind o.values.length).2=false):dX xs ms o=o:=by
 unfold dX
 split
 ·rw[h];rfl
 ·rfl
theorem rl {xs:List GateShape} {ms:List GateMend} {o:GateObject} {j:Nat} (hj:j<xs.length) (e:dB (·.kind==o.kind) xs=(j:Int)) (h:(ah xs o.kind o.values.length).2=true):dX xs ms o={o with values:=bS xs[j].fields ms o.kind (mB xs[j] ms) o.values}:=by
 unfold dX
 rw[e,Int.toNat_natCast,List.getElem?_eq_getElem hj,h]
 rfl
theorem rm {fs:List GateField} {ms:List GateMend} {k:Bs} {row:List Bs} {vals:List Bs} {i:Nat} (h:i<row.length):bS fs ms k (row.take (i+1)) vals=bv fs ms k (bS fs ms k (row.take i) vals) row[i]:=by
 rw[List.take_succ_eq_append_getElem h,ub];rfl
set_option maxHeartbeats 1000000 in
theorem zi (xs:List GateShape) (ms:List GateMend) (o:GateObject) (hx:aI xs=true) (hm:ms.all (bF xs)=true):
 Spec P 206 [.d (aa xs),.d (af ms),st o.e] (st (dX xs ms o).e):=by
 refine Spec.of_vc aJ aw [.cell 6 103] Tryz.func206 rfl rfl rfl rfl (fun hok=>?_)
 have hb:=i5 (o:=o) ⟨hok.2.2.1,trivial⟩
 repeat refine ai ?_
 refine ow (tP o hb.1 hb.2) ?_
 repeat refine ai ?_
 refine oc (eD _ _) ?_
 repeat refine ai ?_
 refine aj ?_ ?_<;>intro h0
 ·simp only[Bool.not_eq_true'] at h0
  rw[rj h0]
  repeat refine ai ?_
  exact rfl
 ·simp only[Bool.not_eq_false'] at h0
  rcases dp (xs:=xs) (k:=o.kind) (n:=o.values.length) with ⟨h1,_⟩|⟨j,hj,ej,ef,hl,hk⟩
  ·rw[h1] at h0;cases h0
  rw[rl hj ej h0]
  repeat refine ai ?_
  refine oc (iv _ _) ?_
  repeat refine ai ?_
  refine aC (e:=GateShape.e) (xs:=xs) (hj) (ej) rfl ?_
  repeat refine ai ?_
  refine oc (Az xs[j] ms) ?_
  have g:=tT xs[j] ms
  have hmi:=uc hx hm (List.getElem_mem hj)
  rw[hk] at hmi
  have hfs:(ah xs o.kind o.values.length).1=xs[j].fields:=by rw[ef]
  rw[hfs]
  have hrl:(mB xs[j] ms).length≤xs[j].fields.length:=FQ _ _ _
  have hsub:∀x∈mB xs[j] ms,x∈xs[j].fields.map (·.name):=g.sub
  generalize hfe:xs[j].fields=fs at*
  generalize mB xs[j] ms=row at*
  repeat refine ai ?_
  refine m4 (row) (fun i (W:List Bs)=>W=bS fs ms o.kind (row.take i) o.values) (fun i (W:List Bs)=>[(1,.d (af ms)),(6,.ptr 1 0),(7,.ptr 6 0),(8,.d (ab fs)),(10,.d (lS row)),(11,.d (.int .i64 i))]) (fun i (W:List Bs)=>⟨[(6,.cells 103 [.d (.str o.kind),.d (.str o.name),.d (.str o.team),.own 4,.d (.bool o.ending),.own 5,.d (.int .i64 o.version)]),(4,.row 9 1 (W.map eB)),(5,.row 9 1 (o.holds.map eB)),(1,.cells 103 [.d (.str []),.d (.str []),.d (.str []),.nils,.d (.bool false),.nils,.d (.int .i64 0)])],7,0⟩) (rfl) ?_
  intro i W hi hr
  have hs:row.length≤big:=by omega
  have hW:W.length=fs.length:=by rw[hr,gC,hl]
  repeat refine ai ?_
  refine aj ?_ ?_<;>intro h1
  ·have hlt:i<row.length:=V h1
   have hin:=hsub _ (List.getElem_mem hlt)
   obtain ⟨p,hp,ep,_⟩:=fV hin
   have hst:bS fs ms o.kind (row.take (i+1)) o.values=bv fs ms o.kind W row[i]:=by rw[rm hlt,←hr]
   repeat refine ai ?_
   refine Hk ?_
   repeat refine ai ?_
   refine O (e:=eB) (xs:=row) (hlt) rfl ?_
   repeat refine ai ?_
   refine oc (iu _ _) ?_
   repeat refine ai ?_
   refine O (e:=eB) (xs:=row) (hlt) rfl ?_
   repeat refine ai ?_
   refine oc (xo fs ms {o with values:=W} row[i] hW hin hmi) ?_
   repeat refine ai ?_
   refine aj (by rw[ep];exact Int.natCast_nonneg _) (aj (by rw[ep,List.length_map];omega) ?_)
   repeat refine ai ?_
   have hpt:(dB (·.name==row[i]) fs).toNat<W.length:=by rw[ep];omega
   refine ⟨eB W[(dB (·.name==row[i]) fs).toNat],by rw[List.getElem?_map,List.getElem?_eq_getElem hpt];rfl,Nat.le_refl _,?_⟩
   repeat refine ai ?_
   exact cQ (bv fs ms o.kind W row[i]) hlt hs (by rw[hst]) fun hw=>by repeat' first|exact rfl|exact trivial|exact nd hw|exact qN hpt|refine aj ?_ ?_
  ·rw[List.take_of_length_le (Y h1)] at hr
   rw[←hr]
   repeat refine ai ?_
   exact rfl
end Go.Vc
end
section
namespace Go.Vc
open Go.Proofs
set_option maxRecDepth 100000
theorem qI (xs:List GateShape) (ms:List GateMend) (o:GateObject) (hx:aI xs=true) (hm:ms.all (bF xs)=true):
 Spec P 174 [.d (aa xs),.d (af ms),st o.e] (st (dX xs ms (fH xs o)).e):=by
 refine Spec.of_vc aJ aw [.cell 6 103] Tryz.func174 rfl rfl rfl rfl (fun hok=>?_)
 repeat refine ai ?_
 refine oc (CZ _ _) ?_
 repeat refine ai ?_
 refine oc (zi xs ms (fH xs o) hx hm) ?_
 repeat refine ai ?_
 exact rfl
theorem ut (fs:List GateField) (o:GateObject) (n:Bs) (hl:o.values.length=fs.length) (hn:n∈fs.map (·.name)):Spec P 233 [.d (.str n),.at_ o.e,.at_ [ab fs]] (.d (.str (cA fs o.values n))):=by
 refine Spec.of_vc aJ aw [.tmp 4] Tryz.func233 rfl rfl rfl rfl (fun hok=>?_)
 obtain ⟨j,hj,e,_⟩:=fV hn
 repeat refine ai ?_
 refine ak ?_
 repeat refine ai ?_
 refine oc (kB _ _) ?_
 repeat refine ai ?_
 refine aC (e:=eB) (xs:=o.values) ((show j<o.values.length by omega)) (e) rfl ?_
 repeat refine ai ?_
 refine sd ?_
 rw[fS e (by omega)]
theorem nz {b:Bool} (h:(!b)=false):b=true:=by simpa using h
theorem re {b:Bool} (h:(!b)=true):b=false:=by simpa using h
theorem eU {xs:List GateShape} {ms:List GateMend} (h:bw xs ms=true):aI xs=true∧ms.all (bF xs)=true∧ms.length≤12∧∀s∈xs,qP s ms=true:=by
 unfold bw at h
 simp only[Bool.and_eq_true,Bool.not_eq_true',decide_eq_false_iff_not] at h
 obtain ⟨h1,h2,h3,h4⟩:=h
 exact ⟨h1,h3,by omega,fun s hs=>List.all_eq_true.1 h4 s hs⟩
theorem C3 {xs:List GateShape} {ms:List GateMend} (h:bw xs ms=true) {s:GateShape} (hs:s∈xs) {vals:List Bs} (hl:vals.length=s.fields.length):
 bS s.fields ms s.kind (iw (U s.kind ms) (bk s)).1 vals=bS s.fields ms s.kind (mB s ms) vals:=by
 obtain ⟨h1,h2,h3,h4⟩:=eU h
 have hr:=h4 s hs
 have hnd:=mo h1 hs
 have hin:∀n∈bk s,∀y∈U s.kind ms n,y∈bk s:=fun n _=>jT h1 h2 hs n
 obtain ⟨g1,g2⟩:=tS hin (by rw[lA h1 h2 hs];exact hr)
 have g:=tT s ms
 refine xZ hnd g1 g g2 (DO hnd g.nd g.sub ?_) hl
 unfold qP at hr
 have:=beq_iff_eq.1 hr
 show _=(s.fields.map (·.name)).length
 rw[List.length_map]
 omega
theorem ua (fs:List GateField) (ms:List GateMend) (k:Bs):∀row:List Bs,bS fs ms k row []=[]
 |[]=>rfl
 |n::row=>by
  show bS fs ms k row (bv fs ms k [] n)=[]
  have:bv fs ms k [] n=[]:=by unfold bv;rfl
  rw[this];exact ua fs ms k row
theorem xY {xs:List GateShape} {ms:List GateMend} {o:GateObject} (h:o.values=[]):dX xs ms o=o:=by
 unfold dX
 split
 ·cases (ah xs o.kind o.values.length).2
  ·rfl
  ·rw[cond_true]
   cases o
   simp only at h
   subst h
   simp only[ua]
 ·rfl
set_option maxHeartbeats 1000000 in
theorem tq (xs:List GateShape) (ms:List GateMend) (o:GateObject) (hv:o.values=[]):Spec P 216 [.d (aa xs),.d (af ms),st o.e] (st o.e):=by
 refine Spec.of_vc aJ aw [.cell 6 103] Tryz.func216 rfl rfl rfl rfl (fun hok=>?_)
 have hsm:ms.length≤big:=az hok.2.1.1
 repeat refine ai ?_
 refine oc (zO _) ?_
 repeat refine ai ?_
 refine oc (fC _ _) ?_
 repeat refine ai ?_
 refine aj ?_ ?_<;>intro h0
 ·repeat refine ai ?_
  refine oc (fP _ _) ?_
  repeat refine ai ?_
  refine aj ?_ ?_<;>intro h1
  ·repeat refine ai ?_
   exact rfl
  ·simp only[Bool.not_eq_false'] at h0 h1
   obtain ⟨hx,hm,hm12,hro⟩:=eU h1
   rcases dp (xs:=xs) (k:=o.kind) (n:=o.values.length) with ⟨h2,_⟩|⟨j,hj,ej,ef,hl,hk⟩
   ·rw[h2] at h0;cases h0
   have hjm:=List.getElem_mem hj
   have hin:∀n∈bk xs[j],∀y∈U xs[j].kind ms n,y∈bk xs[j]:=fun n _=>jT hx hm hjm n
   have hn0:bk xs[j]=[]:=by
    have:(bk xs[j]).length=xs[j].fields.length:=List.length_map ..
    rw[hl,hv] at this
    exact List.eq_nil_of_length_eq_zero this
   repeat refine ai ?_
   refine oc (iG _ _) ?_
   repeat refine ai ?_
   refine aC (e:=GateShape.e) (xs:=xs) (hj) (ej) rfl ?_
   repeat refine ai ?_
   refine oc (wm xs[j] ms hm12 hin) ?_
   rw[hn0]
   generalize ah xs o.kind o.values.length=ff at*
   repeat refine ai ?_
   refine d9 (([]:List Bs)) (fun i=>True) (fun i=>[(5,.ptr 0 0),(6,.ptr 1 0),(47,.d (lS [])),(48,.d (.int .i64 0)),(49,.d (.int .i64 i))]) (fun i=>⟨[(0,.cells 103 [.d (.str o.kind),.d (.str o.name),.d (.str o.team),.d (lS o.values),.d (.bool o.ending),.d (lS o.holds),.d (.int .i64 o.version)]),(1,.cells 103 [.d (.str []),.d (.str []),.d (.str []),.nils,.d (.bool false),.nils,.d (.int .i64 0)])],2,0⟩) (trivial) ?_
   intro i hi hr
   repeat refine ai ?_
   refine aj ?_ ?_<;>intro g1
   ·exact absurd (of_decide_eq_true g1) (by omega)
   ·repeat refine ai ?_
    exact rfl
 ·repeat refine ai ?_
  exact rfl
set_option maxHeartbeats 4000000 in
theorem tp (xs:List GateShape) (ms:List GateMend) (o:GateObject) (hpos:0<o.values.length):Spec P 216 [.d (aa xs),.d (af ms),st o.e] (st (bif bw xs ms then dX xs ms o else o).e):=by
 refine Spec.of_vc aJ aw [.cell 6 103] Tryz.func216 rfl rfl rfl rfl (fun hok=>?_)
 have hb:=i5 (o:=o) ⟨hok.2.2.1,trivial⟩
 have hsm:ms.length≤big:=az hok.2.1.1
 repeat refine ai ?_
 refine ow (A8 o hpos) ?_
 repeat refine ai ?_
 refine oe (fun g=>o4 xs o g 4) ?_
 repeat refine ai ?_
 refine aj ?_ ?_<;>intro h0
 ·repeat refine ai ?_
  refine oc (fP _ _) ?_
  repeat refine ai ?_
  refine aj ?_ ?_<;>intro h1
  ·simp only[Bool.not_eq_true',Bool.not_eq_false'] at h0 h1
   rw[h1]
   repeat refine ai ?_
   exact rfl
  ·simp only[Bool.not_eq_false'] at h0 h1
   obtain ⟨hx,hm,hm12,hro⟩:=eU h1
   rcases dp (xs:=xs) (k:=o.kind) (n:=o.values.length) with ⟨h2,_⟩|⟨j,hj,ej,ef,hl,hk⟩
   ·rw[h2] at h0;cases h0
   have hjm:=List.getElem_mem hj
   have hres:(bif bw xs ms then dX xs ms o else o)={o with values:=bS xs[j].fields ms o.kind (iw (U o.kind ms) (bk xs[j])).1 o.values}:=by
    have:=C3 h1 hjm (vals:=o.values) hl.symm
    rw[hk] at this
    rw[h1,cond_true,rl hj ej h0,this]
   rw[hres]
   have hin:∀n∈bk xs[j],∀y∈U xs[j].kind ms n,y∈bk xs[j]:=fun n _=>jT hx hm hjm n
   obtain ⟨g,_⟩:=tS hin (by rw[lA hx hm hjm];exact hro _ hjm)
   have hmi:=uc hx hm hjm
   rw[hk] at hmi
   have hfs:(ah xs o.kind o.values.length).1=xs[j].fields:=by rw[ef]
   rw[hfs]
   repeat refine ai ?_
   refine oc (iG _ _) ?_
   repeat refine ai ?_
   refine aC (e:=GateShape.e) (xs:=xs) (hj) (ej) rfl ?_
   repeat refine ai ?_
   refine oc (wm xs[j] ms hm12 hin) ?_
   rw[hk]
   rw[hk] at g
   have hsub:∀x∈(iw (U o.kind ms) (bk xs[j])).1,x∈xs[j].fields.map (·.name):=g.sub
   have hrl:(iw (U o.kind ms) (bk xs[j])).1.length≤xs[j].fields.length:=by
    have:=eH g.nd g.sub
    have e:(bk xs[j]).length=xs[j].fields.length:=List.length_map ..
    rw[e] at this
    exact this
   generalize (iw (U o.kind ms) (bk xs[j])).2=rb at*
   generalize (iw (U o.kind ms) (bk xs[j])).1=row at*
   generalize xs[j].fields=fs at*
   repeat refine ai ?_
   refine m4 (row) (fun i (W:List Bs)=>W=bS fs ms o.kind (row.take i) o.values) (fun i (W:List Bs)=>[(1,.d (af ms)),(5,.ptr 0 0),(6,.ptr 1 0),(7,.ptr 5 0),(11,.fn 233 [.ptr 0 0,.ptr 5 0]),(47,.d (lS row)),(48,.d (.int .i64 (row.map eB).length)),(49,.d (.int .i64 i))]) (fun i (W:List Bs)=>⟨[(5,.cells 162 [.d (ab fs)]),(4,.row 9 1 (W.map eB)),(1,.cells 103 [.d (.str []),.d (.str []),.d (.str []),.nils,.d (.bool false),.nils,.d (.int .i64 0)]),(0,.cells 103 [.d (.str o.kind),.d (.str o.name),.d (.str o.team),.own 4,.d (.bool o.ending),.d (lS o.holds),.d (.int .i64 o.version)])],6,0⟩) (rfl) ?_
   intro i W hi hr
   have hs:row.length≤big:=by omega
   have hW:W.length=fs.length:=by rw[hr,gC,hl]
   repeat refine ai ?_
   refine aj ?_ ?_<;>intro g1
   ·have hlt:i<row.length:=V g1
    have hnin:=hsub _ (List.getElem_mem hlt)
    obtain ⟨p,hp,ep,_⟩:=fV hnin
    have hst:bS fs ms o.kind (row.take (i+1)) o.values=bv fs ms o.kind W row[i]:=by rw[rm hlt,←hr]
    have hpt:(dB (·.name==row[i]) fs).toNat<W.length:=by rw[ep];omega
    repeat refine ai ?_
    refine O (e:=eB) (xs:=row) (hlt) rfl ?_
    repeat refine ai ?_
    generalize row[i]=nm at*
    have hrW:=hr
    clear hr
    repeat refine ai ?_
    refine d9 (ms) (fun q=>r9 fs ms o.kind W nm=oz (cA fs W) o.kind nm (cA fs W nm) (ms.drop q)) (fun q=>[(1,.d (af ms)),(5,.ptr 0 0),(6,.ptr 1 0),(7,.ptr 5 0),(11,.fn 233 [.ptr 0 0,.ptr 5 0]),(13,.d (.str nm)),(47,.d (lS row)),(48,.d (.int .i64 (row.map eB).length)),(49,.d (.int .i64 i)),(53,.d (af ms)),(54,.d (.int .i64 (ms.map GateMend.e).length)),(55,.d (.int .i64 q))]) (fun q=>⟨[(5,.cells 162 [.d (ab fs)]),(4,.row 9 1 (W.map eB)),(1,.cells 103 [.d (.str []),.d (.str []),.d (.str []),.nils,.d (.bool false),.nils,.d (.int .i64 0)]),(0,.cells 103 [.d (.str o.kind),.d (.str o.name),.d (.str o.team),.own 4,.d (.bool o.ending),.d (lS o.holds),.d (.int .i64 o.version)])],6,0⟩) (rfl) ?_
    intro q hq hr
    have hsq:ms.length≤big:=hsm
    repeat refine ai ?_
    refine aj ?_ ?_<;>intro g2
    ·have hlq:q<ms.length:=V g2
     rw[ux hlq] at hr
     have hmq:=hmi ms[q] (List.getElem_mem hlq)
     generalize hd:oz (cA fs W) o.kind nm (cA fs W nm) (ms.drop (q+1))=rest at hr
     repeat refine ai ?_
     refine O (e:=GateMend.e) (xs:=ms) (hlq) rfl ?_
     repeat refine ai ?_
     have hpi:(0:Int)≤dB (·.name==nm) fs:=by rw[ep];exact Int.natCast_nonneg _
     have hpl:dB (·.name==nm) fs<((W.map eB).length:Int):=by rw[ep,List.length_map];omega
     have hget:(W.map eB)[(dB (·.name==nm) fs).toNat]? =some (eB W[(dB (·.name==nm) fs).toNat]):=by rw[List.getElem?_map,List.getElem?_eq_getElem hpt];rfl
     repeat' first
      |refine ai ?_
      |(refine aj ?_ ?_<;>intro h)
      |refine Or.inr (Or.inr (Or.inr (Or.inl (Exists.intro _ (aj rfl (aj (ut fs {o with values:=W} ms[q].when_ hW ((hmq (nz (by assumption))).1 (re (by assumption)))) ?_))))))
      |refine Or.inr (Or.inr (Or.inr (Or.inl (Exists.intro _ (aj rfl (aj (ut fs {o with values:=W} ms[q].from_ hW ((hmq (nz (by assumption))).2 (re (by assumption)))) ?_))))))
      |refine oc (kB _ _) ?_
      |refine aj (by kernel_rfl) (aj (by kernel_rfl) ?_)
      |refine ak ?_
      |refine aj hpi (aj hpl ?_)
      |refine ⟨_,hget,Nat.le_refl _,?_⟩
     all_goals clear hok hmi hin hres g hro hpl hpi hget hsub
     all_goals first
      |(exfalso;clear hrW hr hst hd hmq hpt ep hnin g1 g2 hW hrl hfs hl ef hk hjm ej hm hx h1 h0 hsm hb;simp only[cond_false,cond_true,Bool.not_eq_true',Bool.not_eq_false',reduceCtorEq,Bool.true_eq_false,Bool.false_eq_true] at*;done)
      |(exfalso;clear hrW hr hst hd hmq hpt ep hnin g1 g2 hW hrl hfs hl ef hk hjm ej hm hx h1 h0 hsm hb;simp only[cond_false,cond_true,Bool.not_eq_true',Bool.not_eq_false',reduceCtorEq] at*;simp only[*,reduceCtorEq,Bool.true_eq_false,Bool.false_eq_true] at*;done)
      |(refine (fun hq:r9 fs ms o.kind W nm=rest=>?_) ?_
        rotate_left
        ·(rw[hr];clear hrW hr hst hd hmq hpt ep hnin g1 g2 hW hrl hfs hl ef hk hjm ej hm hx h1 h0 hsm hb;simp only[cond_false,cond_true,Bool.not_eq_true',Bool.not_eq_false',reduceCtorEq] at*;simp only[kh,kU, *,cond_true,cond_false,bl];done)
        repeat refine ai ?_
        exact bL hlq hsq (hq.trans hd.symm))
      |(refine (fun hq:r9 fs ms o.kind W nm=ms[q].put=>?_) ?_
        rotate_left
        ·(rw[hr];clear hrW hr hst hd hmq hpt ep hnin g1 g2 hW hrl hfs hl ef hk hjm ej hm hx h1 h0 hsm hb;simp only[cond_false,cond_true,Bool.not_eq_true',Bool.not_eq_false',reduceCtorEq] at*;simp only[kh,kU, *,cond_true,cond_false,bl];done)
        repeat refine ai ?_
        exact cQ (W.set (dB (·.name==nm) fs).toNat ms[q].put) hlt hs (by rw[hst];unfold bv;rw[hq]) fun hw=>by repeat' first|exact rfl|exact trivial|exact nd hw|exact qN hpt|refine aj ?_ ?_)
      |(refine (fun hq:r9 fs ms o.kind W nm=cA fs W ms[q].from_=>?_) ?_
        rotate_left
        ·(rw[hr];clear hrW hr hst hd hmq hpt ep hnin g1 g2 hW hrl hfs hl ef hk hjm ej hm hx h1 h0 hsm hb;simp only[cond_false,cond_true,Bool.not_eq_true',Bool.not_eq_false',reduceCtorEq] at*;simp only[kh,kU, *,cond_true,cond_false,bl];done)
        repeat refine ai ?_
        exact cQ (W.set (dB (·.name==nm) fs).toNat (cA fs W ms[q].from_)) hlt hs (by rw[hst];unfold bv;rw[hq]) fun hw=>by repeat' first|exact rfl|exact trivial|exact nd hw|exact qN hpt|refine aj ?_ ?_)
    ·have hq:r9 fs ms o.kind W nm=cA fs W nm:=by rw[hr,yK (Y g2)]
     have hW2:bv fs ms o.kind W nm=W:=by
      unfold bv
      refine qF hpt ?_
      rw[hq,fS ep (by omega)]
      congr 1
      rw[ep];rfl
     repeat refine ai ?_
     exact cQ W hlt hs (by rw[hst,hW2])
   ·rw[List.take_of_length_le (Y g1)] at hr
    rw[←hr]
    repeat refine ai ?_
    exact rfl
 ·simp only[Bool.not_eq_true'] at h0
  rw[rj h0]
  repeat refine ai ?_
  cases bw xs ms<;>exact rfl
theorem wq (xs:List GateShape) (ms:List GateMend) (o:GateObject):Spec P 216 [.d (aa xs),.d (af ms),st o.e] (st (bif bw xs ms then dX xs ms o else o).e):=by
 by_cases h:0<o.values.length
 ·exact tp xs ms o h
 ·have hv:o.values=[]:=List.eq_nil_of_length_eq_zero (by omega)
  have:(bif bw xs ms then dX xs ms o else o)=o:=by
   rw[xY hv];cases bw xs ms<;>rfl
  rw[this]
  exact tq xs ms o hv
def ez (xs:List GateShape) (ms:List GateMend) (o:GateObject):GateObject:=dX xs ms (fH xs o)
theorem jg (xs:List GateShape) (ms:List GateMend) (o:GateObject):Spec P 185 [.d (aa xs),.d (af ms),st o.e] (st (bif bw xs ms then ez xs ms o else o).e):=by
 refine Spec.of_vc aJ aw [.cell 6 103] Tryz.func185 rfl rfl rfl rfl (fun hok=>?_)
 repeat refine ai ?_
 refine oc (fP _ _) ?_
 repeat refine ai ?_
 refine aj ?_ ?_<;>intro h
 ·simp only[Bool.not_eq_true'] at h
  rw[h,cond_false]
  repeat refine ai ?_
  refine oc (zO _) ?_
  repeat refine ai ?_
  exact rfl
 ·simp only[Bool.not_eq_false'] at h
  obtain ⟨hx,_⟩:=eU h
  repeat refine ai ?_
  refine oc (zT _ _) ?_
  repeat refine ai ?_
  refine oc (wq _ _ _) ?_
  rw[h,hx]
  repeat refine ai ?_
  exact rfl
end Go.Vc
end
section
namespace Go.Vc
open Go.Proofs
set_option maxRecDepth 100000
def ca:List GateField→List Bs→Nat→List (Nat×GateField)
 |f::fs,v::vs,i=>bif f.kind==4&& !(v==[]) then (i,f)::ca fs vs (i+1) else ca fs vs (i+1)
 |_,_,_=>[]
def fO (p:Nat×GateField):List AV→Prop:=thinL [.d (.int .i64 p.1),st p.2.e]
def cl (xs:List GateShape) (o:GateObject):List (Nat×GateField):=ca (ah xs o.kind o.values.length).1 o.values 0
theorem lG {fs:List GateField} {vs:List Bs} {i:Nat} (h:fs=[]):ca fs vs i=[]:=by subst h;rfl
theorem hM {fs:List GateField} {vs:List Bs} {i:Nat} (h:i<fs.length) (h2:i<vs.length):ca (fs.drop i) (vs.drop i) i=bif fs[i].kind==4&& !(vs[i]==[]) then (i,fs[i])::ca (fs.drop (i+1)) (vs.drop (i+1)) (i+1) else ca (fs.drop (i+1)) (vs.drop (i+1)) (i+1):=by
 rw[List.drop_eq_getElem_cons h,List.drop_eq_getElem_cons h2];rfl
theorem xM {o:GateObject} (h:AV.ok (.at_ o.e)):o.values.length≤big∧o.holds.length≤big:=by
 simp only[AV.ok,GateObject.e,bA,D.ok] at h
 exact ⟨az h.2.2.2.1.1,az h.2.2.2.2.2.1.1⟩
theorem pN (l:GateLaw) (o:GateObject):Spec P 106 [st l.e,st o.e] (.fn 165 [.at_ l.e,.at_ o.e]):=by
 refine Spec.of_vc aJ aw [.tmp 4] Tryz.func106 rfl rfl rfl rfl (fun hok=>?_)
 repeat refine ai ?_
 exact rfl
set_option maxHeartbeats 1000000 in
theorem nc (l:GateLaw) (o:GateObject) (hc:Heap):(dC P).iter 165 [.at_ l.e,.at_ o.e] hc ((cl l.shapes o).map fO):=by
 refine zK aJ aw Tryz.func165 rfl rfl rfl rfl rfl (fun y hok=>?_)
 have hfs:(ah l.shapes o.kind o.values.length).2=false→(ah l.shapes o.kind o.values.length).1=[]:=by
  rcases dp (xs:=l.shapes) (k:=o.kind) (n:=o.values.length) with ⟨h1,h2⟩|⟨j,hj,_,h,_⟩
  ·exact fun _=>h2
  ·rw[h];exact fun h=>by cases h
 obtain ⟨hl,hl2⟩:=ct (xs:=l.shapes) (k:=o.kind) (n:=o.values.length)
 repeat refine ai ?_
 refine oc (fC _ _) ?_
 unfold cl
 repeat refine ai ?_
 refine aj ?_ ?_<;>intro h0
 ·simp only[Bool.not_eq_true'] at h0
  rw[hfs h0]
  repeat refine ai ?_
  exact .inr rfl
 ·simp only[Bool.not_eq_false'] at h0
  have hl:=hl2 h0
  generalize (ah l.shapes o.kind o.values.length).1=fs at*
  repeat refine ai ?_
  refine ⟨fun m j l' h=>∃(i:Nat) (pre:List (Nat×GateField)),m=fs.length - i∧i≤fs.length∧ca fs o.values 0=pre++ca (fs.drop i) (o.values.drop i) i∧j=pre.length∧l'=[(0,.val (.func (.yield y) #[] #[])),(1,.at_ l.e),(2,.at_ o.e),(17,.d (ab fs)),(18,.d (.int .i64 (fs.map GateField.e).length)),(19,.d (.int .i64 i))]∧h=hp0,
   ⟨0,_,_,_,rfl,⟨0,[],rfl,Nat.zero_le _,rfl,rfl,rfl,rfl⟩,rfl,rfl,⟨rfl,rfl,rfl,rfl,rfl,rfl,trivial⟩,trivial,trivial⟩,?_⟩
  rintro m j l' hh ⟨i,pre,rfl,hi,hr,rfl,rfl,rfl⟩
  have hb:=xM hok.2.1
  have hs:fs.length≤big:=by omega
  repeat refine ai ?_
  refine aj ?_ ?_<;>intro g1
  ·have hlt:i<fs.length:=V g1
   have hlt2:i<o.values.length:=by omega
   rw[hM hlt hlt2] at hr
   repeat refine ai ?_
   refine O (e:=GateField.e) (xs:=fs) (hlt) rfl ?_
   repeat refine ai ?_
   refine aj ?_ ?_<;>intro h1
   ·repeat refine ai ?_
    refine O (e:=eB) (xs:=o.values) (hlt2) rfl ?_
    repeat refine ai ?_
    refine aj ?_ ?_<;>intro h2
    ·have hc:(fs[i].kind==4&& !(o.values[i]==[]))=true:=by rw[h1,h2];rfl
     rw[hc,cond_true] at hr
     repeat refine ai ?_
     refine ⟨⟨fO (i,fs[i]),?_,fun x h=>h⟩,?_,?_⟩
     ·rw[hr,List.getElem?_map,List.getElem?_append_right (Nat.le_refl _),Nat.sub_self];rfl
     ·repeat refine ai ?_
      refine ⟨_,_,_,_,rfl,⟨i+1,pre++[(i,fs[i])],rfl,hlt,(by rw[hr,List.append_assoc];rfl),(by simp),rfl,rfl⟩,by omega,rfl,rfl,⟨rfl,rfl,rfl,rfl,rfl,nd (Z hlt hs),trivial⟩,trivial,trivial⟩
     ·repeat refine ai ?_
      exact .inl rfl
    ·have hc:(fs[i].kind==4&& !(o.values[i]==[]))=false:=by rw[h1,h2];rfl
     rw[hc,cond_false] at hr
     repeat refine ai ?_
     refine ⟨_,_,_,_,rfl,⟨i+1,pre,rfl,hlt,hr,rfl,rfl,rfl⟩,by omega,rfl,rfl,⟨rfl,rfl,rfl,rfl,rfl,nd (Z hlt hs),trivial⟩,trivial,trivial⟩
   ·have hc:(fs[i].kind==4&& !(o.values[i]==[]))=false:=by rw[h1];rfl
    rw[hc,cond_false] at hr
    repeat refine ai ?_
    refine ⟨_,_,_,_,rfl,⟨i+1,pre,rfl,hlt,hr,rfl,rfl,rfl⟩,by omega,rfl,rfl,⟨rfl,rfl,rfl,rfl,rfl,nd (Z hlt hs),trivial⟩,trivial,trivial⟩
  ·have hi':=Y g1
   rw[List.drop_of_length_le hi',lG rfl,List.append_nil] at hr
   repeat refine ai ?_
   refine .inr ?_
   rw[List.length_map,hr]
end Go.Vc
end
section
namespace Go.Vc
open Go.Proofs
set_option maxRecDepth 100000
def ar {α:Type} (r:Option α→α→Bool):Option α→List α→Bool
 |_,[]=>true
 |p,x::xs=>r p x&&ar r (some x) xs
def cB {α:Type} (xs:List α):Nat→Option α
 |0=>none
 |j+1=>xs[j]?
section
variable {α:Type} {r:Option α→α→Bool} {xs:List α} {i:Nat}
theorem dS (h:i<xs.length):ar r (cB xs i) (xs.drop i)=(r (cB xs i) xs[i]&&ar r (cB xs (i+1)) (xs.drop (i+1))):=by
 rw[List.drop_eq_getElem_cons h]
 simp only[ar,cB,List.getElem?_eq_getElem h]
theorem eV {p:Option α} (h:xs.length≤i):ar r p (xs.drop i)=true:=by
 rw[List.drop_of_length_le h];rfl
theorem cg (h0:0<i) (h:i<xs.length):cB xs i=some (xs[i - 1]'(by omega)):=by
 obtain ⟨j,rfl⟩:∃j,i=j+1:=⟨i - 1,by omega⟩
 simp only[cB,Nat.add_sub_cancel]
 exact List.getElem?_eq_getElem _
theorem ci (h:i=0):cB xs i=none:=by
 subst h
 rfl
end
theorem uf (a b c d:Bs):(!(Op.bytesLess a c||a==c)||(a==c&& !Op.bytesLess b d))= !gl a b c d:=by
 unfold gl
 cases e:(a==c) with
 |true=>rw[beq_iff_eq.1 e,jp];simp
 |false=>simp
theorem oa {n a b:Int} (h:decide (n<a)=true):fj n a b=false:=by
 have:=of_decide_eq_true h
 unfold fj;rw[decide_eq_false (by omega)];rfl
theorem od {n a b:Int} (h:decide (n>b)=true):fj n a b=false:=by
 have:=of_decide_eq_true h
 unfold fj;rw[decide_eq_false (p:=n≤b) (by omega),Bool.and_false]
theorem lH {n a b:Int} (h:decide (n<a)=false) (h2:decide (n>b)=false):fj n a b=true:=by
 have:=of_decide_eq_false h
 have:=of_decide_eq_false h2
 unfold fj;rw[decide_eq_true (by omega),decide_eq_true (by omega)];rfl
def u7 (vs:List Bs) (i:Nat):Bs:=match vs[i]? with|some v=>v|none=>[]
theorem ga {vs:List Bs} {i:Nat} (h:i<vs.length):u7 vs i=vs[i]:=by unfold u7;rw[List.getElem?_eq_getElem h]
theorem rE:∀{fs:List GateField} {vs:List Bs} {i:Nat} {p:Nat×GateField},p∈ca fs vs i→i≤p.1∧p.1<i+vs.length∧p.2∈fs∧(p.2.kind==4)=true
 |[],vs,i,p,h=>by simp[ca] at h
 |f::fs,[],i,p,h=>by simp[ca] at h
 |f::fs,v::vs,i,p,h=>by
  have tail:p∈ca fs vs (i+1)→i≤p.1∧p.1<i+(v::vs).length∧p.2∈f::fs∧(p.2.kind==4)=true:=fun h=>by
   obtain ⟨h1,h2,h3,h4⟩:=rE h
   exact ⟨by omega,by simp only[List.length_cons];omega,List.mem_cons_of_mem _ h3,h4⟩
  simp only[ca] at h
  cases hc:f.kind==4&& !(v==[]) with
  |false=>rw[hc] at h;exact tail h
  |true=>
   rw[hc,cond_true] at h
   rcases List.mem_cons.1 h with e|h
   ·subst e
    rw[Bool.and_eq_true] at hc
    exact ⟨Nat.le_refl _,by simp,List.mem_cons_self,hc.1⟩
   ·exact tail h
theorem jd {xs:List GateShape} {o:GateObject} {p:Nat×GateField} (h:p∈cl xs o):p.1<o.values.length:=by
 have:=(rE h).2.1
 omega
theorem dd {p:Nat×GateField} {x:List AV} (h:fO p x):∃A c,x=[.d (.int .i64 p.1),.agg [.d (.str p.2.name),.d (.int .i64 p.2.kind),.d (.int .i64 p.2.least),.d (.int .i64 p.2.most),.d (.raw (.slice A (p.2.words.map eB).length c)),.d (.str p.2.to_),.d (.int .i64 p.2.role),.d (.bool p.2.must),.d (.bool p.2.fixed),.d (.str p.2.default_),.d (.str p.2.weighs)]]:=by
 unfold fO st GateField.e at h
 simp only[thinL,thinC,List.map] at h
 obtain ⟨y0,ys,rfl,⟨y1,rfl,rfl⟩,cs,y2,rfl,⟨z1,rfl,z2,rfl,z3,rfl,z4,rfl,A,c,z5,rfl,z6,rfl,z7,rfl,z8,rfl,z9,rfl,z10,rfl,z11,rfl,rfl⟩,rfl⟩:=h
 exact ⟨A,c,rfl⟩
theorem ky {xs:List (Nat×GateField)} {k:Nat} {X:List AV→Prop} (h:(xs.map fO)[k]? =some X):∃p,xs[k]? =some p∧p∈xs∧X=fO p:=by
 rw[List.getElem?_map] at h
 cases hp:xs[k]? with
 |none=>rw[hp] at h;cases h
 |some p=>rw[hp] at h;cases h;exact ⟨p,rfl,List.mem_of_getElem? hp,rfl⟩
def fq (b:GateBook) (k n:Bs):Bool:=decide (dB (fun x=>x.kind==k&&x.name==n) b.objects≥0)
theorem kf {b:GateBook} {k n:Bs} (h:decide (dB (fun x:GateObject=>x.kind==k&&x.name==n) b.objects<0)=true):fq b k n=false:=by
 have:=of_decide_eq_true h
 exact decide_eq_false (by omega)
theorem iH {b:GateBook} {k n:Bs} (h:decide (dB (fun x:GateObject=>x.kind==k&&x.name==n) b.objects<0)=false):fq b k n=true:=by
 have:=of_decide_eq_false h
 exact decide_eq_true (by omega)
theorem Aq {α:Type} {p:α→Bool} {xs:List α} {x:α} (h:x∈xs) (hp:p x=false):xs.all p=false:=by
 rw[List.all_eq_false]
 exact ⟨x,h,by rw[hp];simp⟩
def aB (L:GateLaw) (b:GateBook) (o:GateObject):Bool:=
 (A5 L.shapes o).1==0&&(L.teams.any (·.name==o.team)&&(fj o.version 1 b.now&&((ez L.shapes L.mends o).values==o.values&&(cl L.shapes o).all (fun p=>fq b p.2.to_ (u7 o.values p.1)))))
def kL (L:GateLaw) (b:GateBook) (p:Option GateObject) (o:GateObject):Bool:=(match p with|some q=>gl q.kind q.name o.kind o.name|none=>true)&&aB L b o
def mR (L:GateLaw) (b:GateBook):Bool:= !decide ((b.objects.length:Int)>40)&&ar (kL L b) none b.objects
set_option maxHeartbeats 2000000 in
theorem yo (L:GateLaw) (b:GateBook) (hm:bw L.shapes L.mends=true):Spec P 126 [st b.e,st L.e] (.d (.bool (mR L b))):=by
 refine Spec.of_vc aJ aw [.cell 4 4] Tryz.func126 rfl rfl rfl rfl (fun hok=>?_)
 have hs:=(bP (dx hok)).1
 obtain ⟨hx,hmm,hm12,hro⟩:=eU hm
 repeat refine ai ?_
 refine aj ?_ ?_<;>intro h0
 ·repeat refine ai ?_
  refine bd ?_
  rw[List.length_map] at h0
  rw[mR,h0];rfl
 rw[List.length_map] at h0
 have hob:mR L b=ar (kL L b) none b.objects:=by rw[mR,h0];rfl
 rw[hob]
 repeat refine ai ?_
 refine d9 (b.objects) (fun i=>ar (kL L b) none b.objects=ar (kL L b) (cB b.objects i) (b.objects.drop i)) (fun i=>[(2,.ptr 0 0),(3,.ptr 1 0),(4,.ptr 2 0),(17,.d (aE b.objects)),(18,.d (.int .i64 (b.objects.map GateObject.e).length)),(19,.d (.int .i64 i))]) (fun i=>⟨[(2,.cells 4 [.d (.bool false)]),(1,.cells 41 (L.e.map .d)),(0,.cells 48 (b.e.map .d))],3,0⟩) (rfl) ?_
 intro i hi hr
 repeat refine ai ?_
 refine aj ?_ ?_<;>intro h1
 ·have hlt:i<b.objects.length:=V h1
  rw[dS hlt] at hr
  repeat refine ai ?_
  refine O (e:=GateObject.e) (xs:=b.objects) (hlt) rfl ?_
  repeat refine ai ?_
  refine aj ?_ ?_<;>intro h2
  ·have h3:=lJ h2
   repeat refine ai ?_
   refine aC (e:=GateObject.e) (xs:=b.objects) ((show i - 1<b.objects.length by omega)) (aX h3 hlt hs) rfl ?_
   repeat refine ai ?_
   have hpv:cB b.objects i=some (b.objects[i - 1]'(by omega)):=cg h3 hlt
   rw[hpv] at hr
   generalize hq:b.objects[i - 1]'(by omega)=q at*
   have hno:∀c,(!(Op.bytesLess q.kind b.objects[i].kind||q.kind==b.objects[i].kind)||(q.kind==b.objects[i].kind&& !Op.bytesLess q.name b.objects[i].name))=c→kL L b (some q) b.objects[i]=(!c&&aB L b b.objects[i]):=fun c h=>by
    rw[uf] at h
    rw[←h,Bool.not_not];rfl
   repeat refine ai ?_
   refine aj ?_ ?_<;>intro a1
   ·repeat refine ai ?_
    refine aj ?_ ?_<;>intro a2
    ·repeat refine ai ?_
     refine aj ?_ ?_<;>intro a3
     ·repeat refine ai ?_
      refine bd ?_
      rw[hr,hno true (by rw[a1,a2];exact a3)];rfl
     ·rw[hno false (by rw[a1,a2];exact a3),Bool.not_false,Bool.true_and] at hr
      repeat refine ai ?_
      refine oc (j9 _ _) ?_
      rw[show jm L.shapes b.objects[i]=A5 L.shapes b.objects[i] from by unfold jm;rw[hx];rfl]
      generalize ho:b.objects[i]=o at*
      repeat refine ai ?_
      refine aj ?_ ?_<;>intro c1
      ·have c1:=re c1
       repeat refine ai ?_
       refine bd ?_
       rw[hr,show aB L b o=false from by simp only[aB,c1,bl]]
       rfl
      ·have c1:=nz c1
       repeat refine ai ?_
       refine ak ?_
       repeat refine ai ?_
       refine oc (fW _ _) ?_
       repeat refine ai ?_
       refine aj ?_ ?_<;>intro c2
       ·have c2:=nz (idx_lt.symm.trans c2)
        repeat refine ai ?_
        refine aj ?_ ?_<;>intro c3
        ·repeat refine ai ?_
         refine aj ?_ ?_<;>intro c4
         ·have c4':=lH c3 c4
          repeat refine ai ?_
          refine oc (jg _ _ _) ?_
          rw[hm,cond_true]
          repeat refine ai ?_
          refine oc (je _ _) ?_
          repeat refine ai ?_
          refine aj ?_ ?_<;>intro c5
          ·have c5:((ez L.shapes L.mends o).values==o.values)=false:=re c5
           repeat refine ai ?_
           refine bd ?_
           rw[hr,show aB L b o=false from by simp only[aB,c1,c2,c4',c5,bl]]
           rfl
          ·have c5:((ez L.shapes L.mends o).values==o.values)=true:=nz c5
           have hrest:aB L b o=(cl L.shapes o).all (fun p=>fq b p.2.to_ (u7 o.values p.1)):=by simp only[aB,c1,c2,c4',c5,Bool.true_and]
           rw[hrest] at hr
           repeat refine ai ?_
           refine oc (pN _ _) ?_
           repeat refine ai ?_
           refine ⟨(cl L.shapes o).map fO,fun k=>∀p,(cl L.shapes o)[k]? =some p→fq b p.2.to_ (u7 o.values p.1)=true,nc L o _,?_,?_,?_⟩
           ·intro X hX x hx
            obtain ⟨p,_,rfl⟩:=List.mem_map.1 hX
            obtain ⟨A,c,rfl⟩:=dd hx
            rfl
           ·intro k X hX x hx
            obtain ⟨p,hp,hpm,rfl⟩:=ky hX
            obtain ⟨A,c,rfl⟩:=dd hx
            have hpl:=jd hpm
            repeat refine ai ?_
            refine ⟨[(2,.ptr 0 0),(4,.ptr 2 0),(6,.ptr 3 0),(10,.d (.int .i64 p.1)),(11,.at_ [.str p.2.name,.int .i64 p.2.kind,.int .i64 p.2.least,.int .i64 p.2.most,.raw (.slice A (p.2.words.map eB).length c),.str p.2.to_,.int .i64 p.2.role,.bool p.2.must,.bool p.2.fixed,.str p.2.default_,.str p.2.weighs])],⟨rfl,rfl,⟨rfl,rfl,rfl,rfl,.inr ⟨_,_,_,_,rfl,Nat.le_of_ble_eq_true rfl,rfl,rfl,rfl⟩,trivial⟩,?_,?_⟩,?_⟩
            ·repeat' first|exact rfl|exact trivial|refine aj ?_ ?_
            ·repeat' first|exact rfl|exact trivial|refine aj ?_ ?_
            repeat refine ai ?_
            refine ak ?_
            repeat refine ai ?_
            refine O (e:=eB) (xs:=o.values) (hpl) rfl ?_
            repeat refine ai ?_
            refine oc (zR _ _ _) ?_
            repeat refine ai ?_
            refine aj ?_ ?_<;>intro d1
            ·repeat refine ai ?_
             refine bd ?_
             rw[hr,Aq hpm (by rw[ga hpl];exact kf d1)];rfl
            ·repeat refine ai ?_
             refine ⟨fun p' hp'=>?_,rfl,rfl,trivial,?_,?_⟩
             ·rw[hp] at hp'
              cases hp'
              rw[ga hpl];exact iH d1
             ·repeat' first|exact rfl|exact trivial|refine aj ?_ ?_
             ·repeat' first|exact rfl|exact trivial|refine aj ?_ ?_
           ·intro hall
            have hal:(cl L.shapes o).all (fun p=>fq b p.2.to_ (u7 o.values p.1))=true:=by
                 rw[List.all_eq_true]
                 intro p hp
                 obtain ⟨k,hk,rfl⟩:=List.getElem_of_mem hp
                 exact hall k (by rw[List.length_map];exact hk) _ (List.getElem?_eq_getElem hk)
            rw[hal,Bool.true_and] at hr
            repeat refine ai ?_
            exact bL hlt hs hr
         ·have c4':=od (a:=1) c4
          repeat refine ai ?_
          refine ay ?_
          repeat refine ai ?_
          refine bd ?_
          rw[hr,show aB L b o=false from by simp only[aB,c1,c2,c4',bl]]
          rfl
        ·have c3':=oa (b:=b.now) c3
         repeat refine ai ?_
         refine an ?_
         repeat refine ai ?_
         refine ay ?_
         repeat refine ai ?_
         refine bd ?_
         rw[hr,show aB L b o=false from by simp only[aB,c1,c2,c3',bl]]
         rfl
       ·have c2:=re (idx_lt.symm.trans c2)
        repeat refine ai ?_
        refine an ?_
        repeat refine ai ?_
        refine an ?_
        repeat refine ai ?_
        refine ay ?_
        repeat refine ai ?_
        refine bd ?_
        rw[hr,show aB L b o=false from by simp only[aB,c1,c2,bl]]
        rfl
    ·rw[hno false (by rw[a1,a2];rfl),Bool.not_false,Bool.true_and] at hr
     repeat refine ai ?_
     refine oc (j9 _ _) ?_
     rw[show jm L.shapes b.objects[i]=A5 L.shapes b.objects[i] from by unfold jm;rw[hx];rfl]
     generalize ho:b.objects[i]=o at*
     repeat refine ai ?_
     refine aj ?_ ?_<;>intro c1
     ·have c1:=re c1
      repeat refine ai ?_
      refine bd ?_
      rw[hr,show aB L b o=false from by simp only[aB,c1,bl]]
      rfl
     ·have c1:=nz c1
      repeat refine ai ?_
      refine ak ?_
      repeat refine ai ?_
      refine oc (fW _ _) ?_
      repeat refine ai ?_
      refine aj ?_ ?_<;>intro c2
      ·have c2:=nz (idx_lt.symm.trans c2)
       repeat refine ai ?_
       refine aj ?_ ?_<;>intro c3
       ·repeat refine ai ?_
        refine aj ?_ ?_<;>intro c4
        ·have c4':=lH c3 c4
         repeat refine ai ?_
         refine oc (jg _ _ _) ?_
         rw[hm,cond_true]
         repeat refine ai ?_
         refine oc (je _ _) ?_
         repeat refine ai ?_
         refine aj ?_ ?_<;>intro c5
         ·have c5:((ez L.shapes L.mends o).values==o.values)=false:=re c5
          repeat refine ai ?_
          refine bd ?_
          rw[hr,show aB L b o=false from by simp only[aB,c1,c2,c4',c5,bl]]
          rfl
         ·have c5:((ez L.shapes L.mends o).values==o.values)=true:=nz c5
          have hrest:aB L b o=(cl L.shapes o).all (fun p=>fq b p.2.to_ (u7 o.values p.1)):=by simp only[aB,c1,c2,c4',c5,Bool.true_and]
          rw[hrest] at hr
          repeat refine ai ?_
          refine oc (pN _ _) ?_
          repeat refine ai ?_
          refine ⟨(cl L.shapes o).map fO,fun k=>∀p,(cl L.shapes o)[k]? =some p→fq b p.2.to_ (u7 o.values p.1)=true,nc L o _,?_,?_,?_⟩
          ·intro X hX x hx
           obtain ⟨p,_,rfl⟩:=List.mem_map.1 hX
           obtain ⟨A,c,rfl⟩:=dd hx
           rfl
          ·intro k X hX x hx
           obtain ⟨p,hp,hpm,rfl⟩:=ky hX
           obtain ⟨A,c,rfl⟩:=dd hx
           have hpl:=jd hpm
           repeat refine ai ?_
           refine ⟨[(2,.ptr 0 0),(4,.ptr 2 0),(6,.ptr 3 0),(10,.d (.int .i64 p.1)),(11,.at_ [.str p.2.name,.int .i64 p.2.kind,.int .i64 p.2.least,.int .i64 p.2.most,.raw (.slice A (p.2.words.map eB).length c),.str p.2.to_,.int .i64 p.2.role,.bool p.2.must,.bool p.2.fixed,.str p.2.default_,.str p.2.weighs])],⟨rfl,rfl,⟨rfl,rfl,rfl,rfl,.inr ⟨_,_,_,_,rfl,Nat.le_of_ble_eq_true rfl,rfl,rfl,rfl⟩,trivial⟩,?_,?_⟩,?_⟩
           ·repeat' first|exact rfl|exact trivial|refine aj ?_ ?_
           ·repeat' first|exact rfl|exact trivial|refine aj ?_ ?_
           repeat refine ai ?_
           refine ak ?_
           repeat refine ai ?_
           refine O (e:=eB) (xs:=o.values) (hpl) rfl ?_
           repeat refine ai ?_
           refine oc (zR _ _ _) ?_
           repeat refine ai ?_
           refine aj ?_ ?_<;>intro d1
           ·repeat refine ai ?_
            refine bd ?_
            rw[hr,Aq hpm (by rw[ga hpl];exact kf d1)];rfl
           ·repeat refine ai ?_
            refine ⟨fun p' hp'=>?_,rfl,rfl,trivial,?_,?_⟩
            ·rw[hp] at hp'
             cases hp'
             rw[ga hpl];exact iH d1
            ·repeat' first|exact rfl|exact trivial|refine aj ?_ ?_
            ·repeat' first|exact rfl|exact trivial|refine aj ?_ ?_
          ·intro hall
           have hal:(cl L.shapes o).all (fun p=>fq b p.2.to_ (u7 o.values p.1))=true:=by
                rw[List.all_eq_true]
                intro p hp
                obtain ⟨k,hk,rfl⟩:=List.getElem_of_mem hp
                exact hall k (by rw[List.length_map];exact hk) _ (List.getElem?_eq_getElem hk)
           rw[hal,Bool.true_and] at hr
           repeat refine ai ?_
           exact bL hlt hs hr
        ·have c4':=od (a:=1) c4
         repeat refine ai ?_
         refine ay ?_
         repeat refine ai ?_
         refine bd ?_
         rw[hr,show aB L b o=false from by simp only[aB,c1,c2,c4',bl]]
         rfl
       ·have c3':=oa (b:=b.now) c3
        repeat refine ai ?_
        refine an ?_
        repeat refine ai ?_
        refine ay ?_
        repeat refine ai ?_
        refine bd ?_
        rw[hr,show aB L b o=false from by simp only[aB,c1,c2,c3',bl]]
        rfl
      ·have c2:=re (idx_lt.symm.trans c2)
       repeat refine ai ?_
       refine an ?_
       repeat refine ai ?_
       refine an ?_
       repeat refine ai ?_
       refine ay ?_
       repeat refine ai ?_
       refine bd ?_
       rw[hr,show aB L b o=false from by simp only[aB,c1,c2,bl]]
       rfl
   ·repeat refine ai ?_
    refine bd ?_
    rw[hr,hno true (by rw[a1];rfl)];rfl
  ·have hpv:cB b.objects i=none:=ci (px h2)
   rw[hpv] at hr
   replace hr:ar (kL L b) none b.objects=(aB L b b.objects[i]&&ar (kL L b) (cB b.objects (i+1)) (b.objects.drop (i+1))):=by rw[hr];rfl
   repeat refine ai ?_
   refine oc (j9 _ _) ?_
   rw[show jm L.shapes b.objects[i]=A5 L.shapes b.objects[i] from by unfold jm;rw[hx];rfl]
   generalize ho:b.objects[i]=o at*
   repeat refine ai ?_
   refine aj ?_ ?_<;>intro c1
   ·have c1:=re c1
    repeat refine ai ?_
    refine bd ?_
    rw[hr,show aB L b o=false from by simp only[aB,c1,bl]]
    rfl
   ·have c1:=nz c1
    repeat refine ai ?_
    refine ak ?_
    repeat refine ai ?_
    refine oc (fW _ _) ?_
    repeat refine ai ?_
    refine aj ?_ ?_<;>intro c2
    ·have c2:=nz (idx_lt.symm.trans c2)
     repeat refine ai ?_
     refine aj ?_ ?_<;>intro c3
     ·repeat refine ai ?_
      refine aj ?_ ?_<;>intro c4
      ·have c4':=lH c3 c4
       repeat refine ai ?_
       refine oc (jg _ _ _) ?_
       rw[hm,cond_true]
       repeat refine ai ?_
       refine oc (je _ _) ?_
       repeat refine ai ?_
       refine aj ?_ ?_<;>intro c5
       ·have c5:((ez L.shapes L.mends o).values==o.values)=false:=re c5
        repeat refine ai ?_
        refine bd ?_
        rw[hr,show aB L b o=false from by simp only[aB,c1,c2,c4',c5,bl]]
        rfl
       ·have c5:((ez L.shapes L.mends o).values==o.values)=true:=nz c5
        have hrest:aB L b o=(cl L.shapes o).all (fun p=>fq b p.2.to_ (u7 o.values p.1)):=by simp only[aB,c1,c2,c4',c5,Bool.true_and]
        rw[hrest] at hr
        repeat refine ai ?_
        refine oc (pN _ _) ?_
        repeat refine ai ?_
        refine ⟨(cl L.shapes o).map fO,fun k=>∀p,(cl L.shapes o)[k]? =some p→fq b p.2.to_ (u7 o.values p.1)=true,nc L o _,?_,?_,?_⟩
        ·intro X hX x hx
         obtain ⟨p,_,rfl⟩:=List.mem_map.1 hX
         obtain ⟨A,c,rfl⟩:=dd hx
         rfl
        ·intro k X hX x hx
         obtain ⟨p,hp,hpm,rfl⟩:=ky hX
         obtain ⟨A,c,rfl⟩:=dd hx
         have hpl:=jd hpm
         repeat refine ai ?_
         refine ⟨[(2,.ptr 0 0),(4,.ptr 2 0),(6,.ptr 3 0),(10,.d (.int .i64 p.1)),(11,.at_ [.str p.2.name,.int .i64 p.2.kind,.int .i64 p.2.least,.int .i64 p.2.most,.raw (.slice A (p.2.words.map eB).length c),.str p.2.to_,.int .i64 p.2.role,.bool p.2.must,.bool p.2.fixed,.str p.2.default_,.str p.2.weighs])],⟨rfl,rfl,⟨rfl,rfl,rfl,rfl,.inr ⟨_,_,_,_,rfl,Nat.le_of_ble_eq_true rfl,rfl,rfl,rfl⟩,trivial⟩,?_,?_⟩,?_⟩
         ·repeat' first|exact rfl|exact trivial|refine aj ?_ ?_
         ·repeat' first|exact rfl|exact trivial|refine aj ?_ ?_
         repeat refine ai ?_
         refine ak ?_
         repeat refine ai ?_
         refine O (e:=eB) (xs:=o.values) (hpl) rfl ?_
         repeat refine ai ?_
         refine oc (zR _ _ _) ?_
         repeat refine ai ?_
         refine aj ?_ ?_<;>intro d1
         ·repeat refine ai ?_
          refine bd ?_
          rw[hr,Aq hpm (by rw[ga hpl];exact kf d1)];rfl
         ·repeat refine ai ?_
          refine ⟨fun p' hp'=>?_,rfl,rfl,trivial,?_,?_⟩
          ·rw[hp] at hp'
           cases hp'
           rw[ga hpl];exact iH d1
          ·repeat' first|exact rfl|exact trivial|refine aj ?_ ?_
          ·repeat' first|exact rfl|exact trivial|refine aj ?_ ?_
        ·intro hall
         have hal:(cl L.shapes o).all (fun p=>fq b p.2.to_ (u7 o.values p.1))=true:=by
              rw[List.all_eq_true]
              intro p hp
              obtain ⟨k,hk,rfl⟩:=List.getElem_of_mem hp
              exact hall k (by rw[List.length_map];exact hk) _ (List.getElem?_eq_getElem hk)
         rw[hal,Bool.true_and] at hr
         repeat refine ai ?_
         exact bL hlt hs hr
      ·have c4':=od (a:=1) c4
       repeat refine ai ?_
       refine ay ?_
       repeat refine ai ?_
       refine bd ?_
       rw[hr,show aB L b o=false from by simp only[aB,c1,c2,c4',bl]]
       rfl
     ·have c3':=oa (b:=b.now) c3
      repeat refine ai ?_
      refine an ?_
      repeat refine ai ?_
      refine ay ?_
      repeat refine ai ?_
      refine bd ?_
      rw[hr,show aB L b o=false from by simp only[aB,c1,c2,c3',bl]]
      rfl
    ·have c2:=re (idx_lt.symm.trans c2)
     repeat refine ai ?_
     refine an ?_
     repeat refine ai ?_
     refine an ?_
     repeat refine ai ?_
     refine ay ?_
     repeat refine ai ?_
     refine bd ?_
     rw[hr,show aB L b o=false from by simp only[aB,c1,c2,bl]]
     rfl
 ·repeat refine ai ?_
  refine bd ?_
  rw[hr,eV (Y h1)]
end Go.Vc
end
section
namespace Go.Vc
open Go.Proofs
set_option maxRecDepth 100000
theorem kR (xs ys:List Bs):Spec P 173 [.d (lS xs),.d (lS ys)] (.d (.bool (xs==ys))):=by
 refine Spec.of_vc aJ aw [.tmp 4] Tryz.func173 rfl rfl rfl rfl (fun hok=>?_)
 have hs:xs.length≤big:=az hok.1.1
 repeat refine ai ?_
 refine aj ?_ ?_<;>intro h0
 ·refine bd ?_
  rw[List.length_map,List.length_map] at h0
  cases e:xs==ys with
  |false=>rfl
  |true=>rw[beq_iff_eq.1 e] at h0;simp at h0
 ·rw[List.length_map,List.length_map] at h0
  have hl:xs.length=ys.length:=by simp at h0;omega
  repeat refine ai ?_
  refine d9 (xs) (fun i=>(xs==ys)=(xs.drop i==ys.drop i)) (fun i=>[(0,.d (lS xs)),(1,.d (lS ys)),(5,.d (.int .i64 i))]) (fun i=>hp0) (rfl) ?_
  intro i hi hr
  repeat refine ai ?_
  refine aj ?_ ?_<;>intro h1
  ·have hlt:i<xs.length:=V h1
   have hlt':i<ys.length:=by omega
   rw[List.drop_eq_getElem_cons hlt,List.drop_eq_getElem_cons hlt',List.cons_beq_cons] at hr
   repeat refine ai ?_
   refine ak ?_
   repeat refine ai ?_
   refine O (e:=eB) (xs:=xs) (hlt) rfl ?_
   repeat refine ai ?_
   refine O (e:=eB) (xs:=ys) (hlt') rfl ?_
   repeat refine ai ?_
   refine aj ?_ ?_<;>intro h2
   ·refine bd ?_
    simp only[Bool.not_eq_true',Bool.not_eq_false'] at h2
    rw[hr,h2];rfl
   ·simp only[Bool.not_eq_true',Bool.not_eq_false'] at h2
    repeat refine ai ?_
    exact bL hlt hs (by rw[hr,h2];rfl)
  ·refine bd ?_
   have hge:=Y h1
   rw[hr,List.drop_of_length_le hge,List.drop_of_length_le (by omega)];rfl
theorem yl {xs:List GateShape} {o:GateObject} (h:((A5 xs o).1==0)=true):(ah xs o.kind o.values.length).2=true:=by
 unfold A5 kb at h
 cases hf:(ah xs o.kind o.values.length).2 with
 |true=>rfl
 |false=>rw[hf] at h;cases h
theorem AR {b:GateBook} (h:ei [st b.e]) {o:GateObject} (ho:o∈b.objects):o.values.length≤big∧o.holds.length≤big:=by
 have:=h.1
 simp only[st,AV.ok,GateBook.e,List.map,ei] at this
 refine xM ?_
 simp only[AV.ok]
 exact okRows_iff.1 this.2.2.2.1.2 _ (List.mem_map.2 ⟨o,ho,rfl⟩)
set_option maxHeartbeats 2000000 in
theorem sR (L:GateLaw) (b:GateBook) (hm:bw L.shapes L.mends=true):Spec P 115 [st L.e,st b.e] (.d (.bool (mR L b))):=by
 refine Spec.of_vc aJ aw [.tmp 4] Tryz.func115 rfl rfl rfl rfl (fun hok=>?_)
 have hs:=(bP hok.2).1
 obtain ⟨hx,hmm,hm12,hro⟩:=eU hm
 repeat refine ai ?_
 refine aj ?_ ?_<;>intro h0
 ·refine bd ?_
  rw[List.length_map] at h0
  rw[mR,h0];rfl
 rw[List.length_map] at h0
 have hob:mR L b=ar (kL L b) none b.objects:=by rw[mR,h0];rfl
 rw[hob]
 repeat refine ai ?_
 refine d9 (b.objects) (fun i=>ar (kL L b) none b.objects=ar (kL L b) (cB b.objects i) (b.objects.drop i)) (fun i=>[(2,.ptr 0 0),(3,.ptr 1 0),(5,.d (.int .i64 i))]) (fun i=>⟨[(1,.cells 48 (b.e.map .d)),(0,.cells 41 (L.e.map .d))],2,0⟩) (rfl) ?_
 intro i hi hr
 repeat refine ai ?_
 refine aj ?_ ?_<;>intro h1
 ·have hlt:i<b.objects.length:=V h1
  rw[dS hlt] at hr
  repeat refine ai ?_
  refine O (e:=GateObject.e) (xs:=b.objects) (hlt) rfl ?_
  repeat refine ai ?_
  have hvb:=(AR hok.2 (List.getElem_mem hlt)).1
  generalize ho:b.objects[i]=o at*
  have hob0:∀c,(match cB b.objects i with|some q=>gl q.kind q.name o.kind o.name|none=>true)=c→kL L b (cB b.objects i) o=(c&&aB L b o):=fun c h=>by rw[←h];rfl
  repeat refine ai ?_
  refine oc (BK _ _) ?_
  repeat refine ai ?_
  refine aj ?_ ?_<;>intro c1
  ·have c1:((A5 L.shapes o).1==0)=true:=nz c1
   repeat refine ai ?_
   refine oc (mr _ _) ?_
   repeat refine ai ?_
   refine aj ?_ ?_<;>intro c2
   ·have c2:(L.teams.any (·.name==o.team))=true:=nz c2
    repeat refine ai ?_
    refine oc (d7 _ _ _) ?_
    repeat refine ai ?_
    refine aj ?_ ?_<;>intro c3
    ·have c3:fj o.version 1 b.now=false:=re c3
     repeat refine ai ?_
     refine bd ?_
     rw[hr,show kL L b (cB b.objects i) o=false from by rw[hob0 _ rfl];simp only[aB,c1,c2,c3,bl]]
     rfl
    ·have c3:fj o.version 1 b.now=true:=nz c3
     repeat refine ai ?_
     refine ak ?_
     repeat refine ai ?_
     refine aj ?_ ?_<;>intro p1
     ·have h3:=lJ p1
      have hpv:cB b.objects i=some (b.objects[i - 1]'(by omega)):=cg h3 hlt
      repeat refine ai ?_
      refine aC (e:=GateObject.e) (xs:=b.objects) ((show i - 1<b.objects.length by omega)) (aX h3 hlt hs) rfl ?_
      repeat refine ai ?_
      refine aC (e:=GateObject.e) (xs:=b.objects) ((show i - 1<b.objects.length by omega)) (aX h3 hlt hs) rfl ?_
      repeat refine ai ?_
      rw[hpv] at hob0
      repeat refine ai ?_
      refine oc (vz _ _ _ _) ?_
      repeat refine ai ?_
      refine aj ?_ ?_<;>intro p2
      ·have hp:=(pF _ _ _ _).symm.trans p2
       rw[Bool.not_eq_true'] at hp
       repeat refine ai ?_
       refine bd ?_
       rw[hr,hpv,hob0 false hp];rfl
      ·have hp:=(pF _ _ _ _).symm.trans p2
       rw[Bool.not_eq_false'] at hp
       rw[hpv,hob0 true hp,Bool.true_and] at hr
       repeat refine ai ?_
       refine ak ?_
       repeat refine ai ?_
       refine oc (qI L.shapes L.mends o hx hmm) ?_
       repeat refine ai ?_
       refine oc (kR _ _) ?_
       repeat refine ai ?_
       refine aj ?_ ?_<;>intro c5
       ·have c5:((ez L.shapes L.mends o).values==o.values)=false:=re c5
        repeat refine ai ?_
        refine bd ?_
        rw[hr,show aB L b o=false from by simp only[aB,c1,c2,c3,c5,bl]]
        rfl
       ·have c5:((ez L.shapes L.mends o).values==o.values)=true:=nz c5
        have hrest:aB L b o=(ca (ah L.shapes o.kind o.values.length).1 o.values 0).all (fun p=>fq b p.2.to_ (u7 o.values p.1)):=by simp only[aB,c1,c2,c3,c5,Bool.true_and];rfl
        rw[hrest] at hr
        repeat refine ai ?_
        refine oc (eD _ _) ?_
        have hfl:=(ct (xs:=L.shapes) (k:=o.kind) (n:=o.values.length)).2 (yl c1)
        generalize (ah L.shapes o.kind o.values.length).1=fs at*
        have hfs:fs.length≤big:=by omega
        generalize hlk:(ca fs o.values 0).all (fun p=>fq b p.2.to_ (u7 o.values p.1))=lk at*
        generalize hck:ar (kL L b) none b.objects=ck at*
        have hrO:=hr
        clear hr
        repeat refine ai ?_
        refine d9 (fs) (fun k=>lk=(ca (fs.drop k) (o.values.drop k) k).all (fun p=>fq b p.2.to_ (u7 o.values p.1))) (fun k=>[(2,.ptr 0 0),(3,.ptr 1 0),(5,.d (.int .i64 i)),(6,.ptr 2 0),(9,.d (ab fs)),(11,.d (.int .i64 k))]) (fun k=>⟨[(2,.cells 103 (o.e.map .d)),(1,.cells 48 (b.e.map .d)),(0,.cells 41 (L.e.map .d))],3,0⟩) (hlk.symm) ?_
        intro k hk hr
        repeat refine ai ?_
        refine aj ?_ ?_<;>intro g1
        ·have hlk1:k<fs.length:=V g1
         have hlk2:k<o.values.length:=by omega
         rw[hM hlk1 hlk2] at hr
         repeat refine ai ?_
         refine ak ?_
         repeat refine ai ?_
         refine O (e:=GateField.e) (xs:=fs) (hlk1) rfl ?_
         repeat refine ai ?_
         refine aj ?_ ?_<;>intro g2
         ·repeat refine ai ?_
          refine O (e:=eB) (xs:=o.values) (hlk2) rfl ?_
          repeat refine ai ?_
          refine aj ?_ ?_<;>intro g3
          ·have hc:(fs[k].kind==4&& !(o.values[k]==[]))=true:=by rw[g2];exact g3
           rw[hc,cond_true,List.all_cons] at hr
           repeat refine ai ?_
           refine O (e:=GateField.e) (xs:=fs) (hlk1) rfl ?_
           repeat refine ai ?_
           refine O (e:=eB) (xs:=o.values) (hlk2) rfl ?_
           repeat refine ai ?_
           refine oc (CY _ _ _) ?_
           repeat refine ai ?_
           refine aj ?_ ?_<;>intro g4
           ·refine bd ?_
            rw[ga hlk2,kf g4,Bool.false_and] at hr
            rw[hrO,hr];rfl
           ·rw[ga hlk2,iH g4,Bool.true_and] at hr
            repeat refine ai ?_
            exact ⟨_,_,_,⟨k+1,rfl,hlk1,hr,rfl,rfl⟩,by omega,rfl,rfl,⟨rfl,rfl,rfl,rfl,rfl,nd (Z hlk1 hfs),trivial⟩,(by repeat' first|exact rfl|exact trivial|refine aj ?_ ?_),(by repeat' first|exact rfl|exact trivial|refine aj ?_ ?_)⟩
          ·have hc:(fs[k].kind==4&& !(o.values[k]==[]))=false:=by rw[g2];exact g3
           rw[hc,cond_false] at hr
           repeat refine ai ?_
           refine an ?_
           repeat refine ai ?_
           exact ⟨_,_,_,⟨k+1,rfl,hlk1,hr,rfl,rfl⟩,by omega,rfl,rfl,⟨rfl,rfl,rfl,rfl,rfl,nd (Z hlk1 hfs),trivial⟩,(by repeat' first|exact rfl|exact trivial|refine aj ?_ ?_),(by repeat' first|exact rfl|exact trivial|refine aj ?_ ?_)⟩
         ·have hc:(fs[k].kind==4&& !(o.values[k]==[]))=false:=by rw[g2];rfl
          rw[hc,cond_false] at hr
          repeat refine ai ?_
          refine an ?_
          repeat refine ai ?_
          refine an ?_
          repeat refine ai ?_
          exact ⟨_,_,_,⟨k+1,rfl,hlk1,hr,rfl,rfl⟩,by omega,rfl,rfl,⟨rfl,rfl,rfl,rfl,rfl,nd (Z hlk1 hfs),trivial⟩,(by repeat' first|exact rfl|exact trivial|refine aj ?_ ?_),(by repeat' first|exact rfl|exact trivial|refine aj ?_ ?_)⟩
        ·rw[List.drop_of_length_le (Y g1),lG rfl] at hr
         have hl:lk=true:=hr
         rw[hl,Bool.true_and] at hrO
         repeat refine ai ?_
         exact bL hlt hs hrO
     ·have hpv:=ci (xs:=b.objects) (px p1)
      rw[hpv] at hr
      rw[hpv] at hob0
      rw[hob0 true rfl,Bool.true_and] at hr
      repeat refine ai ?_
      refine an ?_
      repeat refine ai ?_
      refine ak ?_
      repeat refine ai ?_
      refine oc (qI L.shapes L.mends o hx hmm) ?_
      repeat refine ai ?_
      refine oc (kR _ _) ?_
      repeat refine ai ?_
      refine aj ?_ ?_<;>intro c5
      ·have c5:((ez L.shapes L.mends o).values==o.values)=false:=re c5
       repeat refine ai ?_
       refine bd ?_
       rw[hr,show aB L b o=false from by simp only[aB,c1,c2,c3,c5,bl]]
       rfl
      ·have c5:((ez L.shapes L.mends o).values==o.values)=true:=nz c5
       have hrest:aB L b o=(ca (ah L.shapes o.kind o.values.length).1 o.values 0).all (fun p=>fq b p.2.to_ (u7 o.values p.1)):=by simp only[aB,c1,c2,c3,c5,Bool.true_and];rfl
       rw[hrest] at hr
       repeat refine ai ?_
       refine oc (eD _ _) ?_
       have hfl:=(ct (xs:=L.shapes) (k:=o.kind) (n:=o.values.length)).2 (yl c1)
       generalize (ah L.shapes o.kind o.values.length).1=fs at*
       have hfs:fs.length≤big:=by omega
       generalize hlk:(ca fs o.values 0).all (fun p=>fq b p.2.to_ (u7 o.values p.1))=lk at*
       generalize hck:ar (kL L b) none b.objects=ck at*
       have hrO:=hr
       clear hr
       repeat refine ai ?_
       refine d9 (fs) (fun k=>lk=(ca (fs.drop k) (o.values.drop k) k).all (fun p=>fq b p.2.to_ (u7 o.values p.1))) (fun k=>[(2,.ptr 0 0),(3,.ptr 1 0),(5,.d (.int .i64 i)),(6,.ptr 2 0),(9,.d (ab fs)),(11,.d (.int .i64 k))]) (fun k=>⟨[(2,.cells 103 (o.e.map .d)),(1,.cells 48 (b.e.map .d)),(0,.cells 41 (L.e.map .d))],3,0⟩) (hlk.symm) ?_
       intro k hk hr
       repeat refine ai ?_
       refine aj ?_ ?_<;>intro g1
       ·have hlk1:k<fs.length:=V g1
        have hlk2:k<o.values.length:=by omega
        rw[hM hlk1 hlk2] at hr
        repeat refine ai ?_
        refine ak ?_
        repeat refine ai ?_
        refine O (e:=GateField.e) (xs:=fs) (hlk1) rfl ?_
        repeat refine ai ?_
        refine aj ?_ ?_<;>intro g2
        ·repeat refine ai ?_
         refine O (e:=eB) (xs:=o.values) (hlk2) rfl ?_
         repeat refine ai ?_
         refine aj ?_ ?_<;>intro g3
         ·have hc:(fs[k].kind==4&& !(o.values[k]==[]))=true:=by rw[g2];exact g3
          rw[hc,cond_true,List.all_cons] at hr
          repeat refine ai ?_
          refine O (e:=GateField.e) (xs:=fs) (hlk1) rfl ?_
          repeat refine ai ?_
          refine O (e:=eB) (xs:=o.values) (hlk2) rfl ?_
          repeat refine ai ?_
          refine oc (CY _ _ _) ?_
          repeat refine ai ?_
          refine aj ?_ ?_<;>intro g4
          ·refine bd ?_
           rw[ga hlk2,kf g4,Bool.false_and] at hr
           rw[hrO,hr];rfl
          ·rw[ga hlk2,iH g4,Bool.true_and] at hr
           repeat refine ai ?_
           exact ⟨_,_,_,⟨k+1,rfl,hlk1,hr,rfl,rfl⟩,by omega,rfl,rfl,⟨rfl,rfl,rfl,rfl,rfl,nd (Z hlk1 hfs),trivial⟩,(by repeat' first|exact rfl|exact trivial|refine aj ?_ ?_),(by repeat' first|exact rfl|exact trivial|refine aj ?_ ?_)⟩
         ·have hc:(fs[k].kind==4&& !(o.values[k]==[]))=false:=by rw[g2];exact g3
          rw[hc,cond_false] at hr
          repeat refine ai ?_
          refine an ?_
          repeat refine ai ?_
          exact ⟨_,_,_,⟨k+1,rfl,hlk1,hr,rfl,rfl⟩,by omega,rfl,rfl,⟨rfl,rfl,rfl,rfl,rfl,nd (Z hlk1 hfs),trivial⟩,(by repeat' first|exact rfl|exact trivial|refine aj ?_ ?_),(by repeat' first|exact rfl|exact trivial|refine aj ?_ ?_)⟩
        ·have hc:(fs[k].kind==4&& !(o.values[k]==[]))=false:=by rw[g2];rfl
         rw[hc,cond_false] at hr
         repeat refine ai ?_
         refine an ?_
         repeat refine ai ?_
         refine an ?_
         repeat refine ai ?_
         exact ⟨_,_,_,⟨k+1,rfl,hlk1,hr,rfl,rfl⟩,by omega,rfl,rfl,⟨rfl,rfl,rfl,rfl,rfl,nd (Z hlk1 hfs),trivial⟩,(by repeat' first|exact rfl|exact trivial|refine aj ?_ ?_),(by repeat' first|exact rfl|exact trivial|refine aj ?_ ?_)⟩
       ·rw[List.drop_of_length_le (Y g1),lG rfl] at hr
        have hl:lk=true:=hr
        rw[hl,Bool.true_and] at hrO
        repeat refine ai ?_
        exact bL hlt hs hrO
   ·have c2:(L.teams.any (·.name==o.team))=false:=re c2
    repeat refine ai ?_
    refine bd ?_
    rw[hr,show kL L b (cB b.objects i) o=false from by rw[hob0 _ rfl];simp only[aB,c1,c2,bl]]
    rfl
  ·have c1:((A5 L.shapes o).1==0)=false:=re c1
   repeat refine ai ?_
   refine bd ?_
   rw[hr,show kL L b (cB b.objects i) o=false from by rw[hob0 _ rfl];simp only[aB,c1,bl]]
   rfl
 ·refine bd ?_
  rw[hr,eV (Y h1)]
end Go.Vc
end
section
namespace Go.Vc
open Go.Proofs
set_option maxRecDepth 100000
def xD (p:Option GateGrant) (n:Int):Bool:=match p with|some q=> !decide (q.number≥n)|none=>true
def eK (b:GateBook) (p:Option GateGrant) (g:GateGrant):Bool:=fj g.number 1 b.given&&(xD p g.number&&(aU g.to_&&((g.by_==[]||aU g.by_)&&bb g.rule)))
def gv (b:GateBook):Bool:= !decide ((b.grants.length:Int)>24)&&ar (eK b) none b.grants
theorem m9 (n a b:Int):fj n a b=(!decide (n<a)&& !decide (n>b)):=by
 unfold fj
 congr 1
 ·by_cases h:n<a
  ·rw[decide_eq_true h,decide_eq_false (by omega)];rfl
  ·rw[decide_eq_false h,decide_eq_true (by omega)];rfl
 ·by_cases h:n>b
  ·rw[decide_eq_true h,decide_eq_false (by omega)];rfl
  ·rw[decide_eq_false h,decide_eq_true (by omega)];rfl
set_option maxHeartbeats 2000000 in
theorem zQ (b:GateBook):Spec P 127 [st b.e] (.d (.bool (gv b))):=by
 refine Spec.of_vc aJ aw [.tmp 2] Tryz.func127 rfl rfl rfl rfl (fun hok=>?_)
 have hs:=(bP hok).2.1
 repeat refine ai ?_
 refine aj ?_ ?_<;>intro h0
 ·refine bd ?_
  rw[List.length_map] at h0
  rw[gv,h0];rfl
 rw[List.length_map] at h0
 have hob:gv b=ar (eK b) none b.grants:=by rw[gv,h0];rfl
 rw[hob]
 repeat refine ai ?_
 refine d9 (b.grants) (fun i=>ar (eK b) none b.grants=ar (eK b) (cB b.grants i) (b.grants.drop i)) (fun i=>[(1,.ptr 0 0),(10,.d (bp b.grants)),(11,.d (.int .i64 (b.grants.map GateGrant.e).length)),(12,.d (.int .i64 i))]) (fun i=>⟨[(0,.cells 48 (b.e.map .d))],1,0⟩) (rfl) ?_
 intro i hi hr
 repeat refine ai ?_
 refine aj ?_ ?_<;>intro h1
 ·have hlt:i<b.grants.length:=V h1
  rw[dS hlt] at hr
  repeat refine ai ?_
  refine O (e:=GateGrant.e) (xs:=b.grants) (hlt) rfl ?_
  repeat refine ai ?_
  refine ak ?_
  repeat refine ai ?_
  repeat' first
   |refine ai ?_
   |(refine n1 ?_;intro h)
   |(refine n2 ?_;intro h)
   |(refine n3 ?_;intro h)
   |(refine n4 ?_;intro h)
   |(refine aj ?_ ?_<;>intro h)
   |refine oc (c8 _) ?_
   |refine oc (DG _) ?_
   |refine ak ?_
   |refine aC (e:=GateGrant.e) (xs:=b.grants) (k:=i - 1) (by omega) (aX (lJ (by assumption)) hlt hs) rfl ?_
  all_goals (first|rw[cg (lJ (by assumption)) hlt] at hr|rw[ci (px (by assumption))] at hr|skip)
  all_goals (simp only[cond_false,cond_true,Bool.not_eq_true',Bool.not_eq_false',reduceCtorEq] at*)
  all_goals first
   |(refine bd ?_
     rw[hr]
     clear hr
     simp only[eK,xD,m9, *,bl]
     done)
   |(refine (fun hq:ar (eK b) none b.grants=ar (eK b) (cB b.grants (i+1)) (b.grants.drop (i+1))=>?_) ?_
     rotate_left
     ·rw[hr]
      clear hr
      simp only[eK,xD,m9, *,bl]
      done
     ·repeat refine ai ?_
      exact bL hlt hs hq)
 ·refine bd ?_
  rw[hr,eV (Y h1)]
set_option maxHeartbeats 2000000 in
theorem vB (b:GateBook):Spec P 116 [st b.e] (.d (.bool (gv b))):=by
 refine Spec.of_vc aJ aw [.tmp 2] Tryz.func116 rfl rfl rfl rfl (fun hok=>?_)
 have hs:=(bP hok).2.1
 repeat refine ai ?_
 refine aj ?_ ?_<;>intro h0
 ·refine bd ?_
  rw[List.length_map] at h0
  rw[gv,h0];rfl
 rw[List.length_map] at h0
 have hob:gv b=ar (eK b) none b.grants:=by rw[gv,h0];rfl
 rw[hob]
 repeat refine ai ?_
 refine d9 (b.grants) (fun i=>ar (eK b) none b.grants=ar (eK b) (cB b.grants i) (b.grants.drop i)) (fun i=>[(1,.ptr 0 0),(3,.d (.int .i64 i))]) (fun i=>⟨[(0,.cells 48 (b.e.map .d))],1,0⟩) (rfl) ?_
 intro i hi hr
 repeat refine ai ?_
 refine aj ?_ ?_<;>intro h1
 ·have hlt:i<b.grants.length:=V h1
  rw[dS hlt] at hr
  repeat refine ai ?_
  refine O (e:=GateGrant.e) (xs:=b.grants) (hlt) rfl ?_
  repeat refine ai ?_
  refine ak ?_
  repeat refine ai ?_
  repeat' first
   |refine ai ?_
   |(refine n1 ?_;intro h)
   |(refine n2 ?_;intro h)
   |(refine n3 ?_;intro h)
   |(refine n4 ?_;intro h)
   |(refine aj ?_ ?_<;>intro h)
   |refine oc (d7 _ _ _) ?_
   |refine oc (bC _) ?_
   |refine oc (zh _) ?_
   |refine ak ?_
   |refine aC (e:=GateGrant.e) (xs:=b.grants) (k:=i - 1) (by omega) (aX (lJ (by assumption)) hlt hs) rfl ?_
  all_goals (first|rw[cg (lJ (by assumption)) hlt] at hr|rw[ci (px (by assumption))] at hr|skip)
  all_goals (simp only[cond_false,cond_true,Bool.not_eq_true',Bool.not_eq_false',reduceCtorEq] at*)
  all_goals first
   |(refine bd ?_
     rw[hr]
     clear hr
     simp only[eK,xD, *,bl]
     done)
   |(refine (fun hq:ar (eK b) none b.grants=ar (eK b) (cB b.grants (i+1)) (b.grants.drop (i+1))=>?_) ?_
     rotate_left
     ·rw[hr]
      clear hr
      simp only[eK,xD, *,bl]
      done
     ·repeat refine ai ?_
      exact bL hlt hs hq)
 ·refine bd ?_
  rw[hr,eV (Y h1)]
end Go.Vc
end
section
namespace Go.Vc
open Go.Proofs
set_option maxRecDepth 100000
def gb (xs:List GateTeam):Nat→Bs→Bs→Bool
 |0,a,b=>a==b
 |k+1,a,b=>a==b||(!(dc a xs==[])&&gb xs k (dc a xs) b)
def oF (xs:List GateTeam) (a b:Bs):Bool:=gb xs 4 a b
theorem qX:∀{xs:List GateTeam} {n:Bs},xs.any (·.name==n)=false→dc n xs=[]
 |[],_,_=>rfl
 |x::xs,n,h=>by
  rw[List.any_cons,Bool.or_eq_false_iff] at h
  simp only[dc,h.1,cond_false]
  exact qX h.2
theorem Au {k n:Nat} (h:k<n) (hn:n≤100):IntKind.i64.wrap ((k:Int)+1)=((k+1:Nat):Int):=by
 rw[IntKind.wrap_i64];omega
theorem xp (xs:List GateTeam) (a b:Bs):Spec P 155 [.d (am xs),.d (.str a),.d (.str b)] (.d (.bool (oF xs a b))):=by
 refine Spec.of_vc aJ aw [.tmp 6] Tryz.func155 rfl rfl rfl rfl (fun hok=>?_)
 repeat refine ai ?_
 refine aj ?_ ?_<;>intro h0
 ·refine bd ?_
  simp only[oF,gb,h0,Bool.true_or]
 have hu:oF xs a b=(!(dc a xs==[])&&gb xs 3 (dc a xs) b):=by simp only[oF,gb,h0,Bool.false_or]
 rw[hu]
 repeat refine ai ?_
 refine ⟨fun m l h=>∃(s:Nat) (x:Bs),m=4 - s∧s≤4∧(!(dc a xs==[])&&gb xs 3 (dc a xs) b)=(bif Nat.ble 4 s then false else (!(dc x xs==[])&&gb xs (3 - s) (dc x xs) b))∧l=[(0,.d (am xs)),(1,.d (.str x)),(2,.d (.str b)),(7,.d (.int .i64 s))]∧h=hp0,
  ⟨_,_,_,⟨0,a,rfl,by decide,rfl,rfl,rfl⟩,rfl,rfl,⟨rfl,rfl,rfl,rfl,trivial⟩,trivial,trivial⟩,?_⟩
 rintro m l hh ⟨s,x,rfl,hs,hr,rfl,rfl⟩
 repeat refine ai ?_
 refine aj ?_ ?_<;>intro h1
 ·have hs4:s<4:=by have:=of_decide_eq_true h1;omega
  rw[show Nat.ble 4 s=false from by cases e:Nat.ble 4 s;rfl;have:=Nat.le_of_ble_eq_true e;omega,cond_false] at hr
  repeat refine ai ?_
  refine oc (jP _ _) ?_
  repeat refine ai ?_
  refine aj ?_ ?_<;>intro h2
  ·refine bd ?_
   rw[hr,h2];rfl
  ·rw[h2,Bool.not_false,Bool.true_and] at hr
   generalize dc x xs=y at*
   repeat refine ai ?_
   refine aj ?_ ?_<;>intro h3
   ·refine bd ?_
    rw[hr]
    cases (3 - s)<;>simp only[gb,h3,Bool.true_or]
   ·repeat refine ai ?_
    refine ⟨_,_,_,⟨s+1,y,rfl,hs4,?_,rfl,rfl⟩,by omega,rfl,rfl,⟨rfl,rfl,rfl,nd (Au hs4 (by decide)),trivial⟩,trivial,trivial⟩
    rw[hr]
    rcases (show s=0∨s=1∨s=2∨s=3 by omega) with rfl|rfl|rfl|rfl
    ·show (y==b||_)=_
     rw[h3];rfl
    ·show (y==b||_)=_
     rw[h3];rfl
    ·show (y==b||_)=_
     rw[h3];rfl
    ·exact h3
 ·have hs4:s=4:=by have:=of_decide_eq_false h1;omega
  subst hs4
  refine bd ?_
  rw[hr];rfl
theorem yq (xs:List GateTeam) (a b:Bs):Spec P 159 [.d (am xs),.d (.str a),.d (.str b)] (.d (.bool (oF xs a b))):=by
 refine Spec.of_vc aJ aw [.tmp 6] Tryz.func159 rfl rfl rfl rfl (fun hok=>?_)
 refine ⟨fun m l h=>∃(s:Nat) (x:Bs),m=4 - s∧s≤4∧oF xs a b=gb xs (4 - s) x b∧l=[(0,.d (am xs)),(1,.d (.str x)),(2,.d (.str b)),(7,.d (.int .i64 s))]∧h=hp0,
  ⟨_,_,_,⟨0,a,rfl,by decide,rfl,rfl,rfl⟩,rfl,rfl,⟨rfl,rfl,rfl,rfl,trivial⟩,trivial,trivial⟩,?_⟩
 rintro m l hh ⟨s,x,rfl,hs,hr,rfl,rfl⟩
 repeat refine ai ?_
 refine aj ?_ ?_<;>intro h1
 ·have h1:(x==b)=false:=re h1
  repeat refine ai ?_
  refine oc (fW _ _) ?_
  repeat refine ai ?_
  refine aj ?_ ?_<;>intro h2
  ·have hs4:s<4:=by
    have:=beq_eq_false_iff_ne.1 h2
    omega
   have hu:gb xs (4 - s) x b=(!(dc x xs==[])&&gb xs (4 - (s+1)) (dc x xs) b):=by
    rw[show 4 - s=(4 - (s+1))+1 from by omega]
    show (x==b||_)=_
    rw[h1];rfl
   rw[hu] at hr
   repeat refine ai ?_
   refine aj ?_ ?_<;>intro h3
   ·obtain ⟨j,hj,ej,_⟩:=dE (p:=fun t:GateTeam=>t.name==x) (xs:=xs) (decide_eq_true (by have:=of_decide_eq_false h3;omega))
    obtain ⟨_,eo⟩:=nW (n:=x) (xs:=xs) (k:=0) (j:=j) (by rw[Nat.zero_add];exact ej)
    repeat refine ai ?_
    refine aC (e:=GateTeam.e) (xs:=xs) (hj) (ej) rfl ?_
    repeat refine ai ?_
    refine aj ?_ ?_<;>intro h4
    ·refine bd ?_
     rw[hr,eo,h4];rfl
    ·repeat refine ai ?_
     refine aC (e:=GateTeam.e) (xs:=xs) (hj) (ej) rfl ?_
     repeat refine ai ?_
     rw[eo,h4,Bool.not_false,Bool.true_and] at hr
     repeat refine ai ?_
     exact ⟨_,_,_,⟨s+1,_,rfl,hs4,hr,rfl,rfl⟩,by omega,rfl,rfl,⟨rfl,rfl,rfl,nd (Au hs4 (by decide)),trivial⟩,trivial,trivial⟩
   ·have hn:=re (idx_lt.symm.trans h3)
    rw[qX hn] at hr
    refine bd ?_
    rw[hr];rfl
  ·have hs4:s=4:=by
    have:=beq_iff_eq.1 h2
    omega
   subst hs4
   refine bd ?_
   rw[hr]
   exact h1.symm
 ·have h1:(x==b)=true:=nz h1
  refine bd ?_
  rw[hr]
  cases (4 - s)<;>simp only[gb,h1,Bool.true_or]
def dA (a b:Int):Int:=IntKind.i64.wrap (a+b)
theorem tE {a:Int} (h:IntKind.i64.wrap a=a):dA a 0=a:=by unfold dA;rw[Int.add_zero,h]
theorem Bp (a:Int):IntKind.i64.wrap (IntKind.i64.wrap a)=IntKind.i64.wrap a:=by simp only[IntKind.wrap_i64];omega
theorem pE (a b:Int):IntKind.i64.wrap (dA a b)=dA a b:=Bp _
theorem G7 (c:Bool):IntKind.i64.wrap (bif c then 1 else 0)=bif c then 1 else 0:=by cases c<;>rfl
def eC (r:Bs):List GateField→List Bs→Int→Int
 |f::fs,v::vs,n=>eC r fs vs (bif f.kind==1&&f.weighs==r then dA n (iB v) else n)
 |_,_,n=>n
theorem gS {r:Bs} {fs:List GateField} {vs:List Bs} {i:Nat} {n:Int} (h:i<fs.length) (h2:i<vs.length):eC r (fs.drop i) (vs.drop i) n=eC r (fs.drop (i+1)) (vs.drop (i+1)) (bif fs[i].kind==1&&fs[i].weighs==r then dA n (iB vs[i]) else n):=by
 rw[List.drop_eq_getElem_cons h,List.drop_eq_getElem_cons h2];rfl
theorem iL {r:Bs} {fs:List GateField} {vs:List Bs} {i:Nat} {n:Int} (h:fs.length≤i):eC r (fs.drop i) (vs.drop i) n=n:=by
 rw[List.drop_of_length_le h];rfl
def eZ (L:GateLaw) (o:GateObject) (r:Bs):Int:=bif !(ah L.shapes o.kind o.values.length).2||r==[] then 0 else eC r (ah L.shapes o.kind o.values.length).1 o.values (bif r==o.kind then 1 else 0)
theorem wo (L:GateLaw) (o:GateObject) (r:Bs):Spec P 160 [st L.e,st o.e,.d (.str r)] (.d (.int .i64 (eZ L o r))):=by
 refine Spec.of_vc aJ aw [.tmp 6] Tryz.func160 rfl rfl rfl rfl (fun hok=>?_)
 have hvb:=(i5 (o:=o) ⟨hok.2.1,trivial⟩).1
 repeat refine ai ?_
 refine oc (fC _ _) ?_
 repeat refine ai ?_
 refine aj ?_ ?_<;>intro h0
 ·have h0:=nz h0
  repeat refine ai ?_
  refine aj ?_ ?_<;>intro h1
  ·refine nd ?_
   simp only[eZ,h0,h1,cond_true,bl]
  ·have hw:eZ L o r=eC r (ah L.shapes o.kind o.values.length).1 o.values (bif r==o.kind then 1 else 0):=by simp only[eZ,h0,h1,cond_false,bl]
   have hfl:=(ct (xs:=L.shapes) (k:=o.kind) (n:=o.values.length)).2 h0
   rw[hw]
   generalize (ah L.shapes o.kind o.values.length).1=fs at*
   repeat refine ai ?_
   refine aj ?_ ?_<;>intro h2
   ·rw[h2,cond_true]
    repeat refine ai ?_
    refine m4 (fs) (fun i (n:Int)=>eC r fs o.values 1=eC r (fs.drop i) (o.values.drop i) n) (fun i (n:Int)=>[(2,.d (.str r)),(4,.ptr 1 0),(9,.d (.int .i64 n)),(31,.d (ab fs)),(32,.d (.int .i64 (fs.map GateField.e).length)),(33,.d (.int .i64 i))]) (fun i (n:Int)=>⟨[(1,.cells 103 (o.e.map .d)),(0,.cells 41 (L.e.map .d))],2,0⟩) (rfl) ?_
    intro i n hi hr
    have hs:fs.length≤big:=by omega
    repeat refine ai ?_
    refine aj ?_ ?_<;>intro g1
    ·have hlt:i<fs.length:=V g1
     have hlt2:i<o.values.length:=by omega
     rw[gS hlt hlt2] at hr
     repeat refine ai ?_
     refine O (e:=GateField.e) (xs:=fs) (hlt) rfl ?_
     repeat refine ai ?_
     refine aj ?_ ?_<;>intro g2
     ·repeat refine ai ?_
      refine aj ?_ ?_<;>intro g3
      ·have hc:(fs[i].kind==1&&fs[i].weighs==r)=false:=by rw[nz g2,re g3];rfl
       rw[hc,cond_false] at hr
       repeat refine ai ?_
       exact cQ n hlt hs hr
      ·have hc:(fs[i].kind==1&&fs[i].weighs==r)=true:=by rw[nz g2,nz g3];rfl
       rw[hc,cond_true] at hr
       repeat refine ai ?_
       refine O (e:=eB) (xs:=o.values) (hlt2) rfl ?_
       repeat refine ai ?_
       refine oc (oo _) ?_
       repeat refine ai ?_
       exact cQ (dA n (iB o.values[i])) hlt hs hr
     ·have hc:(fs[i].kind==1&&fs[i].weighs==r)=false:=by rw[re g2];rfl
      rw[hc,cond_false] at hr
      repeat refine ai ?_
      exact cQ n hlt hs hr
    ·refine nd ?_
     rw[hr,iL (Y g1)]
   ·rw[h2,cond_false]
    repeat refine ai ?_
    refine m4 (fs) (fun i (n:Int)=>eC r fs o.values 0=eC r (fs.drop i) (o.values.drop i) n) (fun i (n:Int)=>[(2,.d (.str r)),(4,.ptr 1 0),(9,.d (.int .i64 n)),(31,.d (ab fs)),(32,.d (.int .i64 (fs.map GateField.e).length)),(33,.d (.int .i64 i))]) (fun i (n:Int)=>⟨[(1,.cells 103 (o.e.map .d)),(0,.cells 41 (L.e.map .d))],2,0⟩) (rfl) ?_
    intro i n hi hr
    have hs:fs.length≤big:=by omega
    repeat refine ai ?_
    refine aj ?_ ?_<;>intro g1
    ·have hlt:i<fs.length:=V g1
     have hlt2:i<o.values.length:=by omega
     rw[gS hlt hlt2] at hr
     repeat refine ai ?_
     refine O (e:=GateField.e) (xs:=fs) (hlt) rfl ?_
     repeat refine ai ?_
     refine aj ?_ ?_<;>intro g2
     ·repeat refine ai ?_
      refine aj ?_ ?_<;>intro g3
      ·have hc:(fs[i].kind==1&&fs[i].weighs==r)=false:=by rw[nz g2,re g3];rfl
       rw[hc,cond_false] at hr
       repeat refine ai ?_
       exact cQ n hlt hs hr
      ·have hc:(fs[i].kind==1&&fs[i].weighs==r)=true:=by rw[nz g2,nz g3];rfl
       rw[hc,cond_true] at hr
       repeat refine ai ?_
       refine O (e:=eB) (xs:=o.values) (hlt2) rfl ?_
       repeat refine ai ?_
       refine oc (oo _) ?_
       repeat refine ai ?_
       exact cQ (dA n (iB o.values[i])) hlt hs hr
     ·have hc:(fs[i].kind==1&&fs[i].weighs==r)=false:=by rw[re g2];rfl
      rw[hc,cond_false] at hr
      repeat refine ai ?_
      exact cQ n hlt hs hr
    ·refine nd ?_
     rw[hr,iL (Y g1)]
 ·refine nd ?_
  simp only[eZ,h0,Bool.true_or,cond_true]
end Go.Vc
end
section
namespace Go.Vc
open Go.Proofs
set_option maxRecDepth 100000
theorem AS {v:Bs} (h:decide (i7 v>0)=true):iB v=i7 v:=by
 have:=of_decide_eq_true h
 unfold i7 iB at*
 cases e:dM v with
 |none=>rw[e] at this;simp at this
 |some n=>rfl
theorem AT {v:Bs} (h:decide (i7 v>0)=false):iB v=0:=by
 have:=of_decide_eq_false h
 unfold i7 iB at*
 cases e:dM v with
 |none=>rfl
 |some n=>
  rw[e] at this
  simp only at this ⊢
  have:=mT e
  omega
theorem vD (L:GateLaw) (o:GateObject) (r:Bs):Spec P 156 [st L.e,st o.e,.d (.str r)] (.d (.int .i64 (eZ L o r))):=by
 refine Spec.of_vc aJ aw [.tmp 6] Tryz.func156 rfl rfl rfl rfl (fun hok=>?_)
 have hvb:=(i5 (o:=o) ⟨hok.2.1,trivial⟩).1
 repeat refine ai ?_
 refine oc (eD _ _) ?_
 repeat refine ai ?_
 refine aj ?_ ?_<;>intro h0
 ·have h0:=nz h0
  repeat refine ai ?_
  refine aj ?_ ?_<;>intro h1
  ·refine nd ?_
   simp only[eZ,h0,h1,cond_true,bl]
  ·have hw:eZ L o r=eC r (ah L.shapes o.kind o.values.length).1 o.values (bif r==o.kind then 1 else 0):=by simp only[eZ,h0,h1,cond_false,bl]
   have hfl:=(ct (xs:=L.shapes) (k:=o.kind) (n:=o.values.length)).2 h0
   rw[hw]
   generalize (ah L.shapes o.kind o.values.length).1=fs at*
   repeat refine ai ?_
   refine aj ?_ ?_<;>intro h2
   ·rw[h2,cond_true]
    repeat refine ai ?_
    refine m4 (fs) (fun i (n:Int)=>eC r fs o.values 1=eC r (fs.drop i) (o.values.drop i) n∧IntKind.i64.wrap n=n) (fun i (n:Int)=>[(2,.d (.str r)),(4,.ptr 1 0),(7,.d (ab fs)),(9,.d (.int .i64 n)),(10,.d (.int .i64 i))]) (fun i (n:Int)=>⟨[(1,.cells 103 (o.e.map .d)),(0,.cells 41 (L.e.map .d))],2,0⟩) (⟨rfl,rfl⟩) ?_
    intro i n hi hr
    obtain ⟨hr,hwn⟩:=hr
    have hs:fs.length≤big:=by omega
    repeat refine ai ?_
    refine aj ?_ ?_<;>intro g1
    ·have hlt:i<fs.length:=V g1
     have hlt2:i<o.values.length:=by omega
     rw[gS hlt hlt2] at hr
     repeat refine ai ?_
     refine O (e:=eB) (xs:=o.values) (hlt2) rfl ?_
     repeat refine ai ?_
     refine oc (lu _) ?_
     repeat refine ai ?_
     refine O (e:=GateField.e) (xs:=fs) (hlt) rfl ?_
     repeat refine ai ?_
     refine aj ?_ ?_<;>intro g2
     ·repeat refine ai ?_
      refine O (e:=GateField.e) (xs:=fs) (hlt) rfl ?_
      repeat refine ai ?_
      refine aj ?_ ?_<;>intro g3
      ·have hc:(fs[i].kind==1&&fs[i].weighs==r)=true:=by rw[g2];exact g3
       rw[hc,cond_true] at hr
       repeat refine ai ?_
       refine aj ?_ ?_<;>intro g4
       ·rw[AS g4] at hr
        repeat refine ai ?_
        exact cQ (dA n (i7 o.values[i])) hlt hs ⟨hr,pE _ _⟩
       ·rw[AT g4,tE hwn] at hr
        repeat refine ai ?_
        exact cQ n hlt hs ⟨hr,hwn⟩
      ·have hc:(fs[i].kind==1&&fs[i].weighs==r)=false:=by rw[g2];exact g3
       rw[hc,cond_false] at hr
       repeat refine ai ?_
       exact cQ n hlt hs ⟨hr,hwn⟩
     ·have hc:(fs[i].kind==1&&fs[i].weighs==r)=false:=by rw[g2];rfl
      rw[hc,cond_false] at hr
      repeat refine ai ?_
      exact cQ n hlt hs ⟨hr,hwn⟩
    ·refine nd ?_
     rw[hr,iL (Y g1)]
   ·rw[h2,cond_false]
    repeat refine ai ?_
    refine m4 (fs) (fun i (n:Int)=>eC r fs o.values 0=eC r (fs.drop i) (o.values.drop i) n∧IntKind.i64.wrap n=n) (fun i (n:Int)=>[(2,.d (.str r)),(4,.ptr 1 0),(7,.d (ab fs)),(9,.d (.int .i64 n)),(10,.d (.int .i64 i))]) (fun i (n:Int)=>⟨[(1,.cells 103 (o.e.map .d)),(0,.cells 41 (L.e.map .d))],2,0⟩) (⟨rfl,rfl⟩) ?_
    intro i n hi hr
    obtain ⟨hr,hwn⟩:=hr
    have hs:fs.length≤big:=by omega
    repeat refine ai ?_
    refine aj ?_ ?_<;>intro g1
    ·have hlt:i<fs.length:=V g1
     have hlt2:i<o.values.length:=by omega
     rw[gS hlt hlt2] at hr
     repeat refine ai ?_
     refine O (e:=eB) (xs:=o.values) (hlt2) rfl ?_
     repeat refine ai ?_
     refine oc (lu _) ?_
     repeat refine ai ?_
     refine O (e:=GateField.e) (xs:=fs) (hlt) rfl ?_
     repeat refine ai ?_
     refine aj ?_ ?_<;>intro g2
     ·repeat refine ai ?_
      refine O (e:=GateField.e) (xs:=fs) (hlt) rfl ?_
      repeat refine ai ?_
      refine aj ?_ ?_<;>intro g3
      ·have hc:(fs[i].kind==1&&fs[i].weighs==r)=true:=by rw[g2];exact g3
       rw[hc,cond_true] at hr
       repeat refine ai ?_
       refine aj ?_ ?_<;>intro g4
       ·rw[AS g4] at hr
        repeat refine ai ?_
        exact cQ (dA n (i7 o.values[i])) hlt hs ⟨hr,pE _ _⟩
       ·rw[AT g4,tE hwn] at hr
        repeat refine ai ?_
        exact cQ n hlt hs ⟨hr,hwn⟩
      ·have hc:(fs[i].kind==1&&fs[i].weighs==r)=false:=by rw[g2];exact g3
       rw[hc,cond_false] at hr
       repeat refine ai ?_
       exact cQ n hlt hs ⟨hr,hwn⟩
     ·have hc:(fs[i].kind==1&&fs[i].weighs==r)=false:=by rw[g2];rfl
      rw[hc,cond_false] at hr
      repeat refine ai ?_
      exact cQ n hlt hs ⟨hr,hwn⟩
    ·refine nd ?_
     rw[hr,iL (Y g1)]
 ·refine nd ?_
  simp only[eZ,h0,Bool.true_or,cond_true]
def qd (L:GateLaw) (t r:Bs):List GateObject→Int→Int
 |[],n=>n
 |o::os,n=>qd L t r os (bif oF L.teams o.team t then dA n (eZ L o r) else n)
def tL (L:GateLaw) (b:GateBook) (t r:Bs):Int:=qd L t r b.objects 0
theorem qc {L:GateLaw} {t r:Bs} {os:List GateObject} {i:Nat} {n:Int} (h:i<os.length):qd L t r (os.drop i) n=qd L t r (os.drop (i+1)) (bif oF L.teams os[i].team t then dA n (eZ L os[i] r) else n):=by
 rw[List.drop_eq_getElem_cons h];rfl
theorem tK {L:GateLaw} {t r:Bs} {os:List GateObject} {i:Nat} {n:Int} (h:os.length≤i):qd L t r (os.drop i) n=n:=by
 rw[List.drop_of_length_le h];rfl
theorem zS (L:GateLaw) (b:GateBook) (t r:Bs):Spec P 99 [st L.e,st b.e,.d (.str t),.d (.str r)] (.d (.int .i64 (tL L b t r))):=by
 refine Spec.of_vc aJ aw [.tmp 8] Tryz.func99 rfl rfl rfl rfl (fun hok=>?_)
 have hs:=(bP (dx hok.2)).1
 repeat refine ai ?_
 refine m4 (b.objects) (fun i (n:Int)=>tL L b t r=qd L t r (b.objects.drop i) n) (fun i (n:Int)=>[(2,.d (.str t)),(3,.d (.str r)),(4,.ptr 0 0),(5,.ptr 1 0),(9,.d (.int .i64 n)),(13,.d (aE b.objects)),(14,.d (.int .i64 (b.objects.map GateObject.e).length)),(15,.d (.int .i64 i))]) (fun i (n:Int)=>⟨[(1,.cells 48 (b.e.map .d)),(0,.cells 41 (L.e.map .d))],2,0⟩) (rfl) ?_
 intro i n hi hr
 repeat refine ai ?_
 refine aj ?_ ?_<;>intro g1
 ·have hlt:i<b.objects.length:=V g1
  rw[qc hlt] at hr
  skip
  repeat refine ai ?_
  refine O (e:=GateObject.e) (xs:=b.objects) (hlt) rfl ?_
  repeat refine ai ?_
  refine oc (yq _ _ _) ?_
  repeat refine ai ?_
  refine aj ?_ ?_<;>intro g2
  ·rw[g2,cond_true] at hr
   skip
   skip
   repeat refine ai ?_
   refine oc (wo _ _ _) ?_
   repeat refine ai ?_
   exact cQ (dA n (eZ L b.objects[i] r)) hlt hs hr
  ·rw[g2,cond_false] at hr
   repeat refine ai ?_
   exact cQ n hlt hs hr
 ·refine nd ?_
  rw[hr,tK (Y g1)]
theorem zk (L:GateLaw) (b:GateBook) (t r:Bs):Spec P 94 [st L.e,st b.e,.d (.str t),.d (.str r)] (.d (.int .i64 (tL L b t r))):=by
 refine Spec.of_vc aJ aw [.tmp 8] Tryz.func94 rfl rfl rfl rfl (fun hok=>?_)
 have hs:=(bP (dx hok.2)).1
 repeat refine ai ?_
 refine m4 (b.objects) (fun i (n:Int)=>tL L b t r=qd L t r (b.objects.drop i) n) (fun i (n:Int)=>[(2,.d (.str t)),(3,.d (.str r)),(4,.ptr 0 0),(5,.ptr 1 0),(9,.d (.int .i64 n)),(10,.d (.int .i64 i))]) (fun i (n:Int)=>⟨[(1,.cells 48 (b.e.map .d)),(0,.cells 41 (L.e.map .d))],2,0⟩) (rfl) ?_
 intro i n hi hr
 repeat refine ai ?_
 refine aj ?_ ?_<;>intro g1
 ·have hlt:i<b.objects.length:=V g1
  rw[qc hlt] at hr
  repeat refine ai ?_
  refine ak ?_
  repeat refine ai ?_
  refine O (e:=GateObject.e) (xs:=b.objects) (hlt) rfl ?_
  repeat refine ai ?_
  refine oc (xp _ _ _) ?_
  repeat refine ai ?_
  refine aj ?_ ?_<;>intro g2
  ·rw[g2,cond_true] at hr
   repeat refine ai ?_
   refine ak ?_
   repeat refine ai ?_
   refine O (e:=GateObject.e) (xs:=b.objects) (hlt) rfl ?_
   repeat refine ai ?_
   refine oc (vD _ _ _) ?_
   repeat refine ai ?_
   exact cQ (dA n (eZ L b.objects[i] r)) hlt hs hr
  ·rw[g2,cond_false] at hr
   repeat refine ai ?_
   exact cQ n hlt hs hr
 ·refine nd ?_
  rw[hr,tK (Y g1)]
def mQ (t r:Bs):List GatePurse→Int→Int
 |[],n=>n
 |p::ps,n=>mQ t r ps (bif p.team==t&&p.resource==r then dA n p.amount else n)
def EG (b:GateBook) (t r:Bs):Int:=mQ t r b.purses 0
theorem B3 {t r:Bs} {os:List GatePurse} {i:Nat} {n:Int} (h:i<os.length):mQ t r (os.drop i) n=mQ t r (os.drop (i+1)) (bif os[i].team==t&&os[i].resource==r then dA n os[i].amount else n):=by
 rw[List.drop_eq_getElem_cons h];rfl
theorem Dk {t r:Bs} {os:List GatePurse} {i:Nat} {n:Int} (h:os.length≤i):mQ t r (os.drop i) n=n:=by
 rw[List.drop_of_length_le h];rfl
theorem Ew (b:GateBook) (t r:Bs):Spec P 177 [st b.e,.d (.str t),.d (.str r)] (.d (.int .i64 (EG b t r))):=by
 refine Spec.of_vc aJ aw [.tmp 6] Tryz.func177 rfl rfl rfl rfl (fun hok=>?_)
 have hs:=(bP (dx hok)).2.2.2
 repeat refine ai ?_
 refine m4 (b.purses) (fun i (n:Int)=>EG b t r=mQ t r (b.purses.drop i) n) (fun i (n:Int)=>[(1,.d (.str t)),(2,.d (.str r)),(3,.ptr 0 0),(7,.d (.int .i64 n)),(8,.d (.int .i64 i))]) (fun i (n:Int)=>⟨[(0,.cells 48 (b.e.map .d))],1,0⟩) (rfl) ?_
 intro i n hi hr
 repeat refine ai ?_
 refine aj ?_ ?_<;>intro g1
 ·have hlt:i<b.purses.length:=V g1
  rw[B3 hlt] at hr
  repeat refine ai ?_
  refine O (e:=GatePurse.e) (xs:=b.purses) (hlt) rfl ?_
  repeat refine ai ?_
  refine aj ?_ ?_<;>intro g2
  ·repeat refine ai ?_
   refine O (e:=GatePurse.e) (xs:=b.purses) (hlt) rfl ?_
   repeat refine ai ?_
   refine aj ?_ ?_<;>intro g3
   ·rw[g2,show (b.purses[i].resource==r)=true from g3,Bool.and_true,cond_true] at hr
    repeat refine ai ?_
    refine O (e:=GatePurse.e) (xs:=b.purses) (hlt) rfl ?_
    repeat refine ai ?_
    exact cQ (dA n b.purses[i].amount) hlt hs hr
   ·rw[g2,show (b.purses[i].resource==r)=false from g3,Bool.and_false,cond_false] at hr
    repeat refine ai ?_
    exact cQ n hlt hs hr
  ·rw[g2,Bool.false_and,cond_false] at hr
   repeat refine ai ?_
   exact cQ n hlt hs hr
 ·refine nd ?_
  rw[hr,Dk (Y g1)]
end Go.Vc
end
section
namespace Go.Vc
open Go.Proofs
abbrev f9:=Bs×Bs
def tc (k:f9):List D:=[.str k.1,.str k.2]
def jl (e:f9×Int):List D×AV:=(tc e.1,.d (.int .i64 e.2))
def o8 (k k':f9):Bool:=k.1==k'.1&&k.2==k'.2
def pv:List (f9×Int)→f9→Int→List (f9×Int)
 |[],k,v=>[(k,v)]
 |(k',a)::r,k,v=>bif o8 k k' then (k',v)::r else (k',a)::pv r k v
def cJ:List (f9×Int)→f9→Option Int
 |[],_=>none
 |(k',a)::r,k=>bif o8 k k' then some a else cJ r k
def se:List (f9×Int)→f9→Int→List (f9×Int)
 |[],_,_=>[]
 |(k',a)::r,k,v=>bif o8 k k' then (k',dA a v)::r else (k',a)::se r k v
theorem wf (k k':f9):cL (tc k) (tc k')=o8 k k':=rfl
theorem yd (k:f9) (v:Int):∀en:List (f9×Int),bn (en.map jl) (tc k) (.d (.int .i64 v))=(pv en k v).map jl
 |[]=>rfl
 |(k',a)::r=>by
  simp only[List.map_cons,jl,bn,wf,pv]
  cases o8 k k' with
  |true=>rfl
  |false=>
   simp only[cond_false,List.map_cons,jl,List.cons.injEq,true_and]
   exact yd k v r
theorem ue (k:f9):∀en:List (f9×Int),aq (en.map jl) (tc k)=(cJ en k).map fun v=> .d (.int .i64 v)
 |[]=>rfl
 |(k',a)::r=>by
  simp only[List.map_cons,jl,aq,wf,cJ]
  cases o8 k k' with
  |true=>rfl
  |false=>exact ue k r
theorem AW {k:f9} {v:Int}:∀{en:List (f9×Int)} {i:Nat},cJ en k=some v→∃j,∃k':f9,eu (en.map jl) (tc k) i=some (i+j,.d (.int .i64 v))∧en[j]? =some (k',v)∧∀x,se en k x=en.set j (k',dA v x)
 |[],i,h=>by cases h
 |(k',a)::r,i,h=>by
  simp only[List.map_cons,jl,eu,wf]
  simp only[cJ] at h
  cases he:o8 k k' with
  |true=>
   rw[he,cond_true] at h
   cases h
   exact ⟨0,k',rfl,rfl,fun x=>by simp only[se,he,cond_true,List.set_cons_zero]⟩
  |false=>
   rw[he,cond_false] at h
   obtain ⟨j,k2,h1,h2,h3⟩:=AW (i:=i+1) h
   exact ⟨j+1,k2,by rw[h1,show i+1+j=i+(j+1) from by omega],h2,fun x=>by simp only[se,he,cond_false,h3,List.set_cons_succ]⟩
theorem ru (n:Nat):∀en:List (f9×Int),Ek n (en.map jl)
 |[]=>trivial
 |e::r=>⟨rfl,ru n r⟩
theorem eqA_iff {k k':f9}:o8 k k'=true↔k=k':=by
 obtain ⟨a,b⟩:=k
 obtain ⟨c,d⟩:=k'
 simp[o8]
theorem rX (k:f9):o8 k k=true:=eqA_iff.2 rfl
theorem FY {k k':f9} (h:k≠k'):o8 k k'=false:=by
 cases e:o8 k k' with
 |false=>rfl
 |true=>exact absurd (eqA_iff.1 e) h
theorem ry (k:f9) (v:Int):∀(en:List (f9×Int)) (k':f9),cJ (pv en k v) k'=bif o8 k' k then some v else cJ en k'
 |[],k'=>by simp only[pv,cJ]
 |(k2,a)::r,k'=>by
  simp only[pv]
  cases he:o8 k k2 with
  |true=>
   rw[cond_true]
   simp only[cJ]
   rw[eqA_iff.1 he]
   cases o8 k' k2<;>rfl
  |false=>
   rw[cond_false]
   simp only[cJ]
   cases h2:o8 k' k2 with
   |true=>
    rw[cond_true,cond_true]
    rw[eqA_iff.1 h2]
    have:o8 k2 k=false:=by
     cases e:o8 k2 k with
     |false=>rfl
     |true=>rw[eqA_iff.1 e,rX] at he;cases he
    rw[this];rfl
   |false=>rw[cond_false,cond_false];exact ry k v r k'
theorem yj (k:f9) (x:Int):∀(en:List (f9×Int)) (k':f9),cJ (se en k x) k'=(cJ en k').map fun v=>bif o8 k' k then dA v x else v
 |[],k'=>rfl
 |(k2,a)::r,k'=>by
  simp only[se]
  cases he:o8 k k2 with
  |true=>
   rw[cond_true]
   simp only[cJ]
   have e:=eqA_iff.1 he
   subst e
   cases h2:o8 k' k with
   |true=>rfl
   |false=>
    simp only[cond_false]
    cases cJ r k'<;>rfl
  |false=>
   rw[cond_false]
   simp only[cJ]
   cases h2:o8 k' k2 with
   |true=>
    have e:=eqA_iff.1 h2
    subst e
    have:o8 k' k=false:=by
     cases e:o8 k' k with
     |false=>rfl
     |true=>rw[eqA_iff.1 e,rX] at he;cases he
    simp[this]
   |false=>rw[cond_false,cond_false];exact yj k x r k'
def pC (g:GateLedger):f9:=(g.team,g.resource)
def Eh (p:GatePurse):f9:=(p.team,p.resource)
def E1 (f:GateLedger→Int) (gs:List GateLedger):List (f9×Int):=gs.foldl (fun en g=>pv en (pC g) (f g)) []
def El (en:List (f9×Int)) (ps:List GatePurse):List (f9×Int):=ps.foldl (fun en p=>se en (Eh p) p.amount) en
theorem DY (f:GateLedger→Int) (gs:List GateLedger) (g:GateLedger):E1 f (gs++[g])=pv (E1 f gs) (pC g) (f g):=by simp[E1]
theorem DW (en:List (f9×Int)) (ps:List GatePurse) (p:GatePurse):El en (ps++[p])=se (El en ps) (Eh p) p.amount:=by simp[El]
theorem rB (k:f9):∀(ps:List GatePurse) (en:List (f9×Int)),cJ (El en ps) k=(cJ en k).map fun v=>mQ k.1 k.2 ps v
 |[],en=>by simp[El,mQ]
 |p::ps,en=>by
  show cJ (El (se en (Eh p) p.amount) ps) k=_
  rw[rB k ps,yj]
  cases cJ en k with
  |none=>rfl
  |some v=>
   simp only[Option.map_some,mQ]
   congr 2
   have:o8 k (Eh p)=(p.team==k.1&&p.resource==k.2):=by
    simp only[o8,Eh]
    rw[BEq.comm (a:=k.1),BEq.comm (a:=k.2)]
   rw[this]
def Et (t r:Bs):List GatePurse→Int
 |[]=>0
 |p::ps=>(bif p.team==t&&p.resource==r then p.amount else 0)+Et t r ps
theorem mP (t r:Bs):∀(ps:List GatePurse) (n:Int),IntKind.i64.wrap n=n→mQ t r ps n=IntKind.i64.wrap (n+Et t r ps)
 |[],n,h=>by simp only[mQ,Et,Int.add_zero,h]
 |p::ps,n,h=>by
  simp only[mQ,Et]
  cases p.team==t&&p.resource==r with
  |false=>rw[cond_false,cond_false,mP t r ps n h,Int.zero_add]
  |true=>
   rw[cond_true,cond_true,mP t r ps _ (pE _ _)]
   unfold dA
   simp only[IntKind.wrap_i64]
   omega
theorem B1 (t r:Bs) (ps:List GatePurse) (a b:Int):mQ t r ps (dA a b)=dA (dA b (mQ t r ps 0)) a:=by
 rw[mP t r ps _ (pE _ _),mP t r ps 0 rfl]
 unfold dA
 simp only[IntKind.wrap_i64]
 omega
theorem Cb (a b:Bs):gl a b a b=false:=by simp[gl,jp]
theorem yh {a b c d e f:Bs} (h:gl a b c d=true) (k:gl c d e f=true):gl a b e f=true:=by
 simp only[gl,Bool.or_eq_true,Bool.and_eq_true,beq_iff_eq] at h k ⊢
 rcases h with h|⟨rfl,h⟩
 ·rcases k with k|⟨rfl,k⟩
  ·exact .inl (nt h k)
  ·exact .inl h
 ·rcases k with k|⟨rfl,k⟩
  ·exact .inl k
  ·exact .inr ⟨rfl,nt h k⟩
def mH (p:Option GateLedger) (g:GateLedger):Bool:=match p with|some q=>gl q.team q.resource g.team g.resource|none=>true
theorem uH:∀{gs:List GateLedger} {q:GateLedger},ar mH (some q) gs=true→∀g∈gs,gl q.team q.resource g.team g.resource=true
 |[],_,_,g,h=>by cases h
 |x::gs,q,hc,g,h=>by
  simp only[ar,mH,Bool.and_eq_true] at hc
  rcases List.mem_cons.1 h with rfl|h
  ·exact hc.1
  ·exact yh hc.1 (uH hc.2 g h)
theorem yI (f:GateLedger→Int) (k:f9):∀(gs:List GateLedger) (en:List (f9×Int)),(∀g∈gs,pC g≠k)→cJ (gs.foldl (fun en g=>pv en (pC g) (f g)) en) k=cJ en k
 |[],en,_=>rfl
 |g::gs,en,h=>by
  rw[List.foldl_cons,yI f k gs _ (fun x hx=>h x (List.mem_cons_of_mem _ hx)),ry,FY (fun e=>h g List.mem_cons_self e.symm)]
  rfl
theorem rY (f:GateLedger→Int):∀{gs:List GateLedger} {p:Option GateLedger} (en:List (f9×Int)),ar mH p gs=true→∀g∈gs,cJ (gs.foldl (fun en g=>pv en (pC g) (f g)) en) (pC g)=some (f g)
 |[],_,_,_,g,h=>by cases h
 |x::gs,p,en,hc,g,h=>by
  simp only[ar,Bool.and_eq_true] at hc
  rw[List.foldl_cons]
  rcases List.mem_cons.1 h with rfl|h
  ·rw[yI f (pC g) gs _ (fun y hy e=>?_),ry,rX]
   ·rfl
   ·have:=uH hc.2 y hy
    simp only[pC,Prod.mk.injEq] at e
    rw[e.1,e.2,Cb] at this
    cases this
  ·exact rY f _ hc.2 g h
theorem jo {α:Type} {r r':Option α→α→Bool} (h:∀p x,r p x=true→r' p x=true):∀{xs:List α} {p:Option α},ar r p xs=true→ar r' p xs=true
 |[],_,_=>rfl
 |x::xs,p,hc=>by
  simp only[ar,Bool.and_eq_true] at hc ⊢
  exact ⟨h _ _ hc.1,jo h hc.2⟩
theorem uD {α:Type} {r:Option α→α→Bool} {q:α→Bool}:∀{xs:List α} {p:Option α},ar (fun p x=>r p x&&q x) p xs=(ar r p xs&&xs.all q)
 |[],_=>rfl
 |x::xs,p=>by
  simp only[ar,List.all_cons,uD (xs:=xs)]
  cases r p x<;>cases q x<;>simp
end Go.Vc
end
