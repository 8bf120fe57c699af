/- Part 5 of a proof: Contracts: GateCheck of the program. Contracts: copies of objects; values that are not set. Contracts: values that are not set. Rows in which each stands behind what it reads: one by one (greedy) and depth first come to the same. Plain Lean, no program. What a field's mends read; rows of fields: pure facts. Contracts: mends of the specification. Contracts: what a field's mends read (a closure), depth first (a closure that calls itself), rows of fields. Contracts: the walk depth first, a closure that calls itself. Contracts: rows of fields. Mended values: the order of the fields does not count, -/
import Derived.Test.YteongcjplmbkgaaGreatDoorGga
import Derived.Test.YteongcjplmbkgaaGreatDoorGgb
import Derived.Test.YteongcjplmbkgaaGreatDoorGgc
import Derived.Test.YteongcjplmbkgaaGreatDoorGgd
set_option linter.unusedVariables false
set_option linter.unusedSimpArgs false
section
namespace Go.Vc
open Go.Proofs
set_option maxRecDepth 100000
def zN (p:Int×Int):AV:=bif p.1==0 then .val .nilIface else .iface 264 (.at_ [.int .i64 p.1,.int .i64 p.2])
theorem Gw {b:Bool} (h:b=false):AV.iface 264 (.at_ [.int .i64 1,.int .i64 0])=zN (bif b then (0,0) else (1,0)):=by rw[h];rfl
theorem Gx {b:Bool} (h:b=true):AV.val .nilIface=zN (bif b then (0,0) else (1,0)):=by rw[h];rfl
theorem Fh {p:Int×Int} {a b:Int} (h:p=(a,b)) (ha:(a==0)=false):AV.iface 264 (.at_ [.int .i64 a,.int .i64 b])=zN p:=by rw[h,zN,ha];rfl
theorem C1 {x:Int}:fi x 0 1000000=(!decide (x<0)&& !decide (x>1000000)):=by
 unfold fi
 by_cases h1:x<0<;>by_cases h2:x>1000000<;>simp[h1,h2]<;>omega
theorem xS (xs:List GateShape) (o:GateObject):Spec P 213 [.d (aa xs),st o.e] (zN (bif j9 xs o&&aH xs then (0,0) else (1,0))):=by
 refine Spec.of_vc aI aw [.tmp 4] Tryz.func213 rfl rfl rfl rfl (fun hok=>?_)
 repeat refine ai ?_
 refine oc (fB _ _) ?_
 repeat' first
  |refine ai ?_
  |(refine aj ?_ ?_<;>intro h)
  |refine oc (fj _) ?_
  |refine oc (c7 _) ?_
  |refine oc (fC _) ?_
 all_goals first
  |(refine Gw ?_;(try simp only[Bool.not_eq_true',Bool.not_eq_false',List.length_map] at*);simp only[j9,C1, *,cond_true,cond_false,bl];done)
  |(refine Gx ?_;(try simp only[Bool.not_eq_true',Bool.not_eq_false',List.length_map] at*);simp only[j9,C1, *,cond_true,cond_false,bl];done)
theorem sP (xs:List GateShape) (o:GateObject):Spec P 214 [.d (aa xs),st o.e] (zN (fo (ah xs o.kind o.values.length).1 o.values 0)):=by
 refine Spec.of_vc aI aw [.tmp 4] Tryz.func214 rfl rfl rfl rfl (fun hok=>?_)
 have hb:=i0 (o:=o) ⟨hok.2.1,trivial⟩
 repeat refine ai ?_
 refine oc (fB _ _) ?_
 obtain ⟨hl,_⟩:=cr (xs:=xs) (k:=o.kind) (n:=o.values.length)
 generalize (ah xs o.kind o.values.length).1=fs at*
 repeat refine ai ?_
 refine d8 (fs) (fun i=>fo fs o.values 0=fo (fs.drop i) (o.values.drop i) i) (fun i=>[(3,.ptr 0 0),(15,.d (ab fs)),(16,.d (.int .i64 (fs.map GateField.e).length)),(17,.d (.int .i64 i))]) (fun i=>⟨[(0,.cells 103 (o.e.map .d))],1,0⟩) (rfl) ?_
 intro i hi hr
 have hs:fs.length≤big:=by omega
 repeat refine ai ?_
 refine aj ?_ ?_<;>intro g1
 ·have hlt:i<fs.length:=V g1
  have hlt2:i<o.values.length:=by omega
  rw[un hlt hlt2] at hr
  repeat refine ai ?_
  refine O (e:=GateField.e) (xs:=fs) (hlt) rfl ?_
  repeat refine ai ?_
  refine aj ?_ ?_<;>intro g2
  ·repeat refine ai ?_
   refine O (e:=eB) (xs:=o.values) (hlt2) rfl ?_
   repeat refine ai ?_
   refine aj ?_ ?_<;>intro g3
   ·refine Fh ?_ rfl
    simp only[hr, *,cond_true,cond_false]
   ·repeat refine ai ?_
    refine ak ?_
    repeat refine ai ?_
    refine O (e:=eB) (xs:=o.values) (hlt2) rfl ?_
    repeat refine ai ?_
    refine aj ?_ ?_<;>intro g4
    ·repeat refine ai ?_
     refine O (e:=eB) (xs:=o.values) (hlt2) rfl ?_
     repeat refine ai ?_
     refine oc (eI _ _) ?_
     repeat refine ai ?_
     refine aj ?_ ?_<;>intro g5
     ·simp only[bne,cond_true,cond_false,Bool.not_eq_true',Bool.not_eq_false'] at*
      refine Fh ?_ rfl
      first|(simp only[hr, *,cond_true,cond_false];done)|(simp_all;done)
     ·simp only[bne,cond_true,cond_false,Bool.not_eq_true',Bool.not_eq_false'] at*
      have hq:fo fs o.values 0=fo (fs.drop (i+1)) (o.values.drop (i+1)) (i+1):=by first|(simp only[hr, *,cond_true,cond_false];done)|(simp_all;done)
      repeat refine ai ?_
      exact bQ hlt hs hq
    ·repeat refine ai ?_
     refine an ?_
     simp only[bne,cond_true,cond_false,Bool.not_eq_true',Bool.not_eq_false'] at*
     have hq:fo fs o.values 0=fo (fs.drop (i+1)) (o.values.drop (i+1)) (i+1):=by first|(simp only[hr, *,cond_true,cond_false];done)|(simp_all;done)
     repeat refine ai ?_
     exact bQ hlt hs hq
  ·repeat refine ai ?_
   refine ak ?_
   repeat refine ai ?_
   refine O (e:=eB) (xs:=o.values) (hlt2) rfl ?_
   repeat refine ai ?_
   refine aj ?_ ?_<;>intro g4
   ·repeat refine ai ?_
    refine O (e:=eB) (xs:=o.values) (hlt2) rfl ?_
    repeat refine ai ?_
    refine oc (eI _ _) ?_
    repeat refine ai ?_
    refine aj ?_ ?_<;>intro g5
    ·simp only[bne,cond_true,cond_false,Bool.not_eq_true',Bool.not_eq_false'] at*
     refine Fh ?_ rfl
     first|(simp only[hr, *,cond_true,cond_false];done)|(simp_all;done)
    ·simp only[bne,cond_true,cond_false,Bool.not_eq_true',Bool.not_eq_false'] at*
     have hq:fo fs o.values 0=fo (fs.drop (i+1)) (o.values.drop (i+1)) (i+1):=by first|(simp only[hr, *,cond_true,cond_false];done)|(simp_all;done)
     repeat refine ai ?_
     exact bQ hlt hs hq
   ·repeat refine ai ?_
    refine an ?_
    simp only[bne,cond_true,cond_false,Bool.not_eq_true',Bool.not_eq_false'] at*
    have hq:fo fs o.values 0=fo (fs.drop (i+1)) (o.values.drop (i+1)) (i+1):=by first|(simp only[hr, *,cond_true,cond_false];done)|(simp_all;done)
    repeat refine ai ?_
    exact bQ hlt hs hq
 ·have e:fo fs o.values 0=(0,0):=by rw[hr,yo (Z g1)]
  rw[e]
  rfl
theorem BX {fs:List GateField} {vs:List Bs}:∀{i:Nat},((fo fs vs i).1==0)=true→fo fs vs i=(0,0):=by
 induction fs generalizing vs with
 |nil=>intro i _;rfl
 |cons f fs ih=>
  intro i h
  cases vs with
  |nil=>rfl
  |cons v vs=>
   simp only[fo] at h ⊢
   cases h1:v==[]<;>cases h2:f.must<;>cases h3:dc f v<;>simp only[h1,h2,h3,cond_true,cond_false] at h ⊢ <;>first|exact ih h|(simp at h;done)
theorem j7 (xs:List GateShape) (o:GateObject):Spec P 183 [.d (aa xs),st o.e] (CK (jk xs o)):=by
 refine Spec.of_vc aI aw [.tmp 4,.tmp 5] Tryz.func183 rfl rfl rfl rfl (fun hok=>?_)
 have hform:=xS xs o
 have hfields:=sP xs o
 have hpair:jk xs o=bif j9 xs o&&aH xs then fo (ah xs o.kind o.values.length).1 o.values 0 else (1,0):=by
  unfold jk AF
  cases aH xs<;>cases j9 xs o<;>rfl
 rw[hpair]
 generalize (j9 xs o&&aH xs)=b at*
 repeat refine ai ?_
 refine ⟨fun m l h=>∃i:Nat,m=2 - i∧i≤2∧(i=0∨b=true)∧(i=2→((fo (ah xs o.kind o.values.length).1 o.values 0).1==0)=true)∧l=[(0,.d (aa xs)),(3,.ptr 0 0),(9,.d (.list [[.fn 213],[.fn 214]])),(10,.d (.int .i64 2)),(11,.d (.int .i64 i))]∧h=⟨[(0,.cells 103 (o.e.map .d))],1,0⟩,
  ⟨_,_,_,⟨0,rfl,Nat.zero_le _,.inl rfl,fun h=>(by cases h),rfl,rfl⟩,rfl,rfl,⟨rfl,rfl,rfl,rfl,rfl,trivial⟩,⟨rfl,trivial⟩,⟨rfl,trivial⟩⟩,?_⟩
 rintro m l hh ⟨i,rfl,hi,hb,hz,rfl,rfl⟩
 rcases (show i=0∨i=1∨i=2 by omega) with rfl|rfl|rfl
 ·repeat refine ai ?_
  refine ay ?_
  repeat refine ai ?_
  refine ⟨by decide,_,rfl,rfl,?_⟩
  cases b with
  |false=>
   replace hform:Spec P 213 [.d (aa xs),st o.e] (.iface 264 (.at_ [.int .i64 1,.int .i64 0])):=hform
   repeat refine ai ?_
   refine oc (hform) ?_
   repeat refine ai ?_
   refine ay ?_
   repeat refine ai ?_
   refine oc (C4 _ _) ?_
   rfl
  |true=>
   replace hform:Spec P 213 [.d (aa xs),st o.e] (.val .nilIface):=hform
   repeat refine ai ?_
   refine oc (hform) ?_
   repeat refine ai ?_
   refine an ?_
   repeat refine ai ?_
   exact ⟨_,_,_,⟨1,rfl,by decide,.inr rfl,fun h=>(by cases h),rfl,rfl⟩,by decide,rfl,rfl,⟨rfl,rfl,rfl,rfl,rfl,trivial⟩,⟨rfl,trivial⟩,⟨rfl,trivial⟩⟩
 ·have hb':b=true:=by rcases hb with h|h;cases h;exact h
  subst hb'
  repeat refine ai ?_
  refine ay ?_
  repeat refine ai ?_
  refine ⟨by decide,_,rfl,rfl,?_⟩
  unfold zN at hfields
  cases hq:((fo (ah xs o.kind o.values.length).1 o.values 0).1==0) with
  |false=>
   rw[hq] at hfields
   simp only[cond_true,cond_false] at hfields
   repeat refine ai ?_
   refine oc (hfields) ?_
   repeat refine ai ?_
   refine ay ?_
   repeat refine ai ?_
   refine oc (C4 _ _) ?_
   rfl
  |true=>
   rw[hq] at hfields
   simp only[cond_true,cond_false] at hfields
   repeat refine ai ?_
   refine oc (hfields) ?_
   repeat refine ai ?_
   refine an ?_
   repeat refine ai ?_
   exact ⟨_,_,_,⟨2,rfl,by decide,.inr rfl,fun _=>rfl,rfl,rfl⟩,by decide,rfl,rfl,⟨rfl,rfl,rfl,rfl,rfl,trivial⟩,⟨rfl,trivial⟩,⟨rfl,trivial⟩⟩
 ·have hb':b=true:=by rcases hb with h|h;cases h;exact h
  subst hb'
  repeat refine ai ?_
  refine an ?_
  rw[cond_true,BX (hz rfl)]
  rfl
end Go.Vc
end
section
namespace Go.Vc
open Go.Proofs
set_option maxRecDepth 100000
theorem F9 (n:Nat) (z:List D):(List.replicate n z).length=n:=List.length_replicate
theorem pE (xs:List Bs):∀r∈xs.map eB,r.length=1:=fun r hr=>by
 obtain ⟨x,_,rfl⟩:=List.mem_map.1 hr
 rfl
theorem v4 (xs:List Bs) (h0:0<xs.length) (hs:xs.length≤big):HSpec P 192 [.d (lS xs)] hp0 (.own 0) ⟨[(0,.row 9 1 (xs.map eB))],1,0⟩:=by
 refine jq aI aw [.tmp 2] Tryz.func192 rfl rfl rfl rfl rfl (fun hok=>?_)
 repeat refine ai ?_
 refine aj ?_ ?_<;>intro h1
 ·rw[List.length_map] at h1
  exfalso
  have:=beq_iff_eq.1 h1
  omega
 ·repeat refine ai ?_
  refine ⟨Int.natCast_nonneg _,Int.le_refl _,dM hs,?_⟩
  repeat refine ai ?_
  refine ⟨?_,?_,pE xs,?_⟩
  ·simp
  ·simpa using h0
  repeat refine ai ?_
  all_goals (repeat' first|exact rfl|exact trivial|refine aj ?_ ?_)
theorem j6 (xs:List Bs):Spec P 192 [.d (lS xs)] (.d (lS xs)):=by
 refine Spec.of_vc aI aw [.tmp 2] Tryz.func192 rfl rfl rfl rfl (fun hok=>?_)
 have hs:xs.length≤big:=ax hok.1.1
 repeat refine ai ?_
 refine aj ?_ ?_<;>intro h1
 ·rw[List.length_map] at h1
  have:=beq_iff_eq.1 h1
  have:xs=[]:=List.eq_nil_of_length_eq_zero (by omega)
  subst this
  rfl
 ·rw[List.length_map] at h1
  have h1:=beq_eq_false_iff_ne.1 h1
  repeat refine ai ?_
  refine ⟨Int.natCast_nonneg _,Int.le_refl _,dM hs,?_⟩
  repeat refine ai ?_
  refine ⟨?_,?_,pE xs,?_⟩
  ·simp
  ·rw[List.length_map];omega
  repeat refine ai ?_
  rfl
theorem zt (o:GateObject):Spec P 145 [st o.e] (st o.e):=by
 refine Spec.of_vc aI aw [.cell 2 103] Tryz.func145 rfl rfl rfl rfl (fun hok=>?_)
 repeat refine ai ?_
 refine oc (j6 _) ?_
 repeat refine ai ?_
 refine oc (j6 _) ?_
 repeat refine ai ?_
 exact rfl
theorem AI (o:GateObject) (h0:0<o.values.length):HSpec P 145 [st o.e] hp0 (zb o (.own 2) (.d (lS o.holds))) ⟨[(2,.row 9 1 (o.values.map eB))],3,0⟩:=by
 refine jq aI aw [.cell 2 103] Tryz.func145 rfl rfl rfl rfl rfl (fun hok=>?_)
 have hb:=i0 (o:=o) hok
 repeat refine ai ?_
 refine ow (v4 o.values h0 hb.1) ?_
 repeat refine ai ?_
 refine oc (j6 _) ?_
 repeat refine ai ?_
 all_goals (repeat' first|exact rfl|exact trivial|refine aj ?_ ?_)
theorem tC (o:GateObject) (hv:o.values.length≤big) (hh:o.holds.length≤big):HSpec P 141 [st o.e] hp0 (zb o (.own 2) (.own 3)) ⟨[(3,.row 9 1 (o.holds.map eB)),(2,.row 9 1 (o.values.map eB))],4,0⟩:=by
 refine jq aI aw [.cell 2 103] Tryz.func141 rfl rfl rfl rfl rfl (fun hok=>?_)
 repeat refine ai ?_
 refine aj (pE _) ?_
 repeat refine ai ?_
 refine aj (by simpa using hv) ?_
 repeat refine ai ?_
 refine aj (pE _) ?_
 repeat refine ai ?_
 refine aj (by simpa using hh) ?_
 repeat refine ai ?_
 all_goals (repeat' first|exact rfl|exact trivial|refine aj ?_ ?_)
end Go.Vc
end
section
namespace Go.Vc
open Go.Proofs
set_option maxRecDepth 100000
def jv (f:GateField) (v:Bs):Bs:=bif v==[] then f.default_ else v
def fq:List GateField→List Bs→List Bs
 |f::fs,v::vs=>jv f v::fq fs vs
 |_,vs=>vs
theorem Fw (vs:List Bs):fq [] vs=vs:=rfl
theorem nY:∀(fs:List GateField) (vs:List Bs),(fq fs vs).length=vs.length
 |[],vs=>rfl
 |f::fs,[]=>rfl
 |f::fs,v::vs=>by simp[fq,nY fs vs]
theorem yc:∀{fs:List GateField} {vs:List Bs} {i:Nat},i<fs.length→(fq (fs.take i) vs)[i]? =vs[i]?
 |[],_,_,h=>by simp at h
 |f::fs,[],i,h=>by cases i<;>simp[fq]
 |f::fs,v::vs,0,h=>rfl
 |f::fs,v::vs,i+1,h=>by simpa [fq] using yc (fs:=fs) (vs:=vs) (i:=i) (by simpa using h)
theorem rI:∀{fs:List GateField} {vs:List Bs} {i:Nat} (h:i<fs.length) (h2:i<vs.length),fq (fs.take (i+1)) vs=(fq (fs.take i) vs).set i (jv fs[i] vs[i])
 |[],_,_,h,_=>by simp at h
 |f::fs,[],i,h,h2=>by simp at h2
 |f::fs,v::vs,0,h,h2=>by simp[fq]
 |f::fs,v::vs,i+1,h,h2=>by simpa [fq] using rI (fs:=fs) (vs:=vs) (i:=i) (by simpa using h) (by simpa using h2)
theorem AR {fs:List GateField} {vs:List Bs} {i:Nat} (h:i<fs.length) (h2:i<vs.length) (h3:i<(fq (fs.take i) vs).length):(fq (fs.take i) vs)[i]=vs[i]:=by
 have:=yc (vs:=vs) h
 rw[List.getElem?_eq_getElem h3,List.getElem?_eq_getElem h2] at this
 exact Option.some.inj this
theorem qv {α:Type} {l:List α} {i:Nat} (h:i<l.length) {x:α} (e:l[i]=x):l.set i x=l:=by
 subst e;simp
theorem qE {t n:Nat} {W:List Bs} {i:Nat} {v:Bs} (h:i<W.length):some (AO.row t n ((W.map eB).set i (dC (eB W[i]) 0 (eB v))))=some (AO.row t n ((W.set i v).map eB)):=by
 congr 2
 simp only[List.map_set]
 rfl
def fG (xs:List GateShape) (o:GateObject):GateObject:={o with values:=fq (ah xs o.kind o.values.length).1 o.values}
theorem Cu (xs:List GateShape) (o:GateObject):Spec P 207 [.d (aa xs),st o.e] (st (fG xs o).e):=by
 refine Spec.of_vc aI aw [.cell 4 103] Tryz.func207 rfl rfl rfl rfl (fun hok=>?_)
 have hb:=i0 (o:=o) ⟨hok.2.1,trivial⟩
 repeat refine ai ?_
 refine ow (tC o hb.1 hb.2) ?_
 repeat refine ai ?_
 refine oc (eD _ _) ?_
 obtain ⟨hl,hl2⟩:=cr (xs:=xs) (k:=o.kind) (n:=o.values.length)
 have hfs:(ah xs o.kind o.values.length).2=false→(ah xs o.kind o.values.length).1=[]:=by
  rcases dl (xs:=xs) (k:=o.kind) (n:=o.values.length) with ⟨h1,h2⟩|⟨j,hj,_,h,_⟩
  ·exact fun _=>h2
  ·rw[h];exact fun h=>by cases h
 repeat refine ai ?_
 refine aj ?_ ?_<;>intro h0
 ·simp only[Bool.not_eq_true'] at h0
  have e:fG xs o=o:=by unfold fG;rw[hfs h0];rfl
  rw[e]
  repeat refine ai ?_
  exact rfl
 ·simp only[Bool.not_eq_false'] at h0
  have hl:=hl2 h0
  unfold fG
  generalize (ah xs o.kind o.values.length).1=fs at*
  repeat refine ai ?_
  refine mX (fs) (fun i (W:List Bs)=>W=fq (fs.take i) o.values) (fun i (W:List Bs)=>[(4,.ptr 1 0),(5,.ptr 6 0),(6,.d (ab fs)),(8,.d (.int .i64 i))]) (fun i (W:List Bs)=>⟨[(6,.cells 103 [.d (.str o.kind),.d (.str o.name),.d (.str o.team),.own 4,.d (.bool o.ending),.own 5,.d (.int .i64 o.version)]),(4,.row 9 1 (W.map eB)),(5,.row 9 1 (o.holds.map eB)),(1,.cells 103 [.d (.str []),.d (.str []),.d (.str []),.nils,.d (.bool false),.nils,.d (.int .i64 0)])],7,0⟩) (rfl) ?_
  intro i W hi hr
  have hs:fs.length≤big:=by omega
  have hW:W.length=o.values.length:=by rw[hr,nY]
  repeat refine ai ?_
  refine aj ?_ ?_<;>intro h1
  ·have hlt:i<fs.length:=V h1
   have hlt2:i<o.values.length:=by omega
   have hlt3:i<W.length:=by omega
   have hv:W[i]=o.values[i]:=by simp only[hr];exact AR hlt hlt2 _
   have hst:fq (fs.take (i+1)) o.values=W.set i (jv fs[i] o.values[i]):=by rw[hr,←rI hlt hlt2]
   repeat refine ai ?_
   refine aj (Int.natCast_nonneg _) (aj (by rw[List.length_map];omega) ?_)
   repeat refine ai ?_
   refine ⟨_,v7 hlt3,?_⟩
   repeat refine ai ?_
   refine aj ?_ ?_<;>intro h2
   ·have hf:jv fs[i] o.values[i]=fs[i].default_:=by unfold jv;rw[←hv,show (W[i]==[])=true from h2];rfl
    repeat refine ai ?_
    refine GA ?_
    repeat refine ai ?_
    refine O (e:=GateField.e) (xs:=fs) (hlt) rfl ?_
    repeat refine ai ?_
    refine aj (Int.natCast_nonneg _) (aj (by rw[List.length_map];omega) ?_)
    repeat refine ai ?_
    refine ⟨_,v7 hlt3,Nat.le_refl _,?_⟩
    repeat refine ai ?_
    exact c6 (W.set i fs[i].default_) hlt hs (by rw[hst,hf]) fun hw=>by repeat' first|exact rfl|exact trivial|exact nd hw|exact qE hlt3|refine aj ?_ ?_
   ·have hf:jv fs[i] o.values[i]=W[i]:=by unfold jv;rw[←hv,show (W[i]==[])=false from h2];rfl
    repeat refine ai ?_
    exact c6 W hlt hs (by rw[hst,hf,qv hlt3 rfl])
  ·have hi':fs.length≤i:=Z h1
   rw[List.take_of_length_le hi'] at hr
   rw[←hr]
   repeat refine ai ?_
   exact rfl
theorem BS {xs:List GateShape} {o:GateObject} (h0:(ah xs o.kind o.values.length).2=false):fG xs o=o:=by
 unfold fG
 rcases dl (xs:=xs) (k:=o.kind) (n:=o.values.length) with ⟨h1,h2⟩|⟨j,hj,_,h,_⟩
 ·rw[h2];rfl
 ·rw[h] at h0;cases h0
theorem zL {xs:List GateShape} {o:GateObject} (h0:o.values=[]):fG xs o=o:=by
 unfold fG
 rw[h0]
 cases o
 simp only at h0
 subst h0
 generalize (ah xs _ _).1=fs
 cases fs<;>rfl
theorem zz (xs:List GateShape) (o:GateObject):Spec P 217 [.d (aa xs),st o.e] (st (bif aH xs then fG xs o else o).e):=by
 refine Spec.of_vc aI aw [.cell 4 103] Tryz.func217 rfl rfl rfl rfl (fun hok=>?_)
 have hb:=i0 (o:=o) ⟨hok.2.1,trivial⟩
 obtain ⟨hl,hl2⟩:=cr (xs:=xs) (k:=o.kind) (n:=o.values.length)
 cases hv:o.values with
 |nil=>
  repeat refine ai ?_
  refine oc (zt _) ?_
  repeat refine ai ?_
  refine oc (fB _ _) ?_
  rw[zL hv]
  repeat refine ai ?_
  refine aj ?_ ?_<;>intro h0
  ·repeat refine ai ?_
   refine oc (fj _) ?_
   repeat refine ai ?_
   refine aj ?_ ?_<;>intro h1
   ·repeat refine ai ?_
    cases aH xs<;>exact rfl
   ·simp only[Bool.not_eq_false'] at h0 h1
    have hl:=hl2 h0
    rw[hv] at hl
    simp only[hv] at hl ⊢
    generalize (ah xs o.kind ([]:List Bs).length).1=fs at*
    have:fs=[]:=List.eq_nil_of_length_eq_zero hl
    subst this
    repeat refine ai ?_
    refine ⟨I0 ([]:List GateField) (fun _=>True) (fun i=>[(3,.ptr 0 0),(4,.ptr 1 0),(25,.d (ab [])),(26,.d (.int .i64 0)),(27,.d (.int .i64 i))]) (fun i=>⟨[(0,.cells 103 [.d (.str o.kind),.d (.str o.name),.d (.str o.team),.d (lS []),.d (.bool o.ending),.d (lS o.holds),.d (.int .i64 o.version)]),(1,.cells 103 [.d (.str []),.d (.str []),.d (.str []),.nils,.d (.bool false),.nils,.d (.int .i64 0)])],2,0⟩),⟨_,_,_,⟨0,rfl,Nat.zero_le _,trivial,rfl,rfl⟩,by repeat' first|exact rfl|exact trivial|refine aj ?_ ?_⟩,?_⟩
    rintro m l hh ⟨i,rfl,hi,hr,rfl,rfl⟩
    repeat refine ai ?_
    refine aj ?_ ?_<;>intro g1
    ·exact absurd (of_decide_eq_true g1) (by omega)
    ·have ho:st o.e=zb o (.d (lS [])) (.d (lS o.holds)):=by rw[EG,hv]
     repeat refine ai ?_
     cases aH xs<;>exact ho.symm
  ·repeat refine ai ?_
   cases aH xs<;>exact rfl
 |cons v0 vr=>
  have hpos:0<o.values.length:=by rw[hv];simp
  clear hv
  repeat refine ai ?_
  refine ow (AI o hpos) ?_
  repeat refine ai ?_
  refine oe (fun g=>oO xs o g 4) ?_
  repeat refine ai ?_
  refine aj ?_ ?_<;>intro h0
  ·repeat refine ai ?_
   refine oc (fj _) ?_
   repeat refine ai ?_
   refine aj ?_ ?_<;>intro h1
   ·simp only[Bool.not_eq_true',Bool.not_eq_false'] at h0 h1
    rw[h1]
    repeat refine ai ?_
    exact rfl
   ·simp only[Bool.not_eq_false'] at h0 h1
    have hl:=hl2 h0
    rw[h1]
    unfold fG
    generalize (ah xs o.kind o.values.length).1=fs at*
    repeat refine ai ?_
    refine mX (fs) (fun i (W:List Bs)=>W=fq (fs.take i) o.values) (fun i (W:List Bs)=>[(3,.ptr 0 0),(4,.ptr 1 0),(25,.d (ab fs)),(26,.d (.int .i64 (fs.map GateField.e).length)),(27,.d (.int .i64 i))]) (fun i (W:List Bs)=>⟨[(0,.cells 103 [.d (.str o.kind),.d (.str o.name),.d (.str o.team),.own 4,.d (.bool o.ending),.d (lS o.holds),.d (.int .i64 o.version)]),(4,.row 9 1 (W.map eB)),(1,.cells 103 [.d (.str []),.d (.str []),.d (.str []),.nils,.d (.bool false),.nils,.d (.int .i64 0)])],5,0⟩) (rfl) ?_
    intro i W hi hr
    have hs:fs.length≤big:=by omega
    have hW:W.length=o.values.length:=by rw[hr,nY]
    repeat refine ai ?_
    refine aj ?_ ?_<;>intro g1
    ·have hlt:i<fs.length:=V g1
     have hlt2:i<o.values.length:=by omega
     have hlt3:i<W.length:=by omega
     have hv:W[i]=o.values[i]:=by simp only[hr];exact AR hlt hlt2 _
     have hst:fq (fs.take (i+1)) o.values=W.set i (jv fs[i] o.values[i]):=by rw[hr,←rI hlt hlt2]
     repeat refine ai ?_
     refine O (e:=GateField.e) (xs:=fs) (hlt) rfl ?_
     repeat refine ai ?_
     refine aj (Int.natCast_nonneg _) (aj (by rw[List.length_map];omega) ?_)
     repeat refine ai ?_
     refine ⟨_,v7 hlt3,?_⟩
     repeat refine ai ?_
     refine aj ?_ ?_<;>intro h2
     ·have hf:jv fs[i] o.values[i]=fs[i].default_:=by unfold jv;rw[←hv,show (W[i]==[])=true from h2];rfl
      repeat refine ai ?_
      refine aj (Int.natCast_nonneg _) (aj (by rw[List.length_map];omega) ?_)
      repeat refine ai ?_
      refine ⟨_,v7 hlt3,Nat.le_refl _,?_⟩
      repeat refine ai ?_
      exact c6 (W.set i fs[i].default_) hlt hs (by rw[hst,hf]) fun hw=>by repeat' first|exact rfl|exact trivial|exact nd hw|exact qE hlt3|refine aj ?_ ?_
     ·have hf:jv fs[i] o.values[i]=W[i]:=by unfold jv;rw[←hv,show (W[i]==[])=false from h2];rfl
      repeat refine ai ?_
      exact c6 W hlt hs (by rw[hst,hf,qv hlt3 rfl])
    ·have hi':fs.length≤i:=Z g1
     rw[List.take_of_length_le hi'] at hr
     rw[←hr]
     repeat refine ai ?_
     exact rfl
  ·simp only[Bool.not_eq_true'] at h0
   rw[BS h0]
   repeat refine ai ?_
   cases aH xs<;>exact rfl
end Go.Vc
end
section
namespace Go.Vc
def GD (rd:Bs→List Bs) (ns:List Bs):Prop:=∃r:Bs→Nat,∀n∈ns,∀y∈rd n,r y<r n
def stepG (rd:Bs→List Bs) (ns row:List Bs):List Bs:=
 match ns.find? (fun f=> !row.contains f&&(rd f).all row.contains) with
 |some f=>row++[f]
 |none=>row
def fD (rd:Bs→List Bs) (ns:List Bs):Nat→List Bs
 |0=>[]
 |k+1=>stepG rd ns (fD rd ns k)
theorem eG:∀{xs ys:List Bs},xs.Nodup→(∀x∈xs,x∈ys)→xs.length≤ys.length
 |[],_,_,_=>Nat.zero_le _
 |x::xs,ys,hn,hs=>by
  have hn':=List.nodup_cons.1 hn
  have hx:x∈ys:=hs x List.mem_cons_self
  have h1:xs.length≤(ys.erase x).length:=eG hn'.2 (fun y hy=>by
   have hne:y≠x:=fun e=>hn'.1 (e▸hy)
   exact (List.mem_erase_of_ne hne).2 (hs y (List.mem_cons_of_mem _ hy)))
  have h2:=List.length_erase_of_mem hx
  have h3:=List.length_pos_of_mem hx
  simp only[List.length_cons];omega
theorem yb {α:Type} (p:α→Prop) (r:α→Nat):∀m:Nat,(∃x,p x∧r x≤m)→∃x,p x∧∀y,p y→r x≤r y
 |0,⟨x,hx,hr⟩=>⟨x,hx,fun y _=>by omega⟩
 |m+1,⟨x,hx,hr⟩=>by
  by_cases h:∃y,p y∧r y≤m
  ·exact yb p r m h
  ·exact ⟨x,hx,fun y hy=>by
    have:¬r y≤m:=fun c=>h ⟨y,hy,c⟩
    omega⟩
theorem zM:∀{ns row:List Bs},ns.Nodup→row.length<ns.length→∃x,x∈ns∧x ∉ row:=by
 intro ns row hn hl
 refine Classical.byContradiction fun h=>?_
 have:ns.length≤row.length:=eG hn (fun x hx=>Classical.byContradiction fun hx'=>h ⟨x,hx,hx'⟩)
 omega
structure sZ (rd:Bs→List Bs) (ns row:List Bs):Prop where
 nd:row.Nodup
 sub:∀x∈row,x∈ns
 beh:∀x∈row,∀y∈rd x,row.idxOf y<row.idxOf x
theorem gD {row:List Bs} {x f:Bs} (h:x∈row):(row++[f]).idxOf x=row.idxOf x:=by
 rw[List.idxOf_append,if_pos h]
theorem BP {rd:Bs→List Bs} {ns row:List Bs} {f:Bs} (g:sZ rd ns row) (hf:f∈ns) (h:f ∉ row) (hr:∀y∈rd f,y∈row):sZ rd ns (row++[f]):=by
 refine ⟨?_,?_,?_⟩
 ·rw[List.nodup_append]
  refine ⟨g.nd,by simp,?_⟩
  intro a ha b hb e
  rw[List.mem_singleton] at hb
  exact h (hb▸e▸ha)
 ·intro x hx
  rcases List.mem_append.1 hx with hx|hx
  ·exact g.sub x hx
  ·rw[List.mem_singleton] at hx;exact hx▸hf
 ·intro x hx y hy
  rcases List.mem_append.1 hx with hx|hx
  ·have h1:=g.beh x hx y hy
   have h2:row.idxOf x<row.length:=List.idxOf_lt_length_of_mem hx
   have hy':y∈row:=List.idxOf_lt_length_iff.1 (by omega)
   rw[gD hx,gD hy'];exact h1
  ·rw[List.mem_singleton] at hx
   subst hx
   have hy':=hr y hy
   rw[gD hy',List.idxOf_append,if_neg h]
   have:=List.idxOf_lt_length_of_mem hy'
   omega
theorem yK {rd:Bs→List Bs} {ns row:List Bs} (g:sZ rd ns row):sZ rd ns (stepG rd ns row):=by
 unfold stepG
 split
 ·rename_i f hf
  have h1:=List.find?_some hf
  rw[Bool.and_eq_true,Bool.not_eq_true'] at h1
  refine BP g (List.mem_of_find?_eq_some hf) ?_ ?_
  ·intro c
   have:=h1.1
   rw[←Bool.not_eq_true,List.contains_iff_mem] at this
   exact this c
  ·intro y hy
   have:=List.all_eq_true.1 h1.2 y hy
   exact List.contains_iff_mem.1 this
 ·exact g
theorem fX (rd:Bs→List Bs) (ns:List Bs):∀k,sZ rd ns (fD rd ns k)
 |0=>⟨List.nodup_nil,(fun x hx=>absurd hx List.not_mem_nil),(fun x hx=>absurd hx List.not_mem_nil)⟩
 |k+1=>yK (fX rd ns k)
theorem oU {rd:Bs→List Bs} {ns:List Bs} (hn:ns.Nodup) (hin:∀n∈ns,∀y∈rd n,y∈ns) (ha:GD rd ns):∀k,k≤ns.length→(fD rd ns k).length=k
 |0,_=>rfl
 |k+1,h=>by
  have ih:=oU hn hin ha k (by omega)
  have g:=fX rd ns k
  obtain ⟨r,hr⟩:=ha
  obtain ⟨x0,hx0,hx0'⟩:=zM (row:=fD rd ns k) hn (by omega)
  obtain ⟨x,⟨hx,hxr⟩,hmin⟩:=yb (fun x=>x∈ns∧x ∉ fD rd ns k) r (r x0) ⟨x0,⟨hx0,hx0'⟩,Nat.le_refl _⟩
  have hready:(!(fD rd ns k).contains x&&(rd x).all (fD rd ns k).contains)=true:=by
   rw[Bool.and_eq_true,Bool.not_eq_true',List.all_eq_true]
   refine ⟨?_,fun y hy=>?_⟩
   ·rw[←Bool.not_eq_true,List.contains_iff_mem];exact hxr
   ·refine List.contains_iff_mem.2 (Classical.byContradiction fun c=>?_)
    have:=hmin y ⟨hin x hx y hy,c⟩
    have:=hr x hx y hy
    omega
  show (stepG rd ns (fD rd ns k)).length=k+1
  unfold stepG
  split
  ·rw[List.length_append,ih];rfl
  ·rename_i hf
   have:=List.find?_eq_none.1 hf x hx
   exact absurd hready this
theorem zE {rd:Bs→List Bs} {ns:List Bs} (hn:ns.Nodup) (h:(fD rd ns ns.length).length=ns.length):GD rd ns:=by
 have g:=fX rd ns ns.length
 refine ⟨(fD rd ns ns.length).idxOf,fun n hm y hy=>g.beh n ?_ y hy⟩
 refine Classical.byContradiction fun c=>?_
 have:(n::fD rd ns ns.length).length≤ns.length:=eG (List.nodup_cons.2 ⟨c,g.nd⟩) (fun x hx=>by
  rcases List.mem_cons.1 hx with e|e
  ·exact e▸hm
  ·exact g.sub x e)
 rw[List.length_cons] at this
 omega
structure Wk where
 st:List (Bs×Int)
 out:List Bs
def lk:List (Bs×Int)→Bs→Int
 |[],_=>0
 |(k,v)::r,x=>bif k==x then v else lk r x
def pt:List (Bs×Int)→Bs→Int→List (Bs×Int)
 |[],x,v=>[(x,v)]
 |(k,u)::r,x,v=>bif k==x then (k,v)::r else (k,u)::pt r x v
theorem fh {x y:Bs} {v:Int}:∀{s:List (Bs×Int)},lk (pt s x v) y=bif x==y then v else lk s y
 |[]=>by simp only[pt,lk]
 |(k,u)::r=>by
  cases h:k==x with
  |true=>
   have e:k=x:=beq_iff_eq.1 h
   subst e
   simp only[pt,h,cond_true,lk]
   cases k==y<;>rfl
  |false=>
   simp only[pt,h,cond_false,lk,fh (s:=r)]
   cases h2:k==y with
   |true=>
    have e:k=y:=beq_iff_eq.1 h2
    subst e
    have:(x==k)=false:=by rw[←Bool.not_eq_true,beq_iff_eq];rw[←Bool.not_eq_true,beq_iff_eq] at h;exact fun c=>h c.symm
    rw[this];rfl
   |false=>rfl
def bJ (w:Bs→Wk→Bool×Wk):List Bs→Wk→Bool×Wk
 |[],s=>(true,s)
 |y::ys,s=>match w y s with
  |(false,s')=>(false,s')
  |(true,s')=>bJ w ys s'
def bX (rd:Bs→List Bs):Nat→Bs→Wk→Bool×Wk
 |0,_,s=>(false,s)
 |k+1,x,s=>bif lk s.st x==1 then (false,s) else bif lk s.st x==2 then (true,s) else
  match bJ (bX rd k) (rd x) ⟨pt s.st x 1,s.out⟩ with
  |(false,s')=>(false,s')
  |(true,s')=>(true,⟨pt s'.st x 2,s'.out++[x]⟩)
def white (ns:List Bs) (s:Wk):Nat:=(ns.filter fun n=>lk s.st n==0).length
structure np (rd:Bs→List Bs) (ns:List Bs) (s:Wk):Prop where
 nd:s.out.Nodup
 sub:∀x∈s.out,x∈ns
 val:∀x,lk s.st x=0∨lk s.st x=1∨lk s.st x=2
 two:∀x,lk s.st x=2↔x∈s.out
 beh:∀x∈s.out,∀y∈rd x,s.out.idxOf y<s.out.idxOf x
structure WkLe (s s':Wk):Prop where
 one:∀x,lk s.st x=1↔lk s'.st x=1
 two:∀x,lk s.st x=2→lk s'.st x=2
 white:∀x,lk s'.st x=0→lk s.st x=0
theorem WkLe.refl (s:Wk):WkLe s s:=⟨fun _=>Iff.rfl,fun _ h=>h,fun _ h=>h⟩
theorem WkLe.trans {a b c:Wk} (h:WkLe a b) (k:WkLe b c):WkLe a c:=⟨fun x=>(h.one x).trans (k.one x),fun x e=>k.two x (h.two x e),fun x e=>h.white x (k.white x e)⟩
theorem ii {p q:Bs→Bool}:∀{ns:List Bs},(∀x,p x=true→q x=true)→(ns.filter p).length≤(ns.filter q).length
 |[],_=>Nat.le_refl _
 |n::ns,h=>by
  have ih:=ii (ns:=ns) h
  cases hp:p n with
  |true=>rw[List.filter_cons_of_pos hp,List.filter_cons_of_pos (h n hp)];simp only[List.length_cons];omega
  |false=>
   rw[List.filter_cons_of_neg (by rw[hp];simp)]
   cases hq:q n with
   |true=>rw[List.filter_cons_of_pos hq];simp only[List.length_cons];omega
   |false=>rw[List.filter_cons_of_neg (by rw[hq];simp)];exact ih
theorem kX {p q:Bs→Bool} {a:Bs}:∀{ns:List Bs},(∀x,p x=true→q x=true)→a∈ns→p a=false→q a=true→(ns.filter p).length<(ns.filter q).length
 |[],_,h,_,_=>absurd h List.not_mem_nil
 |n::ns,h,ha,h1,h2=>by
  by_cases e:n=a
  ·subst e
   rw[List.filter_cons_of_neg (by rw[h1];simp),List.filter_cons_of_pos h2]
   have:=ii (ns:=ns) h
   simp only[List.length_cons];omega
  ·have hm:a∈ns:=(List.mem_cons.1 ha).resolve_left (fun c=>e c.symm)
   have ih:=kX (ns:=ns) h hm h1 h2
   cases hp:p n with
   |true=>rw[List.filter_cons_of_pos hp,List.filter_cons_of_pos (h n hp)];simp only[List.length_cons];omega
   |false=>
    rw[List.filter_cons_of_neg (by rw[hp];simp)]
    cases hq:q n with
    |true=>rw[List.filter_cons_of_pos hq];simp only[List.length_cons];omega
    |false=>rw[List.filter_cons_of_neg (by rw[hq];simp)];exact ih
theorem wA {ns:List Bs} {s s':Wk} (h:WkLe s s'):white ns s'≤white ns s:=ii (fun x hx=>by
 rw[beq_iff_eq] at hx ⊢;exact h.white x hx)
theorem wz {ns:List Bs} {s:Wk} {x:Bs} (hx:x∈ns) (h:lk s.st x=0) (o:List Bs):white ns ⟨pt s.st x 1,o⟩<white ns s:=by
 refine kX (a:=x) (fun y hy=>?_) hx ?_ ?_
 ·simp only[fh] at hy
  cases e:x==y with
  |true=>rw[e] at hy;simp at hy
  |false=>rw[e] at hy;exact hy
 ·simp only[fh,BEq.rfl,cond_true];rfl
 ·rw[h];rfl
def yv (rd:Bs→List Bs) (ns:List Bs) (x:Bs) (s:Wk) (r:Bool×Wk):Prop:=
 (r.1=true→np rd ns r.2∧WkLe s r.2∧lk r.2.st x=2)∧
 (r.1=false→∀rk:Bs→Nat,(∀n∈ns,∀y∈rd n,rk y<rk n)→∃z,lk s.st z=1∧rk z≤rk x)
theorem iL {rd:Bs→List Bs} {ns:List Bs} {w:Bs→Wk→Bool×Wk} {n:Nat}:∀(ys:List Bs) (s:Wk),(∀y∈ys,∀s,np rd ns s→white ns s≤n→yv rd ns y s (w y s))→np rd ns s→white ns s≤n→
 ((bJ w ys s).1=true→np rd ns (bJ w ys s).2∧WkLe s (bJ w ys s).2∧∀y∈ys,lk (bJ w ys s).2.st y=2)∧
 ((bJ w ys s).1=false→∀rk:Bs→Nat,(∀n∈ns,∀y∈rd n,rk y<rk n)→∃z y,y∈ys∧lk s.st z=1∧rk z≤rk y)
 |[],s,_,hs,_=>⟨fun _=>⟨hs,WkLe.refl _,fun y hy=>absurd hy List.not_mem_nil⟩,fun h=>by simp[bJ] at h⟩
 |y::ys,s,hw,hs,hn=>by
  have g:=hw y List.mem_cons_self s hs hn
  unfold bJ
  cases e:w y s with
  |mk b s'=>cases b with
   |false=>
    refine ⟨fun h=>by simp at h,fun _ rk hrk=>?_⟩
    rw[e] at g
    obtain ⟨z,h1,h2⟩:=g.2 rfl rk hrk
    exact ⟨z,y,List.mem_cons_self,h1,h2⟩
   |true=>
    rw[e] at g
    obtain ⟨g1,g2,g3⟩:=g.1 rfl
    have ih:=iL ys s' (fun y hy=>hw y (List.mem_cons_of_mem _ hy)) g1 (Nat.le_trans (wA g2) hn)
    refine ⟨fun h=>?_,fun h rk hrk=>?_⟩
    ·obtain ⟨i1,i2,i3⟩:=ih.1 h
     refine ⟨i1,g2.trans i2,fun u hu=>?_⟩
     rcases List.mem_cons.1 hu with c|c
     ·rw[c];exact i2.two y g3
     ·exact i3 u c
    ·obtain ⟨z,u,hu,h1,h2⟩:=ih.2 h rk hrk
     exact ⟨z,u,List.mem_cons_of_mem _ hu,(g2.one z).2 h1,h2⟩
theorem gx {rd:Bs→List Bs} {ns:List Bs} (hin:∀n∈ns,∀y∈rd n,y∈ns):∀(k:Nat) (x:Bs) (s:Wk),x∈ns→np rd ns s→white ns s<k→yv rd ns x s (bX rd k x s)
 |0,_,_,_,_,h=>by omega
 |k+1,x,s,hx,hs,hn=>by
  unfold bX
  cases h1:lk s.st x==1 with
  |true=>
   rw[beq_iff_eq] at h1
   exact ⟨fun h=>by simp at h,fun _ rk _=>⟨x,h1,Nat.le_refl _⟩⟩
  |false=>cases h2:lk s.st x==2 with
   |true=>
    rw[beq_iff_eq] at h2
    exact ⟨fun _=>⟨hs,WkLe.refl _,h2⟩,fun h=>by simp at h⟩
   |false=>
    have h0:lk s.st x=0:=by
     have e1:lk s.st x≠1:=fun c=>by rw[c] at h1;simp at h1
     have e2:lk s.st x≠2:=fun c=>by rw[c] at h2;simp at h2
     rcases hs.val x with c|c|c
     ·exact c
     ·exact absurd c e1
     ·exact absurd c e2
    have hout:x ∉ s.out:=fun c=>by
     have:=(hs.two x).2 c
     rw[h0] at this;exact absurd this (by decide)
    simp only[cond_false]
    have hs1:np rd ns ⟨pt s.st x 1,s.out⟩:=by
     refine ⟨hs.nd,hs.sub,fun y=>?_,fun y=>?_,hs.beh⟩
     ·simp only[fh]
      cases x==y
      ·exact hs.val y
      ·exact .inr (.inl rfl)
     ·simp only[fh]
      cases e:x==y with
      |true=>
       have e':x=y:=beq_iff_eq.1 e
       subst e'
       exact ⟨fun c=>by simp at c,fun c=>absurd c hout⟩
      |false=>exact hs.two y
    have hw:=wz hx h0 s.out
    have g:=iL (rd:=rd) (ns:=ns) (w:=bX rd k) (n:=white ns ⟨pt s.st x 1,s.out⟩) (rd x) ⟨pt s.st x 1,s.out⟩
     (fun y hy s' hs' hl=>gx hin k y s' (hin x hx y hy) hs' (by omega)) hs1 (Nat.le_refl _)
    cases e:bJ (bX rd k) (rd x) ⟨pt s.st x 1,s.out⟩ with
    |mk b s'=>
     rw[e] at g
     cases b with
     |false=>
      refine ⟨fun h=>by simp at h,fun _ rk hrk=>?_⟩
      obtain ⟨z,y,hy,hz,hle⟩:=g.2 rfl rk hrk
      have hlt:=hrk x hx y hy
      refine ⟨z,?_,by omega⟩
      have hz':lk (pt s.st x 1) z=1:=hz
      rw[fh] at hz'
      cases e2:x==z with
      |true=>
       have e3:x=z:=beq_iff_eq.1 e2
       subst e3
       omega
      |false=>rw[e2] at hz';exact hz'
     |true=>
      obtain ⟨g1,g2,g3⟩:=g.1 rfl
      have g1:np rd ns s':=g1
      have g3:∀y∈rd x,lk s'.st y=2:=g3
      refine ⟨fun _=>?_,fun h=>by simp at h⟩
      have hx1:lk s'.st x=1:=(g2.one x).1 (by simp only[fh,BEq.rfl,cond_true])
      have hx':x ∉ s'.out:=fun c=>by
       have:=(g1.two x).2 c
       rw[hx1] at this;exact absurd this (by decide)
      refine ⟨⟨?_,?_,fun y=>?_,fun y=>?_,?_⟩,⟨fun y=>?_,fun y hy=>?_,fun y hy=>?_⟩,?_⟩
      ·show (s'.out++[x]).Nodup
       rw[List.nodup_append]
       refine ⟨g1.nd,by simp,?_⟩
       intro a ha b hb e
       rw[List.mem_singleton] at hb
       exact hx' (hb▸e▸ha)
      ·intro y hy
       rcases List.mem_append.1 hy with hy|hy
       ·exact g1.sub y hy
       ·rw[List.mem_singleton] at hy;exact hy▸hx
      ·simp only[fh]
       cases x==y
       ·exact g1.val y
       ·exact .inr (.inr rfl)
      ·simp only[fh,List.mem_append,List.mem_singleton]
       cases e2:x==y with
       |true=>
        have e3:x=y:=beq_iff_eq.1 e2
        exact ⟨fun _=> .inr e3.symm,fun _=>rfl⟩
       |false=>
        have e3:x≠y:=fun c=>by rw[c] at e2;simp at e2
        exact (g1.two y).trans ⟨.inl,fun c=>c.resolve_right (fun c=>e3 c.symm)⟩
      ·intro u hu y hy
       rcases List.mem_append.1 hu with hu|hu
       ·have q1:=g1.beh u hu y hy
        have q2:s'.out.idxOf u<s'.out.length:=List.idxOf_lt_length_of_mem hu
        have hy':y∈s'.out:=List.idxOf_lt_length_iff.1 (by omega)
        rw[gD hu,gD hy'];exact q1
       ·rw[List.mem_singleton] at hu
        subst hu
        have hy':=(g1.two y).1 (g3 y hy)
        rw[gD hy',List.idxOf_append,if_neg hx']
        have:=List.idxOf_lt_length_of_mem hy'
        omega
      ·simp only[fh]
       cases e2:x==y with
       |true=>
        have e3:x=y:=beq_iff_eq.1 e2
        subst e3
        rw[h0]
        exact ⟨fun c=>by simp at c,fun c=>by simp at c⟩
       |false=>
        have:=g2.one y
        simp only[fh,e2,cond_false] at this
        exact this
      ·simp only[fh]
       cases e2:x==y with
       |true=>rfl
       |false=>
        have:=g2.two y
        simp only[fh,e2,cond_false] at this
        exact this hy
      ·simp only[fh] at hy
       cases e2:x==y with
       |true=>rw[e2] at hy;simp at hy
       |false=>
        rw[e2] at hy
        have:=g2.white y hy
        simp only[fh,e2,cond_false] at this
        exact this
      ·simp only[fh,BEq.rfl,cond_true]
def A1:Wk:=⟨[],[]⟩
theorem yx (rd:Bs→List Bs) (ns:List Bs):np rd ns A1:=⟨List.nodup_nil,fun x h=>absurd h List.not_mem_nil,fun _=> .inl rfl,fun x=>⟨fun h=>absurd (show (0:Int)=2 from h) (by decide),fun h=>absurd h List.not_mem_nil⟩,fun x h=>absurd h List.not_mem_nil⟩
theorem km (ns:List Bs) (s:Wk):white ns s≤ns.length:=List.length_filter_le _ _
theorem th {w:Bs→Wk→Bool×Wk} (hw:∀y s,∃t,(w y s).2.out=s.out++t):∀(ys:List Bs) (s:Wk),∃t,(bJ w ys s).2.out=s.out++t
 |[],s=>⟨[],by simp[bJ]⟩
 |y::ys,s=>by
  obtain ⟨t,ht⟩:=hw y s
  unfold bJ
  cases e:w y s with
  |mk b s'=>
   rw[e] at ht
   cases b with
   |false=>exact ⟨t,ht⟩
   |true=>
    obtain ⟨t2,ht2⟩:=th hw ys s'
    exact ⟨t++t2,by rw[←List.append_assoc,←ht];exact ht2⟩
theorem gG (rd:Bs→List Bs):∀(k:Nat) (x:Bs) (s:Wk),∃t,(bX rd k x s).2.out=s.out++t
 |0,_,s=>⟨[],by simp[bX]⟩
 |k+1,x,s=>by
  unfold bX
  cases lk s.st x==1 with
  |true=>exact ⟨[],by simp⟩
  |false=>cases lk s.st x==2 with
   |true=>exact ⟨[],by simp⟩
   |false=>
    obtain ⟨t,ht⟩:=th (w:=bX rd k) (gG rd k) (rd x) ⟨pt s.st x 1,s.out⟩
    simp only[cond_false]
    cases e:bJ (bX rd k) (rd x) ⟨pt s.st x 1,s.out⟩ with
    |mk b s'=>
     rw[e] at ht
     cases b with
     |false=>exact ⟨t,ht⟩
     |true=>exact ⟨t++[x],by rw[←List.append_assoc,←ht]⟩
theorem lT {rd:Bs→List Bs} {k:Nat} {x:Bs} {s:Wk} (h:(lk s.st x==1)=true):bX rd (k+1) x s=(false,s):=by
 unfold bX;rw[h];rfl
theorem lR {rd:Bs→List Bs} {k:Nat} {x:Bs} {s:Wk} (h:(lk s.st x==1)=false) (h2:(lk s.st x==2)=true):bX rd (k+1) x s=(true,s):=by
 unfold bX;rw[h,h2];rfl
theorem gR {rd:Bs→List Bs} {k:Nat} {x:Bs} {s s':Wk} (h:(lk s.st x==1)=false) (h2:(lk s.st x==2)=false) (e:bJ (bX rd k) (rd x) ⟨pt s.st x 1,s.out⟩=(false,s')):bX rd (k+1) x s=(false,s'):=by
 unfold bX;rw[h,h2,e];rfl
theorem im {rd:Bs→List Bs} {k:Nat} {x:Bs} {s s':Wk} (h:(lk s.st x==1)=false) (h2:(lk s.st x==2)=false) (e:bJ (bX rd k) (rd x) ⟨pt s.st x 1,s.out⟩=(true,s')):bX rd (k+1) x s=(true,⟨pt s'.st x 2,s'.out++[x]⟩):=by
 unfold bX;rw[h,h2,e];rfl
theorem dF {w:Bs→Wk→Bool×Wk} {ys:List Bs} {i:Nat} {s:Wk} (h:i<ys.length):bJ w (ys.drop i) s=match w ys[i] s with
 |(false,s')=>(false,s')
 |(true,s')=>bJ w (ys.drop (i+1)) s':=by
 rw[List.drop_eq_getElem_cons h];rfl
theorem eO {w:Bs→Wk→Bool×Wk} {ys:List Bs} {i:Nat} {s:Wk} (h:ys.length≤i):bJ w (ys.drop i) s=(true,s):=by
 rw[List.drop_of_length_le h];rfl
structure yu (rd:Bs→List Bs) (ns:List Bs) (x:Bs) (s s1:Wk):Prop where
 ok:np rd ns s1
 one:lk s1.st x=1
 white:white ns s1<white ns s
theorem lQ {rd:Bs→List Bs} {ns:List Bs} {x:Bs} {s:Wk} (hx:x∈ns) (hs:np rd ns s) (h1:(lk s.st x==1)=false) (h2:(lk s.st x==2)=false):yu rd ns x s ⟨pt s.st x 1,s.out⟩:=by
 have h0:lk s.st x=0:=by
  rcases hs.val x with c|c|c
  ·exact c
  ·rw[c] at h1;simp at h1
  ·rw[c] at h2;simp at h2
 have hout:x ∉ s.out:=fun c=>by
  have:=(hs.two x).2 c
  rw[h0] at this;exact absurd this (by decide)
 refine ⟨⟨hs.nd,hs.sub,fun y=>?_,fun y=>?_,hs.beh⟩,by simp only[fh,BEq.rfl,cond_true],wz hx h0 _⟩
 ·simp only[fh]
  cases x==y
  ·exact hs.val y
  ·exact .inr (.inl rfl)
 ·simp only[fh]
  cases e:x==y with
  |true=>
   have e':x=y:=beq_iff_eq.1 e
   subst e'
   exact ⟨fun c=>by simp at c,fun c=>absurd c hout⟩
  |false=>exact hs.two y
theorem gP {rd:Bs→List Bs} {ns:List Bs} (hin:∀n∈ns,∀y∈rd n,y∈ns) {k:Nat} {x y:Bs} {s s1 s2:Wk} (h:yu rd ns x s s1) (hk:white ns s<k+1) (hy:y∈ns) (e:bX rd k y s1=(true,s2)):yu rd ns x s s2:=by
 have hw:=h.white
 have g:=gx hin k y s1 hy h.ok (by omega)
 rw[e] at g
 obtain ⟨g1,g2,_⟩:=g.1 rfl
 exact ⟨g1,(g2.one x).1 h.one,Nat.lt_of_le_of_lt (wA g2) h.white⟩
theorem kl {rd:Bs→List Bs} {ns:List Bs} {x:Bs} {s s1:Wk} (hx:x∈ns) (h:yu rd ns x s s1):s1.out.length+1≤ns.length:=by
 have:(x::s1.out).length≤ns.length:=eG (List.nodup_cons.2 ⟨fun c=>by
  have:=(h.ok.two x).2 c
  rw[h.one] at this;exact absurd this (by decide),h.ok.nd⟩) (fun y hy=>by
  rcases List.mem_cons.1 hy with e|e
  ·exact e▸hx
  ·exact h.ok.sub y e)
 exact this
theorem Cd {rd:Bs→List Bs} {ns:List Bs} (hin:∀n∈ns,∀y∈rd n,y∈ns):(bJ (bX rd (ns.length+1)) ns A1).1=true↔GD rd ns:=by
 have g:=iL (rd:=rd) (ns:=ns) (w:=bX rd (ns.length+1)) (n:=ns.length) ns A1
  (fun y hy s hs hl=>gx hin _ y s hy hs (by omega)) (yx rd ns) (km _ _)
 constructor
 ·intro h
  obtain ⟨g1,g2,g3⟩:=g.1 h
  exact ⟨(bJ (bX rd (ns.length+1)) ns A1).2.out.idxOf,fun n hn y hy=>g1.beh n ((g1.two n).1 (g3 n hn)) y hy⟩
 ·rintro ⟨rk,hrk⟩
  cases e:(bJ (bX rd (ns.length+1)) ns A1).1 with
  |true=>rfl
  |false=>
   obtain ⟨z,y,hy,hz,_⟩:=g.2 e rk hrk
   exact absurd hz (by show ¬((0:Int)=1);decide)
theorem wB {rd:Bs→List Bs} {ns:List Bs} (hn:ns.Nodup) (hin:∀n∈ns,∀y∈rd n,y∈ns):
 (bJ (bX rd (ns.length+1)) ns A1).1=decide ((fD rd ns ns.length).length=ns.length):=by
 rw[Bool.eq_iff_iff,decide_eq_true_eq,Cd hin]
 exact ⟨fun h=>oU hn hin h _ (Nat.le_refl _),zE hn⟩
end Go.Vc
end
section
namespace Go.Vc
theorem AX {α:Type} {key:α→Bs}:∀{xs:List α} {p:Option Bs},dE key p xs=true→∀a∈xs,∀b∈xs,key a=key b→a=b
 |[],_,_,a,ha,_,_,_=>by cases ha
 |x::xs,p,h,a,ha,b,hb,e=>by
  simp only[dE,Bool.and_eq_true] at h
  rcases List.mem_cons.1 ha with rfl|ha'
  ·rcases List.mem_cons.1 hb with rfl|hb'
   ·rfl
   ·have:=nj h.2 b hb'
    rw[←e,jm] at this;cases this
  ·rcases List.mem_cons.1 hb with rfl|hb'
   ·have:=nj h.2 a ha'
    rw[e,jm] at this;cases this
   ·exact AX h.2 a ha' b hb' e
def jy (s:Bs):List Bs:=bif s==[] then [] else [s]
def Ao (k n:Bs) (m:GateMend):List Bs:=bif m.kind==k&&m.field==n then jy m.when_++jy m.from_ else []
def U (k:Bs) (ms:List GateMend) (n:Bs):List Bs:=(ms.map (Ao k n)).flatten
def Fs (k f:Bs) (row:List Bs) (m:GateMend):Bool:=
 !((m.kind==k&&m.field==f)&&((!(m.when_==[])&& !row.any (·==m.when_))||(!(m.from_==[])&& !row.any (·==m.from_))))
def qJ (k f:Bs) (row:List Bs) (ms:List GateMend):Bool:=ms.all (Fs k f row)
theorem jo {row:List Bs} {s:Bs}:row.any (·==s)=row.contains s:=by
 rw[Bool.eq_iff_iff,List.any_eq_true,List.contains_iff_mem]
 constructor
 ·rintro ⟨x,hx,e⟩;rw[beq_iff_eq] at e;exact e▸hx
 ·intro h;exact ⟨s,h,BEq.rfl⟩
theorem CR {s:Bs} {p:Bs→Bool}:(jy s).all p= !(!(s==[])&& !p s):=by
 unfold jy
 cases s==[]<;>simp
theorem D2 {k f:Bs} {row:List Bs} {m:GateMend}:Fs k f row m=(Ao k f m).all row.contains:=by
 unfold Fs Ao
 cases (m.kind==k&&m.field==f) with
 |false=>rfl
 |true=>
  simp only[cond_true,List.all_append,CR,jo,Bool.true_and,Bool.not_or]
theorem o3 {p:Bs→Bool}:∀{l:List (List Bs)},l.flatten.all p=l.all (·.all p)
 |[]=>rfl
 |x::l=>by simp only[List.flatten_cons,List.all_append,List.all_cons,o3]
theorem y3 {k f:Bs} {row:List Bs} {ms:List GateMend}:qJ k f row ms=(U k ms f).all row.contains:=by
 unfold qJ U
 rw[o3,List.all_map]
 congr 1
 funext m
 exact D2
def bk (s:GateShape):List Bs:=s.fields.map (·.name)
def hH (s:GateShape) (ms:List GateMend) (row:List Bs) (f:Bs):Bool:= !row.any (·==f)&&qJ s.kind f row ms
def gr (s:GateShape) (ms:List GateMend) (n:Nat):List Bs:=fD (U s.kind ms) (bk s) n
def mw (s:GateShape) (ms:List GateMend):List Bs:=gr s ms s.fields.length
theorem AW {s:GateShape} {ms:List GateMend} {row:List Bs}:hH s ms row=fun f=> !row.contains f&&(U s.kind ms f).all row.contains:=by
 funext f
 unfold hH
 rw[jo,y3]
theorem AK {s:GateShape} {ms:List GateMend} {n:Nat} {f:Bs} (h:(bk s).find? (hH s ms (gr s ms n))=some f):gr s ms (n+1)=gr s ms n++[f]:=by
 rw[AW] at h
 show stepG _ _ _=_
 unfold stepG
 unfold gr at h ⊢
 rw[h]
theorem AL {s:GateShape} {ms:List GateMend} {n:Nat} (h:(bk s).find? (hH s ms (gr s ms n))=none):gr s ms (n+1)=gr s ms n:=by
 rw[AW] at h
 show stepG _ _ _=_
 unfold stepG
 unfold gr at h ⊢
 rw[h]
theorem Fb (s:GateShape) (ms:List GateMend) (n:Nat):(gr s ms n).length≤s.fields.length:=by
 have g:=fX (U s.kind ms) (bk s) n
 have:=eG g.nd g.sub
 rw[bk,List.length_map] at this
 exact this
theorem EB (s:GateShape) (ms:List GateMend):∀n,(gr s ms n).length≤n
 |0=>Nat.le_refl _
 |n+1=>by
  have ih:=EB s ms n
  cases h:(bk s).find? (hH s ms (gr s ms n)) with
  |none=>rw[AL h];omega
  |some f=>rw[AK h,List.length_append,List.length_singleton];omega
def oJ (s:GateShape) (ms:List GateMend) (row:List Bs) (l:List GateField):Option Bs:=(l.map (·.name)).find? (hH s ms row)
theorem lA {s:GateShape} {ms:List GateMend} {row:List Bs} {xs:List GateField} {i:Nat} (h:i<xs.length):oJ s ms row (xs.drop i)=bif hH s ms row xs[i].name then some xs[i].name else oJ s ms row (xs.drop (i+1)):=by
 unfold oJ
 rw[List.drop_eq_getElem_cons h,List.map_cons,List.find?_cons]
 cases hH s ms row xs[i].name<;>rfl
theorem BG {s:GateShape} {ms:List GateMend} {row:List Bs} {xs:List GateField} {i:Nat} (h:xs.length≤i):oJ s ms row (xs.drop i)=none:=by
 rw[List.drop_of_length_le h];rfl
def bw (shapes:List GateShape) (ms:List GateMend):Bool:=
 aH shapes&&(!decide ((ms.length:Int)>12)&&(ms.all (bF shapes)&&shapes.all fun s=>((mw s ms).length:Int)==(s.fields.length:Int)))
theorem rF {kinds:List Bs}:∀{fs:List GateField} {pre:List Bs},kL kinds pre fs=true→(fs.map (·.name)).Nodup∧∀x∈pre,x ∉ fs.map (·.name)
 |[],_,_=>⟨List.nodup_nil,fun _ _ h=>by cases h⟩
 |f::fs,pre,h=>by
  simp only[kL,Bool.and_eq_true,Bool.not_eq_true'] at h
  obtain ⟨h1,_,h3⟩:=h
  obtain ⟨g1,g2⟩:=rF h3
  rw[jo] at h1
  refine ⟨?_,fun x hx c=>?_⟩
  ·rw[List.map_cons,List.nodup_cons]
   exact ⟨g2 f.name (List.mem_append.2 (.inr List.mem_cons_self)),g1⟩
  ·rw[List.map_cons] at c
   rcases List.mem_cons.1 c with c|c
   ·have:pre.contains f.name=true:=List.contains_iff_mem.2 (c▸hx)
    rw[h1] at this;cases this
   ·exact g2 x (List.mem_append.2 (.inl hx)) c
theorem mj {xs:List GateShape} (h:aH xs=true) {s:GateShape} (hs:s∈xs):(bk s).Nodup:=by
 unfold aH at h
 simp only[Bool.and_eq_true] at h
 have:=List.all_eq_true.1 h.2.2 s hs
 unfold bt at this
 simp only[Bool.and_eq_true] at this
 exact (rF this.2).1
theorem yL {xs:List GateShape} (h:aH xs=true) {a b:GateShape} (ha:a∈xs) (hb:b∈xs) (e:a.kind=b.kind):a=b:=by
 unfold aH at h
 simp only[Bool.and_eq_true] at h
 exact AX h.2.1 a ha b hb e
theorem mF {fs:List GateField} {n:Bs} (h:fb fs n=true):n∈fs.map (·.name):=by
 unfold fb at h
 rw[Bool.and_eq_true,m7] at h
 obtain ⟨f,hf,e⟩:=List.any_eq_true.1 h.1
 rw[beq_iff_eq] at e
 exact List.mem_map.2 ⟨f,hf,e⟩
theorem xl {s y:Bs} (h:y∈jy s):y=s∧(s==[])=false:=by
 unfold jy at h
 cases e:s==[] with
 |true=>rw[e] at h;cases h
 |false=>rw[e] at h;exact ⟨List.mem_singleton.1 h,rfl⟩
theorem Az {xs:List GateShape} (h:aH xs=true) {s:GateShape} (hs:s∈xs) {m:GateMend} (hm:bF xs m=true) (e:m.kind=s.kind):iB s.fields m=true:=by
 unfold bF at hm
 split at hm
 ·rename_i s' hq
  rw[Bool.and_eq_true] at hm
  obtain ⟨j,hj,h1,h2,_⟩:=dD hm.1
  rw[h1,Int.toNat_natCast,List.getElem?_eq_getElem hj] at hq
  have e1:s'=xs[j]:=(Option.some.inj hq).symm
  have e2:xs[j].kind=m.kind:=by simpa using h2
  have:s'=s:=yL h (e1▸List.getElem_mem hj) hs (by rw[e1,e2,e])
  exact this▸hm.2
 ·cases hm
theorem jR {xs:List GateShape} {ms:List GateMend} (h:aH xs=true) (hm:ms.all (bF xs)=true) {s:GateShape} (hs:s∈xs):∀n,∀y∈U s.kind ms n,y∈bk s:=by
 intro n y hy
 unfold U at hy
 obtain ⟨l,hl,hy⟩:=List.mem_flatten.1 hy
 obtain ⟨m,hm1,rfl⟩:=List.mem_map.1 hl
 unfold Ao at hy
 cases e:(m.kind==s.kind&&m.field==n) with
 |false=>rw[e] at hy;cases hy
 |true=>
  rw[e] at hy
  rw[Bool.and_eq_true,beq_iff_eq] at e
  have hf:=Az h hs (List.all_eq_true.1 hm m hm1) e.1
  unfold iB at hf
  simp only[Bool.and_eq_true,Bool.or_eq_true] at hf
  rcases List.mem_append.1 hy with hy|hy
  ·obtain ⟨rfl,hne⟩:=xl hy
   rcases hf.1.2.1 with c|c
   ·rw[hne] at c;cases c
   ·exact mF c
  ·obtain ⟨rfl,hne⟩:=xl hy
   rcases hf.1.2.2 with c|c
   ·rw[hne] at c;cases c
   ·exact mF c
end Go.Vc
end
section
namespace Go.Vc
open Go.Proofs
set_option maxRecDepth 100000
theorem Bj (ms:List GateMend) (k f:Bs) (row:List Bs):Spec P 223 [.d (af ms),.d (.str k),.d (.str f),.d (lS row)] (.d (.bool (qJ k f row ms))):=by
 refine Spec.of_vc aI aw [.tmp 8] Tryz.func223 rfl rfl rfl rfl (fun hok=>?_)
 have hs:ms.length≤big:=ax hok.1.1
 repeat refine ai ?_
 refine d8 (ms) (fun i=>qJ k f row ms=(ms.drop i).all (Fs k f row)) (fun i=>[(0,.d (af ms)),(1,.d (.str k)),(2,.d (.str f)),(3,.d (lS row)),(9,.d (.int .i64 i))]) (fun i=>hp0) (rfl) ?_
 intro i hi hr
 repeat refine ai ?_
 refine aj ?_ ?_<;>intro h1
 ·have hlt:i<ms.length:=V h1
  rw[aE hlt] at hr
  repeat refine ai ?_
  refine O (e:=GateMend.e) (xs:=ms) (hlt) rfl ?_
  repeat refine ai ?_
  repeat' first
   |refine ai ?_
   |(refine aj ?_ ?_<;>intro h)
   |refine oc (vm _ _) ?_
  all_goals first
   |(refine bd ?_;(try simp only[Bool.not_eq_true',Bool.not_eq_false'] at*);rw[hr];simp only[Fs, *,bl];done)
   |exact ⟨_,_,_,⟨i+1,rfl,hlt,(by (try simp only[Bool.not_eq_true',Bool.not_eq_false'] at*);rw[hr];simp only[Fs, *,bl]),rfl,rfl⟩,by omega,rfl,rfl,⟨rfl,rfl,rfl,rfl,nd (Y hlt hs),trivial⟩,trivial,trivial⟩
 ·refine bd ?_
  rw[hr,cl (Z h1)]
theorem fg (s:GateShape):(st s.e)= .agg [.d (.str s.kind),.d (ab s.fields)]:=rfl
theorem Ag (s:GateShape) (ms:List GateMend):Spec P 203 [st s.e,.d (af ms)] (.d (lS (mw s ms))):=by
 refine Spec.of_vc aI aw [.tmp 4] Tryz.func203 rfl rfl rfl rfl (fun hok=>?_)
 have hs:s.fields.length≤big:=by
  have:=hok.1
  simp only[st,AV.ok,GateShape.e,List.map,ei] at this
  exact ax this.2.1.1
 repeat refine ai ?_
 refine d8 (s.fields) (fun n=>True) (fun n=>[(1,.d (af ms)),(2,.ptr 0 0),(5,.own 1),(6,.d (.int .i64 n))]) (fun n=>⟨[(1,.row 9 1 ((gr s ms n).map eB)),(0,.cells 164 (s.e.map .d))],2,0⟩) (trivial) ?_
 intro n hn hr
 repeat refine ai ?_
 refine aj ?_ ?_<;>intro h1
 ·have hlt0:n<s.fields.length:=V h1
  repeat refine ai ?_
  refine d8 (s.fields) (fun i=>oJ s ms (gr s ms n) s.fields=oJ s ms (gr s ms n) (s.fields.drop i)) (fun i=>[(1,.d (af ms)),(2,.ptr 0 0),(5,.own 1),(6,.d (.int .i64 n)),(7,.d (.int .i64 i))]) (fun i=>⟨[(1,.row 9 1 ((gr s ms n).map eB)),(0,.cells 164 (s.e.map .d))],2,0⟩) (rfl) ?_
  intro i hi hr
  repeat refine ai ?_
  refine aj ?_ ?_<;>intro h2
  ·have hlt:i<s.fields.length:=V h2
   repeat refine ai ?_
   refine O (e:=GateField.e) (xs:=s.fields) (hlt) rfl ?_
   repeat refine ai ?_
   refine oc (vm _ _) ?_
   repeat refine ai ?_
   refine aj ?_ ?_<;>intro h3
   ·simp only[Bool.not_eq_true',Bool.not_eq_false'] at h3
    repeat refine ai ?_
    refine oc (Bj _ _ _ _) ?_
    repeat refine ai ?_
    refine aj ?_ ?_<;>intro h4
    ·repeat refine ai ?_
     refine aj (fun r hr=>by rw[List.mem_singleton.1 hr];rfl) ?_
     repeat refine ai ?_
     refine aj (by have:=EB s ms n;simp only[List.length_map,List.length_cons,List.length_nil];unfold big at*;omega) ?_
     have hc:hH s ms (gr s ms n) s.fields[i].name=true:=by unfold hH;rw[h3,h4];rfl
     have hg:gr s ms (n+1)=gr s ms n++[s.fields[i].name]:=AK (by
      show oJ s ms (gr s ms n) s.fields=_
      rw[hr,lA hlt,hc];rfl)
     repeat refine ai ?_
     exact bQ hlt0 hs trivial fun hw=>⟨rfl,rfl,⟨rfl,rfl,rfl,nd hw,trivial⟩,⟨rfl,rfl,trivial⟩,⟨dh (by rw[hg,List.map_append];rfl),rfl,trivial⟩⟩
    ·repeat refine ai ?_
     exact bQ hlt hs (by rw[hr,lA hlt,show hH s ms (gr s ms n) s.fields[i].name=false from by unfold hH;rw[h4,Bool.and_false]];rfl)
   ·simp only[Bool.not_eq_true',Bool.not_eq_false'] at h3
    repeat refine ai ?_
    exact bQ hlt hs (by rw[hr,lA hlt,show hH s ms (gr s ms n) s.fields[i].name=false from by unfold hH;rw[h3];rfl];rfl)
  ·have hg:gr s ms (n+1)=gr s ms n:=AL (by
    show oJ s ms (gr s ms n) s.fields=_
    rw[hr,BG (Z h2)])
   repeat refine ai ?_
   exact bQ hlt0 hs trivial fun hw=>⟨rfl,rfl,⟨rfl,rfl,rfl,nd hw,trivial⟩,⟨rfl,rfl,trivial⟩,⟨dh (by rw[hg]),rfl,trivial⟩⟩
 ·refine ld ?_
  rw[show n=s.fields.length from by have:=Z h1;omega];rfl
theorem sG (xs:List GateShape) (ms:List GateMend):Spec P 170 [.d (aa xs),.d (af ms)] (.d (.bool (bw xs ms))):=by
 refine Spec.of_vc aI aw [.tmp 4] Tryz.func170 rfl rfl rfl rfl (fun hok=>?_)
 have hs:xs.length≤big:=ax hok.1.1
 have hsm:ms.length≤big:=ax hok.2.1.1
 repeat refine ai ?_
 refine oc (qz _) ?_
 repeat refine ai ?_
 refine aj ?_ ?_<;>intro h0
 ·simp only[Bool.not_eq_true',Bool.not_eq_false'] at h0
  repeat refine ai ?_
  refine aj ?_ ?_<;>intro h1
  ·rw[List.length_map] at h1
   refine bd ?_
   simp only[bw,h1,bl]
  ·rw[List.length_map] at h1
   have e:bw xs ms=(ms.all (bF xs)&&xs.all fun s=>((mw s ms).length:Int)==(s.fields.length:Int)):=by simp only[bw,h0,h1,bl]
   rw[e]
   repeat refine ai ?_
   refine d8 (ms) (fun i=>ms.all (bF xs)=(ms.drop i).all (bF xs)) (fun i=>[(0,.d (aa xs)),(1,.d (af ms)),(5,.d (.int .i64 i))]) (fun i=>hp0) (rfl) ?_
   intro i hi hr
   repeat refine ai ?_
   refine aj ?_ ?_<;>intro h2
   ·have hlt:i<ms.length:=V h2
    rw[aE hlt] at hr
    repeat refine ai ?_
    refine O (e:=GateMend.e) (xs:=ms) (hlt) rfl ?_
    repeat refine ai ?_
    refine oc (yT _ _) ?_
    repeat refine ai ?_
    refine aj ?_ ?_<;>intro h3
    ·simp only[Bool.not_eq_true',Bool.not_eq_false'] at h3
     refine bd ?_
     rw[hr,h3];rfl
    ·simp only[Bool.not_eq_true',Bool.not_eq_false'] at h3
     repeat refine ai ?_
     exact bQ hlt hsm (by rw[hr,h3];rfl)
   ·rw[cl (Z h2)] at hr
    rw[hr,Bool.true_and]
    repeat refine ai ?_
    refine d8 (xs) (fun i=>(xs.all fun s=>((mw s ms).length:Int)==(s.fields.length:Int))=((xs.drop i).all fun s=>((mw s ms).length:Int)==(s.fields.length:Int))) (fun i=>[(0,.d (aa xs)),(1,.d (af ms)),(6,.d (.int .i64 i))]) (fun i=>hp0) (rfl) ?_
    intro i hi hr
    repeat refine ai ?_
    refine aj ?_ ?_<;>intro h4
    ·have hlt:i<xs.length:=V h4
     rw[aE hlt] at hr
     repeat refine ai ?_
     refine ak ?_
     repeat refine ai ?_
     refine O (e:=GateShape.e) (xs:=xs) (hlt) rfl ?_
     repeat refine ai ?_
     refine oc (Ag _ _) ?_
     repeat refine ai ?_
     refine O (e:=GateShape.e) (xs:=xs) (hlt) rfl ?_
     repeat refine ai ?_
     refine aj ?_ ?_<;>intro h5
     ·simp only[bne,Bool.not_eq_true',Bool.not_eq_false',List.length_map] at h5
      refine bd ?_
      rw[hr,h5];rfl
     ·simp only[bne,Bool.not_eq_true',Bool.not_eq_false',List.length_map] at h5
      repeat refine ai ?_
      exact bQ hlt hs (by rw[hr,h5];rfl)
    ·refine bd ?_
     rw[hr,cl (Z h4)]
 ·simp only[Bool.not_eq_true',Bool.not_eq_false'] at h0
  refine bd ?_
  simp only[bw,h0,Bool.false_and]
end Go.Vc
end
section
namespace Go.Vc
open Go.Proofs
set_option maxRecDepth 100000
def CA (id:Nat):List Bs→AV
 |[]=> .nils
 |_::_=> .own id
def Am (objs:List (Nat×AO)) (nx id:Nat):List Bs→Heap
 |[]=>⟨objs,nx,nx⟩
 |x::xs=>⟨(id,.row 9 1 ((x::xs).map eB))::objs,id+1,nx⟩
def ij (p:Bs×Int):List D×AV:=([.str p.1],.d (.int .i64 p.2))
def wb:AV:= .fn 231 [.ptr 1 0,.ptr 0 0]
def Fc:AV:= .fn 236 [.ptr 6 0,.ptr 4 0,.ptr 8 0,.ptr 7 0]
def oS (s:GateShape):AO:= .cells 164 (s.e.map .d)
def oM (ms:List GateMend):AO:= .cells 38 [.d (af ms)]
def oA (all:List Bs):AO:= .row 9 1 (all.map eB)
def oR:AO:= .cells 263 [wb]
def oT (w:Wk):AO:= .map 271 .str (w.st.map ij)
def oP:AO:= .cells 271 [.mapr 5]
def oW:AO:= .cells 115 [Fc]
def hWo (s:GateShape) (ms:List GateMend) (all:List Bs) (es:List (List D×AV)):List Bs→List (Nat×AO)
 |[]=>[(8,oW),(7,.cells 101 [.nils]),(6,oP),(5,.map 271 .str es),(4,oR),(1,oM ms),(0,oS s)]
 |x::xs=>[(9,.row 9 1 ((x::xs).map eB)),(8,oW),(7,.cells 101 [.own 9]),(6,oP),(5,.map 271 .str es),(4,oR),(1,oM ms),(0,oS s)]
def GS:List Bs→Nat
 |[]=>9
 |_::_=>10
def Gu (lo:Nat) (s:GateShape) (ms:List GateMend) (all:List Bs) (es:List (List D×AV)) (out:List Bs):Heap:=⟨hWo s ms all es out,GS out,lo⟩
def hW (lo:Nat) (s:GateShape) (ms:List GateMend) (all:List Bs) (w:Wk):Heap:=Gu lo s ms all (w.st.map ij) w.out
theorem ce {k n:Bs} {ms:List GateMend} {i:Nat} (h:i<ms.length):U k (ms.take (i+1)) n=U k (ms.take i) n++Ao k n ms[i]:=by
 unfold U
 rw[List.take_succ_eq_append_getElem h,List.map_append,List.flatten_append]
 simp
theorem xm (s:Bs):(jy s).length≤1:=by unfold jy;cases s==[]<;>simp
theorem fv {k n:Bs}:∀{ms:List GateMend},(U k ms n).length≤2*ms.length
 |[]=>Nat.le_refl _
 |m::ms=>by
  have ih:=fv (k:=k) (n:=n) (ms:=ms)
  unfold U at ih ⊢
  simp only[List.map_cons,List.flatten_cons,List.length_append,List.length_cons]
  have:(Ao k n m).length≤2:=by
   have h1:=xm m.when_
   have h2:=xm m.from_
   unfold Ao
   cases (m.kind==k&&m.field==n)
   ·simp
   ·simp only[cond_true,List.length_append];omega
  omega
theorem ap {n:Nat}:∀{st:List (Bs×Int)},DO n (st.map ij)
 |[]=>trivial
 |_::_=>⟨rfl,ap⟩
theorem pC {k n:Bs} {m:GateMend} (h:(m.kind==k)=false):Ao k n m=[]:=by unfold Ao;rw[h];rfl
theorem mB {k n:Bs} {m:GateMend} (h:(m.field==n)=false):Ao k n m=[]:=by unfold Ao;rw[h,Bool.and_false];rfl
theorem vx {k n:Bs} {m:GateMend} (h:(m.kind==k)=true) (h2:(m.field==n)=true):Ao k n m=jy m.when_++jy m.from_:=by unfold Ao;rw[h,h2];rfl
theorem eA {s:Bs} (h:(s==[])=true):jy s=[]:=by unfold jy;rw[h];rfl
theorem dt {s:Bs} (h:(s==[])=false):jy s=[s]:=by unfold jy;rw[h];rfl
theorem bD (t n:Nat) (a:Bs) (r:List Bs) (w:Bs):some (AO.row t n ((a::r).map eB++[[.str w]]))=some (AO.row t n ((a::(r++[w])).map eB)):=by simp[eB]
theorem dr (t n:Nat) (a:Bs) (r:List Bs) (w f:Bs):some (AO.row t n (((a::r).map eB++[[.str w]])++[[.str f]]))=some (AO.row t n ((a::(r++[w,f])).map eB)):=by simp[eB]
theorem pF (lo:Nat) (s:GateShape) (ms:List GateMend) (hm:ms.length≤12) (all:List Bs) (es:List (List D×AV)) (hes:∀n,DO n es) (hsub:∀i b,yH i b es=es) (out:List Bs) (n:Bs):
 HSpec P 231 [.d (.str n),.ptr 1 0,.ptr 0 0] (Gu lo s ms all es out) (.d (lS (U s.kind ms n))) (Gu lo s ms all es out):=by
 have hs:ms.length≤big:=by unfold big;omega
 cases out with
 |nil=>
  refine HSpec.of_vc aI aw [.tmp 4] Tryz.func231 rfl rfl rfl rfl rfl (fun hok=>?_)
  repeat refine ai ?_
  refine mX (ms) (fun i (A:List Bs)=>A=U s.kind (ms.take i) n) (fun i (A:List Bs)=>[(0,.d (.str n)),(1,.ptr 1 0),(2,.ptr 0 0),(5,CA 10 A),(8,.d (af ms)),(9,.d (.int .i64 (ms.map GateMend.e).length)),(10,.d (.int .i64 i))]) (fun i (A:List Bs)=>Am [(8,oW),(7,.cells 101 [.nils]),(6,oP),(5,.map 271 .str es),(4,oR),(1,oM ms),(0,oS s)] 9 10 A) (rfl) ?_ ⟨rfl,rfl,⟨rfl,rfl,rfl,rfl,rfl,rfl,rfl,trivial⟩,⟨rfl,rfl,rfl,⟨rfl,hes _⟩,rfl,rfl,rfl,trivial⟩,⟨rfl,rfl,rfl,rfl,rfl,rfl,rfl,trivial⟩⟩
  intro i A hi hr
  have hAl:A.length≤24:=by
   have:=fv (k:=s.kind) (n:=n) (ms:=ms.take i)
   rw[←hr,List.length_take] at this
   omega
  repeat refine ai ?_
  refine aj ?_ ?_<;>intro h1
  ·have hlt:i<ms.length:=V h1
   repeat refine ai ?_
   refine O (e:=GateMend.e) (xs:=ms) (hlt) rfl ?_
   repeat refine ai ?_
   cases A with
   |nil=>
    repeat refine ai ?_
    refine aj ?_ ?_<;>intro h2
    ·simp only[bne,Bool.not_eq_true',Bool.not_eq_false'] at h2
     repeat refine ai ?_
     refine aj ?_ ?_<;>intro h3
     ·simp only[bne,Bool.not_eq_true',Bool.not_eq_false'] at h3
      repeat refine ai ?_
      exact c6 ([]) hlt hs (by rw[ce hlt,←hr,mB h3,List.append_nil]) fun hw=>by repeat' first|exact rfl|exact trivial|exact nd hw|exact hes _|refine aj ?_ ?_
     ·simp only[bne,Bool.not_eq_true',Bool.not_eq_false'] at h3
      have hstep:=ce (k:=s.kind) (n:=n) hlt
      rw[vx h2 h3,←hr] at hstep
      repeat refine ai ?_
      refine aj ?_ ?_<;>intro h4
      ·simp only[bne,Bool.not_eq_true',Bool.not_eq_false'] at h4
       rw[dt h4] at hstep
       repeat refine ai ?_
       refine aj (fun r hr=>by rw[List.mem_singleton.1 hr];rfl) ?_
       repeat refine ai ?_
       refine aj (by simp only[List.length_nil,List.length_cons,List.length_map] at*;unfold big;omega) ?_
       repeat refine ai ?_
       refine aj ?_ ?_<;>intro h5
       ·simp only[bne,Bool.not_eq_true',Bool.not_eq_false'] at h5
        rw[dt h5] at hstep
        repeat refine ai ?_
        refine aj (fun r hr=>by rw[List.mem_singleton.1 hr];rfl) ?_
        repeat refine ai ?_
        refine aj (by simp only[List.length_append,List.length_nil,List.length_cons,List.length_map] at*;unfold big;omega) ?_
        repeat refine ai ?_
        exact c6 ([ms[i].when_,ms[i].from_]) hlt hs (by rw[hstep];rfl) fun hw=>by repeat' first|exact rfl|exact trivial|exact nd hw|exact hes _|exact aJ (hsub _ _)|exact aJ (by rw[hsub,hsub])|exact dh rfl|exact bD _ _ _ _ _|exact dr _ _ _ _ _ _|refine aj ?_ ?_
       ·simp only[bne,Bool.not_eq_true',Bool.not_eq_false'] at h5
        rw[eA h5] at hstep
        repeat refine ai ?_
        exact c6 ([ms[i].when_]) hlt hs (by rw[hstep];rfl) fun hw=>by repeat' first|exact rfl|exact trivial|exact nd hw|exact hes _|exact aJ (hsub _ _)|exact aJ (by rw[hsub,hsub])|exact dh rfl|exact bD _ _ _ _ _|exact dr _ _ _ _ _ _|refine aj ?_ ?_
      ·simp only[bne,Bool.not_eq_true',Bool.not_eq_false'] at h4
       rw[eA h4] at hstep
       repeat refine ai ?_
       refine aj ?_ ?_<;>intro h5
       ·simp only[bne,Bool.not_eq_true',Bool.not_eq_false'] at h5
        rw[dt h5] at hstep
        repeat refine ai ?_
        refine aj (fun r hr=>by rw[List.mem_singleton.1 hr];rfl) ?_
        repeat refine ai ?_
        refine aj (by simp only[List.length_nil,List.length_cons,List.length_map] at*;unfold big;omega) ?_
        repeat refine ai ?_
        exact c6 ([ms[i].from_]) hlt hs (by rw[hstep];rfl) fun hw=>by repeat' first|exact rfl|exact trivial|exact nd hw|exact hes _|exact aJ (hsub _ _)|exact aJ (by rw[hsub,hsub])|exact dh rfl|exact bD _ _ _ _ _|exact dr _ _ _ _ _ _|refine aj ?_ ?_
       ·simp only[bne,Bool.not_eq_true',Bool.not_eq_false'] at h5
        rw[eA h5] at hstep
        repeat refine ai ?_
        exact c6 ([]) hlt hs (by rw[hstep];simp) fun hw=>by repeat' first|exact rfl|exact trivial|exact nd hw|exact hes _|refine aj ?_ ?_
    ·simp only[bne,Bool.not_eq_true',Bool.not_eq_false'] at h2
     repeat refine ai ?_
     exact c6 ([]) hlt hs (by rw[ce hlt,←hr,pC h2,List.append_nil]) fun hw=>by repeat' first|exact rfl|exact trivial|exact nd hw|exact hes _|refine aj ?_ ?_
   |cons a tl=>
    repeat refine ai ?_
    refine aj ?_ ?_<;>intro h2
    ·simp only[bne,Bool.not_eq_true',Bool.not_eq_false'] at h2
     repeat refine ai ?_
     refine aj ?_ ?_<;>intro h3
     ·simp only[bne,Bool.not_eq_true',Bool.not_eq_false'] at h3
      repeat refine ai ?_
      exact c6 (a::tl) hlt hs (by rw[ce hlt,←hr,mB h3,List.append_nil]) fun hw=>by repeat' first|exact rfl|exact trivial|exact nd hw|exact hes _|refine aj ?_ ?_
     ·simp only[bne,Bool.not_eq_true',Bool.not_eq_false'] at h3
      have hstep:=ce (k:=s.kind) (n:=n) hlt
      rw[vx h2 h3,←hr] at hstep
      repeat refine ai ?_
      refine aj ?_ ?_<;>intro h4
      ·simp only[bne,Bool.not_eq_true',Bool.not_eq_false'] at h4
       rw[dt h4] at hstep
       repeat refine ai ?_
       refine aj (fun r hr=>by rw[List.mem_singleton.1 hr];rfl) ?_
       repeat refine ai ?_
       refine aj (by simp only[List.length_append,List.length_nil,List.length_cons,List.length_map] at*;unfold big;omega) ?_
       repeat refine ai ?_
       refine aj ?_ ?_<;>intro h5
       ·simp only[bne,Bool.not_eq_true',Bool.not_eq_false'] at h5
        rw[dt h5] at hstep
        repeat refine ai ?_
        refine aj (fun r hr=>by rw[List.mem_singleton.1 hr];rfl) ?_
        repeat refine ai ?_
        refine aj (by simp only[List.length_append,List.length_nil,List.length_cons,List.length_map] at*;unfold big;omega) ?_
        repeat refine ai ?_
        exact c6 (a::(tl++[ms[i].when_,ms[i].from_])) hlt hs (by rw[hstep];rfl) fun hw=>by repeat' first|exact rfl|exact trivial|exact nd hw|exact hes _|exact aJ (hsub _ _)|exact aJ (by rw[hsub,hsub])|exact dh rfl|exact bD _ _ _ _ _|exact dr _ _ _ _ _ _|refine aj ?_ ?_
       ·simp only[bne,Bool.not_eq_true',Bool.not_eq_false'] at h5
        rw[eA h5] at hstep
        repeat refine ai ?_
        exact c6 (a::(tl++[ms[i].when_])) hlt hs (by rw[hstep];rfl) fun hw=>by repeat' first|exact rfl|exact trivial|exact nd hw|exact hes _|exact aJ (hsub _ _)|exact aJ (by rw[hsub,hsub])|exact dh rfl|exact bD _ _ _ _ _|exact dr _ _ _ _ _ _|refine aj ?_ ?_
      ·simp only[bne,Bool.not_eq_true',Bool.not_eq_false'] at h4
       rw[eA h4] at hstep
       repeat refine ai ?_
       refine aj ?_ ?_<;>intro h5
       ·simp only[bne,Bool.not_eq_true',Bool.not_eq_false'] at h5
        rw[dt h5] at hstep
        repeat refine ai ?_
        refine aj (fun r hr=>by rw[List.mem_singleton.1 hr];rfl) ?_
        repeat refine ai ?_
        refine aj (by simp only[List.length_append,List.length_nil,List.length_cons,List.length_map] at*;unfold big;omega) ?_
        repeat refine ai ?_
        exact c6 (a::(tl++[ms[i].from_])) hlt hs (by rw[hstep];rfl) fun hw=>by repeat' first|exact rfl|exact trivial|exact nd hw|exact hes _|exact aJ (hsub _ _)|exact aJ (by rw[hsub,hsub])|exact dh rfl|exact bD _ _ _ _ _|exact dr _ _ _ _ _ _|refine aj ?_ ?_
       ·simp only[bne,Bool.not_eq_true',Bool.not_eq_false'] at h5
        rw[eA h5] at hstep
        repeat refine ai ?_
        exact c6 (a::tl) hlt hs (by rw[hstep];simp) fun hw=>by repeat' first|exact rfl|exact trivial|exact nd hw|exact hes _|refine aj ?_ ?_
    ·simp only[bne,Bool.not_eq_true',Bool.not_eq_false'] at h2
     repeat refine ai ?_
     exact c6 (a::tl) hlt hs (by rw[ce hlt,←hr,pC h2,List.append_nil]) fun hw=>by repeat' first|exact rfl|exact trivial|exact nd hw|exact hes _|refine aj ?_ ?_
  ·have ha:A=U s.kind ms n:=by rw[hr,List.take_of_length_le (Z h1)]
   rw[←ha]
   cases A with
   |nil=>
    refine aj rfl (aj rfl ⟨rfl,rfl,?_,?_,?_⟩)
    all_goals (repeat' first|exact rfl|exact trivial|exact hes _|exact aJ (hsub _ _)|refine aj ?_ ?_)
   |cons a tl=>
    refine aj rfl (aj rfl ⟨rfl,rfl,?_,?_,?_⟩)
    all_goals (repeat' first|exact rfl|exact trivial|exact hes _|exact aJ (hsub _ _)|refine aj ?_ ?_)
 |cons x xs=>
  refine HSpec.of_vc aI aw [.tmp 4] Tryz.func231 rfl rfl rfl rfl rfl (fun hok=>?_)
  repeat refine ai ?_
  refine mX (ms) (fun i (A:List Bs)=>A=U s.kind (ms.take i) n) (fun i (A:List Bs)=>[(0,.d (.str n)),(1,.ptr 1 0),(2,.ptr 0 0),(5,CA 11 A),(8,.d (af ms)),(9,.d (.int .i64 (ms.map GateMend.e).length)),(10,.d (.int .i64 i))]) (fun i (A:List Bs)=>Am [(9,.row 9 1 ((x::xs).map eB)),(8,oW),(7,.cells 101 [.own 9]),(6,oP),(5,.map 271 .str es),(4,oR),(1,oM ms),(0,oS s)] 10 11 A) (rfl) ?_ ⟨rfl,rfl,⟨rfl,rfl,rfl,rfl,rfl,rfl,rfl,trivial⟩,⟨rfl,rfl,rfl,rfl,⟨rfl,hes _⟩,rfl,rfl,rfl,trivial⟩,⟨rfl,rfl,rfl,rfl,rfl,rfl,rfl,rfl,trivial⟩⟩
  intro i A hi hr
  have hAl:A.length≤24:=by
   have:=fv (k:=s.kind) (n:=n) (ms:=ms.take i)
   rw[←hr,List.length_take] at this
   omega
  repeat refine ai ?_
  refine aj ?_ ?_<;>intro h1
  ·have hlt:i<ms.length:=V h1
   repeat refine ai ?_
   refine O (e:=GateMend.e) (xs:=ms) (hlt) rfl ?_
   repeat refine ai ?_
   cases A with
   |nil=>
    repeat refine ai ?_
    refine aj ?_ ?_<;>intro h2
    ·simp only[bne,Bool.not_eq_true',Bool.not_eq_false'] at h2
     repeat refine ai ?_
     refine aj ?_ ?_<;>intro h3
     ·simp only[bne,Bool.not_eq_true',Bool.not_eq_false'] at h3
      repeat refine ai ?_
      exact c6 ([]) hlt hs (by rw[ce hlt,←hr,mB h3,List.append_nil]) fun hw=>by repeat' first|exact rfl|exact trivial|exact nd hw|exact hes _|refine aj ?_ ?_
     ·simp only[bne,Bool.not_eq_true',Bool.not_eq_false'] at h3
      have hstep:=ce (k:=s.kind) (n:=n) hlt
      rw[vx h2 h3,←hr] at hstep
      repeat refine ai ?_
      refine aj ?_ ?_<;>intro h4
      ·simp only[bne,Bool.not_eq_true',Bool.not_eq_false'] at h4
       rw[dt h4] at hstep
       repeat refine ai ?_
       refine aj (fun r hr=>by rw[List.mem_singleton.1 hr];rfl) ?_
       repeat refine ai ?_
       refine aj (by simp only[List.length_nil,List.length_cons,List.length_map] at*;unfold big;omega) ?_
       repeat refine ai ?_
       refine aj ?_ ?_<;>intro h5
       ·simp only[bne,Bool.not_eq_true',Bool.not_eq_false'] at h5
        rw[dt h5] at hstep
        repeat refine ai ?_
        refine aj (fun r hr=>by rw[List.mem_singleton.1 hr];rfl) ?_
        repeat refine ai ?_
        refine aj (by simp only[List.length_append,List.length_nil,List.length_cons,List.length_map] at*;unfold big;omega) ?_
        repeat refine ai ?_
        exact c6 ([ms[i].when_,ms[i].from_]) hlt hs (by rw[hstep];rfl) fun hw=>by repeat' first|exact rfl|exact trivial|exact nd hw|exact hes _|exact aJ (hsub _ _)|exact aJ (by rw[hsub,hsub])|exact dh rfl|exact bD _ _ _ _ _|exact dr _ _ _ _ _ _|refine aj ?_ ?_
       ·simp only[bne,Bool.not_eq_true',Bool.not_eq_false'] at h5
        rw[eA h5] at hstep
        repeat refine ai ?_
        exact c6 ([ms[i].when_]) hlt hs (by rw[hstep];rfl) fun hw=>by repeat' first|exact rfl|exact trivial|exact nd hw|exact hes _|exact aJ (hsub _ _)|exact aJ (by rw[hsub,hsub])|exact dh rfl|exact bD _ _ _ _ _|exact dr _ _ _ _ _ _|refine aj ?_ ?_
      ·simp only[bne,Bool.not_eq_true',Bool.not_eq_false'] at h4
       rw[eA h4] at hstep
       repeat refine ai ?_
       refine aj ?_ ?_<;>intro h5
       ·simp only[bne,Bool.not_eq_true',Bool.not_eq_false'] at h5
        rw[dt h5] at hstep
        repeat refine ai ?_
        refine aj (fun r hr=>by rw[List.mem_singleton.1 hr];rfl) ?_
        repeat refine ai ?_
        refine aj (by simp only[List.length_nil,List.length_cons,List.length_map] at*;unfold big;omega) ?_
        repeat refine ai ?_
        exact c6 ([ms[i].from_]) hlt hs (by rw[hstep];rfl) fun hw=>by repeat' first|exact rfl|exact trivial|exact nd hw|exact hes _|exact aJ (hsub _ _)|exact aJ (by rw[hsub,hsub])|exact dh rfl|exact bD _ _ _ _ _|exact dr _ _ _ _ _ _|refine aj ?_ ?_
       ·simp only[bne,Bool.not_eq_true',Bool.not_eq_false'] at h5
        rw[eA h5] at hstep
        repeat refine ai ?_
        exact c6 ([]) hlt hs (by rw[hstep];simp) fun hw=>by repeat' first|exact rfl|exact trivial|exact nd hw|exact hes _|refine aj ?_ ?_
    ·simp only[bne,Bool.not_eq_true',Bool.not_eq_false'] at h2
     repeat refine ai ?_
     exact c6 ([]) hlt hs (by rw[ce hlt,←hr,pC h2,List.append_nil]) fun hw=>by repeat' first|exact rfl|exact trivial|exact nd hw|exact hes _|refine aj ?_ ?_
   |cons a tl=>
    repeat refine ai ?_
    refine aj ?_ ?_<;>intro h2
    ·simp only[bne,Bool.not_eq_true',Bool.not_eq_false'] at h2
     repeat refine ai ?_
     refine aj ?_ ?_<;>intro h3
     ·simp only[bne,Bool.not_eq_true',Bool.not_eq_false'] at h3
      repeat refine ai ?_
      exact c6 (a::tl) hlt hs (by rw[ce hlt,←hr,mB h3,List.append_nil]) fun hw=>by repeat' first|exact rfl|exact trivial|exact nd hw|exact hes _|refine aj ?_ ?_
     ·simp only[bne,Bool.not_eq_true',Bool.not_eq_false'] at h3
      have hstep:=ce (k:=s.kind) (n:=n) hlt
      rw[vx h2 h3,←hr] at hstep
      repeat refine ai ?_
      refine aj ?_ ?_<;>intro h4
      ·simp only[bne,Bool.not_eq_true',Bool.not_eq_false'] at h4
       rw[dt h4] at hstep
       repeat refine ai ?_
       refine aj (fun r hr=>by rw[List.mem_singleton.1 hr];rfl) ?_
       repeat refine ai ?_
       refine aj (by simp only[List.length_append,List.length_nil,List.length_cons,List.length_map] at*;unfold big;omega) ?_
       repeat refine ai ?_
       refine aj ?_ ?_<;>intro h5
       ·simp only[bne,Bool.not_eq_true',Bool.not_eq_false'] at h5
        rw[dt h5] at hstep
        repeat refine ai ?_
        refine aj (fun r hr=>by rw[List.mem_singleton.1 hr];rfl) ?_
        repeat refine ai ?_
        refine aj (by simp only[List.length_append,List.length_nil,List.length_cons,List.length_map] at*;unfold big;omega) ?_
        repeat refine ai ?_
        exact c6 (a::(tl++[ms[i].when_,ms[i].from_])) hlt hs (by rw[hstep];rfl) fun hw=>by repeat' first|exact rfl|exact trivial|exact nd hw|exact hes _|exact aJ (hsub _ _)|exact aJ (by rw[hsub,hsub])|exact dh rfl|exact bD _ _ _ _ _|exact dr _ _ _ _ _ _|refine aj ?_ ?_
       ·simp only[bne,Bool.not_eq_true',Bool.not_eq_false'] at h5
        rw[eA h5] at hstep
        repeat refine ai ?_
        exact c6 (a::(tl++[ms[i].when_])) hlt hs (by rw[hstep];rfl) fun hw=>by repeat' first|exact rfl|exact trivial|exact nd hw|exact hes _|exact aJ (hsub _ _)|exact aJ (by rw[hsub,hsub])|exact dh rfl|exact bD _ _ _ _ _|exact dr _ _ _ _ _ _|refine aj ?_ ?_
      ·simp only[bne,Bool.not_eq_true',Bool.not_eq_false'] at h4
       rw[eA h4] at hstep
       repeat refine ai ?_
       refine aj ?_ ?_<;>intro h5
       ·simp only[bne,Bool.not_eq_true',Bool.not_eq_false'] at h5
        rw[dt h5] at hstep
        repeat refine ai ?_
        refine aj (fun r hr=>by rw[List.mem_singleton.1 hr];rfl) ?_
        repeat refine ai ?_
        refine aj (by simp only[List.length_append,List.length_nil,List.length_cons,List.length_map] at*;unfold big;omega) ?_
        repeat refine ai ?_
        exact c6 (a::(tl++[ms[i].from_])) hlt hs (by rw[hstep];rfl) fun hw=>by repeat' first|exact rfl|exact trivial|exact nd hw|exact hes _|exact aJ (hsub _ _)|exact aJ (by rw[hsub,hsub])|exact dh rfl|exact bD _ _ _ _ _|exact dr _ _ _ _ _ _|refine aj ?_ ?_
       ·simp only[bne,Bool.not_eq_true',Bool.not_eq_false'] at h5
        rw[eA h5] at hstep
        repeat refine ai ?_
        exact c6 (a::tl) hlt hs (by rw[hstep];simp) fun hw=>by repeat' first|exact rfl|exact trivial|exact nd hw|exact hes _|refine aj ?_ ?_
    ·simp only[bne,Bool.not_eq_true',Bool.not_eq_false'] at h2
     repeat refine ai ?_
     exact c6 (a::tl) hlt hs (by rw[ce hlt,←hr,pC h2,List.append_nil]) fun hw=>by repeat' first|exact rfl|exact trivial|exact nd hw|exact hes _|refine aj ?_ ?_
  ·have ha:A=U s.kind ms n:=by rw[hr,List.take_of_length_le (Z h1)]
   rw[←ha]
   cases A with
   |nil=>
    refine aj rfl (aj rfl ⟨rfl,rfl,?_,?_,?_⟩)
    all_goals (repeat' first|exact rfl|exact trivial|exact hes _|exact aJ (hsub _ _)|refine aj ?_ ?_)
   |cons a tl=>
    refine aj rfl (aj rfl ⟨rfl,rfl,?_,?_,?_⟩)
    all_goals (repeat' first|exact rfl|exact trivial|exact hes _|exact aJ (hsub _ _)|refine aj ?_ ?_)
end Go.Vc
end
section
namespace Go.Vc
open Go.Proofs
set_option maxRecDepth 100000
theorem ip {i:Nat} {b:AV}:∀{st:List (Bs×Int)},yH i b (st.map ij)=st.map ij
 |[]=>rfl
 |p::st=>by
  have ih:=ip (i:=i) (b:=b) (st:=st)
  simp only[List.map_cons,yH,ij,ih,AV.sub]
theorem fa {x:Bs} {v:Int}:∀{st:List (Bs×Int)},bn (st.map ij) [.str x] (.d (.int .i64 v))=(pt st x v).map ij
 |[]=>rfl
 |(k,u)::st=>by
  have ih:=fa (x:=x) (v:=v) (st:=st)
  simp only[List.map_cons,ij,bn,cK,pt,nh x k]
  cases k==x with
  |true=>rfl
  |false=>simp only[cond_false,List.map_cons,ij];exact congrArg _ ih
theorem rj {x:Bs}:∀(st:List (Bs×Int)),(ar (st.map ij) [.str x]=none∧lk st x=0)∨ar (st.map ij) [.str x]=some (.d (.int .i64 (lk st x)))
 |[]=> .inl ⟨rfl,rfl⟩
 |(k,u)::st=>by
  simp only[List.map_cons,ij,ar,cK,lk,nh x k]
  cases k==x with
  |true=>exact .inr rfl
  |false=>exact rj st
theorem fJ {t:Nat} {tk:TK} {x:Bs} {v:Int} {st:List (Bs×Int)}:some (AO.map t tk (bn (st.map ij) [.str x] (.d (.int .i64 v))))=some (AO.map t tk ((pt st x v).map ij)):=by rw[fa]
theorem iv {t:Nat} {tk:TK} {x:Bs} {v:Int} {st:List (Bs×Int)} {i:Nat} {b:AV}:some (AO.map t tk (yH i b (bn (st.map ij) [.str x] (.d (.int .i64 v)))))=some (AO.map t tk ((pt st x v).map ij)):=by rw[fa,ip]
theorem j5 (s:GateShape) (ms:List GateMend) (hm:ms.length≤12) (all N:List Bs) (hN:N.length≤big) (hin:∀n∈N,∀y∈U s.kind ms n,y∈N):
 ∀(k lo:Nat) (x:Bs) (w:Wk),x∈N→np (U s.kind ms) N w→white N w<k→
 HSpec P 236 [.d (.str x),.ptr 6 0,.ptr 4 0,.ptr 8 0,.ptr 7 0] (hW lo s ms all w) (.d (.bool (bX (U s.kind ms) k x w).1)) (hW lo s ms all (bX (U s.kind ms) k x w).2)
 |0,_,_,_,_,_,h=>by omega
 |k+1,lo,x,w,hx,hwk,hk=>by
  obtain ⟨st,out⟩:=w
  generalize hq:bX (U s.kind ms) (k+1) x ⟨st,out⟩=q
  obtain ⟨b,w2⟩:=q
  show HSpec P _ _ _ (.d (.bool b)) (hW lo s ms all w2)
  cases out with
  |nil=>
   refine HSpec.of_vc aI aw [.tmp 6] Tryz.func236 rfl rfl rfl rfl rfl (fun hok=>?_)
   repeat refine ai ?_
   rcases rj (x:=x) st with ⟨e0,e1⟩|e1
   ·refine ⟨_,e0,?_⟩
    repeat refine ai ?_
    refine aj ?_ ?_<;>intro g1
    ·have g1':(lk st x==1)=true:=by first|exact g1|(rw[e1];exact g1)
     rw[lT g1'] at hq
     obtain ⟨rfl,rfl⟩:=Prod.mk.inj hq
     refine aj rfl (aj rfl ⟨rfl,rfl,?_,?_,?_⟩)
     all_goals (repeat' first|exact rfl|exact trivial|exact ap|refine aj ?_ ?_)
    ·have g1':(lk st x==1)=false:=by first|exact g1|(rw[e1];exact g1)
     repeat refine ai ?_
     refine aj ?_ ?_<;>intro g2
     ·have g2':(lk st x==2)=true:=by first|exact g2|(rw[e1];exact g2)
      rw[lR g1' g2'] at hq
      obtain ⟨rfl,rfl⟩:=Prod.mk.inj hq
      refine aj rfl (aj rfl ⟨rfl,rfl,?_,?_,?_⟩)
      all_goals (repeat' first|exact rfl|exact trivial|exact ap|refine aj ?_ ?_)
     ·have g2':(lk st x==2)=false:=by first|exact g2|(rw[e1];exact g2)
      repeat refine ai ?_
      refine oh (pF _ s ms hm all (bn (st.map ij) [.str x] (.d (.int .i64 1))) (fun n=>by rw[fa];exact ap) (fun i b=>by rw[fa];exact ip) [] x) ?_
      have hs:(U s.kind ms x).length≤big:=by
       have:=fv (k:=s.kind) (n:=x) (ms:=ms)
       unfold big;omega
      repeat refine ai ?_
      refine mX ((U s.kind ms x)) (fun i (u:Wk)=>bJ (bX (U s.kind ms) k) (U s.kind ms x) ⟨pt st x 1,[]⟩=bJ (bX (U s.kind ms) k) ((U s.kind ms x).drop i) u∧yu (U s.kind ms) N x ⟨st,[]⟩ u∧∃t,u.out=[]++t) (fun i (u:Wk)=>[(0,.d (.str x)),(1,.ptr 6 0),(2,.ptr 4 0),(3,.ptr 8 0),(4,.ptr 7 0),(20,.d (lS (U s.kind ms x))),(21,.d (.int .i64 ((U s.kind ms x).map eB).length)),(22,.d (.int .i64 i))]) (fun i (u:Wk)=>hW 9 s ms all u) (⟨rfl,lQ hx hwk g1' g2',[],by simp⟩) ?_ ⟨rfl,rfl,⟨rfl,rfl,rfl,rfl,rfl,rfl,rfl,rfl,trivial⟩,(by repeat' first|exact rfl|exact trivial|exact ap|refine aj ?_ ?_),(by repeat' first|exact rfl|exact trivial|exact fJ|refine aj ?_ ?_)⟩
      intro i u hi hr
      obtain ⟨hE,hI,hT⟩:=hr
      obtain ⟨st1,out1⟩:=u
      cases out1 with
      |nil=>
       repeat refine ai ?_
       refine aj ?_ ?_<;>intro h1
       ·have hlt:i<(U s.kind ms x).length:=V h1
        have hy:(U s.kind ms x)[i]∈N:=hin x hx _ (List.getElem_mem hlt)
        have hc:=j5 s ms hm all N hN hin k 9 (U s.kind ms x)[i] ⟨st1,[]⟩ hy hI.ok (by have:=hI.white;omega)
        rw[dF hlt] at hE
        generalize hv:bX (U s.kind ms) k (U s.kind ms x)[i] ⟨st1,[]⟩=v at hc hE
        obtain ⟨b3,st3,out3⟩:=v
        have hO:∃t,out3=[]++t:=by
             have:=gG (U s.kind ms) k (U s.kind ms x)[i] ⟨st1,[]⟩
             rw[hv] at this;exact this
        have hT3:∃t,out3=[]++t:=by
             obtain ⟨t,ht⟩:=hT
             obtain ⟨t2,ht2⟩:=hO
             exact ⟨t++t2,by rw[ht2,←List.append_assoc];exact congrArg (·++t2) ht⟩
        repeat refine ai ?_
        refine aB (e:=eB) (xs:=(U s.kind ms x)) (hlt) (rfl) rfl ?_
        repeat refine ai ?_
        cases out3 with
        |nil=>
         cases b3 with
         |false=>
          refine Or.inr (Or.inl (Exists.intro _ (Exists.intro _ (aj (aj rfl hc) ?_))))
          repeat refine ai ?_
          refine ay ?_
          rw[gR g1' g2' hE] at hq
          obtain ⟨rfl,rfl⟩:=Prod.mk.inj hq
          refine aj rfl (aj rfl ⟨rfl,rfl,?_,?_,?_⟩)
          all_goals (repeat' first|exact rfl|exact trivial|exact ap|refine aj ?_ ?_)
         |true=>
          refine Or.inr (Or.inl (Exists.intro _ (Exists.intro _ (aj (aj rfl hc) ?_))))
          repeat refine ai ?_
          refine an ?_
          repeat refine ai ?_
          exact c6 ⟨st3,[]⟩ hlt hs ⟨hE,gP hin hI hk hy hv,hT3⟩ fun hw=>by repeat' first|exact rfl|exact trivial|exact nd hw|exact ap|refine aj ?_ ?_
        |cons z zs=>
         cases b3 with
         |false=>
          refine Or.inr (Or.inl (Exists.intro _ (Exists.intro _ (aj (aj rfl hc) ?_))))
          repeat refine ai ?_
          refine ay ?_
          rw[gR g1' g2' hE] at hq
          obtain ⟨rfl,rfl⟩:=Prod.mk.inj hq
          refine aj rfl (aj rfl ⟨rfl,rfl,?_,?_,?_⟩)
          all_goals (repeat' first|exact rfl|exact trivial|exact ap|refine aj ?_ ?_)
         |true=>
          refine Or.inr (Or.inl (Exists.intro _ (Exists.intro _ (aj (aj rfl hc) ?_))))
          repeat refine ai ?_
          refine an ?_
          repeat refine ai ?_
          exact c6 ⟨st3,(z::zs)⟩ hlt hs ⟨hE,gP hin hI hk hy hv,hT3⟩ fun hw=>by repeat' first|exact rfl|exact trivial|exact nd hw|exact ap|refine aj ?_ ?_
       ·rw[eO (Z h1)] at hE
        rw[im g1' g2' hE] at hq
        obtain ⟨rfl,rfl⟩:=Prod.mk.inj hq
        have hroom:=kl hx hI
        repeat refine ai ?_
        refine aj (fun r hr=>by rw[List.mem_singleton.1 hr];rfl) ?_
        repeat refine ai ?_
        refine aj (by simp only[List.length_append,List.length_nil,List.length_cons,List.length_map] at*;unfold big at*;omega) ?_
        refine aj rfl (aj rfl ⟨rfl,rfl,?_,?_,?_⟩)
        all_goals (repeat' first|exact rfl|exact trivial|exact ap|exact fJ|exact iv|exact bD _ _ _ _ _|refine aj ?_ ?_)
      |cons y ys=>
       repeat refine ai ?_
       refine aj ?_ ?_<;>intro h1
       ·have hlt:i<(U s.kind ms x).length:=V h1
        have hy:(U s.kind ms x)[i]∈N:=hin x hx _ (List.getElem_mem hlt)
        have hc:=j5 s ms hm all N hN hin k 9 (U s.kind ms x)[i] ⟨st1,(y::ys)⟩ hy hI.ok (by have:=hI.white;omega)
        rw[dF hlt] at hE
        generalize hv:bX (U s.kind ms) k (U s.kind ms x)[i] ⟨st1,(y::ys)⟩=v at hc hE
        obtain ⟨b3,st3,out3⟩:=v
        have hO:∃t,out3=(y::ys)++t:=by
             have:=gG (U s.kind ms) k (U s.kind ms x)[i] ⟨st1,(y::ys)⟩
             rw[hv] at this;exact this
        have hT3:∃t,out3=[]++t:=by
             obtain ⟨t,ht⟩:=hT
             obtain ⟨t2,ht2⟩:=hO
             exact ⟨t++t2,by rw[ht2,←List.append_assoc];exact congrArg (·++t2) ht⟩
        repeat refine ai ?_
        refine aB (e:=eB) (xs:=(U s.kind ms x)) (hlt) (rfl) rfl ?_
        repeat refine ai ?_
        cases out3 with
        |nil=>
         obtain ⟨t,ht⟩:=hO
         cases ht
        |cons z zs=>
         cases b3 with
         |false=>
          refine Or.inr (Or.inl (Exists.intro _ (Exists.intro _ (aj (aj rfl hc) ?_))))
          repeat refine ai ?_
          refine ay ?_
          rw[gR g1' g2' hE] at hq
          obtain ⟨rfl,rfl⟩:=Prod.mk.inj hq
          refine aj rfl (aj rfl ⟨rfl,rfl,?_,?_,?_⟩)
          all_goals (repeat' first|exact rfl|exact trivial|exact ap|refine aj ?_ ?_)
         |true=>
          refine Or.inr (Or.inl (Exists.intro _ (Exists.intro _ (aj (aj rfl hc) ?_))))
          repeat refine ai ?_
          refine an ?_
          repeat refine ai ?_
          exact c6 ⟨st3,(z::zs)⟩ hlt hs ⟨hE,gP hin hI hk hy hv,hT3⟩ fun hw=>by repeat' first|exact rfl|exact trivial|exact nd hw|exact ap|refine aj ?_ ?_
       ·rw[eO (Z h1)] at hE
        rw[im g1' g2' hE] at hq
        obtain ⟨rfl,rfl⟩:=Prod.mk.inj hq
        have hroom:=kl hx hI
        repeat refine ai ?_
        refine aj (fun r hr=>by rw[List.mem_singleton.1 hr];rfl) ?_
        repeat refine ai ?_
        refine aj (by simp only[List.length_append,List.length_nil,List.length_cons,List.length_map] at*;unfold big at*;omega) ?_
        refine aj rfl (aj rfl ⟨rfl,rfl,?_,?_,?_⟩)
        all_goals (repeat' first|exact rfl|exact trivial|exact ap|exact fJ|exact iv|exact bD _ _ _ _ _|refine aj ?_ ?_)
   ·refine ⟨_,e1,?_⟩
    repeat refine ai ?_
    refine aj ?_ ?_<;>intro g1
    ·have g1':(lk st x==1)=true:=by first|exact g1|(rw[e1];exact g1)
     rw[lT g1'] at hq
     obtain ⟨rfl,rfl⟩:=Prod.mk.inj hq
     refine aj rfl (aj rfl ⟨rfl,rfl,?_,?_,?_⟩)
     all_goals (repeat' first|exact rfl|exact trivial|exact ap|refine aj ?_ ?_)
    ·have g1':(lk st x==1)=false:=by first|exact g1|(rw[e1];exact g1)
     repeat refine ai ?_
     refine aj ?_ ?_<;>intro g2
     ·have g2':(lk st x==2)=true:=by first|exact g2|(rw[e1];exact g2)
      rw[lR g1' g2'] at hq
      obtain ⟨rfl,rfl⟩:=Prod.mk.inj hq
      refine aj rfl (aj rfl ⟨rfl,rfl,?_,?_,?_⟩)
      all_goals (repeat' first|exact rfl|exact trivial|exact ap|refine aj ?_ ?_)
     ·have g2':(lk st x==2)=false:=by first|exact g2|(rw[e1];exact g2)
      repeat refine ai ?_
      refine oh (pF _ s ms hm all (bn (st.map ij) [.str x] (.d (.int .i64 1))) (fun n=>by rw[fa];exact ap) (fun i b=>by rw[fa];exact ip) [] x) ?_
      have hs:(U s.kind ms x).length≤big:=by
       have:=fv (k:=s.kind) (n:=x) (ms:=ms)
       unfold big;omega
      repeat refine ai ?_
      refine mX ((U s.kind ms x)) (fun i (u:Wk)=>bJ (bX (U s.kind ms) k) (U s.kind ms x) ⟨pt st x 1,[]⟩=bJ (bX (U s.kind ms) k) ((U s.kind ms x).drop i) u∧yu (U s.kind ms) N x ⟨st,[]⟩ u∧∃t,u.out=[]++t) (fun i (u:Wk)=>[(0,.d (.str x)),(1,.ptr 6 0),(2,.ptr 4 0),(3,.ptr 8 0),(4,.ptr 7 0),(20,.d (lS (U s.kind ms x))),(21,.d (.int .i64 ((U s.kind ms x).map eB).length)),(22,.d (.int .i64 i))]) (fun i (u:Wk)=>hW 9 s ms all u) (⟨rfl,lQ hx hwk g1' g2',[],by simp⟩) ?_ ⟨rfl,rfl,⟨rfl,rfl,rfl,rfl,rfl,rfl,rfl,rfl,trivial⟩,(by repeat' first|exact rfl|exact trivial|exact ap|refine aj ?_ ?_),(by repeat' first|exact rfl|exact trivial|exact fJ|refine aj ?_ ?_)⟩
      intro i u hi hr
      obtain ⟨hE,hI,hT⟩:=hr
      obtain ⟨st1,out1⟩:=u
      cases out1 with
      |nil=>
       repeat refine ai ?_
       refine aj ?_ ?_<;>intro h1
       ·have hlt:i<(U s.kind ms x).length:=V h1
        have hy:(U s.kind ms x)[i]∈N:=hin x hx _ (List.getElem_mem hlt)
        have hc:=j5 s ms hm all N hN hin k 9 (U s.kind ms x)[i] ⟨st1,[]⟩ hy hI.ok (by have:=hI.white;omega)
        rw[dF hlt] at hE
        generalize hv:bX (U s.kind ms) k (U s.kind ms x)[i] ⟨st1,[]⟩=v at hc hE
        obtain ⟨b3,st3,out3⟩:=v
        have hO:∃t,out3=[]++t:=by
             have:=gG (U s.kind ms) k (U s.kind ms x)[i] ⟨st1,[]⟩
             rw[hv] at this;exact this
        have hT3:∃t,out3=[]++t:=by
             obtain ⟨t,ht⟩:=hT
             obtain ⟨t2,ht2⟩:=hO
             exact ⟨t++t2,by rw[ht2,←List.append_assoc];exact congrArg (·++t2) ht⟩
        repeat refine ai ?_
        refine aB (e:=eB) (xs:=(U s.kind ms x)) (hlt) (rfl) rfl ?_
        repeat refine ai ?_
        cases out3 with
        |nil=>
         cases b3 with
         |false=>
          refine Or.inr (Or.inl (Exists.intro _ (Exists.intro _ (aj (aj rfl hc) ?_))))
          repeat refine ai ?_
          refine ay ?_
          rw[gR g1' g2' hE] at hq
          obtain ⟨rfl,rfl⟩:=Prod.mk.inj hq
          refine aj rfl (aj rfl ⟨rfl,rfl,?_,?_,?_⟩)
          all_goals (repeat' first|exact rfl|exact trivial|exact ap|refine aj ?_ ?_)
         |true=>
          refine Or.inr (Or.inl (Exists.intro _ (Exists.intro _ (aj (aj rfl hc) ?_))))
          repeat refine ai ?_
          refine an ?_
          repeat refine ai ?_
          exact c6 ⟨st3,[]⟩ hlt hs ⟨hE,gP hin hI hk hy hv,hT3⟩ fun hw=>by repeat' first|exact rfl|exact trivial|exact nd hw|exact ap|refine aj ?_ ?_
        |cons z zs=>
         cases b3 with
         |false=>
          refine Or.inr (Or.inl (Exists.intro _ (Exists.intro _ (aj (aj rfl hc) ?_))))
          repeat refine ai ?_
          refine ay ?_
          rw[gR g1' g2' hE] at hq
          obtain ⟨rfl,rfl⟩:=Prod.mk.inj hq
          refine aj rfl (aj rfl ⟨rfl,rfl,?_,?_,?_⟩)
          all_goals (repeat' first|exact rfl|exact trivial|exact ap|refine aj ?_ ?_)
         |true=>
          refine Or.inr (Or.inl (Exists.intro _ (Exists.intro _ (aj (aj rfl hc) ?_))))
          repeat refine ai ?_
          refine an ?_
          repeat refine ai ?_
          exact c6 ⟨st3,(z::zs)⟩ hlt hs ⟨hE,gP hin hI hk hy hv,hT3⟩ fun hw=>by repeat' first|exact rfl|exact trivial|exact nd hw|exact ap|refine aj ?_ ?_
       ·rw[eO (Z h1)] at hE
        rw[im g1' g2' hE] at hq
        obtain ⟨rfl,rfl⟩:=Prod.mk.inj hq
        have hroom:=kl hx hI
        repeat refine ai ?_
        refine aj (fun r hr=>by rw[List.mem_singleton.1 hr];rfl) ?_
        repeat refine ai ?_
        refine aj (by simp only[List.length_append,List.length_nil,List.length_cons,List.length_map] at*;unfold big at*;omega) ?_
        refine aj rfl (aj rfl ⟨rfl,rfl,?_,?_,?_⟩)
        all_goals (repeat' first|exact rfl|exact trivial|exact ap|exact fJ|exact iv|exact bD _ _ _ _ _|refine aj ?_ ?_)
      |cons y ys=>
       repeat refine ai ?_
       refine aj ?_ ?_<;>intro h1
       ·have hlt:i<(U s.kind ms x).length:=V h1
        have hy:(U s.kind ms x)[i]∈N:=hin x hx _ (List.getElem_mem hlt)
        have hc:=j5 s ms hm all N hN hin k 9 (U s.kind ms x)[i] ⟨st1,(y::ys)⟩ hy hI.ok (by have:=hI.white;omega)
        rw[dF hlt] at hE
        generalize hv:bX (U s.kind ms) k (U s.kind ms x)[i] ⟨st1,(y::ys)⟩=v at hc hE
        obtain ⟨b3,st3,out3⟩:=v
        have hO:∃t,out3=(y::ys)++t:=by
             have:=gG (U s.kind ms) k (U s.kind ms x)[i] ⟨st1,(y::ys)⟩
             rw[hv] at this;exact this
        have hT3:∃t,out3=[]++t:=by
             obtain ⟨t,ht⟩:=hT
             obtain ⟨t2,ht2⟩:=hO
             exact ⟨t++t2,by rw[ht2,←List.append_assoc];exact congrArg (·++t2) ht⟩
        repeat refine ai ?_
        refine aB (e:=eB) (xs:=(U s.kind ms x)) (hlt) (rfl) rfl ?_
        repeat refine ai ?_
        cases out3 with
        |nil=>
         obtain ⟨t,ht⟩:=hO
         cases ht
        |cons z zs=>
         cases b3 with
         |false=>
          refine Or.inr (Or.inl (Exists.intro _ (Exists.intro _ (aj (aj rfl hc) ?_))))
          repeat refine ai ?_
          refine ay ?_
          rw[gR g1' g2' hE] at hq
          obtain ⟨rfl,rfl⟩:=Prod.mk.inj hq
          refine aj rfl (aj rfl ⟨rfl,rfl,?_,?_,?_⟩)
          all_goals (repeat' first|exact rfl|exact trivial|exact ap|refine aj ?_ ?_)
         |true=>
          refine Or.inr (Or.inl (Exists.intro _ (Exists.intro _ (aj (aj rfl hc) ?_))))
          repeat refine ai ?_
          refine an ?_
          repeat refine ai ?_
          exact c6 ⟨st3,(z::zs)⟩ hlt hs ⟨hE,gP hin hI hk hy hv,hT3⟩ fun hw=>by repeat' first|exact rfl|exact trivial|exact nd hw|exact ap|refine aj ?_ ?_
       ·rw[eO (Z h1)] at hE
        rw[im g1' g2' hE] at hq
        obtain ⟨rfl,rfl⟩:=Prod.mk.inj hq
        have hroom:=kl hx hI
        repeat refine ai ?_
        refine aj (fun r hr=>by rw[List.mem_singleton.1 hr];rfl) ?_
        repeat refine ai ?_
        refine aj (by simp only[List.length_append,List.length_nil,List.length_cons,List.length_map] at*;unfold big at*;omega) ?_
        refine aj rfl (aj rfl ⟨rfl,rfl,?_,?_,?_⟩)
        all_goals (repeat' first|exact rfl|exact trivial|exact ap|exact fJ|exact iv|exact bD _ _ _ _ _|refine aj ?_ ?_)
  |cons a tl=>
   refine HSpec.of_vc aI aw [.tmp 6] Tryz.func236 rfl rfl rfl rfl rfl (fun hok=>?_)
   repeat refine ai ?_
   rcases rj (x:=x) st with ⟨e0,e1⟩|e1
   ·refine ⟨_,e0,?_⟩
    repeat refine ai ?_
    refine aj ?_ ?_<;>intro g1
    ·have g1':(lk st x==1)=true:=by first|exact g1|(rw[e1];exact g1)
     rw[lT g1'] at hq
     obtain ⟨rfl,rfl⟩:=Prod.mk.inj hq
     refine aj rfl (aj rfl ⟨rfl,rfl,?_,?_,?_⟩)
     all_goals (repeat' first|exact rfl|exact trivial|exact ap|refine aj ?_ ?_)
    ·have g1':(lk st x==1)=false:=by first|exact g1|(rw[e1];exact g1)
     repeat refine ai ?_
     refine aj ?_ ?_<;>intro g2
     ·have g2':(lk st x==2)=true:=by first|exact g2|(rw[e1];exact g2)
      rw[lR g1' g2'] at hq
      obtain ⟨rfl,rfl⟩:=Prod.mk.inj hq
      refine aj rfl (aj rfl ⟨rfl,rfl,?_,?_,?_⟩)
      all_goals (repeat' first|exact rfl|exact trivial|exact ap|refine aj ?_ ?_)
     ·have g2':(lk st x==2)=false:=by first|exact g2|(rw[e1];exact g2)
      repeat refine ai ?_
      refine oh (pF _ s ms hm all (bn (st.map ij) [.str x] (.d (.int .i64 1))) (fun n=>by rw[fa];exact ap) (fun i b=>by rw[fa];exact ip) (a::tl) x) ?_
      have hs:(U s.kind ms x).length≤big:=by
       have:=fv (k:=s.kind) (n:=x) (ms:=ms)
       unfold big;omega
      repeat refine ai ?_
      refine mX ((U s.kind ms x)) (fun i (u:Wk)=>bJ (bX (U s.kind ms) k) (U s.kind ms x) ⟨pt st x 1,(a::tl)⟩=bJ (bX (U s.kind ms) k) ((U s.kind ms x).drop i) u∧yu (U s.kind ms) N x ⟨st,(a::tl)⟩ u∧∃t,u.out=(a::tl)++t) (fun i (u:Wk)=>[(0,.d (.str x)),(1,.ptr 6 0),(2,.ptr 4 0),(3,.ptr 8 0),(4,.ptr 7 0),(20,.d (lS (U s.kind ms x))),(21,.d (.int .i64 ((U s.kind ms x).map eB).length)),(22,.d (.int .i64 i))]) (fun i (u:Wk)=>hW 10 s ms all u) (⟨rfl,lQ hx hwk g1' g2',[],by simp⟩) ?_ ⟨rfl,rfl,⟨rfl,rfl,rfl,rfl,rfl,rfl,rfl,rfl,trivial⟩,(by repeat' first|exact rfl|exact trivial|exact ap|refine aj ?_ ?_),(by repeat' first|exact rfl|exact trivial|exact fJ|refine aj ?_ ?_)⟩
      intro i u hi hr
      obtain ⟨hE,hI,hT⟩:=hr
      obtain ⟨st1,out1⟩:=u
      cases out1 with
      |nil=>
       obtain ⟨t,ht⟩:=hT
       cases ht
      |cons y ys=>
       repeat refine ai ?_
       refine aj ?_ ?_<;>intro h1
       ·have hlt:i<(U s.kind ms x).length:=V h1
        have hy:(U s.kind ms x)[i]∈N:=hin x hx _ (List.getElem_mem hlt)
        have hc:=j5 s ms hm all N hN hin k 10 (U s.kind ms x)[i] ⟨st1,(y::ys)⟩ hy hI.ok (by have:=hI.white;omega)
        rw[dF hlt] at hE
        generalize hv:bX (U s.kind ms) k (U s.kind ms x)[i] ⟨st1,(y::ys)⟩=v at hc hE
        obtain ⟨b3,st3,out3⟩:=v
        have hO:∃t,out3=(y::ys)++t:=by
             have:=gG (U s.kind ms) k (U s.kind ms x)[i] ⟨st1,(y::ys)⟩
             rw[hv] at this;exact this
        have hT3:∃t,out3=(a::tl)++t:=by
             obtain ⟨t,ht⟩:=hT
             obtain ⟨t2,ht2⟩:=hO
             exact ⟨t++t2,by rw[ht2,←List.append_assoc];exact congrArg (·++t2) ht⟩
        repeat refine ai ?_
        refine aB (e:=eB) (xs:=(U s.kind ms x)) (hlt) (rfl) rfl ?_
        repeat refine ai ?_
        cases out3 with
        |nil=>
         obtain ⟨t,ht⟩:=hO
         cases ht
        |cons z zs=>
         cases b3 with
         |false=>
          refine Or.inr (Or.inl (Exists.intro _ (Exists.intro _ (aj (aj rfl hc) ?_))))
          repeat refine ai ?_
          refine ay ?_
          rw[gR g1' g2' hE] at hq
          obtain ⟨rfl,rfl⟩:=Prod.mk.inj hq
          refine aj rfl (aj rfl ⟨rfl,rfl,?_,?_,?_⟩)
          all_goals (repeat' first|exact rfl|exact trivial|exact ap|refine aj ?_ ?_)
         |true=>
          refine Or.inr (Or.inl (Exists.intro _ (Exists.intro _ (aj (aj rfl hc) ?_))))
          repeat refine ai ?_
          refine an ?_
          repeat refine ai ?_
          exact c6 ⟨st3,(z::zs)⟩ hlt hs ⟨hE,gP hin hI hk hy hv,hT3⟩ fun hw=>by repeat' first|exact rfl|exact trivial|exact nd hw|exact ap|refine aj ?_ ?_
       ·rw[eO (Z h1)] at hE
        rw[im g1' g2' hE] at hq
        obtain ⟨rfl,rfl⟩:=Prod.mk.inj hq
        have hroom:=kl hx hI
        repeat refine ai ?_
        refine aj (fun r hr=>by rw[List.mem_singleton.1 hr];rfl) ?_
        repeat refine ai ?_
        refine aj (by simp only[List.length_append,List.length_nil,List.length_cons,List.length_map] at*;unfold big at*;omega) ?_
        refine aj rfl (aj rfl ⟨rfl,rfl,?_,?_,?_⟩)
        all_goals (repeat' first|exact rfl|exact trivial|exact ap|exact fJ|exact iv|exact bD _ _ _ _ _|refine aj ?_ ?_)
   ·refine ⟨_,e1,?_⟩
    repeat refine ai ?_
    refine aj ?_ ?_<;>intro g1
    ·have g1':(lk st x==1)=true:=by first|exact g1|(rw[e1];exact g1)
     rw[lT g1'] at hq
     obtain ⟨rfl,rfl⟩:=Prod.mk.inj hq
     refine aj rfl (aj rfl ⟨rfl,rfl,?_,?_,?_⟩)
     all_goals (repeat' first|exact rfl|exact trivial|exact ap|refine aj ?_ ?_)
    ·have g1':(lk st x==1)=false:=by first|exact g1|(rw[e1];exact g1)
     repeat refine ai ?_
     refine aj ?_ ?_<;>intro g2
     ·have g2':(lk st x==2)=true:=by first|exact g2|(rw[e1];exact g2)
      rw[lR g1' g2'] at hq
      obtain ⟨rfl,rfl⟩:=Prod.mk.inj hq
      refine aj rfl (aj rfl ⟨rfl,rfl,?_,?_,?_⟩)
      all_goals (repeat' first|exact rfl|exact trivial|exact ap|refine aj ?_ ?_)
     ·have g2':(lk st x==2)=false:=by first|exact g2|(rw[e1];exact g2)
      repeat refine ai ?_
      refine oh (pF _ s ms hm all (bn (st.map ij) [.str x] (.d (.int .i64 1))) (fun n=>by rw[fa];exact ap) (fun i b=>by rw[fa];exact ip) (a::tl) x) ?_
      have hs:(U s.kind ms x).length≤big:=by
       have:=fv (k:=s.kind) (n:=x) (ms:=ms)
       unfold big;omega
      repeat refine ai ?_
      refine mX ((U s.kind ms x)) (fun i (u:Wk)=>bJ (bX (U s.kind ms) k) (U s.kind ms x) ⟨pt st x 1,(a::tl)⟩=bJ (bX (U s.kind ms) k) ((U s.kind ms x).drop i) u∧yu (U s.kind ms) N x ⟨st,(a::tl)⟩ u∧∃t,u.out=(a::tl)++t) (fun i (u:Wk)=>[(0,.d (.str x)),(1,.ptr 6 0),(2,.ptr 4 0),(3,.ptr 8 0),(4,.ptr 7 0),(20,.d (lS (U s.kind ms x))),(21,.d (.int .i64 ((U s.kind ms x).map eB).length)),(22,.d (.int .i64 i))]) (fun i (u:Wk)=>hW 10 s ms all u) (⟨rfl,lQ hx hwk g1' g2',[],by simp⟩) ?_ ⟨rfl,rfl,⟨rfl,rfl,rfl,rfl,rfl,rfl,rfl,rfl,trivial⟩,(by repeat' first|exact rfl|exact trivial|exact ap|refine aj ?_ ?_),(by repeat' first|exact rfl|exact trivial|exact fJ|refine aj ?_ ?_)⟩
      intro i u hi hr
      obtain ⟨hE,hI,hT⟩:=hr
      obtain ⟨st1,out1⟩:=u
      cases out1 with
      |nil=>
       obtain ⟨t,ht⟩:=hT
       cases ht
      |cons y ys=>
       repeat refine ai ?_
       refine aj ?_ ?_<;>intro h1
       ·have hlt:i<(U s.kind ms x).length:=V h1
        have hy:(U s.kind ms x)[i]∈N:=hin x hx _ (List.getElem_mem hlt)
        have hc:=j5 s ms hm all N hN hin k 10 (U s.kind ms x)[i] ⟨st1,(y::ys)⟩ hy hI.ok (by have:=hI.white;omega)
        rw[dF hlt] at hE
        generalize hv:bX (U s.kind ms) k (U s.kind ms x)[i] ⟨st1,(y::ys)⟩=v at hc hE
        obtain ⟨b3,st3,out3⟩:=v
        have hO:∃t,out3=(y::ys)++t:=by
             have:=gG (U s.kind ms) k (U s.kind ms x)[i] ⟨st1,(y::ys)⟩
             rw[hv] at this;exact this
        have hT3:∃t,out3=(a::tl)++t:=by
             obtain ⟨t,ht⟩:=hT
             obtain ⟨t2,ht2⟩:=hO
             exact ⟨t++t2,by rw[ht2,←List.append_assoc];exact congrArg (·++t2) ht⟩
        repeat refine ai ?_
        refine aB (e:=eB) (xs:=(U s.kind ms x)) (hlt) (rfl) rfl ?_
        repeat refine ai ?_
        cases out3 with
        |nil=>
         obtain ⟨t,ht⟩:=hO
         cases ht
        |cons z zs=>
         cases b3 with
         |false=>
          refine Or.inr (Or.inl (Exists.intro _ (Exists.intro _ (aj (aj rfl hc) ?_))))
          repeat refine ai ?_
          refine ay ?_
          rw[gR g1' g2' hE] at hq
          obtain ⟨rfl,rfl⟩:=Prod.mk.inj hq
          refine aj rfl (aj rfl ⟨rfl,rfl,?_,?_,?_⟩)
          all_goals (repeat' first|exact rfl|exact trivial|exact ap|refine aj ?_ ?_)
         |true=>
          refine Or.inr (Or.inl (Exists.intro _ (Exists.intro _ (aj (aj rfl hc) ?_))))
          repeat refine ai ?_
          refine an ?_
          repeat refine ai ?_
          exact c6 ⟨st3,(z::zs)⟩ hlt hs ⟨hE,gP hin hI hk hy hv,hT3⟩ fun hw=>by repeat' first|exact rfl|exact trivial|exact nd hw|exact ap|refine aj ?_ ?_
       ·rw[eO (Z h1)] at hE
        rw[im g1' g2' hE] at hq
        obtain ⟨rfl,rfl⟩:=Prod.mk.inj hq
        have hroom:=kl hx hI
        repeat refine ai ?_
        refine aj (fun r hr=>by rw[List.mem_singleton.1 hr];rfl) ?_
        repeat refine ai ?_
        refine aj (by simp only[List.length_append,List.length_nil,List.length_cons,List.length_map] at*;unfold big at*;omega) ?_
        refine aj rfl (aj rfl ⟨rfl,rfl,?_,?_,?_⟩)
        all_goals (repeat' first|exact rfl|exact trivial|exact ap|exact fJ|exact iv|exact bD _ _ _ _ _|refine aj ?_ ?_)
end Go.Vc
end
section
namespace Go.Vc
open Go.Proofs
set_option maxRecDepth 100000
def iu (rd:Bs→List Bs) (all:List Bs):List Bs×Bool:=match bJ (bX rd (all.length+1)) all A1 with
 |(true,u)=>(u.out,true)
 |(false,_)=>([],false)
theorem Al {rd:Bs→List Bs} {all:List Bs}:(iu rd all).2=(bJ (bX rd (all.length+1)) all A1).1:=by
 unfold iu
 split<;>(rename_i h;rw[h])
theorem pB {rd:Bs→List Bs} {all:List Bs} {u:Wk} (h:bJ (bX rd (all.length+1)) all A1=(false,u)):iu rd all=([],false):=by
 unfold iu;rw[h]
theorem qF {rd:Bs→List Bs} {all:List Bs} {u:Wk} (h:bJ (bX rd (all.length+1)) all A1=(true,u)):iu rd all=(u.out,true):=by
 unfold iu;rw[h]
def hA (lo nx:Nat) (s:GateShape) (ms:List GateMend):Heap:=⟨[(1,oM ms),(0,oS s)],nx,lo⟩
theorem FQ (s:GateShape) (ms:List GateMend) (hm:ms.length≤12) (all:List Bs) (hN:all.length≤big) (hin:∀n∈all,∀y∈U s.kind ms n,y∈all) (lo:Nat):
 HSpec P 230 [.d (lS all),wb] (hA lo 4 s ms) (.tup [.d (lS (iu (U s.kind ms) all).1),.d (.bool (iu (U s.kind ms) all).2)]) (hA lo 4 s ms):=by
 refine HSpec.of_vc aI aw [.tmp 4,.tmp 5] Tryz.func230 rfl rfl rfl rfl rfl (fun hok=>?_)
 have hs:=hN
 repeat refine ai ?_
 refine mX (all) (fun i (u:Wk)=>bJ (bX (U s.kind ms) (all.length+1)) all A1=bJ (bX (U s.kind ms) (all.length+1)) (all.drop i) u∧np (U s.kind ms) all u) (fun i (u:Wk)=>[(7,.ptr 7 0),(8,.ptr 8 0),(13,.d (lS all)),(14,.d (.int .i64 (all.map eB).length)),(15,.d (.int .i64 i))]) (fun i (u:Wk)=>hW 4 s ms all u) (⟨rfl,yx _ _⟩) ?_ ⟨rfl,rfl,⟨rfl,rfl,rfl,rfl,rfl,trivial⟩,(by repeat' first|exact rfl|exact trivial|exact ap|refine aj ?_ ?_),(by repeat' first|exact rfl|exact trivial|refine aj ?_ ?_)⟩
 intro i u hi hr
 obtain ⟨hE,hI⟩:=hr
 obtain ⟨st1,out1⟩:=u
 cases out1 with
 |nil=>
  repeat refine ai ?_
  refine aj ?_ ?_<;>intro h1
  ·have hlt:i<all.length:=V h1
   have hy:all[i]∈all:=List.getElem_mem hlt
   have hwl:white all ⟨st1,[]⟩<all.length+1:=Nat.lt_succ_of_le (km _ _)
   have hc:=j5 s ms hm all all hN hin (all.length+1) 4 all[i] ⟨st1,[]⟩ hy hI hwl
   have hg:=gx hin (all.length+1) all[i] ⟨st1,[]⟩ hy hI hwl
   rw[dF hlt] at hE
   generalize hv:bX (U s.kind ms) (all.length+1) all[i] ⟨st1,[]⟩=v at hc hE hg
   obtain ⟨b3,st3,out3⟩:=v
   repeat refine ai ?_
   refine O (e:=eB) (xs:=all) (hlt) rfl ?_
   repeat refine ai ?_
   cases b3 with
   |false=>
    cases out3 with
    |nil=>
     rw[pB hE]
     refine Or.inr (Or.inl (Exists.intro _ (Exists.intro _ (aj (aj rfl hc) ?_))))
     repeat refine ai ?_
     refine ay ?_
     refine aj rfl (aj rfl ⟨rfl,rfl,?_,?_,?_⟩)
     all_goals (repeat' first|exact rfl|exact trivial|exact ap|refine aj ?_ ?_)
    |cons z zs=>
     rw[pB hE]
     refine Or.inr (Or.inl (Exists.intro _ (Exists.intro _ (aj (aj rfl hc) ?_))))
     repeat refine ai ?_
     refine ay ?_
     refine aj rfl (aj rfl ⟨rfl,rfl,?_,?_,?_⟩)
     all_goals (repeat' first|exact rfl|exact trivial|exact ap|refine aj ?_ ?_)
   |true=>
    have hok3:np (U s.kind ms) all ⟨st3,out3⟩:=(hg.1 rfl).1
    cases out3 with
    |nil=>
     refine Or.inr (Or.inl (Exists.intro _ (Exists.intro _ (aj (aj rfl hc) ?_))))
     repeat refine ai ?_
     refine an ?_
     repeat refine ai ?_
     exact c6 ⟨st3,[]⟩ hlt hs ⟨hE,hok3⟩ fun hw=>by repeat' first|exact rfl|exact trivial|exact nd hw|exact ap|refine aj ?_ ?_
    |cons z zs=>
     refine Or.inr (Or.inl (Exists.intro _ (Exists.intro _ (aj (aj rfl hc) ?_))))
     repeat refine ai ?_
     refine an ?_
     repeat refine ai ?_
     exact c6 ⟨st3,(z::zs)⟩ hlt hs ⟨hE,hok3⟩ fun hw=>by repeat' first|exact rfl|exact trivial|exact nd hw|exact ap|refine aj ?_ ?_
  ·rw[eO (Z h1)] at hE
   rw[qF hE]
   refine aj rfl (aj rfl ⟨rfl,rfl,?_,?_,?_⟩)
   all_goals (repeat' first|exact rfl|exact trivial|exact ap|refine aj ?_ ?_)
 |cons y ys=>
  repeat refine ai ?_
  refine aj ?_ ?_<;>intro h1
  ·have hlt:i<all.length:=V h1
   have hy:all[i]∈all:=List.getElem_mem hlt
   have hwl:white all ⟨st1,(y::ys)⟩<all.length+1:=Nat.lt_succ_of_le (km _ _)
   have hc:=j5 s ms hm all all hN hin (all.length+1) 4 all[i] ⟨st1,(y::ys)⟩ hy hI hwl
   have hg:=gx hin (all.length+1) all[i] ⟨st1,(y::ys)⟩ hy hI hwl
   rw[dF hlt] at hE
   generalize hv:bX (U s.kind ms) (all.length+1) all[i] ⟨st1,(y::ys)⟩=v at hc hE hg
   obtain ⟨b3,st3,out3⟩:=v
   repeat refine ai ?_
   refine O (e:=eB) (xs:=all) (hlt) rfl ?_
   repeat refine ai ?_
   cases b3 with
   |false=>
    cases out3 with
    |nil=>
     rw[pB hE]
     refine Or.inr (Or.inl (Exists.intro _ (Exists.intro _ (aj (aj rfl hc) ?_))))
     repeat refine ai ?_
     refine ay ?_
     refine aj rfl (aj rfl ⟨rfl,rfl,?_,?_,?_⟩)
     all_goals (repeat' first|exact rfl|exact trivial|exact ap|refine aj ?_ ?_)
    |cons z zs=>
     rw[pB hE]
     refine Or.inr (Or.inl (Exists.intro _ (Exists.intro _ (aj (aj rfl hc) ?_))))
     repeat refine ai ?_
     refine ay ?_
     refine aj rfl (aj rfl ⟨rfl,rfl,?_,?_,?_⟩)
     all_goals (repeat' first|exact rfl|exact trivial|exact ap|refine aj ?_ ?_)
   |true=>
    have hok3:np (U s.kind ms) all ⟨st3,out3⟩:=(hg.1 rfl).1
    cases out3 with
    |nil=>
     refine Or.inr (Or.inl (Exists.intro _ (Exists.intro _ (aj (aj rfl hc) ?_))))
     repeat refine ai ?_
     refine an ?_
     repeat refine ai ?_
     exact c6 ⟨st3,[]⟩ hlt hs ⟨hE,hok3⟩ fun hw=>by repeat' first|exact rfl|exact trivial|exact nd hw|exact ap|refine aj ?_ ?_
    |cons z zs=>
     refine Or.inr (Or.inl (Exists.intro _ (Exists.intro _ (aj (aj rfl hc) ?_))))
     repeat refine ai ?_
     refine an ?_
     repeat refine ai ?_
     exact c6 ⟨st3,(z::zs)⟩ hlt hs ⟨hE,hok3⟩ fun hw=>by repeat' first|exact rfl|exact trivial|exact nd hw|exact ap|refine aj ?_ ?_
  ·rw[eO (Z h1)] at hE
   rw[qF hE]
   refine aj rfl (aj rfl ⟨rfl,rfl,?_,?_,?_⟩)
   all_goals (repeat' first|exact rfl|exact trivial|exact ap|refine aj ?_ ?_)
theorem Fa (s:GateShape) (ms:List GateMend) (lo:Nat):HSpec P 230 [.nils,wb] (hA lo 2 s ms) (.tup [.d (lS []),.d (.bool true)]) (hA lo 2 s ms):=by
 refine HSpec.of_vc aI aw [.tmp 4,.tmp 5] Tryz.func230 rfl rfl rfl rfl rfl (fun hok=>?_)
 have hs:([]:List Bs).length≤big:=Nat.zero_le _
 repeat refine ai ?_
 refine d8 (([]:List Bs)) (fun i=>True) (fun i=>[(7,.ptr 5 0),(13,.nils),(14,.d (.int .i64 0)),(15,.d (.int .i64 i))]) (fun i=>⟨[(5,.cells 101 [.nils]),(1,oM ms),(0,oS s)],7,2⟩) (trivial) ?_
 intro i hi hr
 repeat refine ai ?_
 refine aj ?_ ?_<;>intro h1
 ·exact absurd (of_decide_eq_true h1) (by omega)
 ·refine aj rfl (aj rfl ⟨rfl,rfl,?_,?_,?_⟩)
  all_goals (repeat' first|exact rfl|exact trivial|refine aj ?_ ?_)
theorem v3 (s:GateShape) (ms:List GateMend) (hm:ms.length≤12) (hin:∀n∈bk s,∀y∈U s.kind ms n,y∈bk s):
 Spec P 212 [st s.e,.d (af ms)] (.tup [.d (lS (iu (U s.kind ms) (bk s)).1),.d (.bool (iu (U s.kind ms) (bk s)).2)]):=by
 refine Spec.of_vc aI aw [.tmp 4,.tmp 5] Tryz.func212 rfl rfl rfl rfl (fun hok=>?_)
 have hs:s.fields.length≤big:=by
  have:=hok.1
  simp only[st,AV.ok,GateShape.e,List.map,ei] at this
  exact ax this.2.1.1
 repeat refine ai ?_
 refine mX (s.fields) (fun i (A:List Bs)=>A=(s.fields.take i).map (·.name)) (fun i (A:List Bs)=>[(2,.ptr 0 0),(3,.ptr 1 0),(6,CA 3 A),(10,.d (ab s.fields)),(11,.d (.int .i64 (s.fields.map GateField.e).length)),(12,.d (.int .i64 i))]) (fun i (A:List Bs)=>⟨(Am [(1,oM ms),(0,oS s)] 2 3 A).objs,(Am [(1,oM ms),(0,oS s)] 2 3 A).nx,0⟩) (rfl) ?_
 intro i A hi hr
 have hA:A.length≤s.fields.length:=by rw[hr,List.length_map,List.length_take];omega
 have hA2:A.length≤i:=by rw[hr,List.length_map,List.length_take];omega
 repeat refine ai ?_
 refine aj ?_ ?_<;>intro h1
 ·have hlt:i<s.fields.length:=V h1
  have hstep:(s.fields.take (i+1)).map (·.name)=A++[s.fields[i].name]:=by
   rw[List.take_succ_eq_append_getElem hlt,List.map_append,←hr];rfl
  repeat refine ai ?_
  refine O (e:=GateField.e) (xs:=s.fields) (hlt) rfl ?_
  repeat refine ai ?_
  cases A with
  |nil=>
   repeat refine ai ?_
   refine aj (fun r hr=>by rw[List.mem_singleton.1 hr];rfl) ?_
   repeat refine ai ?_
   refine aj (by simp only[List.length_nil,List.length_cons,List.length_map] at*;unfold big;omega) ?_
   repeat refine ai ?_
   exact c6 ([s.fields[i].name]) hlt hs (by rw[hstep];rfl)
  |cons a tl=>
   repeat refine ai ?_
   refine aj (fun r hr=>by rw[List.mem_singleton.1 hr];rfl) ?_
   repeat refine ai ?_
   refine aj (by simp only[List.length_append,List.length_nil,List.length_cons,List.length_map] at*;unfold big at*;omega) ?_
   repeat refine ai ?_
   exact c6 (a::(tl++[s.fields[i].name])) hlt hs (by rw[hstep];rfl) fun hw=>by repeat' first|exact rfl|exact trivial|exact nd hw|exact bD _ _ _ _ _|refine aj ?_ ?_
 ·have ha:A=bk s:=by rw[hr,List.take_of_length_le (Z h1)];rfl
  rw[←ha] at hin ⊢
  cases A with
  |nil=>
   repeat refine ai ?_
   refine oh (Fa s ms _) ?_
   rfl
  |cons a tl=>
   repeat refine ai ?_
   refine op (FQ s ms hm (a::tl) (Nat.le_trans hA hs) hin _) ?_
   rfl
def qG (s:GateShape) (ms:List GateMend):Bool:=((mw s ms).length:Int)==(s.fields.length:Int)
theorem lx {xs:List GateShape} {ms:List GateMend} (h:aH xs=true) (hm:ms.all (bF xs)=true) {s:GateShape} (hs:s∈xs):(iu (U s.kind ms) (bk s)).2=qG s ms:=by
 rw[Al,wB (mj h hs) (fun n _=>jR h hm hs n)]
 have e:(bk s).length=s.fields.length:=by rw[bk,List.length_map]
 unfold qG mw gr
 rw[e,Bool.eq_iff_iff,decide_eq_true_eq,beq_iff_eq]
 omega
theorem BK {xs:List GateShape} {m:GateMend} {j:Nat} (hj:j<xs.length) (e:dA (·.kind==m.kind) xs=(j:Int)):bF xs m=iB xs[j].fields m:=by
 unfold bF
 rw[e,Int.toNat_natCast,List.getElem?_eq_getElem hj]
 have:decide ((j:Int)≥0)=true:=decide_eq_true (by omega)
 simp only[this,Bool.true_and]
theorem xF {xs:List GateShape} {m:GateMend} (h:decide (dA (·.kind==m.kind) xs<0)=true):bF xs m=false:=by
 have h':decide (dA (·.kind==m.kind) xs≥0)=false:=decide_eq_false (by have:=of_decide_eq_true h;omega)
 unfold bF
 split<;>simp only[h',Bool.false_and]
theorem fO (xs:List GateShape) (ms:List GateMend):Spec P 181 [.d (aa xs),.d (af ms)] (.d (.bool (bw xs ms))):=by
 refine Spec.of_vc aI aw [.tmp 4] Tryz.func181 rfl rfl rfl rfl (fun hok=>?_)
 have hs:xs.length≤big:=ax hok.1.1
 have hsm:ms.length≤big:=ax hok.2.1.1
 repeat refine ai ?_
 refine oc (fj _) ?_
 repeat refine ai ?_
 refine aj ?_ ?_<;>intro h0
 ·simp only[Bool.not_eq_true',Bool.not_eq_false'] at h0
  repeat refine ai ?_
  refine aj ?_ ?_<;>intro h1
  ·rw[List.length_map] at h1
   refine bd ?_
   simp only[bw,h1,bl]
  ·rw[List.length_map] at h1
   have hm12:ms.length≤12:=by have:=of_decide_eq_false h1;omega
   have e:bw xs ms=(ms.all (bF xs)&&xs.all fun s=>qG s ms):=by simp only[bw,h0,h1,bl];rfl
   rw[e]
   repeat refine ai ?_
   refine d8 (ms) (fun i=>ms.all (bF xs)=(ms.drop i).all (bF xs)) (fun i=>[(0,.d (aa xs)),(1,.d (af ms)),(20,.d (af ms)),(21,.d (.int .i64 (ms.map GateMend.e).length)),(22,.d (.int .i64 i))]) (fun i=>hp0) (rfl) ?_
   intro i hi hr
   repeat refine ai ?_
   refine aj ?_ ?_<;>intro h2
   ·have hlt:i<ms.length:=V h2
    rw[aE hlt] at hr
    repeat refine ai ?_
    refine O (e:=GateMend.e) (xs:=ms) (hlt) rfl ?_
    repeat refine ai ?_
    refine oc (iE _ _) ?_
    repeat refine ai ?_
    refine ak ?_
    repeat refine ai ?_
    refine aj ?_ ?_<;>intro h3
    ·obtain ⟨j,hj,ej,_⟩:=dD (p:=fun s:GateShape=>s.kind==ms[i].kind) (xs:=xs) (decide_eq_true (by have:=of_decide_eq_false h3;omega))
     repeat refine ai ?_
     refine aB (e:=GateShape.e) (xs:=xs) (hj) (ej) rfl ?_
     repeat refine ai ?_
     refine oc (Db _ _) ?_
     rw[BK hj ej] at hr
     repeat refine ai ?_
     refine aj ?_ ?_<;>intro h4
     ·change (!iB xs[j].fields ms[i])=true at h4
      simp only[Bool.not_eq_true',Bool.not_eq_false'] at h4
      refine bd ?_
      rw[hr,h4];rfl
     ·change (!iB xs[j].fields ms[i])=false at h4
      simp only[Bool.not_eq_true',Bool.not_eq_false'] at h4
      repeat refine ai ?_
      exact bQ hlt hsm (by rw[hr,h4];rfl)
    ·repeat refine ai ?_
     refine ay ?_
     refine bd ?_
     rw[hr,xF h3];rfl
   ·rw[cl (Z h2)] at hr
    rw[hr,Bool.true_and]
    repeat refine ai ?_
    refine d8 (xs) (fun i=>(xs.all fun s=>qG s ms)=((xs.drop i).all fun s=>qG s ms)) (fun i=>[(0,.d (aa xs)),(1,.d (af ms)),(43,.d (aa xs)),(44,.d (.int .i64 (xs.map GateShape.e).length)),(45,.d (.int .i64 i))]) (fun i=>hp0) (rfl) ?_
    intro i hi hr
    repeat refine ai ?_
    refine aj ?_ ?_<;>intro h5
    ·have hlt:i<xs.length:=V h5
     rw[aE hlt] at hr
     repeat refine ai ?_
     refine O (e:=GateShape.e) (xs:=xs) (hlt) rfl ?_
     repeat refine ai ?_
     refine oc (v3 xs[i] ms hm12 (fun n _=>jR h0 (by assumption) (List.getElem_mem hlt) n)) ?_
     rw[lx h0 (by assumption) (List.getElem_mem hlt)]
     repeat refine ai ?_
     refine aj ?_ ?_<;>intro h6
     ·simp only[Bool.not_eq_true',Bool.not_eq_false'] at h6
      refine bd ?_
      rw[hr,h6];rfl
     ·simp only[Bool.not_eq_true',Bool.not_eq_false'] at h6
      repeat refine ai ?_
      exact bQ hlt hs (by rw[hr,h6];rfl)
    ·refine bd ?_
     rw[hr,cl (Z h5)]
 ·simp only[Bool.not_eq_true',Bool.not_eq_false'] at h0
  refine bd ?_
  simp only[bw,h0,Bool.false_and]
end Go.Vc
end
section
namespace Go.Vc
def cz (fs:List GateField) (vals:List Bs) (n:Bs):Bs:=match vals[(dA (·.name==n) fs).toNat]? with|some v=>v|none=>[]
def kf (e:Bs→Bs) (k n:Bs) (m:GateMend):Bool:=(m.kind==k&&m.field==n)&&((m.when_==[]||e m.when_==m.is_)&&(m.from_==[]|| !(e m.from_==[])))
def kS (e:Bs→Bs) (m:GateMend):Bs:=bif m.from_==[] then m.put else e m.from_
def oa (e:Bs→Bs) (k n d:Bs):List GateMend→Bs
 |[]=>d
 |m::ms=>bif kf e k n m then kS e m else oa e k n d ms
def rR (fs:List GateField) (ms:List GateMend) (k:Bs) (vals:List Bs) (n:Bs):Bs:=oa (cz fs vals) k n (cz fs vals n) ms
def bv (fs:List GateField) (ms:List GateMend) (k:Bs) (vals:List Bs) (n:Bs):List Bs:=vals.set (dA (·.name==n) fs).toNat (rR fs ms k vals n)
def bR (fs:List GateField) (ms:List GateMend) (k:Bs) (row:List Bs) (vals:List Bs):List Bs:=row.foldl (bv fs ms k) vals
theorem lK {e1 e2:Bs→Bs} {k n d:Bs}:∀{ms:List GateMend},(∀y∈U k ms n,e1 y=e2 y)→oa e1 k n d ms=oa e2 k n d ms
 |[],_=>rfl
 |m::ms,h=>by
  have ih:=lK (e1:=e1) (e2:=e2) (k:=k) (n:=n) (d:=d) (ms:=ms) (fun y hy=>h y (by simp only[U,List.map_cons,List.flatten_cons,List.mem_append];exact .inr hy))
  simp only[oa,ih]
  cases hkf:(m.kind==k&&m.field==n) with
  |false=>simp only[kf,hkf,Bool.false_and,cond_false]
  |true=>
   have hr:∀y∈jy m.when_++jy m.from_,e1 y=e2 y:=fun y hy=>h y (by simp only[U,List.map_cons,List.flatten_cons,List.mem_append,Ao,hkf,cond_true];exact .inl (List.mem_append.1 hy))
   have hw:(m.when_==[])=true∨e1 m.when_=e2 m.when_:=by
    cases hq:m.when_==[] with
    |true=>exact .inl rfl
    |false=>exact .inr (hr _ (List.mem_append.2 (.inl (by simp[jy,hq]))))
   have hf:(m.from_==[])=true∨e1 m.from_=e2 m.from_:=by
    cases hq:m.from_==[] with
    |true=>exact .inl rfl
    |false=>exact .inr (hr _ (List.mem_append.2 (.inr (by simp[jy,hq]))))
   have hc:kf e1 k n m=kf e2 k n m:=by
    simp only[kf]
    rcases hw with hw|hw<;>rcases hf with hf|hf<;>simp only[hw,hf,Bool.true_or]
   have hg:kS e1 m=kS e2 m:=by
    simp only[kS]
    rcases hf with hf|hf<;>simp only[hf,cond_true]
   rw[hc,hg]
theorem fU {fs:List GateField} {n:Bs} (h:n∈fs.map (·.name)):∃j:Nat,∃h:j<fs.length,dA (·.name==n) fs=(j:Int)∧fs[j].name=n:=by
 rcases gJ (p:=fun f:GateField=>f.name==n) fs 0 with ⟨h1,h2⟩|⟨j,hj,h1,h2,_⟩
 ·obtain ⟨f,hf,rfl⟩:=List.mem_map.1 h
  have:=List.any_eq_false.1 h2 f hf
  simp at this
 ·exact ⟨j,hj,by unfold dA;rw[h1,Nat.zero_add],beq_iff_eq.1 h2⟩
theorem CT {fs:List GateField} (hn:(fs.map (·.name)).Nodup) {i j:Nat} (hi:i<fs.length) (hj:j<fs.length) (h:fs[i].name=fs[j].name):i=j:=by
 have e:(fs.map GateField.name)[i]'(by simpa using hi)=(fs.map GateField.name)[j]'(by simpa using hj):=by simpa using h
 exact (List.getElem_inj hn).1 e
section
variable {fs:List GateField} {ms:List GateMend} {k:Bs}
theorem fR {vals:List Bs} {n:Bs} {j:Nat} (e:dA (·.name==n) fs=(j:Int)) (h:j<vals.length):cz fs vals n=vals[j]:=by
 unfold cz
 rw[e,Int.toNat_natCast,List.getElem?_eq_getElem h]
theorem nv {vals:List Bs} (hl:vals.length=fs.length) {n y v:Bs} (hn:n∈fs.map (·.name)) (hy:y∈fs.map (·.name)):cz fs (vals.set (dA (·.name==n) fs).toNat v) y=if y=n then v else cz fs vals y:=by
 obtain ⟨i,hi,e1,e2⟩:=fU hn
 obtain ⟨j,hj,e3,e4⟩:=fU hy
 rw[e1,Int.toNat_natCast,fR e3 (by rw[List.length_set];omega),List.getElem_set]
 by_cases h:i=j
 ·subst h
  rw[if_pos rfl,if_pos (by rw[←e4,←e2])]
 ·rw[if_neg h,fR e3 (by omega),if_neg]
  intro e
  subst e
  rw[e1] at e3
  exact h (by omega)
theorem i9 (vals:List Bs) (n:Bs):(bv fs ms k vals n).length=vals.length:=List.length_set ..
theorem gz:∀(row:List Bs) (vals:List Bs),(bR fs ms k row vals).length=vals.length
 |[],_=>rfl
 |n::row,vals=>by
  show (bR fs ms k row (bv fs ms k vals n)).length=_
  rw[gz row,i9]
theorem gY:∀{row:List Bs} {vals:List Bs},vals.length=fs.length→(∀x∈row,x∈fs.map (·.name))→∀{y:Bs},y∈fs.map (·.name)→y ∉ row→cz fs (bR fs ms k row vals) y=cz fs vals y
 |[],_,_,_,_,_,_=>rfl
 |n::row,vals,hl,hr,y,hy,hne=>by
  show cz fs (bR fs ms k row (bv fs ms k vals n)) y=_
  rw[gY (by rw[i9];exact hl) (fun x hx=>hr x (List.mem_cons_of_mem _ hx)) hy (fun h=>hne (List.mem_cons_of_mem _ h))]
  unfold bv
  rw[nv hl (hr n List.mem_cons_self) hy,if_neg (fun e:y=n=>hne (e▸List.mem_cons_self))]
theorem tQ (a b:List Bs) (vals:List Bs):bR fs ms k (a++b) vals=bR fs ms k b (bR fs ms k a vals):=by
 unfold bR;exact List.foldl_append
theorem xE {row:List Bs} (g:sZ (U k ms) (fs.map (·.name)) row) {vals:List Bs} (hl:vals.length=fs.length) {n:Bs} (hn:n∈row):
 cz fs (bR fs ms k row vals) n=oa (cz fs (bR fs ms k row vals)) k n (cz fs vals n) ms:=by
 obtain ⟨pre,post,rfl⟩:=List.append_of_mem hn
 have hnd:=g.nd
 rw[List.nodup_append] at hnd
 obtain ⟨_,hpost,hdis⟩:=hnd
 rw[List.nodup_cons] at hpost
 have hpre:n ∉ pre:=fun h=>hdis n h n List.mem_cons_self rfl
 have hsub:∀x∈pre++n::post,x∈fs.map (·.name):=g.sub
 have hl1:(bR fs ms k pre vals).length=fs.length:=by rw[gz,hl]
 have hn':=hsub n (by simp)
 have e0:bR fs ms k (pre++n::post) vals=bR fs ms k post (bv fs ms k (bR fs ms k pre vals) n):=by rw[tQ];rfl
 have hl2:(bv fs ms k (bR fs ms k pre vals) n).length=fs.length:=by rw[i9,hl1]
 have hps:∀x∈post,x∈fs.map (·.name):=fun x hx=>hsub x (by simp[hx])
 have e1:cz fs (bR fs ms k (pre++n::post) vals) n=rR fs ms k (bR fs ms k pre vals) n:=by
  rw[e0,gY hl2 hps hn' hpost.1]
  unfold bv
  rw[nv hl1 hn' hn',if_pos rfl]
 rw[e1]
 unfold rR
 have e2:cz fs (bR fs ms k pre vals) n=cz fs vals n:=gY hl (fun x hx=>hsub x (by simp[hx])) hn' hpre
 rw[e2]
 refine lK fun y hy=>?_
 have hb:=g.beh n (by simp) y hy
 have hni:(pre++n::post).idxOf n=pre.length:=by rw[List.idxOf_append,if_neg hpre];simp
 have hyp:y∈pre:=by
  rw[hni] at hb
  rw[List.idxOf_append] at hb
  split at hb
  ·assumption
  ·omega
 have hy':=hsub y (by simp[hyp])
 rw[e0,gY hl2 hps hy' (fun h=>hdis y hyp y (List.mem_cons_of_mem _ h) rfl)]
 unfold bv
 rw[nv hl1 hn' hy',if_neg (fun e:y=n=>hpre (e▸hyp))]
theorem xD (hnd:(fs.map (·.name)).Nodup) {r1 r2:List Bs} (g1:sZ (U k ms) (fs.map (·.name)) r1) (g2:sZ (U k ms) (fs.map (·.name)) r2) (h1:∀n∈fs.map (·.name),n∈r1) (h2:∀n∈fs.map (·.name),n∈r2)
 {vals:List Bs} (hl:vals.length=fs.length):bR fs ms k r1 vals=bR fs ms k r2 vals:=by
 have key:∀(i:Nat) (n:Bs),n∈fs.map (·.name)→r1.idxOf n=i→cz fs (bR fs ms k r1 vals) n=cz fs (bR fs ms k r2 vals) n:=by
  intro i
  induction i using Nat.strongRecOn with
  |_ i ih=>
   intro n hn hi
   rw[xE g1 hl (h1 n hn),xE g2 hl (h2 n hn)]
   refine lK fun y hy=>?_
   have hb:=g1.beh n (h1 n hn) y hy
   have hyr:y∈r1:=List.idxOf_lt_length_iff.1 (by have:=List.idxOf_lt_length_of_mem (h1 n hn);omega)
   exact ih _ (hi▸hb) y (g1.sub y hyr) rfl
 have l1:(bR fs ms k r1 vals).length=fs.length:=by rw[gz,hl]
 have l2:(bR fs ms k r2 vals).length=fs.length:=by rw[gz,hl]
 apply List.ext_getElem (by rw[l1,l2])
 intro j hj1 hj2
 have hj:j<fs.length:=by omega
 have hm:fs[j].name∈fs.map (·.name):=List.mem_map.2 ⟨_,List.getElem_mem hj,rfl⟩
 obtain ⟨j',hj',e1,e2⟩:=fU hm
 have:=CT hnd hj' hj e2
 subst this
 have hk:=key _ _ hm rfl
 rw[fR e1 hj1,fR e1 hj2] at hk
 exact hk
end
theorem tG (s:GateShape) (ms:List GateMend):sZ (U s.kind ms) (bk s) (mw s ms):=fX _ _ _
theorem Dh:∀{ns row:List Bs},ns.Nodup→row.Nodup→(∀x∈row,x∈ns)→row.length=ns.length→∀n∈ns,n∈row:=by
 intro ns row hn hr hs hl n hm
 refine Classical.byContradiction fun h=>?_
 have:(n::row).length≤ns.length:=eG (List.nodup_cons.2 ⟨h,hr⟩) (fun x hx=>by
  rcases List.mem_cons.1 hx with e|e
  ·exact e▸hm
  ·exact hs x e)
 simp only[List.length_cons] at this
 omega
theorem tF {rd:Bs→List Bs} {ns:List Bs} (hin:∀n∈ns,∀y∈rd n,y∈ns) (h:(iu rd ns).2=true):sZ rd ns (iu rd ns).1∧∀n∈ns,n∈(iu rd ns).1:=by
 have g:=iL (rd:=rd) (ns:=ns) (w:=bX rd (ns.length+1)) (n:=ns.length) ns A1
  (fun y hy s hs hl=>gx hin _ y s hy hs (by omega)) (yx rd ns) (km _ _)
 rw[Al] at h
 obtain ⟨g1,g2,g3⟩:=g.1 h
 cases e:bJ (bX rd (ns.length+1)) ns A1 with
 |mk b u=>
  rw[e] at h g1 g2 g3
  simp only at h
  subst h
  rw[qF e]
  exact ⟨⟨g1.nd,g1.sub,g1.beh⟩,fun n hn=>(g1.two n).1 (g3 n hn)⟩
end Go.Vc
end
section
namespace Go.Vc
open Go.Proofs
set_option maxRecDepth 100000
theorem CI {fs:List GateField} {vals:List Bs} (hl:vals.length=fs.length) (h0:0<fs.length) (y:Bs) (c:Prop) (hc:c→y∈fs.map (·.name)):∃j,∃hj:j<vals.length,c→(dA (·.name==y) fs=(j:Int)∧cz fs vals y=vals[j]):=by
 by_cases h:c
 ·obtain ⟨j,hj,e,_⟩:=fU (hc h)
  exact ⟨j,by omega,fun _=>⟨e,fR e (by omega)⟩⟩
 ·exact ⟨0,by omega,fun g=>absurd g h⟩
def DM (fs:List GateField) (k:Bs) (m:GateMend):Prop:=(m.kind==k)=true→((m.when_==[])=false→m.when_∈fs.map (·.name))∧((m.from_==[])=false→m.from_∈fs.map (·.name))
theorem uk {e:Bs→Bs} {k n d:Bs} {ms:List GateMend} {i:Nat} (h:i<ms.length):oa e k n d (ms.drop i)=bif kf e k n ms[i] then kS e ms[i] else oa e k n d (ms.drop (i+1)):=by
 rw[List.drop_eq_getElem_cons h];rfl
theorem yn {e:Bs→Bs} {k n d:Bs} {ms:List GateMend} {i:Nat} (h:ms.length≤i):oa e k n d (ms.drop i)=d:=by
 rw[List.drop_of_length_le h];rfl
set_option maxHeartbeats 4000000 in
theorem wZ (fs:List GateField) (ms:List GateMend) (o:GateObject) (n:Bs) (hl:o.values.length=fs.length) (hn:n∈fs.map (·.name)) (hm:∀m∈ms,DM fs o.kind m):
 Spec P 224 [.d (ab fs),.d (af ms),st o.e,.d (.str n)] (.d (.str (rR fs ms o.kind o.values n))):=by
 refine Spec.of_vc aI aw [.tmp 8] Tryz.func224 rfl rfl rfl rfl (fun hok=>?_)
 have hs:ms.length≤big:=ax hok.2.1.1
 obtain ⟨jn,hjn,en,_⟩:=fU hn
 repeat refine ai ?_
 refine d8 (ms) (fun i=>rR fs ms o.kind o.values n=oa (cz fs o.values) o.kind n (cz fs o.values n) (ms.drop i)) (fun i=>[(0,.d (ab fs)),(1,.d (af ms)),(3,.d (.str n)),(6,.ptr 0 0),(9,.d (.int .i64 i))]) (fun i=>⟨[(0,.cells 103 (o.e.map .d))],1,0⟩) (rfl) ?_
 intro i hi hr
 repeat refine ai ?_
 refine aj ?_ ?_<;>intro h1
 ·have hlt:i<ms.length:=V h1
  rw[uk hlt] at hr
  have hmi:=hm ms[i] (List.getElem_mem hlt)
  obtain ⟨jw,hjw,ew⟩:=CI hl (by omega) ms[i].when_ ((ms[i].kind==o.kind)=true∧(ms[i].when_==[])=false) (fun h=>(hmi h.1).1 h.2)
  obtain ⟨jf,hjf,ef⟩:=CI hl (by omega) ms[i].from_ ((ms[i].kind==o.kind)=true∧(ms[i].from_==[])=false) (fun h=>(hmi h.1).2 h.2)
  generalize hd:oa (cz fs o.values) o.kind n (cz fs o.values n) (ms.drop (i+1))=rest at hr
  repeat refine ai ?_
  refine O (e:=GateMend.e) (xs:=ms) (hlt) rfl ?_
  repeat refine ai ?_
  refine ak ?_
  repeat refine ai ?_
  repeat' first
   |refine ai ?_
   |(refine aj ?_ ?_<;>intro h)
   |refine oc (ir _ _) ?_
   |refine ak ?_
   |refine aB (e:=eB) (xs:=o.values) hjw (ew (by simp_all)).1 rfl ?_
   |refine aB (e:=eB) (xs:=o.values) hjf (ef (by simp_all)).1 rfl ?_
  all_goals (simp only[cond_false,cond_true,Bool.not_eq_true',Bool.not_eq_false',reduceCtorEq] at*)
  all_goals (try have ew':=(ew ⟨by assumption,by assumption⟩).2)
  all_goals (try have ef':=(ef ⟨by assumption,by assumption⟩).2)
  all_goals first
   |(refine sd ?_;rw[hr];simp only[kf,kS, *,cond_true,cond_false,bl];done)
   |(have hq:rR fs ms o.kind o.values n=rest:=(by rw[hr];simp only[kf,kS, *,cond_true,cond_false,bl]);exact bQ hlt hs (hq.trans hd.symm))
 ·repeat refine ai ?_
  refine ak ?_
  repeat refine ai ?_
  refine oc (ir _ _) ?_
  repeat refine ai ?_
  refine aB (e:=eB) (xs:=o.values) ((show jn<o.values.length by omega)) (en) rfl ?_
  repeat refine ai ?_
  refine sd ?_
  rw[hr,yn (Z h1),fR en (by omega)]
theorem tR {xs:List GateShape} {ms:List GateMend} (h:aH xs=true) (hm:ms.all (bF xs)=true) {s:GateShape} (hs:s∈xs):∀m∈ms,DM s.fields s.kind m:=by
 intro m hmm hk
 have hf:=Az h hs (List.all_eq_true.1 hm m hmm) (beq_iff_eq.1 hk)
 unfold iB at hf
 simp only[Bool.and_eq_true,Bool.or_eq_true] at hf
 obtain ⟨⟨_,h2,h3⟩,_⟩:=hf
 refine ⟨fun g=>?_,fun g=>?_⟩
 ·rcases h2 with h2|h2
  ·rw[g] at h2;cases h2
  ·exact mF h2
 ·rcases h3 with h3|h3
  ·rw[g] at h3;cases h3
  ·exact mF h3
def dW (xs:List GateShape) (ms:List GateMend) (o:GateObject):GateObject:=match xs[(dA (·.kind==o.kind) xs).toNat]? with
 |some s=>bif (ah xs o.kind o.values.length).2 then {o with values:=bR s.fields ms o.kind (mw s ms) o.values} else o
 |none=>o
theorem qY {xs:List GateShape} {ms:List GateMend} {o:GateObject} (h:(ah xs o.kind o.values.length).2=false):dW xs ms o=o:=by
 unfold dW
 split
 ·rw[h];rfl
 ·rfl
theorem qZ {xs:List GateShape} {ms:List GateMend} {o:GateObject} {j:Nat} (hj:j<xs.length) (e:dA (·.kind==o.kind) xs=(j:Int)) (h:(ah xs o.kind o.values.length).2=true):dW xs ms o={o with values:=bR xs[j].fields ms o.kind (mw xs[j] ms) o.values}:=by
 unfold dW
 rw[e,Int.toNat_natCast,List.getElem?_eq_getElem hj,h]
 rfl
theorem q9 {fs:List GateField} {ms:List GateMend} {k:Bs} {row:List Bs} {vals:List Bs} {i:Nat} (h:i<row.length):bR fs ms k (row.take (i+1)) vals=bv fs ms k (bR fs ms k (row.take i) vals) row[i]:=by
 rw[List.take_succ_eq_append_getElem h,tQ];rfl
set_option maxHeartbeats 1000000 in
theorem yS (xs:List GateShape) (ms:List GateMend) (o:GateObject) (hx:aH xs=true) (hm:ms.all (bF xs)=true):
 Spec P 206 [.d (aa xs),.d (af ms),st o.e] (st (dW xs ms o).e):=by
 refine Spec.of_vc aI aw [.cell 6 103] Tryz.func206 rfl rfl rfl rfl (fun hok=>?_)
 have hb:=i0 (o:=o) ⟨hok.2.2.1,trivial⟩
 repeat refine ai ?_
 refine ow (tC o hb.1 hb.2) ?_
 repeat refine ai ?_
 refine oc (eD _ _) ?_
 repeat refine ai ?_
 refine aj ?_ ?_<;>intro h0
 ·simp only[Bool.not_eq_true'] at h0
  rw[qY h0]
  repeat refine ai ?_
  exact rfl
 ·simp only[Bool.not_eq_false'] at h0
  rcases dl (xs:=xs) (k:=o.kind) (n:=o.values.length) with ⟨h1,_⟩|⟨j,hj,ej,ef,hl,hk⟩
  ·rw[h1] at h0;cases h0
  rw[qZ hj ej h0]
  repeat refine ai ?_
  refine oc (it _ _) ?_
  repeat refine ai ?_
  refine aB (e:=GateShape.e) (xs:=xs) (hj) (ej) rfl ?_
  repeat refine ai ?_
  refine oc (Ag xs[j] ms) ?_
  have g:=tG xs[j] ms
  have hmi:=tR hx hm (List.getElem_mem hj)
  rw[hk] at hmi
  have hfs:(ah xs o.kind o.values.length).1=xs[j].fields:=by rw[ef]
  rw[hfs]
  have hrl:(mw xs[j] ms).length≤xs[j].fields.length:=Fb _ _ _
  have hsub:∀x∈mw xs[j] ms,x∈xs[j].fields.map (·.name):=g.sub
  generalize hfe:xs[j].fields=fs at*
  generalize mw xs[j] ms=row at*
  repeat refine ai ?_
  refine mX (row) (fun i (W:List Bs)=>W=bR fs ms o.kind (row.take i) o.values) (fun i (W:List Bs)=>[(1,.d (af ms)),(6,.ptr 1 0),(7,.ptr 6 0),(8,.d (ab fs)),(10,.d (lS row)),(11,.d (.int .i64 i))]) (fun i (W:List Bs)=>⟨[(6,.cells 103 [.d (.str o.kind),.d (.str o.name),.d (.str o.team),.own 4,.d (.bool o.ending),.own 5,.d (.int .i64 o.version)]),(4,.row 9 1 (W.map eB)),(5,.row 9 1 (o.holds.map eB)),(1,.cells 103 [.d (.str []),.d (.str []),.d (.str []),.nils,.d (.bool false),.nils,.d (.int .i64 0)])],7,0⟩) (rfl) ?_
  intro i W hi hr
  have hs:row.length≤big:=by omega
  have hW:W.length=fs.length:=by rw[hr,gz,hl]
  repeat refine ai ?_
  refine aj ?_ ?_<;>intro h1
  ·have hlt:i<row.length:=V h1
   have hin:=hsub _ (List.getElem_mem hlt)
   obtain ⟨p,hp,ep,_⟩:=fU hin
   have hst:bR fs ms o.kind (row.take (i+1)) o.values=bv fs ms o.kind W row[i]:=by rw[q9 hlt,←hr]
   repeat refine ai ?_
   refine GA ?_
   repeat refine ai ?_
   refine O (e:=eB) (xs:=row) (hlt) rfl ?_
   repeat refine ai ?_
   refine oc (ir _ _) ?_
   repeat refine ai ?_
   refine O (e:=eB) (xs:=row) (hlt) rfl ?_
   repeat refine ai ?_
   refine oc (wZ fs ms {o with values:=W} row[i] hW hin hmi) ?_
   repeat refine ai ?_
   refine aj (by rw[ep];exact Int.natCast_nonneg _) (aj (by rw[ep,List.length_map];omega) ?_)
   repeat refine ai ?_
   have hpt:(dA (·.name==row[i]) fs).toNat<W.length:=by rw[ep];omega
   refine ⟨eB W[(dA (·.name==row[i]) fs).toNat],by rw[List.getElem?_map,List.getElem?_eq_getElem hpt];rfl,Nat.le_refl _,?_⟩
   repeat refine ai ?_
   exact c6 (bv fs ms o.kind W row[i]) hlt hs (by rw[hst]) fun hw=>by repeat' first|exact rfl|exact trivial|exact nd hw|exact qE hpt|refine aj ?_ ?_
  ·rw[List.take_of_length_le (Z h1)] at hr
   rw[←hr]
   repeat refine ai ?_
   exact rfl
end Go.Vc
end
section
namespace Go.Vc
open Go.Proofs
set_option maxRecDepth 100000
theorem qy (xs:List GateShape) (ms:List GateMend) (o:GateObject) (hx:aH xs=true) (hm:ms.all (bF xs)=true):
 Spec P 174 [.d (aa xs),.d (af ms),st o.e] (st (dW xs ms (fG xs o)).e):=by
 refine Spec.of_vc aI aw [.cell 6 103] Tryz.func174 rfl rfl rfl rfl (fun hok=>?_)
 repeat refine ai ?_
 refine oc (Cu _ _) ?_
 repeat refine ai ?_
 refine oc (yS xs ms (fG xs o) hx hm) ?_
 repeat refine ai ?_
 exact rfl
theorem ug (fs:List GateField) (o:GateObject) (n:Bs) (hl:o.values.length=fs.length) (hn:n∈fs.map (·.name)):Spec P 233 [.d (.str n),.at_ o.e,.at_ [ab fs]] (.d (.str (cz fs o.values n))):=by
 refine Spec.of_vc aI aw [.tmp 4] Tryz.func233 rfl rfl rfl rfl (fun hok=>?_)
 obtain ⟨j,hj,e,_⟩:=fU hn
 repeat refine ai ?_
 refine ak ?_
 repeat refine ai ?_
 refine oc (kz _ _) ?_
 repeat refine ai ?_
 refine aB (e:=eB) (xs:=o.values) ((show j<o.values.length by omega)) (e) rfl ?_
 repeat refine ai ?_
 refine sd ?_
 rw[fR e (by omega)]
theorem nr {b:Bool} (h:(!b)=false):b=true:=by simpa using h
theorem qT {b:Bool} (h:(!b)=true):b=false:=by simpa using h
theorem eU {xs:List GateShape} {ms:List GateMend} (h:bw xs ms=true):aH xs=true∧ms.all (bF xs)=true∧ms.length≤12∧∀s∈xs,qG s ms=true:=by
 unfold bw at h
 simp only[Bool.and_eq_true,Bool.not_eq_true',decide_eq_false_iff_not] at h
 obtain ⟨h1,h2,h3,h4⟩:=h
 exact ⟨h1,h3,by omega,fun s hs=>List.all_eq_true.1 h4 s hs⟩
theorem Cy {xs:List GateShape} {ms:List GateMend} (h:bw xs ms=true) {s:GateShape} (hs:s∈xs) {vals:List Bs} (hl:vals.length=s.fields.length):
 bR s.fields ms s.kind (iu (U s.kind ms) (bk s)).1 vals=bR s.fields ms s.kind (mw s ms) vals:=by
 obtain ⟨h1,h2,h3,h4⟩:=eU h
 have hr:=h4 s hs
 have hnd:=mj h1 hs
 have hin:∀n∈bk s,∀y∈U s.kind ms n,y∈bk s:=fun n _=>jR h1 h2 hs n
 obtain ⟨g1,g2⟩:=tF hin (by rw[lx h1 h2 hs];exact hr)
 have g:=tG s ms
 refine xD hnd g1 g g2 (Dh hnd g.nd g.sub ?_) hl
 unfold qG at hr
 have:=beq_iff_eq.1 hr
 show _=(s.fields.map (·.name)).length
 rw[List.length_map]
 omega
theorem tP (fs:List GateField) (ms:List GateMend) (k:Bs):∀row:List Bs,bR fs ms k row []=[]
 |[]=>rfl
 |n::row=>by
  show bR fs ms k row (bv fs ms k [] n)=[]
  have:bv fs ms k [] n=[]:=by unfold bv;rfl
  rw[this];exact tP fs ms k row
theorem xC {xs:List GateShape} {ms:List GateMend} {o:GateObject} (h:o.values=[]):dW xs ms o=o:=by
 unfold dW
 split
 ·cases (ah xs o.kind o.values.length).2
  ·rfl
  ·rw[cond_true]
   cases o
   simp only at h
   subst h
   simp only[tP]
 ·rfl
set_option maxHeartbeats 1000000 in
theorem sS (xs:List GateShape) (ms:List GateMend) (o:GateObject) (hv:o.values=[]):Spec P 216 [.d (aa xs),.d (af ms),st o.e] (st o.e):=by
 refine Spec.of_vc aI aw [.cell 6 103] Tryz.func216 rfl rfl rfl rfl (fun hok=>?_)
 have hsm:ms.length≤big:=ax hok.2.1.1
 repeat refine ai ?_
 refine oc (zt _) ?_
 repeat refine ai ?_
 refine oc (fB _ _) ?_
 repeat refine ai ?_
 refine aj ?_ ?_<;>intro h0
 ·repeat refine ai ?_
  refine oc (fO _ _) ?_
  repeat refine ai ?_
  refine aj ?_ ?_<;>intro h1
  ·repeat refine ai ?_
   exact rfl
  ·simp only[Bool.not_eq_false'] at h0 h1
   obtain ⟨hx,hm,hm12,hro⟩:=eU h1
   rcases dl (xs:=xs) (k:=o.kind) (n:=o.values.length) with ⟨h2,_⟩|⟨j,hj,ej,ef,hl,hk⟩
   ·rw[h2] at h0;cases h0
   have hjm:=List.getElem_mem hj
   have hin:∀n∈bk xs[j],∀y∈U xs[j].kind ms n,y∈bk xs[j]:=fun n _=>jR hx hm hjm n
   have hn0:bk xs[j]=[]:=by
    have:(bk xs[j]).length=xs[j].fields.length:=List.length_map ..
    rw[hl,hv] at this
    exact List.eq_nil_of_length_eq_zero this
   repeat refine ai ?_
   refine oc (iE _ _) ?_
   repeat refine ai ?_
   refine aB (e:=GateShape.e) (xs:=xs) (hj) (ej) rfl ?_
   repeat refine ai ?_
   refine oc (v3 xs[j] ms hm12 hin) ?_
   rw[hn0]
   generalize ah xs o.kind o.values.length=ff at*
   repeat refine ai ?_
   refine d8 (([]:List Bs)) (fun i=>True) (fun i=>[(5,.ptr 0 0),(6,.ptr 1 0),(47,.d (lS [])),(48,.d (.int .i64 0)),(49,.d (.int .i64 i))]) (fun i=>⟨[(0,.cells 103 [.d (.str o.kind),.d (.str o.name),.d (.str o.team),.d (lS o.values),.d (.bool o.ending),.d (lS o.holds),.d (.int .i64 o.version)]),(1,.cells 103 [.d (.str []),.d (.str []),.d (.str []),.nils,.d (.bool false),.nils,.d (.int .i64 0)])],2,0⟩) (trivial) ?_
   intro i hi hr
   repeat refine ai ?_
   refine aj ?_ ?_<;>intro g1
   ·exact absurd (of_decide_eq_true g1) (by omega)
   ·repeat refine ai ?_
    exact rfl
 ·repeat refine ai ?_
  exact rfl
set_option maxHeartbeats 4000000 in
theorem sR (xs:List GateShape) (ms:List GateMend) (o:GateObject) (hpos:0<o.values.length):Spec P 216 [.d (aa xs),.d (af ms),st o.e] (st (bif bw xs ms then dW xs ms o else o).e):=by
 refine Spec.of_vc aI aw [.cell 6 103] Tryz.func216 rfl rfl rfl rfl (fun hok=>?_)
 have hb:=i0 (o:=o) ⟨hok.2.2.1,trivial⟩
 have hsm:ms.length≤big:=ax hok.2.1.1
 repeat refine ai ?_
 refine ow (AI o hpos) ?_
 repeat refine ai ?_
 refine oe (fun g=>oO xs o g 4) ?_
 repeat refine ai ?_
 refine aj ?_ ?_<;>intro h0
 ·repeat refine ai ?_
  refine oc (fO _ _) ?_
  repeat refine ai ?_
  refine aj ?_ ?_<;>intro h1
  ·simp only[Bool.not_eq_true',Bool.not_eq_false'] at h0 h1
   rw[h1]
   repeat refine ai ?_
   exact rfl
  ·simp only[Bool.not_eq_false'] at h0 h1
   obtain ⟨hx,hm,hm12,hro⟩:=eU h1
   rcases dl (xs:=xs) (k:=o.kind) (n:=o.values.length) with ⟨h2,_⟩|⟨j,hj,ej,ef,hl,hk⟩
   ·rw[h2] at h0;cases h0
   have hjm:=List.getElem_mem hj
   have hres:(bif bw xs ms then dW xs ms o else o)={o with values:=bR xs[j].fields ms o.kind (iu (U o.kind ms) (bk xs[j])).1 o.values}:=by
    have:=Cy h1 hjm (vals:=o.values) hl.symm
    rw[hk] at this
    rw[h1,cond_true,qZ hj ej h0,this]
   rw[hres]
   have hin:∀n∈bk xs[j],∀y∈U xs[j].kind ms n,y∈bk xs[j]:=fun n _=>jR hx hm hjm n
   obtain ⟨g,_⟩:=tF hin (by rw[lx hx hm hjm];exact hro _ hjm)
   have hmi:=tR hx hm hjm
   rw[hk] at hmi
   have hfs:(ah xs o.kind o.values.length).1=xs[j].fields:=by rw[ef]
   rw[hfs]
   repeat refine ai ?_
   refine oc (iE _ _) ?_
   repeat refine ai ?_
   refine aB (e:=GateShape.e) (xs:=xs) (hj) (ej) rfl ?_
   repeat refine ai ?_
   refine oc (v3 xs[j] ms hm12 hin) ?_
   rw[hk]
   rw[hk] at g
   have hsub:∀x∈(iu (U o.kind ms) (bk xs[j])).1,x∈xs[j].fields.map (·.name):=g.sub
   have hrl:(iu (U o.kind ms) (bk xs[j])).1.length≤xs[j].fields.length:=by
    have:=eG g.nd g.sub
    have e:(bk xs[j]).length=xs[j].fields.length:=List.length_map ..
    rw[e] at this
    exact this
   generalize (iu (U o.kind ms) (bk xs[j])).2=rb at*
   generalize (iu (U o.kind ms) (bk xs[j])).1=row at*
   generalize xs[j].fields=fs at*
   repeat refine ai ?_
   refine mX (row) (fun i (W:List Bs)=>W=bR fs ms o.kind (row.take i) o.values) (fun i (W:List Bs)=>[(1,.d (af ms)),(5,.ptr 0 0),(6,.ptr 1 0),(7,.ptr 5 0),(11,.fn 233 [.ptr 0 0,.ptr 5 0]),(47,.d (lS row)),(48,.d (.int .i64 (row.map eB).length)),(49,.d (.int .i64 i))]) (fun i (W:List Bs)=>⟨[(5,.cells 162 [.d (ab fs)]),(4,.row 9 1 (W.map eB)),(1,.cells 103 [.d (.str []),.d (.str []),.d (.str []),.nils,.d (.bool false),.nils,.d (.int .i64 0)]),(0,.cells 103 [.d (.str o.kind),.d (.str o.name),.d (.str o.team),.own 4,.d (.bool o.ending),.d (lS o.holds),.d (.int .i64 o.version)])],6,0⟩) (rfl) ?_
   intro i W hi hr
   have hs:row.length≤big:=by omega
   have hW:W.length=fs.length:=by rw[hr,gz,hl]
   repeat refine ai ?_
   refine aj ?_ ?_<;>intro g1
   ·have hlt:i<row.length:=V g1
    have hnin:=hsub _ (List.getElem_mem hlt)
    obtain ⟨p,hp,ep,_⟩:=fU hnin
    have hst:bR fs ms o.kind (row.take (i+1)) o.values=bv fs ms o.kind W row[i]:=by rw[q9 hlt,←hr]
    have hpt:(dA (·.name==row[i]) fs).toNat<W.length:=by rw[ep];omega
    repeat refine ai ?_
    refine O (e:=eB) (xs:=row) (hlt) rfl ?_
    repeat refine ai ?_
    generalize row[i]=nm at*
    have hrW:=hr
    clear hr
    repeat refine ai ?_
    refine d8 (ms) (fun q=>rR fs ms o.kind W nm=oa (cz fs W) o.kind nm (cz fs W nm) (ms.drop q)) (fun q=>[(1,.d (af ms)),(5,.ptr 0 0),(6,.ptr 1 0),(7,.ptr 5 0),(11,.fn 233 [.ptr 0 0,.ptr 5 0]),(13,.d (.str nm)),(47,.d (lS row)),(48,.d (.int .i64 (row.map eB).length)),(49,.d (.int .i64 i)),(53,.d (af ms)),(54,.d (.int .i64 (ms.map GateMend.e).length)),(55,.d (.int .i64 q))]) (fun q=>⟨[(5,.cells 162 [.d (ab fs)]),(4,.row 9 1 (W.map eB)),(1,.cells 103 [.d (.str []),.d (.str []),.d (.str []),.nils,.d (.bool false),.nils,.d (.int .i64 0)]),(0,.cells 103 [.d (.str o.kind),.d (.str o.name),.d (.str o.team),.own 4,.d (.bool o.ending),.d (lS o.holds),.d (.int .i64 o.version)])],6,0⟩) (rfl) ?_
    intro q hq hr
    have hsq:ms.length≤big:=hsm
    repeat refine ai ?_
    refine aj ?_ ?_<;>intro g2
    ·have hlq:q<ms.length:=V g2
     rw[uk hlq] at hr
     have hmq:=hmi ms[q] (List.getElem_mem hlq)
     generalize hd:oa (cz fs W) o.kind nm (cz fs W nm) (ms.drop (q+1))=rest at hr
     repeat refine ai ?_
     refine O (e:=GateMend.e) (xs:=ms) (hlq) rfl ?_
     repeat refine ai ?_
     have hpi:(0:Int)≤dA (·.name==nm) fs:=by rw[ep];exact Int.natCast_nonneg _
     have hpl:dA (·.name==nm) fs<((W.map eB).length:Int):=by rw[ep,List.length_map];omega
     have hget:(W.map eB)[(dA (·.name==nm) fs).toNat]? =some (eB W[(dA (·.name==nm) fs).toNat]):=by rw[List.getElem?_map,List.getElem?_eq_getElem hpt];rfl
     repeat' first
      |refine ai ?_
      |(refine aj ?_ ?_<;>intro h)
      |refine Or.inr (Or.inr (Or.inr (Or.inl (Exists.intro _ (aj rfl (aj (ug fs {o with values:=W} ms[q].when_ hW ((hmq (nr (by assumption))).1 (qT (by assumption)))) ?_))))))
      |refine Or.inr (Or.inr (Or.inr (Or.inl (Exists.intro _ (aj rfl (aj (ug fs {o with values:=W} ms[q].from_ hW ((hmq (nr (by assumption))).2 (qT (by assumption)))) ?_))))))
      |refine oc (kz _ _) ?_
      |refine aj (by kernel_rfl) (aj (by kernel_rfl) ?_)
      |refine ak ?_
      |refine aj hpi (aj hpl ?_)
      |refine ⟨_,hget,Nat.le_refl _,?_⟩
     all_goals clear hok hmi hin hres g hro hpl hpi hget hsub
     all_goals first
      |(exfalso;clear hrW hr hst hd hmq hpt ep hnin g1 g2 hW hrl hfs hl ef hk hjm ej hm hx h1 h0 hsm hb;simp only[cond_false,cond_true,Bool.not_eq_true',Bool.not_eq_false',reduceCtorEq,Bool.true_eq_false,Bool.false_eq_true] at*;done)
      |(exfalso;clear hrW hr hst hd hmq hpt ep hnin g1 g2 hW hrl hfs hl ef hk hjm ej hm hx h1 h0 hsm hb;simp only[cond_false,cond_true,Bool.not_eq_true',Bool.not_eq_false',reduceCtorEq] at*;simp only[*,reduceCtorEq,Bool.true_eq_false,Bool.false_eq_true] at*;done)
      |(refine (fun hq:rR fs ms o.kind W nm=rest=>?_) ?_
        rotate_left
        ·(rw[hr];clear hrW hr hst hd hmq hpt ep hnin g1 g2 hW hrl hfs hl ef hk hjm ej hm hx h1 h0 hsm hb;simp only[cond_false,cond_true,Bool.not_eq_true',Bool.not_eq_false',reduceCtorEq] at*;simp only[kf,kS, *,cond_true,cond_false,bl];done)
        repeat refine ai ?_
        exact bQ hlq hsq (hq.trans hd.symm))
      |(refine (fun hq:rR fs ms o.kind W nm=ms[q].put=>?_) ?_
        rotate_left
        ·(rw[hr];clear hrW hr hst hd hmq hpt ep hnin g1 g2 hW hrl hfs hl ef hk hjm ej hm hx h1 h0 hsm hb;simp only[cond_false,cond_true,Bool.not_eq_true',Bool.not_eq_false',reduceCtorEq] at*;simp only[kf,kS, *,cond_true,cond_false,bl];done)
        repeat refine ai ?_
        exact c6 (W.set (dA (·.name==nm) fs).toNat ms[q].put) hlt hs (by rw[hst];unfold bv;rw[hq]) fun hw=>by repeat' first|exact rfl|exact trivial|exact nd hw|exact qE hpt|refine aj ?_ ?_)
      |(refine (fun hq:rR fs ms o.kind W nm=cz fs W ms[q].from_=>?_) ?_
        rotate_left
        ·(rw[hr];clear hrW hr hst hd hmq hpt ep hnin g1 g2 hW hrl hfs hl ef hk hjm ej hm hx h1 h0 hsm hb;simp only[cond_false,cond_true,Bool.not_eq_true',Bool.not_eq_false',reduceCtorEq] at*;simp only[kf,kS, *,cond_true,cond_false,bl];done)
        repeat refine ai ?_
        exact c6 (W.set (dA (·.name==nm) fs).toNat (cz fs W ms[q].from_)) hlt hs (by rw[hst];unfold bv;rw[hq]) fun hw=>by repeat' first|exact rfl|exact trivial|exact nd hw|exact qE hpt|refine aj ?_ ?_)
    ·have hq:rR fs ms o.kind W nm=cz fs W nm:=by rw[hr,yn (Z g2)]
     have hW2:bv fs ms o.kind W nm=W:=by
      unfold bv
      refine qv hpt ?_
      rw[hq,fR ep (by omega)]
      congr 1
      rw[ep];rfl
     repeat refine ai ?_
     exact c6 W hlt hs (by rw[hst,hW2])
   ·rw[List.take_of_length_le (Z g1)] at hr
    rw[←hr]
    repeat refine ai ?_
    exact rfl
 ·simp only[Bool.not_eq_true'] at h0
  rw[qY h0]
  repeat refine ai ?_
  cases bw xs ms<;>exact rfl
theorem v6 (xs:List GateShape) (ms:List GateMend) (o:GateObject):Spec P 216 [.d (aa xs),.d (af ms),st o.e] (st (bif bw xs ms then dW xs ms o else o).e):=by
 by_cases h:0<o.values.length
 ·exact sR xs ms o h
 ·have hv:o.values=[]:=List.eq_nil_of_length_eq_zero (by omega)
  have:(bif bw xs ms then dW xs ms o else o)=o:=by
   rw[xC hv];cases bw xs ms<;>rfl
  rw[this]
  exact sS xs ms o hv
def ez (xs:List GateShape) (ms:List GateMend) (o:GateObject):GateObject:=dW xs ms (fG xs o)
theorem jd (xs:List GateShape) (ms:List GateMend) (o:GateObject):Spec P 185 [.d (aa xs),.d (af ms),st o.e] (st (bif bw xs ms then ez xs ms o else o).e):=by
 refine Spec.of_vc aI aw [.cell 6 103] Tryz.func185 rfl rfl rfl rfl (fun hok=>?_)
 repeat refine ai ?_
 refine oc (fO _ _) ?_
 repeat refine ai ?_
 refine aj ?_ ?_<;>intro h
 ·simp only[Bool.not_eq_true'] at h
  rw[h,cond_false]
  repeat refine ai ?_
  refine oc (zt _) ?_
  repeat refine ai ?_
  exact rfl
 ·simp only[Bool.not_eq_false'] at h
  obtain ⟨hx,_⟩:=eU h
  repeat refine ai ?_
  refine oc (zz _ _) ?_
  repeat refine ai ?_
  refine oc (v6 _ _ _) ?_
  rw[h,hx]
  repeat refine ai ?_
  exact rfl
end Go.Vc
end
section
namespace Go.Vc
open Go.Proofs
set_option maxRecDepth 100000
def ca:List GateField→List Bs→Nat→List (Nat×GateField)
 |f::fs,v::vs,i=>bif f.kind==4&& !(v==[]) then (i,f)::ca fs vs (i+1) else ca fs vs (i+1)
 |_,_,_=>[]
def fN (p:Nat×GateField):List AV→Prop:=thinL [.d (.int .i64 p.1),st p.2.e]
def cj (xs:List GateShape) (o:GateObject):List (Nat×GateField):=ca (ah xs o.kind o.values.length).1 o.values 0
theorem lD {fs:List GateField} {vs:List Bs} {i:Nat} (h:fs=[]):ca fs vs i=[]:=by subst h;rfl
theorem g9 {fs:List GateField} {vs:List Bs} {i:Nat} (h:i<fs.length) (h2:i<vs.length):ca (fs.drop i) (vs.drop i) i=bif fs[i].kind==4&& !(vs[i]==[]) then (i,fs[i])::ca (fs.drop (i+1)) (vs.drop (i+1)) (i+1) else ca (fs.drop (i+1)) (vs.drop (i+1)) (i+1):=by
 rw[List.drop_eq_getElem_cons h,List.drop_eq_getElem_cons h2];rfl
theorem xo {o:GateObject} (h:AV.ok (.at_ o.e)):o.values.length≤big∧o.holds.length≤big:=by
 simp only[AV.ok,GateObject.e,bA,D.ok] at h
 exact ⟨ax h.2.2.2.1.1,ax h.2.2.2.2.2.1.1⟩
theorem pG (l:GateLaw) (o:GateObject):Spec P 106 [st l.e,st o.e] (.fn 165 [.at_ l.e,.at_ o.e]):=by
 refine Spec.of_vc aI aw [.tmp 4] Tryz.func106 rfl rfl rfl rfl (fun hok=>?_)
 repeat refine ai ?_
 exact rfl
set_option maxHeartbeats 1000000 in
theorem m8 (l:GateLaw) (o:GateObject) (hc:Heap):(dB P).iter 165 [.at_ l.e,.at_ o.e] hc ((cj l.shapes o).map fN):=by
 refine zo aI aw Tryz.func165 rfl rfl rfl rfl rfl (fun y hok=>?_)
 have hfs:(ah l.shapes o.kind o.values.length).2=false→(ah l.shapes o.kind o.values.length).1=[]:=by
  rcases dl (xs:=l.shapes) (k:=o.kind) (n:=o.values.length) with ⟨h1,h2⟩|⟨j,hj,_,h,_⟩
  ·exact fun _=>h2
  ·rw[h];exact fun h=>by cases h
 obtain ⟨hl,hl2⟩:=cr (xs:=l.shapes) (k:=o.kind) (n:=o.values.length)
 repeat refine ai ?_
 refine oc (fB _ _) ?_
 unfold cj
 repeat refine ai ?_
 refine aj ?_ ?_<;>intro h0
 ·simp only[Bool.not_eq_true'] at h0
  rw[hfs h0]
  repeat refine ai ?_
  exact .inr rfl
 ·simp only[Bool.not_eq_false'] at h0
  have hl:=hl2 h0
  generalize (ah l.shapes o.kind o.values.length).1=fs at*
  repeat refine ai ?_
  refine ⟨fun m j l' h=>∃(i:Nat) (pre:List (Nat×GateField)),m=fs.length - i∧i≤fs.length∧ca fs o.values 0=pre++ca (fs.drop i) (o.values.drop i) i∧j=pre.length∧l'=[(0,.val (.func (.yield y) #[] #[])),(1,.at_ l.e),(2,.at_ o.e),(17,.d (ab fs)),(18,.d (.int .i64 (fs.map GateField.e).length)),(19,.d (.int .i64 i))]∧h=hp0,
   ⟨0,_,_,_,rfl,⟨0,[],rfl,Nat.zero_le _,rfl,rfl,rfl,rfl⟩,rfl,rfl,⟨rfl,rfl,rfl,rfl,rfl,rfl,trivial⟩,trivial,trivial⟩,?_⟩
  rintro m j l' hh ⟨i,pre,rfl,hi,hr,rfl,rfl,rfl⟩
  have hb:=xo hok.2.1
  have hs:fs.length≤big:=by omega
  repeat refine ai ?_
  refine aj ?_ ?_<;>intro g1
  ·have hlt:i<fs.length:=V g1
   have hlt2:i<o.values.length:=by omega
   rw[g9 hlt hlt2] at hr
   repeat refine ai ?_
   refine O (e:=GateField.e) (xs:=fs) (hlt) rfl ?_
   repeat refine ai ?_
   refine aj ?_ ?_<;>intro h1
   ·repeat refine ai ?_
    refine O (e:=eB) (xs:=o.values) (hlt2) rfl ?_
    repeat refine ai ?_
    refine aj ?_ ?_<;>intro h2
    ·have hc:(fs[i].kind==4&& !(o.values[i]==[]))=true:=by rw[h1,h2];rfl
     rw[hc,cond_true] at hr
     repeat refine ai ?_
     refine ⟨⟨fN (i,fs[i]),?_,fun x h=>h⟩,?_,?_⟩
     ·rw[hr,List.getElem?_map,List.getElem?_append_right (Nat.le_refl _),Nat.sub_self];rfl
     ·repeat refine ai ?_
      refine ⟨_,_,_,_,rfl,⟨i+1,pre++[(i,fs[i])],rfl,hlt,(by rw[hr,List.append_assoc];rfl),(by simp),rfl,rfl⟩,by omega,rfl,rfl,⟨rfl,rfl,rfl,rfl,rfl,nd (Y hlt hs),trivial⟩,trivial,trivial⟩
     ·repeat refine ai ?_
      exact .inl rfl
    ·have hc:(fs[i].kind==4&& !(o.values[i]==[]))=false:=by rw[h1,h2];rfl
     rw[hc,cond_false] at hr
     repeat refine ai ?_
     refine ⟨_,_,_,_,rfl,⟨i+1,pre,rfl,hlt,hr,rfl,rfl,rfl⟩,by omega,rfl,rfl,⟨rfl,rfl,rfl,rfl,rfl,nd (Y hlt hs),trivial⟩,trivial,trivial⟩
   ·have hc:(fs[i].kind==4&& !(o.values[i]==[]))=false:=by rw[h1];rfl
    rw[hc,cond_false] at hr
    repeat refine ai ?_
    refine ⟨_,_,_,_,rfl,⟨i+1,pre,rfl,hlt,hr,rfl,rfl,rfl⟩,by omega,rfl,rfl,⟨rfl,rfl,rfl,rfl,rfl,nd (Y hlt hs),trivial⟩,trivial,trivial⟩
  ·have hi':=Z g1
   rw[List.drop_of_length_le hi',lD rfl,List.append_nil] at hr
   repeat refine ai ?_
   refine .inr ?_
   rw[List.length_map,hr]
end Go.Vc
end
section
namespace Go.Vc
open Go.Proofs
set_option maxRecDepth 100000
def aq {α:Type} (r:Option α→α→Bool):Option α→List α→Bool
 |_,[]=>true
 |p,x::xs=>r p x&&aq r (some x) xs
def cA {α:Type} (xs:List α):Nat→Option α
 |0=>none
 |j+1=>xs[j]?
section
variable {α:Type} {r:Option α→α→Bool} {xs:List α} {i:Nat}
theorem dR (h:i<xs.length):aq r (cA xs i) (xs.drop i)=(r (cA xs i) xs[i]&&aq r (cA xs (i+1)) (xs.drop (i+1))):=by
 rw[List.drop_eq_getElem_cons h]
 simp only[aq,cA,List.getElem?_eq_getElem h]
theorem eV {p:Option α} (h:xs.length≤i):aq r p (xs.drop i)=true:=by
 rw[List.drop_of_length_le h];rfl
theorem cf (h0:0<i) (h:i<xs.length):cA xs i=some (xs[i - 1]'(by omega)):=by
 obtain ⟨j,rfl⟩:∃j,i=j+1:=⟨i - 1,by omega⟩
 simp only[cA,Nat.add_sub_cancel]
 exact List.getElem?_eq_getElem _
theorem cg (h:i=0):cA xs i=none:=by
 subst h
 rfl
end
theorem tU (a b c d:Bs):(!(Op.bytesLess a c||a==c)||(a==c&& !Op.bytesLess b d))= !gg a b c d:=by
 unfold gg
 cases e:(a==c) with
 |true=>rw[beq_iff_eq.1 e,jm];simp
 |false=>simp
theorem nS {n a b:Int} (h:decide (n<a)=true):fi n a b=false:=by
 have:=of_decide_eq_true h
 unfold fi;rw[decide_eq_false (by omega)];rfl
theorem nT {n a b:Int} (h:decide (n>b)=true):fi n a b=false:=by
 have:=of_decide_eq_true h
 unfold fi;rw[decide_eq_false (p:=n≤b) (by omega),Bool.and_false]
theorem lE {n a b:Int} (h:decide (n<a)=false) (h2:decide (n>b)=false):fi n a b=true:=by
 have:=of_decide_eq_false h
 have:=of_decide_eq_false h2
 unfold fi;rw[decide_eq_true (by omega),decide_eq_true (by omega)];rfl
def uN (vs:List Bs) (i:Nat):Bs:=match vs[i]? with|some v=>v|none=>[]
theorem f9 {vs:List Bs} {i:Nat} (h:i<vs.length):uN vs i=vs[i]:=by unfold uN;rw[List.getElem?_eq_getElem h]
theorem rq:∀{fs:List GateField} {vs:List Bs} {i:Nat} {p:Nat×GateField},p∈ca fs vs i→i≤p.1∧p.1<i+vs.length∧p.2∈fs∧(p.2.kind==4)=true
 |[],vs,i,p,h=>by simp[ca] at h
 |f::fs,[],i,p,h=>by simp[ca] at h
 |f::fs,v::vs,i,p,h=>by
  have tail:p∈ca fs vs (i+1)→i≤p.1∧p.1<i+(v::vs).length∧p.2∈f::fs∧(p.2.kind==4)=true:=fun h=>by
   obtain ⟨h1,h2,h3,h4⟩:=rq h
   exact ⟨by omega,by simp only[List.length_cons];omega,List.mem_cons_of_mem _ h3,h4⟩
  simp only[ca] at h
  cases hc:f.kind==4&& !(v==[]) with
  |false=>rw[hc] at h;exact tail h
  |true=>
   rw[hc,cond_true] at h
   rcases List.mem_cons.1 h with e|h
   ·subst e
    rw[Bool.and_eq_true] at hc
    exact ⟨Nat.le_refl _,by simp,List.mem_cons_self,hc.1⟩
   ·exact tail h
theorem jb {xs:List GateShape} {o:GateObject} {p:Nat×GateField} (h:p∈cj xs o):p.1<o.values.length:=by
 have:=(rq h).2.1
 omega
theorem db {p:Nat×GateField} {x:List AV} (h:fN p x):∃A c,x=[.d (.int .i64 p.1),.agg [.d (.str p.2.name),.d (.int .i64 p.2.kind),.d (.int .i64 p.2.least),.d (.int .i64 p.2.most),.d (.raw (.slice A (p.2.words.map eB).length c)),.d (.str p.2.to_),.d (.int .i64 p.2.role),.d (.bool p.2.must),.d (.bool p.2.fixed),.d (.str p.2.default_),.d (.str p.2.weighs)]]:=by
 unfold fN st GateField.e at h
 simp only[thinL,thinC,List.map] at h
 obtain ⟨y0,ys,rfl,⟨y1,rfl,rfl⟩,cs,y2,rfl,⟨z1,rfl,z2,rfl,z3,rfl,z4,rfl,A,c,z5,rfl,z6,rfl,z7,rfl,z8,rfl,z9,rfl,z10,rfl,z11,rfl,rfl⟩,rfl⟩:=h
 exact ⟨A,c,rfl⟩
theorem kw {xs:List (Nat×GateField)} {k:Nat} {X:List AV→Prop} (h:(xs.map fN)[k]? =some X):∃p,xs[k]? =some p∧p∈xs∧X=fN p:=by
 rw[List.getElem?_map] at h
 cases hp:xs[k]? with
 |none=>rw[hp] at h;cases h
 |some p=>rw[hp] at h;cases h;exact ⟨p,rfl,List.mem_of_getElem? hp,rfl⟩
def fp (b:GateBook) (k n:Bs):Bool:=decide (dA (fun x=>x.kind==k&&x.name==n) b.objects≥0)
theorem kb {b:GateBook} {k n:Bs} (h:decide (dA (fun x:GateObject=>x.kind==k&&x.name==n) b.objects<0)=true):fp b k n=false:=by
 have:=of_decide_eq_true h
 exact decide_eq_false (by omega)
theorem iF {b:GateBook} {k n:Bs} (h:decide (dA (fun x:GateObject=>x.kind==k&&x.name==n) b.objects<0)=false):fp b k n=true:=by
 have:=of_decide_eq_false h
 exact decide_eq_true (by omega)
theorem zY {α:Type} {p:α→Bool} {xs:List α} {x:α} (h:x∈xs) (hp:p x=false):xs.all p=false:=by
 rw[List.all_eq_false]
 exact ⟨x,h,by rw[hp];simp⟩
def aA (L:GateLaw) (b:GateBook) (o:GateObject):Bool:=
 (AF L.shapes o).1==0&&(L.teams.any (·.name==o.team)&&(fi o.version 1 b.now&&((ez L.shapes L.mends o).values==o.values&&(cj L.shapes o).all (fun p=>fp b p.2.to_ (uN o.values p.1)))))
def kJ (L:GateLaw) (b:GateBook) (p:Option GateObject) (o:GateObject):Bool:=(match p with|some q=>gg q.kind q.name o.kind o.name|none=>true)&&aA L b o
def mO (L:GateLaw) (b:GateBook):Bool:= !decide ((b.objects.length:Int)>40)&&aq (kJ L b) none b.objects
set_option maxHeartbeats 2000000 in
theorem xR (L:GateLaw) (b:GateBook) (hm:bw L.shapes L.mends=true):Spec P 126 [st b.e,st L.e] (.d (.bool (mO L b))):=by
 refine Spec.of_vc aI aw [.cell 4 4] Tryz.func126 rfl rfl rfl rfl (fun hok=>?_)
 have hs:=(bV (dw hok)).1
 obtain ⟨hx,hmm,hm12,hro⟩:=eU hm
 repeat refine ai ?_
 refine aj ?_ ?_<;>intro h0
 ·repeat refine ai ?_
  refine bd ?_
  rw[List.length_map] at h0
  rw[mO,h0];rfl
 rw[List.length_map] at h0
 have hob:mO L b=aq (kJ L b) none b.objects:=by rw[mO,h0];rfl
 rw[hob]
 repeat refine ai ?_
 refine d8 (b.objects) (fun i=>aq (kJ L b) none b.objects=aq (kJ L b) (cA b.objects i) (b.objects.drop i)) (fun i=>[(2,.ptr 0 0),(3,.ptr 1 0),(4,.ptr 2 0),(17,.d (aM b.objects)),(18,.d (.int .i64 (b.objects.map GateObject.e).length)),(19,.d (.int .i64 i))]) (fun i=>⟨[(2,.cells 4 [.d (.bool false)]),(1,.cells 41 (L.e.map .d)),(0,.cells 48 (b.e.map .d))],3,0⟩) (rfl) ?_
 intro i hi hr
 repeat refine ai ?_
 refine aj ?_ ?_<;>intro h1
 ·have hlt:i<b.objects.length:=V h1
  rw[dR hlt] at hr
  repeat refine ai ?_
  refine O (e:=GateObject.e) (xs:=b.objects) (hlt) rfl ?_
  repeat refine ai ?_
  refine aj ?_ ?_<;>intro h2
  ·have h3:=lF h2
   repeat refine ai ?_
   refine aB (e:=GateObject.e) (xs:=b.objects) ((show i - 1<b.objects.length by omega)) (aX h3 hlt hs) rfl ?_
   repeat refine ai ?_
   have hpv:cA b.objects i=some (b.objects[i - 1]'(by omega)):=cf h3 hlt
   rw[hpv] at hr
   generalize hq:b.objects[i - 1]'(by omega)=q at*
   have hno:∀c,(!(Op.bytesLess q.kind b.objects[i].kind||q.kind==b.objects[i].kind)||(q.kind==b.objects[i].kind&& !Op.bytesLess q.name b.objects[i].name))=c→kJ L b (some q) b.objects[i]=(!c&&aA L b b.objects[i]):=fun c h=>by
    rw[tU] at h
    rw[←h,Bool.not_not];rfl
   repeat refine ai ?_
   refine aj ?_ ?_<;>intro a1
   ·repeat refine ai ?_
    refine aj ?_ ?_<;>intro a2
    ·repeat refine ai ?_
     refine aj ?_ ?_<;>intro a3
     ·repeat refine ai ?_
      refine bd ?_
      rw[hr,hno true (by rw[a1,a2];exact a3)];rfl
     ·rw[hno false (by rw[a1,a2];exact a3),Bool.not_false,Bool.true_and] at hr
      repeat refine ai ?_
      refine oc (j7 _ _) ?_
      rw[show jk L.shapes b.objects[i]=AF L.shapes b.objects[i] from by unfold jk;rw[hx];rfl]
      generalize ho:b.objects[i]=o at*
      repeat refine ai ?_
      refine aj ?_ ?_<;>intro c1
      ·have c1:=qT c1
       repeat refine ai ?_
       refine bd ?_
       rw[hr,show aA L b o=false from by simp only[aA,c1,bl]]
       rfl
      ·have c1:=nr c1
       repeat refine ai ?_
       refine ak ?_
       repeat refine ai ?_
       refine oc (fV _ _) ?_
       repeat refine ai ?_
       refine aj ?_ ?_<;>intro c2
       ·have c2:=nr (idx_lt.symm.trans c2)
        repeat refine ai ?_
        refine aj ?_ ?_<;>intro c3
        ·repeat refine ai ?_
         refine aj ?_ ?_<;>intro c4
         ·have c4':=lE c3 c4
          repeat refine ai ?_
          refine oc (jd _ _ _) ?_
          rw[hm,cond_true]
          repeat refine ai ?_
          refine oc (jc _ _) ?_
          repeat refine ai ?_
          refine aj ?_ ?_<;>intro c5
          ·have c5:((ez L.shapes L.mends o).values==o.values)=false:=qT c5
           repeat refine ai ?_
           refine bd ?_
           rw[hr,show aA L b o=false from by simp only[aA,c1,c2,c4',c5,bl]]
           rfl
          ·have c5:((ez L.shapes L.mends o).values==o.values)=true:=nr c5
           have hrest:aA L b o=(cj L.shapes o).all (fun p=>fp b p.2.to_ (uN o.values p.1)):=by simp only[aA,c1,c2,c4',c5,Bool.true_and]
           rw[hrest] at hr
           repeat refine ai ?_
           refine oc (pG _ _) ?_
           repeat refine ai ?_
           refine ⟨(cj L.shapes o).map fN,fun k=>∀p,(cj L.shapes o)[k]? =some p→fp b p.2.to_ (uN o.values p.1)=true,m8 L o _,?_,?_,?_⟩
           ·intro X hX x hx
            obtain ⟨p,_,rfl⟩:=List.mem_map.1 hX
            obtain ⟨A,c,rfl⟩:=db hx
            rfl
           ·intro k X hX x hx
            obtain ⟨p,hp,hpm,rfl⟩:=kw hX
            obtain ⟨A,c,rfl⟩:=db hx
            have hpl:=jb hpm
            repeat refine ai ?_
            refine ⟨[(2,.ptr 0 0),(4,.ptr 2 0),(6,.ptr 3 0),(10,.d (.int .i64 p.1)),(11,.at_ [.str p.2.name,.int .i64 p.2.kind,.int .i64 p.2.least,.int .i64 p.2.most,.raw (.slice A (p.2.words.map eB).length c),.str p.2.to_,.int .i64 p.2.role,.bool p.2.must,.bool p.2.fixed,.str p.2.default_,.str p.2.weighs])],⟨rfl,rfl,⟨rfl,rfl,rfl,rfl,.inr ⟨_,_,_,_,rfl,Nat.le_of_ble_eq_true rfl,rfl,rfl,rfl⟩,trivial⟩,?_,?_⟩,?_⟩
            ·repeat' first|exact rfl|exact trivial|refine aj ?_ ?_
            ·repeat' first|exact rfl|exact trivial|refine aj ?_ ?_
            repeat refine ai ?_
            refine ak ?_
            repeat refine ai ?_
            refine O (e:=eB) (xs:=o.values) (hpl) rfl ?_
            repeat refine ai ?_
            refine oc (zx _ _ _) ?_
            repeat refine ai ?_
            refine aj ?_ ?_<;>intro d1
            ·repeat refine ai ?_
             refine bd ?_
             rw[hr,zY hpm (by rw[f9 hpl];exact kb d1)];rfl
            ·repeat refine ai ?_
             refine ⟨fun p' hp'=>?_,rfl,rfl,trivial,?_,?_⟩
             ·rw[hp] at hp'
              cases hp'
              rw[f9 hpl];exact iF d1
             ·repeat' first|exact rfl|exact trivial|refine aj ?_ ?_
             ·repeat' first|exact rfl|exact trivial|refine aj ?_ ?_
           ·intro hall
            have hal:(cj L.shapes o).all (fun p=>fp b p.2.to_ (uN o.values p.1))=true:=by
                 rw[List.all_eq_true]
                 intro p hp
                 obtain ⟨k,hk,rfl⟩:=List.getElem_of_mem hp
                 exact hall k (by rw[List.length_map];exact hk) _ (List.getElem?_eq_getElem hk)
            rw[hal,Bool.true_and] at hr
            repeat refine ai ?_
            exact bQ hlt hs hr
         ·have c4':=nT (a:=1) c4
          repeat refine ai ?_
          refine ay ?_
          repeat refine ai ?_
          refine bd ?_
          rw[hr,show aA L b o=false from by simp only[aA,c1,c2,c4',bl]]
          rfl
        ·have c3':=nS (b:=b.now) c3
         repeat refine ai ?_
         refine an ?_
         repeat refine ai ?_
         refine ay ?_
         repeat refine ai ?_
         refine bd ?_
         rw[hr,show aA L b o=false from by simp only[aA,c1,c2,c3',bl]]
         rfl
       ·have c2:=qT (idx_lt.symm.trans c2)
        repeat refine ai ?_
        refine an ?_
        repeat refine ai ?_
        refine an ?_
        repeat refine ai ?_
        refine ay ?_
        repeat refine ai ?_
        refine bd ?_
        rw[hr,show aA L b o=false from by simp only[aA,c1,c2,bl]]
        rfl
    ·rw[hno false (by rw[a1,a2];rfl),Bool.not_false,Bool.true_and] at hr
     repeat refine ai ?_
     refine oc (j7 _ _) ?_
     rw[show jk L.shapes b.objects[i]=AF L.shapes b.objects[i] from by unfold jk;rw[hx];rfl]
     generalize ho:b.objects[i]=o at*
     repeat refine ai ?_
     refine aj ?_ ?_<;>intro c1
     ·have c1:=qT c1
      repeat refine ai ?_
      refine bd ?_
      rw[hr,show aA L b o=false from by simp only[aA,c1,bl]]
      rfl
     ·have c1:=nr c1
      repeat refine ai ?_
      refine ak ?_
      repeat refine ai ?_
      refine oc (fV _ _) ?_
      repeat refine ai ?_
      refine aj ?_ ?_<;>intro c2
      ·have c2:=nr (idx_lt.symm.trans c2)
       repeat refine ai ?_
       refine aj ?_ ?_<;>intro c3
       ·repeat refine ai ?_
        refine aj ?_ ?_<;>intro c4
        ·have c4':=lE c3 c4
         repeat refine ai ?_
         refine oc (jd _ _ _) ?_
         rw[hm,cond_true]
         repeat refine ai ?_
         refine oc (jc _ _) ?_
         repeat refine ai ?_
         refine aj ?_ ?_<;>intro c5
         ·have c5:((ez L.shapes L.mends o).values==o.values)=false:=qT c5
          repeat refine ai ?_
          refine bd ?_
          rw[hr,show aA L b o=false from by simp only[aA,c1,c2,c4',c5,bl]]
          rfl
         ·have c5:((ez L.shapes L.mends o).values==o.values)=true:=nr c5
          have hrest:aA L b o=(cj L.shapes o).all (fun p=>fp b p.2.to_ (uN o.values p.1)):=by simp only[aA,c1,c2,c4',c5,Bool.true_and]
          rw[hrest] at hr
          repeat refine ai ?_
          refine oc (pG _ _) ?_
          repeat refine ai ?_
          refine ⟨(cj L.shapes o).map fN,fun k=>∀p,(cj L.shapes o)[k]? =some p→fp b p.2.to_ (uN o.values p.1)=true,m8 L o _,?_,?_,?_⟩
          ·intro X hX x hx
           obtain ⟨p,_,rfl⟩:=List.mem_map.1 hX
           obtain ⟨A,c,rfl⟩:=db hx
           rfl
          ·intro k X hX x hx
           obtain ⟨p,hp,hpm,rfl⟩:=kw hX
           obtain ⟨A,c,rfl⟩:=db hx
           have hpl:=jb hpm
           repeat refine ai ?_
           refine ⟨[(2,.ptr 0 0),(4,.ptr 2 0),(6,.ptr 3 0),(10,.d (.int .i64 p.1)),(11,.at_ [.str p.2.name,.int .i64 p.2.kind,.int .i64 p.2.least,.int .i64 p.2.most,.raw (.slice A (p.2.words.map eB).length c),.str p.2.to_,.int .i64 p.2.role,.bool p.2.must,.bool p.2.fixed,.str p.2.default_,.str p.2.weighs])],⟨rfl,rfl,⟨rfl,rfl,rfl,rfl,.inr ⟨_,_,_,_,rfl,Nat.le_of_ble_eq_true rfl,rfl,rfl,rfl⟩,trivial⟩,?_,?_⟩,?_⟩
           ·repeat' first|exact rfl|exact trivial|refine aj ?_ ?_
           ·repeat' first|exact rfl|exact trivial|refine aj ?_ ?_
           repeat refine ai ?_
           refine ak ?_
           repeat refine ai ?_
           refine O (e:=eB) (xs:=o.values) (hpl) rfl ?_
           repeat refine ai ?_
           refine oc (zx _ _ _) ?_
           repeat refine ai ?_
           refine aj ?_ ?_<;>intro d1
           ·repeat refine ai ?_
            refine bd ?_
            rw[hr,zY hpm (by rw[f9 hpl];exact kb d1)];rfl
           ·repeat refine ai ?_
            refine ⟨fun p' hp'=>?_,rfl,rfl,trivial,?_,?_⟩
            ·rw[hp] at hp'
             cases hp'
             rw[f9 hpl];exact iF d1
            ·repeat' first|exact rfl|exact trivial|refine aj ?_ ?_
            ·repeat' first|exact rfl|exact trivial|refine aj ?_ ?_
          ·intro hall
           have hal:(cj L.shapes o).all (fun p=>fp b p.2.to_ (uN o.values p.1))=true:=by
                rw[List.all_eq_true]
                intro p hp
                obtain ⟨k,hk,rfl⟩:=List.getElem_of_mem hp
                exact hall k (by rw[List.length_map];exact hk) _ (List.getElem?_eq_getElem hk)
           rw[hal,Bool.true_and] at hr
           repeat refine ai ?_
           exact bQ hlt hs hr
        ·have c4':=nT (a:=1) c4
         repeat refine ai ?_
         refine ay ?_
         repeat refine ai ?_
         refine bd ?_
         rw[hr,show aA L b o=false from by simp only[aA,c1,c2,c4',bl]]
         rfl
       ·have c3':=nS (b:=b.now) c3
        repeat refine ai ?_
        refine an ?_
        repeat refine ai ?_
        refine ay ?_
        repeat refine ai ?_
        refine bd ?_
        rw[hr,show aA L b o=false from by simp only[aA,c1,c2,c3',bl]]
        rfl
      ·have c2:=qT (idx_lt.symm.trans c2)
       repeat refine ai ?_
       refine an ?_
       repeat refine ai ?_
       refine an ?_
       repeat refine ai ?_
       refine ay ?_
       repeat refine ai ?_
       refine bd ?_
       rw[hr,show aA L b o=false from by simp only[aA,c1,c2,bl]]
       rfl
   ·repeat refine ai ?_
    refine bd ?_
    rw[hr,hno true (by rw[a1];rfl)];rfl
  ·have hpv:cA b.objects i=none:=cg (pn h2)
   rw[hpv] at hr
   replace hr:aq (kJ L b) none b.objects=(aA L b b.objects[i]&&aq (kJ L b) (cA b.objects (i+1)) (b.objects.drop (i+1))):=by rw[hr];rfl
   repeat refine ai ?_
   refine oc (j7 _ _) ?_
   rw[show jk L.shapes b.objects[i]=AF L.shapes b.objects[i] from by unfold jk;rw[hx];rfl]
   generalize ho:b.objects[i]=o at*
   repeat refine ai ?_
   refine aj ?_ ?_<;>intro c1
   ·have c1:=qT c1
    repeat refine ai ?_
    refine bd ?_
    rw[hr,show aA L b o=false from by simp only[aA,c1,bl]]
    rfl
   ·have c1:=nr c1
    repeat refine ai ?_
    refine ak ?_
    repeat refine ai ?_
    refine oc (fV _ _) ?_
    repeat refine ai ?_
    refine aj ?_ ?_<;>intro c2
    ·have c2:=nr (idx_lt.symm.trans c2)
     repeat refine ai ?_
     refine aj ?_ ?_<;>intro c3
     ·repeat refine ai ?_
      refine aj ?_ ?_<;>intro c4
      ·have c4':=lE c3 c4
       repeat refine ai ?_
       refine oc (jd _ _ _) ?_
       rw[hm,cond_true]
       repeat refine ai ?_
       refine oc (jc _ _) ?_
       repeat refine ai ?_
       refine aj ?_ ?_<;>intro c5
       ·have c5:((ez L.shapes L.mends o).values==o.values)=false:=qT c5
        repeat refine ai ?_
        refine bd ?_
        rw[hr,show aA L b o=false from by simp only[aA,c1,c2,c4',c5,bl]]
        rfl
       ·have c5:((ez L.shapes L.mends o).values==o.values)=true:=nr c5
        have hrest:aA L b o=(cj L.shapes o).all (fun p=>fp b p.2.to_ (uN o.values p.1)):=by simp only[aA,c1,c2,c4',c5,Bool.true_and]
        rw[hrest] at hr
        repeat refine ai ?_
        refine oc (pG _ _) ?_
        repeat refine ai ?_
        refine ⟨(cj L.shapes o).map fN,fun k=>∀p,(cj L.shapes o)[k]? =some p→fp b p.2.to_ (uN o.values p.1)=true,m8 L o _,?_,?_,?_⟩
        ·intro X hX x hx
         obtain ⟨p,_,rfl⟩:=List.mem_map.1 hX
         obtain ⟨A,c,rfl⟩:=db hx
         rfl
        ·intro k X hX x hx
         obtain ⟨p,hp,hpm,rfl⟩:=kw hX
         obtain ⟨A,c,rfl⟩:=db hx
         have hpl:=jb hpm
         repeat refine ai ?_
         refine ⟨[(2,.ptr 0 0),(4,.ptr 2 0),(6,.ptr 3 0),(10,.d (.int .i64 p.1)),(11,.at_ [.str p.2.name,.int .i64 p.2.kind,.int .i64 p.2.least,.int .i64 p.2.most,.raw (.slice A (p.2.words.map eB).length c),.str p.2.to_,.int .i64 p.2.role,.bool p.2.must,.bool p.2.fixed,.str p.2.default_,.str p.2.weighs])],⟨rfl,rfl,⟨rfl,rfl,rfl,rfl,.inr ⟨_,_,_,_,rfl,Nat.le_of_ble_eq_true rfl,rfl,rfl,rfl⟩,trivial⟩,?_,?_⟩,?_⟩
         ·repeat' first|exact rfl|exact trivial|refine aj ?_ ?_
         ·repeat' first|exact rfl|exact trivial|refine aj ?_ ?_
         repeat refine ai ?_
         refine ak ?_
         repeat refine ai ?_
         refine O (e:=eB) (xs:=o.values) (hpl) rfl ?_
         repeat refine ai ?_
         refine oc (zx _ _ _) ?_
         repeat refine ai ?_
         refine aj ?_ ?_<;>intro d1
         ·repeat refine ai ?_
          refine bd ?_
          rw[hr,zY hpm (by rw[f9 hpl];exact kb d1)];rfl
         ·repeat refine ai ?_
          refine ⟨fun p' hp'=>?_,rfl,rfl,trivial,?_,?_⟩
          ·rw[hp] at hp'
           cases hp'
           rw[f9 hpl];exact iF d1
          ·repeat' first|exact rfl|exact trivial|refine aj ?_ ?_
          ·repeat' first|exact rfl|exact trivial|refine aj ?_ ?_
        ·intro hall
         have hal:(cj L.shapes o).all (fun p=>fp b p.2.to_ (uN o.values p.1))=true:=by
              rw[List.all_eq_true]
              intro p hp
              obtain ⟨k,hk,rfl⟩:=List.getElem_of_mem hp
              exact hall k (by rw[List.length_map];exact hk) _ (List.getElem?_eq_getElem hk)
         rw[hal,Bool.true_and] at hr
         repeat refine ai ?_
         exact bQ hlt hs hr
      ·have c4':=nT (a:=1) c4
       repeat refine ai ?_
       refine ay ?_
       repeat refine ai ?_
       refine bd ?_
       rw[hr,show aA L b o=false from by simp only[aA,c1,c2,c4',bl]]
       rfl
     ·have c3':=nS (b:=b.now) c3
      repeat refine ai ?_
      refine an ?_
      repeat refine ai ?_
      refine ay ?_
      repeat refine ai ?_
      refine bd ?_
      rw[hr,show aA L b o=false from by simp only[aA,c1,c2,c3',bl]]
      rfl
    ·have c2:=qT (idx_lt.symm.trans c2)
     repeat refine ai ?_
     refine an ?_
     repeat refine ai ?_
     refine an ?_
     repeat refine ai ?_
     refine ay ?_
     repeat refine ai ?_
     refine bd ?_
     rw[hr,show aA L b o=false from by simp only[aA,c1,c2,bl]]
     rfl
 ·repeat refine ai ?_
  refine bd ?_
  rw[hr,eV (Z h1)]
end Go.Vc
end
section
namespace Go.Vc
open Go.Proofs
set_option maxRecDepth 100000
theorem kP (xs ys:List Bs):Spec P 173 [.d (lS xs),.d (lS ys)] (.d (.bool (xs==ys))):=by
 refine Spec.of_vc aI aw [.tmp 4] Tryz.func173 rfl rfl rfl rfl (fun hok=>?_)
 have hs:xs.length≤big:=ax hok.1.1
 repeat refine ai ?_
 refine aj ?_ ?_<;>intro h0
 ·refine bd ?_
  rw[List.length_map,List.length_map] at h0
  cases e:xs==ys with
  |false=>rfl
  |true=>rw[beq_iff_eq.1 e] at h0;simp at h0
 ·rw[List.length_map,List.length_map] at h0
  have hl:xs.length=ys.length:=by simp at h0;omega
  repeat refine ai ?_
  refine d8 (xs) (fun i=>(xs==ys)=(xs.drop i==ys.drop i)) (fun i=>[(0,.d (lS xs)),(1,.d (lS ys)),(5,.d (.int .i64 i))]) (fun i=>hp0) (rfl) ?_
  intro i hi hr
  repeat refine ai ?_
  refine aj ?_ ?_<;>intro h1
  ·have hlt:i<xs.length:=V h1
   have hlt':i<ys.length:=by omega
   rw[List.drop_eq_getElem_cons hlt,List.drop_eq_getElem_cons hlt',List.cons_beq_cons] at hr
   repeat refine ai ?_
   refine ak ?_
   repeat refine ai ?_
   refine O (e:=eB) (xs:=xs) (hlt) rfl ?_
   repeat refine ai ?_
   refine O (e:=eB) (xs:=ys) (hlt') rfl ?_
   repeat refine ai ?_
   refine aj ?_ ?_<;>intro h2
   ·refine bd ?_
    simp only[Bool.not_eq_true',Bool.not_eq_false'] at h2
    rw[hr,h2];rfl
   ·simp only[Bool.not_eq_true',Bool.not_eq_false'] at h2
    repeat refine ai ?_
    exact bQ hlt hs (by rw[hr,h2];rfl)
  ·refine bd ?_
   have hge:=Z h1
   rw[hr,List.drop_of_length_le hge,List.drop_of_length_le (by omega)];rfl
theorem xO {xs:List GateShape} {o:GateObject} (h:((AF xs o).1==0)=true):(ah xs o.kind o.values.length).2=true:=by
 unfold AF j9 at h
 cases hf:(ah xs o.kind o.values.length).2 with
 |true=>rfl
 |false=>rw[hf] at h;cases h
theorem Aw {b:GateBook} (h:ei [st b.e]) {o:GateObject} (ho:o∈b.objects):o.values.length≤big∧o.holds.length≤big:=by
 have:=h.1
 simp only[st,AV.ok,GateBook.e,List.map,ei] at this
 refine xo ?_
 simp only[AV.ok]
 exact okRows_iff.1 this.2.2.2.1.2 _ (List.mem_map.2 ⟨o,ho,rfl⟩)
set_option maxHeartbeats 2000000 in
theorem sE (L:GateLaw) (b:GateBook) (hm:bw L.shapes L.mends=true):Spec P 115 [st L.e,st b.e] (.d (.bool (mO L b))):=by
 refine Spec.of_vc aI aw [.tmp 4] Tryz.func115 rfl rfl rfl rfl (fun hok=>?_)
 have hs:=(bV hok.2).1
 obtain ⟨hx,hmm,hm12,hro⟩:=eU hm
 repeat refine ai ?_
 refine aj ?_ ?_<;>intro h0
 ·refine bd ?_
  rw[List.length_map] at h0
  rw[mO,h0];rfl
 rw[List.length_map] at h0
 have hob:mO L b=aq (kJ L b) none b.objects:=by rw[mO,h0];rfl
 rw[hob]
 repeat refine ai ?_
 refine d8 (b.objects) (fun i=>aq (kJ L b) none b.objects=aq (kJ L b) (cA b.objects i) (b.objects.drop i)) (fun i=>[(2,.ptr 0 0),(3,.ptr 1 0),(5,.d (.int .i64 i))]) (fun i=>⟨[(1,.cells 48 (b.e.map .d)),(0,.cells 41 (L.e.map .d))],2,0⟩) (rfl) ?_
 intro i hi hr
 repeat refine ai ?_
 refine aj ?_ ?_<;>intro h1
 ·have hlt:i<b.objects.length:=V h1
  rw[dR hlt] at hr
  repeat refine ai ?_
  refine O (e:=GateObject.e) (xs:=b.objects) (hlt) rfl ?_
  repeat refine ai ?_
  have hvb:=(Aw hok.2 (List.getElem_mem hlt)).1
  generalize ho:b.objects[i]=o at*
  have hob0:∀c,(match cA b.objects i with|some q=>gg q.kind q.name o.kind o.name|none=>true)=c→kJ L b (cA b.objects i) o=(c&&aA L b o):=fun c h=>by rw[←h];rfl
  repeat refine ai ?_
  refine oc (Bk _ _) ?_
  repeat refine ai ?_
  refine aj ?_ ?_<;>intro c1
  ·have c1:((AF L.shapes o).1==0)=true:=nr c1
   repeat refine ai ?_
   refine oc (mo _ _) ?_
   repeat refine ai ?_
   refine aj ?_ ?_<;>intro c2
   ·have c2:(L.teams.any (·.name==o.team))=true:=nr c2
    repeat refine ai ?_
    refine oc (d6 _ _ _) ?_
    repeat refine ai ?_
    refine aj ?_ ?_<;>intro c3
    ·have c3:fi o.version 1 b.now=false:=qT c3
     repeat refine ai ?_
     refine bd ?_
     rw[hr,show kJ L b (cA b.objects i) o=false from by rw[hob0 _ rfl];simp only[aA,c1,c2,c3,bl]]
     rfl
    ·have c3:fi o.version 1 b.now=true:=nr c3
     repeat refine ai ?_
     refine ak ?_
     repeat refine ai ?_
     refine aj ?_ ?_<;>intro p1
     ·have h3:=lF p1
      have hpv:cA b.objects i=some (b.objects[i - 1]'(by omega)):=cf h3 hlt
      repeat refine ai ?_
      refine aB (e:=GateObject.e) (xs:=b.objects) ((show i - 1<b.objects.length by omega)) (aX h3 hlt hs) rfl ?_
      repeat refine ai ?_
      refine aB (e:=GateObject.e) (xs:=b.objects) ((show i - 1<b.objects.length by omega)) (aX h3 hlt hs) rfl ?_
      repeat refine ai ?_
      rw[hpv] at hob0
      repeat refine ai ?_
      refine oc (vj _ _ _ _) ?_
      repeat refine ai ?_
      refine aj ?_ ?_<;>intro p2
      ·have hp:=(py _ _ _ _).symm.trans p2
       rw[Bool.not_eq_true'] at hp
       repeat refine ai ?_
       refine bd ?_
       rw[hr,hpv,hob0 false hp];rfl
      ·have hp:=(py _ _ _ _).symm.trans p2
       rw[Bool.not_eq_false'] at hp
       rw[hpv,hob0 true hp,Bool.true_and] at hr
       repeat refine ai ?_
       refine ak ?_
       repeat refine ai ?_
       refine oc (qy L.shapes L.mends o hx hmm) ?_
       repeat refine ai ?_
       refine oc (kP _ _) ?_
       repeat refine ai ?_
       refine aj ?_ ?_<;>intro c5
       ·have c5:((ez L.shapes L.mends o).values==o.values)=false:=qT c5
        repeat refine ai ?_
        refine bd ?_
        rw[hr,show aA L b o=false from by simp only[aA,c1,c2,c3,c5,bl]]
        rfl
       ·have c5:((ez L.shapes L.mends o).values==o.values)=true:=nr c5
        have hrest:aA L b o=(ca (ah L.shapes o.kind o.values.length).1 o.values 0).all (fun p=>fp b p.2.to_ (uN o.values p.1)):=by simp only[aA,c1,c2,c3,c5,Bool.true_and];rfl
        rw[hrest] at hr
        repeat refine ai ?_
        refine oc (eD _ _) ?_
        have hfl:=(cr (xs:=L.shapes) (k:=o.kind) (n:=o.values.length)).2 (xO c1)
        generalize (ah L.shapes o.kind o.values.length).1=fs at*
        have hfs:fs.length≤big:=by omega
        generalize hlk:(ca fs o.values 0).all (fun p=>fp b p.2.to_ (uN o.values p.1))=lk at*
        generalize hck:aq (kJ L b) none b.objects=ck at*
        have hrO:=hr
        clear hr
        repeat refine ai ?_
        refine d8 (fs) (fun k=>lk=(ca (fs.drop k) (o.values.drop k) k).all (fun p=>fp b p.2.to_ (uN o.values p.1))) (fun k=>[(2,.ptr 0 0),(3,.ptr 1 0),(5,.d (.int .i64 i)),(6,.ptr 2 0),(9,.d (ab fs)),(11,.d (.int .i64 k))]) (fun k=>⟨[(2,.cells 103 (o.e.map .d)),(1,.cells 48 (b.e.map .d)),(0,.cells 41 (L.e.map .d))],3,0⟩) (hlk.symm) ?_
        intro k hk hr
        repeat refine ai ?_
        refine aj ?_ ?_<;>intro g1
        ·have hlk1:k<fs.length:=V g1
         have hlk2:k<o.values.length:=by omega
         rw[g9 hlk1 hlk2] at hr
         repeat refine ai ?_
         refine ak ?_
         repeat refine ai ?_
         refine O (e:=GateField.e) (xs:=fs) (hlk1) rfl ?_
         repeat refine ai ?_
         refine aj ?_ ?_<;>intro g2
         ·repeat refine ai ?_
          refine O (e:=eB) (xs:=o.values) (hlk2) rfl ?_
          repeat refine ai ?_
          refine aj ?_ ?_<;>intro g3
          ·have hc:(fs[k].kind==4&& !(o.values[k]==[]))=true:=by rw[g2];exact g3
           rw[hc,cond_true,List.all_cons] at hr
           repeat refine ai ?_
           refine O (e:=GateField.e) (xs:=fs) (hlk1) rfl ?_
           repeat refine ai ?_
           refine O (e:=eB) (xs:=o.values) (hlk2) rfl ?_
           repeat refine ai ?_
           refine oc (Ct _ _ _) ?_
           repeat refine ai ?_
           refine aj ?_ ?_<;>intro g4
           ·refine bd ?_
            rw[f9 hlk2,kb g4,Bool.false_and] at hr
            rw[hrO,hr];rfl
           ·rw[f9 hlk2,iF g4,Bool.true_and] at hr
            repeat refine ai ?_
            exact ⟨_,_,_,⟨k+1,rfl,hlk1,hr,rfl,rfl⟩,by omega,rfl,rfl,⟨rfl,rfl,rfl,rfl,rfl,nd (Y hlk1 hfs),trivial⟩,(by repeat' first|exact rfl|exact trivial|refine aj ?_ ?_),(by repeat' first|exact rfl|exact trivial|refine aj ?_ ?_)⟩
          ·have hc:(fs[k].kind==4&& !(o.values[k]==[]))=false:=by rw[g2];exact g3
           rw[hc,cond_false] at hr
           repeat refine ai ?_
           refine an ?_
           repeat refine ai ?_
           exact ⟨_,_,_,⟨k+1,rfl,hlk1,hr,rfl,rfl⟩,by omega,rfl,rfl,⟨rfl,rfl,rfl,rfl,rfl,nd (Y hlk1 hfs),trivial⟩,(by repeat' first|exact rfl|exact trivial|refine aj ?_ ?_),(by repeat' first|exact rfl|exact trivial|refine aj ?_ ?_)⟩
         ·have hc:(fs[k].kind==4&& !(o.values[k]==[]))=false:=by rw[g2];rfl
          rw[hc,cond_false] at hr
          repeat refine ai ?_
          refine an ?_
          repeat refine ai ?_
          refine an ?_
          repeat refine ai ?_
          exact ⟨_,_,_,⟨k+1,rfl,hlk1,hr,rfl,rfl⟩,by omega,rfl,rfl,⟨rfl,rfl,rfl,rfl,rfl,nd (Y hlk1 hfs),trivial⟩,(by repeat' first|exact rfl|exact trivial|refine aj ?_ ?_),(by repeat' first|exact rfl|exact trivial|refine aj ?_ ?_)⟩
        ·rw[List.drop_of_length_le (Z g1),lD rfl] at hr
         have hl:lk=true:=hr
         rw[hl,Bool.true_and] at hrO
         repeat refine ai ?_
         exact bQ hlt hs hrO
     ·have hpv:=cg (xs:=b.objects) (pn p1)
      rw[hpv] at hr
      rw[hpv] at hob0
      rw[hob0 true rfl,Bool.true_and] at hr
      repeat refine ai ?_
      refine an ?_
      repeat refine ai ?_
      refine ak ?_
      repeat refine ai ?_
      refine oc (qy L.shapes L.mends o hx hmm) ?_
      repeat refine ai ?_
      refine oc (kP _ _) ?_
      repeat refine ai ?_
      refine aj ?_ ?_<;>intro c5
      ·have c5:((ez L.shapes L.mends o).values==o.values)=false:=qT c5
       repeat refine ai ?_
       refine bd ?_
       rw[hr,show aA L b o=false from by simp only[aA,c1,c2,c3,c5,bl]]
       rfl
      ·have c5:((ez L.shapes L.mends o).values==o.values)=true:=nr c5
       have hrest:aA L b o=(ca (ah L.shapes o.kind o.values.length).1 o.values 0).all (fun p=>fp b p.2.to_ (uN o.values p.1)):=by simp only[aA,c1,c2,c3,c5,Bool.true_and];rfl
       rw[hrest] at hr
       repeat refine ai ?_
       refine oc (eD _ _) ?_
       have hfl:=(cr (xs:=L.shapes) (k:=o.kind) (n:=o.values.length)).2 (xO c1)
       generalize (ah L.shapes o.kind o.values.length).1=fs at*
       have hfs:fs.length≤big:=by omega
       generalize hlk:(ca fs o.values 0).all (fun p=>fp b p.2.to_ (uN o.values p.1))=lk at*
       generalize hck:aq (kJ L b) none b.objects=ck at*
       have hrO:=hr
       clear hr
       repeat refine ai ?_
       refine d8 (fs) (fun k=>lk=(ca (fs.drop k) (o.values.drop k) k).all (fun p=>fp b p.2.to_ (uN o.values p.1))) (fun k=>[(2,.ptr 0 0),(3,.ptr 1 0),(5,.d (.int .i64 i)),(6,.ptr 2 0),(9,.d (ab fs)),(11,.d (.int .i64 k))]) (fun k=>⟨[(2,.cells 103 (o.e.map .d)),(1,.cells 48 (b.e.map .d)),(0,.cells 41 (L.e.map .d))],3,0⟩) (hlk.symm) ?_
       intro k hk hr
       repeat refine ai ?_
       refine aj ?_ ?_<;>intro g1
       ·have hlk1:k<fs.length:=V g1
        have hlk2:k<o.values.length:=by omega
        rw[g9 hlk1 hlk2] at hr
        repeat refine ai ?_
        refine ak ?_
        repeat refine ai ?_
        refine O (e:=GateField.e) (xs:=fs) (hlk1) rfl ?_
        repeat refine ai ?_
        refine aj ?_ ?_<;>intro g2
        ·repeat refine ai ?_
         refine O (e:=eB) (xs:=o.values) (hlk2) rfl ?_
         repeat refine ai ?_
         refine aj ?_ ?_<;>intro g3
         ·have hc:(fs[k].kind==4&& !(o.values[k]==[]))=true:=by rw[g2];exact g3
          rw[hc,cond_true,List.all_cons] at hr
          repeat refine ai ?_
          refine O (e:=GateField.e) (xs:=fs) (hlk1) rfl ?_
          repeat refine ai ?_
          refine O (e:=eB) (xs:=o.values) (hlk2) rfl ?_
          repeat refine ai ?_
          refine oc (Ct _ _ _) ?_
          repeat refine ai ?_
          refine aj ?_ ?_<;>intro g4
          ·refine bd ?_
           rw[f9 hlk2,kb g4,Bool.false_and] at hr
           rw[hrO,hr];rfl
          ·rw[f9 hlk2,iF g4,Bool.true_and] at hr
           repeat refine ai ?_
           exact ⟨_,_,_,⟨k+1,rfl,hlk1,hr,rfl,rfl⟩,by omega,rfl,rfl,⟨rfl,rfl,rfl,rfl,rfl,nd (Y hlk1 hfs),trivial⟩,(by repeat' first|exact rfl|exact trivial|refine aj ?_ ?_),(by repeat' first|exact rfl|exact trivial|refine aj ?_ ?_)⟩
         ·have hc:(fs[k].kind==4&& !(o.values[k]==[]))=false:=by rw[g2];exact g3
          rw[hc,cond_false] at hr
          repeat refine ai ?_
          refine an ?_
          repeat refine ai ?_
          exact ⟨_,_,_,⟨k+1,rfl,hlk1,hr,rfl,rfl⟩,by omega,rfl,rfl,⟨rfl,rfl,rfl,rfl,rfl,nd (Y hlk1 hfs),trivial⟩,(by repeat' first|exact rfl|exact trivial|refine aj ?_ ?_),(by repeat' first|exact rfl|exact trivial|refine aj ?_ ?_)⟩
        ·have hc:(fs[k].kind==4&& !(o.values[k]==[]))=false:=by rw[g2];rfl
         rw[hc,cond_false] at hr
         repeat refine ai ?_
         refine an ?_
         repeat refine ai ?_
         refine an ?_
         repeat refine ai ?_
         exact ⟨_,_,_,⟨k+1,rfl,hlk1,hr,rfl,rfl⟩,by omega,rfl,rfl,⟨rfl,rfl,rfl,rfl,rfl,nd (Y hlk1 hfs),trivial⟩,(by repeat' first|exact rfl|exact trivial|refine aj ?_ ?_),(by repeat' first|exact rfl|exact trivial|refine aj ?_ ?_)⟩
       ·rw[List.drop_of_length_le (Z g1),lD rfl] at hr
        have hl:lk=true:=hr
        rw[hl,Bool.true_and] at hrO
        repeat refine ai ?_
        exact bQ hlt hs hrO
   ·have c2:(L.teams.any (·.name==o.team))=false:=qT c2
    repeat refine ai ?_
    refine bd ?_
    rw[hr,show kJ L b (cA b.objects i) o=false from by rw[hob0 _ rfl];simp only[aA,c1,c2,bl]]
    rfl
  ·have c1:((AF L.shapes o).1==0)=false:=qT c1
   repeat refine ai ?_
   refine bd ?_
   rw[hr,show kJ L b (cA b.objects i) o=false from by rw[hob0 _ rfl];simp only[aA,c1,bl]]
   rfl
 ·refine bd ?_
  rw[hr,eV (Z h1)]
end Go.Vc
end
section
namespace Go.Vc
open Go.Proofs
set_option maxRecDepth 100000
def xf (p:Option GateGrant) (n:Int):Bool:=match p with|some q=> !decide (q.number≥n)|none=>true
def eJ (b:GateBook) (p:Option GateGrant) (g:GateGrant):Bool:=fi g.number 1 b.given&&(xf p g.number&&(aU g.to_&&((g.by_==[]||aU g.by_)&&bb g.rule)))
def gt (b:GateBook):Bool:= !decide ((b.grants.length:Int)>24)&&aq (eJ b) none b.grants
theorem m5 (n a b:Int):fi n a b=(!decide (n<a)&& !decide (n>b)):=by
 unfold fi
 congr 1
 ·by_cases h:n<a
  ·rw[decide_eq_true h,decide_eq_false (by omega)];rfl
  ·rw[decide_eq_false h,decide_eq_true (by omega)];rfl
 ·by_cases h:n>b
  ·rw[decide_eq_true h,decide_eq_false (by omega)];rfl
  ·rw[decide_eq_false h,decide_eq_true (by omega)];rfl
set_option maxHeartbeats 2000000 in
theorem zw (b:GateBook):Spec P 127 [st b.e] (.d (.bool (gt b))):=by
 refine Spec.of_vc aI aw [.tmp 2] Tryz.func127 rfl rfl rfl rfl (fun hok=>?_)
 have hs:=(bV hok).2.1
 repeat refine ai ?_
 refine aj ?_ ?_<;>intro h0
 ·refine bd ?_
  rw[List.length_map] at h0
  rw[gt,h0];rfl
 rw[List.length_map] at h0
 have hob:gt b=aq (eJ b) none b.grants:=by rw[gt,h0];rfl
 rw[hob]
 repeat refine ai ?_
 refine d8 (b.grants) (fun i=>aq (eJ b) none b.grants=aq (eJ b) (cA b.grants i) (b.grants.drop i)) (fun i=>[(1,.ptr 0 0),(10,.d (bp b.grants)),(11,.d (.int .i64 (b.grants.map GateGrant.e).length)),(12,.d (.int .i64 i))]) (fun i=>⟨[(0,.cells 48 (b.e.map .d))],1,0⟩) (rfl) ?_
 intro i hi hr
 repeat refine ai ?_
 refine aj ?_ ?_<;>intro h1
 ·have hlt:i<b.grants.length:=V h1
  rw[dR hlt] at hr
  repeat refine ai ?_
  refine O (e:=GateGrant.e) (xs:=b.grants) (hlt) rfl ?_
  repeat refine ai ?_
  refine ak ?_
  repeat refine ai ?_
  repeat' first
   |refine ai ?_
   |(refine n1 ?_;intro h)
   |(refine n2 ?_;intro h)
   |(refine n3 ?_;intro h)
   |(refine n4 ?_;intro h)
   |(refine aj ?_ ?_<;>intro h)
   |refine oc (c7 _) ?_
   |refine oc (C8 _) ?_
   |refine ak ?_
   |refine aB (e:=GateGrant.e) (xs:=b.grants) (k:=i - 1) (by omega) (aX (lF (by assumption)) hlt hs) rfl ?_
  all_goals (first|rw[cf (lF (by assumption)) hlt] at hr|rw[cg (pn (by assumption))] at hr|skip)
  all_goals (simp only[cond_false,cond_true,Bool.not_eq_true',Bool.not_eq_false',reduceCtorEq] at*)
  all_goals first
   |(refine bd ?_
     rw[hr]
     clear hr
     simp only[eJ,xf,m5, *,bl]
     done)
   |(refine (fun hq:aq (eJ b) none b.grants=aq (eJ b) (cA b.grants (i+1)) (b.grants.drop (i+1))=>?_) ?_
     rotate_left
     ·rw[hr]
      clear hr
      simp only[eJ,xf,m5, *,bl]
      done
     ·repeat refine ai ?_
      exact bQ hlt hs hq)
 ·refine bd ?_
  rw[hr,eV (Z h1)]
set_option maxHeartbeats 2000000 in
theorem vl (b:GateBook):Spec P 116 [st b.e] (.d (.bool (gt b))):=by
 refine Spec.of_vc aI aw [.tmp 2] Tryz.func116 rfl rfl rfl rfl (fun hok=>?_)
 have hs:=(bV hok).2.1
 repeat refine ai ?_
 refine aj ?_ ?_<;>intro h0
 ·refine bd ?_
  rw[List.length_map] at h0
  rw[gt,h0];rfl
 rw[List.length_map] at h0
 have hob:gt b=aq (eJ b) none b.grants:=by rw[gt,h0];rfl
 rw[hob]
 repeat refine ai ?_
 refine d8 (b.grants) (fun i=>aq (eJ b) none b.grants=aq (eJ b) (cA b.grants i) (b.grants.drop i)) (fun i=>[(1,.ptr 0 0),(3,.d (.int .i64 i))]) (fun i=>⟨[(0,.cells 48 (b.e.map .d))],1,0⟩) (rfl) ?_
 intro i hi hr
 repeat refine ai ?_
 refine aj ?_ ?_<;>intro h1
 ·have hlt:i<b.grants.length:=V h1
  rw[dR hlt] at hr
  repeat refine ai ?_
  refine O (e:=GateGrant.e) (xs:=b.grants) (hlt) rfl ?_
  repeat refine ai ?_
  refine ak ?_
  repeat refine ai ?_
  repeat' first
   |refine ai ?_
   |(refine n1 ?_;intro h)
   |(refine n2 ?_;intro h)
   |(refine n3 ?_;intro h)
   |(refine n4 ?_;intro h)
   |(refine aj ?_ ?_<;>intro h)
   |refine oc (d6 _ _ _) ?_
   |refine oc (bC _) ?_
   |refine oc (yR _) ?_
   |refine ak ?_
   |refine aB (e:=GateGrant.e) (xs:=b.grants) (k:=i - 1) (by omega) (aX (lF (by assumption)) hlt hs) rfl ?_
  all_goals (first|rw[cf (lF (by assumption)) hlt] at hr|rw[cg (pn (by assumption))] at hr|skip)
  all_goals (simp only[cond_false,cond_true,Bool.not_eq_true',Bool.not_eq_false',reduceCtorEq] at*)
  all_goals first
   |(refine bd ?_
     rw[hr]
     clear hr
     simp only[eJ,xf, *,bl]
     done)
   |(refine (fun hq:aq (eJ b) none b.grants=aq (eJ b) (cA b.grants (i+1)) (b.grants.drop (i+1))=>?_) ?_
     rotate_left
     ·rw[hr]
      clear hr
      simp only[eJ,xf, *,bl]
      done
     ·repeat refine ai ?_
      exact bQ hlt hs hq)
 ·refine bd ?_
  rw[hr,eV (Z h1)]
end Go.Vc
end
section
namespace Go.Vc
open Go.Proofs
set_option maxRecDepth 100000
def ga (xs:List GateTeam):Nat→Bs→Bs→Bool
 |0,a,b=>a==b
 |k+1,a,b=>a==b||(!(da a xs==[])&&ga xs k (da a xs) b)
def ou (xs:List GateTeam) (a b:Bs):Bool:=ga xs 4 a b
theorem qO:∀{xs:List GateTeam} {n:Bs},xs.any (·.name==n)=false→da n xs=[]
 |[],_,_=>rfl
 |x::xs,n,h=>by
  rw[List.any_cons,Bool.or_eq_false_iff] at h
  simp only[da,h.1,cond_false]
  exact qO h.2
theorem Ac {k n:Nat} (h:k<n) (hn:n≤100):IntKind.i64.wrap ((k:Int)+1)=((k+1:Nat):Int):=by
 rw[IntKind.wrap_i64];omega
theorem w3 (xs:List GateTeam) (a b:Bs):Spec P 155 [.d (am xs),.d (.str a),.d (.str b)] (.d (.bool (ou xs a b))):=by
 refine Spec.of_vc aI aw [.tmp 6] Tryz.func155 rfl rfl rfl rfl (fun hok=>?_)
 repeat refine ai ?_
 refine aj ?_ ?_<;>intro h0
 ·refine bd ?_
  simp only[ou,ga,h0,Bool.true_or]
 have hu:ou xs a b=(!(da a xs==[])&&ga xs 3 (da a xs) b):=by simp only[ou,ga,h0,Bool.false_or]
 rw[hu]
 repeat refine ai ?_
 refine ⟨fun m l h=>∃(s:Nat) (x:Bs),m=4 - s∧s≤4∧(!(da a xs==[])&&ga xs 3 (da a xs) b)=(bif Nat.ble 4 s then false else (!(da x xs==[])&&ga xs (3 - s) (da x xs) b))∧l=[(0,.d (am xs)),(1,.d (.str x)),(2,.d (.str b)),(7,.d (.int .i64 s))]∧h=hp0,
  ⟨_,_,_,⟨0,a,rfl,by decide,rfl,rfl,rfl⟩,rfl,rfl,⟨rfl,rfl,rfl,rfl,trivial⟩,trivial,trivial⟩,?_⟩
 rintro m l hh ⟨s,x,rfl,hs,hr,rfl,rfl⟩
 repeat refine ai ?_
 refine aj ?_ ?_<;>intro h1
 ·have hs4:s<4:=by have:=of_decide_eq_true h1;omega
  rw[show Nat.ble 4 s=false from by cases e:Nat.ble 4 s;rfl;have:=Nat.le_of_ble_eq_true e;omega,cond_false] at hr
  repeat refine ai ?_
  refine oc (jN _ _) ?_
  repeat refine ai ?_
  refine aj ?_ ?_<;>intro h2
  ·refine bd ?_
   rw[hr,h2];rfl
  ·rw[h2,Bool.not_false,Bool.true_and] at hr
   generalize da x xs=y at*
   repeat refine ai ?_
   refine aj ?_ ?_<;>intro h3
   ·refine bd ?_
    rw[hr]
    cases (3 - s)<;>simp only[ga,h3,Bool.true_or]
   ·repeat refine ai ?_
    refine ⟨_,_,_,⟨s+1,y,rfl,hs4,?_,rfl,rfl⟩,by omega,rfl,rfl,⟨rfl,rfl,rfl,nd (Ac hs4 (by decide)),trivial⟩,trivial,trivial⟩
    rw[hr]
    rcases (show s=0∨s=1∨s=2∨s=3 by omega) with rfl|rfl|rfl|rfl
    ·show (y==b||_)=_
     rw[h3];rfl
    ·show (y==b||_)=_
     rw[h3];rfl
    ·show (y==b||_)=_
     rw[h3];rfl
    ·exact h3
 ·have hs4:s=4:=by have:=of_decide_eq_false h1;omega
  subst hs4
  refine bd ?_
  rw[hr];rfl
theorem xT (xs:List GateTeam) (a b:Bs):Spec P 159 [.d (am xs),.d (.str a),.d (.str b)] (.d (.bool (ou xs a b))):=by
 refine Spec.of_vc aI aw [.tmp 6] Tryz.func159 rfl rfl rfl rfl (fun hok=>?_)
 refine ⟨fun m l h=>∃(s:Nat) (x:Bs),m=4 - s∧s≤4∧ou xs a b=ga xs (4 - s) x b∧l=[(0,.d (am xs)),(1,.d (.str x)),(2,.d (.str b)),(7,.d (.int .i64 s))]∧h=hp0,
  ⟨_,_,_,⟨0,a,rfl,by decide,rfl,rfl,rfl⟩,rfl,rfl,⟨rfl,rfl,rfl,rfl,trivial⟩,trivial,trivial⟩,?_⟩
 rintro m l hh ⟨s,x,rfl,hs,hr,rfl,rfl⟩
 repeat refine ai ?_
 refine aj ?_ ?_<;>intro h1
 ·have h1:(x==b)=false:=qT h1
  repeat refine ai ?_
  refine oc (fV _ _) ?_
  repeat refine ai ?_
  refine aj ?_ ?_<;>intro h2
  ·have hs4:s<4:=by
    have:=beq_eq_false_iff_ne.1 h2
    omega
   have hu:ga xs (4 - s) x b=(!(da x xs==[])&&ga xs (4 - (s+1)) (da x xs) b):=by
    rw[show 4 - s=(4 - (s+1))+1 from by omega]
    show (x==b||_)=_
    rw[h1];rfl
   rw[hu] at hr
   repeat refine ai ?_
   refine aj ?_ ?_<;>intro h3
   ·obtain ⟨j,hj,ej,_⟩:=dD (p:=fun t:GateTeam=>t.name==x) (xs:=xs) (decide_eq_true (by have:=of_decide_eq_false h3;omega))
    obtain ⟨_,eo⟩:=nO (n:=x) (xs:=xs) (k:=0) (j:=j) (by rw[Nat.zero_add];exact ej)
    repeat refine ai ?_
    refine aB (e:=GateTeam.e) (xs:=xs) (hj) (ej) rfl ?_
    repeat refine ai ?_
    refine aj ?_ ?_<;>intro h4
    ·refine bd ?_
     rw[hr,eo,h4];rfl
    ·repeat refine ai ?_
     refine aB (e:=GateTeam.e) (xs:=xs) (hj) (ej) rfl ?_
     repeat refine ai ?_
     rw[eo,h4,Bool.not_false,Bool.true_and] at hr
     repeat refine ai ?_
     exact ⟨_,_,_,⟨s+1,_,rfl,hs4,hr,rfl,rfl⟩,by omega,rfl,rfl,⟨rfl,rfl,rfl,nd (Ac hs4 (by decide)),trivial⟩,trivial,trivial⟩
   ·have hn:=qT (idx_lt.symm.trans h3)
    rw[qO hn] at hr
    refine bd ?_
    rw[hr];rfl
  ·have hs4:s=4:=by
    have:=beq_iff_eq.1 h2
    omega
   subst hs4
   refine bd ?_
   rw[hr]
   exact h1.symm
 ·have h1:(x==b)=true:=nr h1
  refine bd ?_
  rw[hr]
  cases (4 - s)<;>simp only[ga,h1,Bool.true_or]
def dz (a b:Int):Int:=IntKind.i64.wrap (a+b)
theorem tn {a:Int} (h:IntKind.i64.wrap a=a):dz a 0=a:=by unfold dz;rw[Int.add_zero,h]
theorem AZ (a:Int):IntKind.i64.wrap (IntKind.i64.wrap a)=IntKind.i64.wrap a:=by simp only[IntKind.wrap_i64];omega
theorem px (a b:Int):IntKind.i64.wrap (dz a b)=dz a b:=AZ _
theorem Gn (c:Bool):IntKind.i64.wrap (bif c then 1 else 0)=bif c then 1 else 0:=by cases c<;>rfl
def eC (r:Bs):List GateField→List Bs→Int→Int
 |f::fs,v::vs,n=>eC r fs vs (bif f.kind==1&&f.weighs==r then dz n (iy v) else n)
 |_,_,n=>n
theorem gQ {r:Bs} {fs:List GateField} {vs:List Bs} {i:Nat} {n:Int} (h:i<fs.length) (h2:i<vs.length):eC r (fs.drop i) (vs.drop i) n=eC r (fs.drop (i+1)) (vs.drop (i+1)) (bif fs[i].kind==1&&fs[i].weighs==r then dz n (iy vs[i]) else n):=by
 rw[List.drop_eq_getElem_cons h,List.drop_eq_getElem_cons h2];rfl
theorem iJ {r:Bs} {fs:List GateField} {vs:List Bs} {i:Nat} {n:Int} (h:fs.length≤i):eC r (fs.drop i) (vs.drop i) n=n:=by
 rw[List.drop_of_length_le h];rfl
def eY (L:GateLaw) (o:GateObject) (r:Bs):Int:=bif !(ah L.shapes o.kind o.values.length).2||r==[] then 0 else eC r (ah L.shapes o.kind o.values.length).1 o.values (bif r==o.kind then 1 else 0)
theorem v5 (L:GateLaw) (o:GateObject) (r:Bs):Spec P 160 [st L.e,st o.e,.d (.str r)] (.d (.int .i64 (eY L o r))):=by
 refine Spec.of_vc aI aw [.tmp 6] Tryz.func160 rfl rfl rfl rfl (fun hok=>?_)
 have hvb:=(i0 (o:=o) ⟨hok.2.1,trivial⟩).1
 repeat refine ai ?_
 refine oc (fB _ _) ?_
 repeat refine ai ?_
 refine aj ?_ ?_<;>intro h0
 ·have h0:=nr h0
  repeat refine ai ?_
  refine aj ?_ ?_<;>intro h1
  ·refine nd ?_
   simp only[eY,h0,h1,cond_true,bl]
  ·have hw:eY L o r=eC r (ah L.shapes o.kind o.values.length).1 o.values (bif r==o.kind then 1 else 0):=by simp only[eY,h0,h1,cond_false,bl]
   have hfl:=(cr (xs:=L.shapes) (k:=o.kind) (n:=o.values.length)).2 h0
   rw[hw]
   generalize (ah L.shapes o.kind o.values.length).1=fs at*
   repeat refine ai ?_
   refine aj ?_ ?_<;>intro h2
   ·rw[h2,cond_true]
    repeat refine ai ?_
    refine mX (fs) (fun i (n:Int)=>eC r fs o.values 1=eC r (fs.drop i) (o.values.drop i) n) (fun i (n:Int)=>[(2,.d (.str r)),(4,.ptr 1 0),(9,.d (.int .i64 n)),(31,.d (ab fs)),(32,.d (.int .i64 (fs.map GateField.e).length)),(33,.d (.int .i64 i))]) (fun i (n:Int)=>⟨[(1,.cells 103 (o.e.map .d)),(0,.cells 41 (L.e.map .d))],2,0⟩) (rfl) ?_
    intro i n hi hr
    have hs:fs.length≤big:=by omega
    repeat refine ai ?_
    refine aj ?_ ?_<;>intro g1
    ·have hlt:i<fs.length:=V g1
     have hlt2:i<o.values.length:=by omega
     rw[gQ hlt hlt2] at hr
     repeat refine ai ?_
     refine O (e:=GateField.e) (xs:=fs) (hlt) rfl ?_
     repeat refine ai ?_
     refine aj ?_ ?_<;>intro g2
     ·repeat refine ai ?_
      refine aj ?_ ?_<;>intro g3
      ·have hc:(fs[i].kind==1&&fs[i].weighs==r)=false:=by rw[nr g2,qT g3];rfl
       rw[hc,cond_false] at hr
       repeat refine ai ?_
       exact c6 n hlt hs hr
      ·have hc:(fs[i].kind==1&&fs[i].weighs==r)=true:=by rw[nr g2,nr g3];rfl
       rw[hc,cond_true] at hr
       repeat refine ai ?_
       refine O (e:=eB) (xs:=o.values) (hlt2) rfl ?_
       repeat refine ai ?_
       refine oc (nU _) ?_
       repeat refine ai ?_
       exact c6 (dz n (iy o.values[i])) hlt hs hr
     ·have hc:(fs[i].kind==1&&fs[i].weighs==r)=false:=by rw[qT g2];rfl
      rw[hc,cond_false] at hr
      repeat refine ai ?_
      exact c6 n hlt hs hr
    ·refine nd ?_
     rw[hr,iJ (Z g1)]
   ·rw[h2,cond_false]
    repeat refine ai ?_
    refine mX (fs) (fun i (n:Int)=>eC r fs o.values 0=eC r (fs.drop i) (o.values.drop i) n) (fun i (n:Int)=>[(2,.d (.str r)),(4,.ptr 1 0),(9,.d (.int .i64 n)),(31,.d (ab fs)),(32,.d (.int .i64 (fs.map GateField.e).length)),(33,.d (.int .i64 i))]) (fun i (n:Int)=>⟨[(1,.cells 103 (o.e.map .d)),(0,.cells 41 (L.e.map .d))],2,0⟩) (rfl) ?_
    intro i n hi hr
    have hs:fs.length≤big:=by omega
    repeat refine ai ?_
    refine aj ?_ ?_<;>intro g1
    ·have hlt:i<fs.length:=V g1
     have hlt2:i<o.values.length:=by omega
     rw[gQ hlt hlt2] at hr
     repeat refine ai ?_
     refine O (e:=GateField.e) (xs:=fs) (hlt) rfl ?_
     repeat refine ai ?_
     refine aj ?_ ?_<;>intro g2
     ·repeat refine ai ?_
      refine aj ?_ ?_<;>intro g3
      ·have hc:(fs[i].kind==1&&fs[i].weighs==r)=false:=by rw[nr g2,qT g3];rfl
       rw[hc,cond_false] at hr
       repeat refine ai ?_
       exact c6 n hlt hs hr
      ·have hc:(fs[i].kind==1&&fs[i].weighs==r)=true:=by rw[nr g2,nr g3];rfl
       rw[hc,cond_true] at hr
       repeat refine ai ?_
       refine O (e:=eB) (xs:=o.values) (hlt2) rfl ?_
       repeat refine ai ?_
       refine oc (nU _) ?_
       repeat refine ai ?_
       exact c6 (dz n (iy o.values[i])) hlt hs hr
     ·have hc:(fs[i].kind==1&&fs[i].weighs==r)=false:=by rw[qT g2];rfl
      rw[hc,cond_false] at hr
      repeat refine ai ?_
      exact c6 n hlt hs hr
    ·refine nd ?_
     rw[hr,iJ (Z g1)]
 ·refine nd ?_
  simp only[eY,h0,Bool.true_or,cond_true]
end Go.Vc
end
section
namespace Go.Vc
open Go.Proofs
set_option maxRecDepth 100000
theorem Ax {v:Bs} (h:decide (i5 v>0)=true):iy v=i5 v:=by
 have:=of_decide_eq_true h
 unfold i5 iy at*
 cases e:dL v with
 |none=>rw[e] at this;simp at this
 |some n=>rfl
theorem Ay {v:Bs} (h:decide (i5 v>0)=false):iy v=0:=by
 have:=of_decide_eq_false h
 unfold i5 iy at*
 cases e:dL v with
 |none=>rfl
 |some n=>
  rw[e] at this
  simp only at this ⊢
  have:=mQ e
  omega
theorem vn (L:GateLaw) (o:GateObject) (r:Bs):Spec P 156 [st L.e,st o.e,.d (.str r)] (.d (.int .i64 (eY L o r))):=by
 refine Spec.of_vc aI aw [.tmp 6] Tryz.func156 rfl rfl rfl rfl (fun hok=>?_)
 have hvb:=(i0 (o:=o) ⟨hok.2.1,trivial⟩).1
 repeat refine ai ?_
 refine oc (eD _ _) ?_
 repeat refine ai ?_
 refine aj ?_ ?_<;>intro h0
 ·have h0:=nr h0
  repeat refine ai ?_
  refine aj ?_ ?_<;>intro h1
  ·refine nd ?_
   simp only[eY,h0,h1,cond_true,bl]
  ·have hw:eY L o r=eC r (ah L.shapes o.kind o.values.length).1 o.values (bif r==o.kind then 1 else 0):=by simp only[eY,h0,h1,cond_false,bl]
   have hfl:=(cr (xs:=L.shapes) (k:=o.kind) (n:=o.values.length)).2 h0
   rw[hw]
   generalize (ah L.shapes o.kind o.values.length).1=fs at*
   repeat refine ai ?_
   refine aj ?_ ?_<;>intro h2
   ·rw[h2,cond_true]
    repeat refine ai ?_
    refine mX (fs) (fun i (n:Int)=>eC r fs o.values 1=eC r (fs.drop i) (o.values.drop i) n∧IntKind.i64.wrap n=n) (fun i (n:Int)=>[(2,.d (.str r)),(4,.ptr 1 0),(7,.d (ab fs)),(9,.d (.int .i64 n)),(10,.d (.int .i64 i))]) (fun i (n:Int)=>⟨[(1,.cells 103 (o.e.map .d)),(0,.cells 41 (L.e.map .d))],2,0⟩) (⟨rfl,rfl⟩) ?_
    intro i n hi hr
    obtain ⟨hr,hwn⟩:=hr
    have hs:fs.length≤big:=by omega
    repeat refine ai ?_
    refine aj ?_ ?_<;>intro g1
    ·have hlt:i<fs.length:=V g1
     have hlt2:i<o.values.length:=by omega
     rw[gQ hlt hlt2] at hr
     repeat refine ai ?_
     refine O (e:=eB) (xs:=o.values) (hlt2) rfl ?_
     repeat refine ai ?_
     refine oc (ln _) ?_
     repeat refine ai ?_
     refine O (e:=GateField.e) (xs:=fs) (hlt) rfl ?_
     repeat refine ai ?_
     refine aj ?_ ?_<;>intro g2
     ·repeat refine ai ?_
      refine O (e:=GateField.e) (xs:=fs) (hlt) rfl ?_
      repeat refine ai ?_
      refine aj ?_ ?_<;>intro g3
      ·have hc:(fs[i].kind==1&&fs[i].weighs==r)=true:=by rw[g2];exact g3
       rw[hc,cond_true] at hr
       repeat refine ai ?_
       refine aj ?_ ?_<;>intro g4
       ·rw[Ax g4] at hr
        repeat refine ai ?_
        exact c6 (dz n (i5 o.values[i])) hlt hs ⟨hr,px _ _⟩
       ·rw[Ay g4,tn hwn] at hr
        repeat refine ai ?_
        exact c6 n hlt hs ⟨hr,hwn⟩
      ·have hc:(fs[i].kind==1&&fs[i].weighs==r)=false:=by rw[g2];exact g3
       rw[hc,cond_false] at hr
       repeat refine ai ?_
       exact c6 n hlt hs ⟨hr,hwn⟩
     ·have hc:(fs[i].kind==1&&fs[i].weighs==r)=false:=by rw[g2];rfl
      rw[hc,cond_false] at hr
      repeat refine ai ?_
      exact c6 n hlt hs ⟨hr,hwn⟩
    ·refine nd ?_
     rw[hr,iJ (Z g1)]
   ·rw[h2,cond_false]
    repeat refine ai ?_
    refine mX (fs) (fun i (n:Int)=>eC r fs o.values 0=eC r (fs.drop i) (o.values.drop i) n∧IntKind.i64.wrap n=n) (fun i (n:Int)=>[(2,.d (.str r)),(4,.ptr 1 0),(7,.d (ab fs)),(9,.d (.int .i64 n)),(10,.d (.int .i64 i))]) (fun i (n:Int)=>⟨[(1,.cells 103 (o.e.map .d)),(0,.cells 41 (L.e.map .d))],2,0⟩) (⟨rfl,rfl⟩) ?_
    intro i n hi hr
    obtain ⟨hr,hwn⟩:=hr
    have hs:fs.length≤big:=by omega
    repeat refine ai ?_
    refine aj ?_ ?_<;>intro g1
    ·have hlt:i<fs.length:=V g1
     have hlt2:i<o.values.length:=by omega
     rw[gQ hlt hlt2] at hr
     repeat refine ai ?_
     refine O (e:=eB) (xs:=o.values) (hlt2) rfl ?_
     repeat refine ai ?_
     refine oc (ln _) ?_
     repeat refine ai ?_
     refine O (e:=GateField.e) (xs:=fs) (hlt) rfl ?_
     repeat refine ai ?_
     refine aj ?_ ?_<;>intro g2
     ·repeat refine ai ?_
      refine O (e:=GateField.e) (xs:=fs) (hlt) rfl ?_
      repeat refine ai ?_
      refine aj ?_ ?_<;>intro g3
      ·have hc:(fs[i].kind==1&&fs[i].weighs==r)=true:=by rw[g2];exact g3
       rw[hc,cond_true] at hr
       repeat refine ai ?_
       refine aj ?_ ?_<;>intro g4
       ·rw[Ax g4] at hr
        repeat refine ai ?_
        exact c6 (dz n (i5 o.values[i])) hlt hs ⟨hr,px _ _⟩
       ·rw[Ay g4,tn hwn] at hr
        repeat refine ai ?_
        exact c6 n hlt hs ⟨hr,hwn⟩
      ·have hc:(fs[i].kind==1&&fs[i].weighs==r)=false:=by rw[g2];exact g3
       rw[hc,cond_false] at hr
       repeat refine ai ?_
       exact c6 n hlt hs ⟨hr,hwn⟩
     ·have hc:(fs[i].kind==1&&fs[i].weighs==r)=false:=by rw[g2];rfl
      rw[hc,cond_false] at hr
      repeat refine ai ?_
      exact c6 n hlt hs ⟨hr,hwn⟩
    ·refine nd ?_
     rw[hr,iJ (Z g1)]
 ·refine nd ?_
  simp only[eY,h0,Bool.true_or,cond_true]
def pX (L:GateLaw) (t r:Bs):List GateObject→Int→Int
 |[],n=>n
 |o::os,n=>pX L t r os (bif ou L.teams o.team t then dz n (eY L o r) else n)
def tx (L:GateLaw) (b:GateBook) (t r:Bs):Int:=pX L t r b.objects 0
theorem pW {L:GateLaw} {t r:Bs} {os:List GateObject} {i:Nat} {n:Int} (h:i<os.length):pX L t r (os.drop i) n=pX L t r (os.drop (i+1)) (bif ou L.teams os[i].team t then dz n (eY L os[i] r) else n):=by
 rw[List.drop_eq_getElem_cons h];rfl
theorem tw {L:GateLaw} {t r:Bs} {os:List GateObject} {i:Nat} {n:Int} (h:os.length≤i):pX L t r (os.drop i) n=n:=by
 rw[List.drop_of_length_le h];rfl
theorem zy (L:GateLaw) (b:GateBook) (t r:Bs):Spec P 99 [st L.e,st b.e,.d (.str t),.d (.str r)] (.d (.int .i64 (tx L b t r))):=by
 refine Spec.of_vc aI aw [.tmp 8] Tryz.func99 rfl rfl rfl rfl (fun hok=>?_)
 have hs:=(bV (dw hok.2)).1
 repeat refine ai ?_
 refine mX (b.objects) (fun i (n:Int)=>tx L b t r=pX L t r (b.objects.drop i) n) (fun i (n:Int)=>[(2,.d (.str t)),(3,.d (.str r)),(4,.ptr 0 0),(5,.ptr 1 0),(9,.d (.int .i64 n)),(13,.d (aM b.objects)),(14,.d (.int .i64 (b.objects.map GateObject.e).length)),(15,.d (.int .i64 i))]) (fun i (n:Int)=>⟨[(1,.cells 48 (b.e.map .d)),(0,.cells 41 (L.e.map .d))],2,0⟩) (rfl) ?_
 intro i n hi hr
 repeat refine ai ?_
 refine aj ?_ ?_<;>intro g1
 ·have hlt:i<b.objects.length:=V g1
  rw[pW hlt] at hr
  skip
  repeat refine ai ?_
  refine O (e:=GateObject.e) (xs:=b.objects) (hlt) rfl ?_
  repeat refine ai ?_
  refine oc (xT _ _ _) ?_
  repeat refine ai ?_
  refine aj ?_ ?_<;>intro g2
  ·rw[g2,cond_true] at hr
   skip
   skip
   repeat refine ai ?_
   refine oc (v5 _ _ _) ?_
   repeat refine ai ?_
   exact c6 (dz n (eY L b.objects[i] r)) hlt hs hr
  ·rw[g2,cond_false] at hr
   repeat refine ai ?_
   exact c6 n hlt hs hr
 ·refine nd ?_
  rw[hr,tw (Z g1)]
theorem yU (L:GateLaw) (b:GateBook) (t r:Bs):Spec P 94 [st L.e,st b.e,.d (.str t),.d (.str r)] (.d (.int .i64 (tx L b t r))):=by
 refine Spec.of_vc aI aw [.tmp 8] Tryz.func94 rfl rfl rfl rfl (fun hok=>?_)
 have hs:=(bV (dw hok.2)).1
 repeat refine ai ?_
 refine mX (b.objects) (fun i (n:Int)=>tx L b t r=pX L t r (b.objects.drop i) n) (fun i (n:Int)=>[(2,.d (.str t)),(3,.d (.str r)),(4,.ptr 0 0),(5,.ptr 1 0),(9,.d (.int .i64 n)),(10,.d (.int .i64 i))]) (fun i (n:Int)=>⟨[(1,.cells 48 (b.e.map .d)),(0,.cells 41 (L.e.map .d))],2,0⟩) (rfl) ?_
 intro i n hi hr
 repeat refine ai ?_
 refine aj ?_ ?_<;>intro g1
 ·have hlt:i<b.objects.length:=V g1
  rw[pW hlt] at hr
  repeat refine ai ?_
  refine ak ?_
  repeat refine ai ?_
  refine O (e:=GateObject.e) (xs:=b.objects) (hlt) rfl ?_
  repeat refine ai ?_
  refine oc (w3 _ _ _) ?_
  repeat refine ai ?_
  refine aj ?_ ?_<;>intro g2
  ·rw[g2,cond_true] at hr
   repeat refine ai ?_
   refine ak ?_
   repeat refine ai ?_
   refine O (e:=GateObject.e) (xs:=b.objects) (hlt) rfl ?_
   repeat refine ai ?_
   refine oc (vn _ _ _) ?_
   repeat refine ai ?_
   exact c6 (dz n (eY L b.objects[i] r)) hlt hs hr
  ·rw[g2,cond_false] at hr
   repeat refine ai ?_
   exact c6 n hlt hs hr
 ·refine nd ?_
  rw[hr,tw (Z g1)]
def mN (t r:Bs):List GatePurse→Int→Int
 |[],n=>n
 |p::ps,n=>mN t r ps (bif p.team==t&&p.resource==r then dz n p.amount else n)
def D6 (b:GateBook) (t r:Bs):Int:=mN t r b.purses 0
theorem BD {t r:Bs} {os:List GatePurse} {i:Nat} {n:Int} (h:i<os.length):mN t r (os.drop i) n=mN t r (os.drop (i+1)) (bif os[i].team==t&&os[i].resource==r then dz n os[i].amount else n):=by
 rw[List.drop_eq_getElem_cons h];rfl
theorem CP {t r:Bs} {os:List GatePurse} {i:Nat} {n:Int} (h:os.length≤i):mN t r (os.drop i) n=n:=by
 rw[List.drop_of_length_le h];rfl
theorem DY (b:GateBook) (t r:Bs):Spec P 177 [st b.e,.d (.str t),.d (.str r)] (.d (.int .i64 (D6 b t r))):=by
 refine Spec.of_vc aI aw [.tmp 6] Tryz.func177 rfl rfl rfl rfl (fun hok=>?_)
 have hs:=(bV (dw hok)).2.2.2
 repeat refine ai ?_
 refine mX (b.purses) (fun i (n:Int)=>D6 b t r=mN t r (b.purses.drop i) n) (fun i (n:Int)=>[(1,.d (.str t)),(2,.d (.str r)),(3,.ptr 0 0),(7,.d (.int .i64 n)),(8,.d (.int .i64 i))]) (fun i (n:Int)=>⟨[(0,.cells 48 (b.e.map .d))],1,0⟩) (rfl) ?_
 intro i n hi hr
 repeat refine ai ?_
 refine aj ?_ ?_<;>intro g1
 ·have hlt:i<b.purses.length:=V g1
  rw[BD hlt] at hr
  repeat refine ai ?_
  refine O (e:=GatePurse.e) (xs:=b.purses) (hlt) rfl ?_
  repeat refine ai ?_
  refine aj ?_ ?_<;>intro g2
  ·repeat refine ai ?_
   refine O (e:=GatePurse.e) (xs:=b.purses) (hlt) rfl ?_
   repeat refine ai ?_
   refine aj ?_ ?_<;>intro g3
   ·rw[g2,show (b.purses[i].resource==r)=true from g3,Bool.and_true,cond_true] at hr
    repeat refine ai ?_
    refine O (e:=GatePurse.e) (xs:=b.purses) (hlt) rfl ?_
    repeat refine ai ?_
    exact c6 (dz n b.purses[i].amount) hlt hs hr
   ·rw[g2,show (b.purses[i].resource==r)=false from g3,Bool.and_false,cond_false] at hr
    repeat refine ai ?_
    exact c6 n hlt hs hr
  ·rw[g2,Bool.false_and,cond_false] at hr
   repeat refine ai ?_
   exact c6 n hlt hs hr
 ·refine nd ?_
  rw[hr,CP (Z g1)]
end Go.Vc
end
section
namespace Go.Vc
open Go.Proofs
abbrev fZ:=Bs×Bs
def sN (k:fZ):List D:=[.str k.1,.str k.2]
def jj (e:fZ×Int):List D×AV:=(sN e.1,.d (.int .i64 e.2))
def oY (k k':fZ):Bool:=k.1==k'.1&&k.2==k'.2
def pj:List (fZ×Int)→fZ→Int→List (fZ×Int)
 |[],k,v=>[(k,v)]
 |(k',a)::r,k,v=>bif oY k k' then (k',v)::r else (k',a)::pj r k v
def cI:List (fZ×Int)→fZ→Option Int
 |[],_=>none
 |(k',a)::r,k=>bif oY k k' then some a else cI r k
def rU:List (fZ×Int)→fZ→Int→List (fZ×Int)
 |[],_,_=>[]
 |(k',a)::r,k,v=>bif oY k k' then (k',dz a v)::r else (k',a)::rU r k v
theorem vU (k k':fZ):cK (sN k) (sN k')=oY k k':=rfl
theorem xH (k:fZ) (v:Int):∀en:List (fZ×Int),bn (en.map jj) (sN k) (.d (.int .i64 v))=(pj en k v).map jj
 |[]=>rfl
 |(k',a)::r=>by
  simp only[List.map_cons,jj,bn,vU,pj]
  cases oY k k' with
  |true=>rfl
  |false=>
   simp only[cond_false,List.map_cons,jj,List.cons.injEq,true_and]
   exact xH k v r
theorem tT (k:fZ):∀en:List (fZ×Int),ar (en.map jj) (sN k)=(cI en k).map fun v=> .d (.int .i64 v)
 |[]=>rfl
 |(k',a)::r=>by
  simp only[List.map_cons,jj,ar,vU,cI]
  cases oY k k' with
  |true=>rfl
  |false=>exact tT k r
theorem AA {k:fZ} {v:Int}:∀{en:List (fZ×Int)} {i:Nat},cI en k=some v→∃j,∃k':fZ,eu (en.map jj) (sN k) i=some (i+j,.d (.int .i64 v))∧en[j]? =some (k',v)∧∀x,rU en k x=en.set j (k',dz v x)
 |[],i,h=>by cases h
 |(k',a)::r,i,h=>by
  simp only[List.map_cons,jj,eu,vU]
  simp only[cI] at h
  cases he:oY k k' with
  |true=>
   rw[he,cond_true] at h
   cases h
   exact ⟨0,k',rfl,rfl,fun x=>by simp only[rU,he,cond_true,List.set_cons_zero]⟩
  |false=>
   rw[he,cond_false] at h
   obtain ⟨j,k2,h1,h2,h3⟩:=AA (i:=i+1) h
   exact ⟨j+1,k2,by rw[h1,show i+1+j=i+(j+1) from by omega],h2,fun x=>by simp only[rU,he,cond_false,h3,List.set_cons_succ]⟩
theorem rf (n:Nat):∀en:List (fZ×Int),DO n (en.map jj)
 |[]=>trivial
 |e::r=>⟨rfl,rf n r⟩
theorem eqA_iff {k k':fZ}:oY k k'=true↔k=k':=by
 obtain ⟨a,b⟩:=k
 obtain ⟨c,d⟩:=k'
 simp[oY]
theorem rN (k:fZ):oY k k=true:=eqA_iff.2 rfl
theorem Fi {k k':fZ} (h:k≠k'):oY k k'=false:=by
 cases e:oY k k' with
 |false=>rfl
 |true=>exact absurd (eqA_iff.1 e) h
theorem rh (k:fZ) (v:Int):∀(en:List (fZ×Int)) (k':fZ),cI (pj en k v) k'=bif oY k' k then some v else cI en k'
 |[],k'=>by simp only[pj,cI]
 |(k2,a)::r,k'=>by
  simp only[pj]
  cases he:oY k k2 with
  |true=>
   rw[cond_true]
   simp only[cI]
   rw[eqA_iff.1 he]
   cases oY k' k2<;>rfl
  |false=>
   rw[cond_false]
   simp only[cI]
   cases h2:oY k' k2 with
   |true=>
    rw[cond_true,cond_true]
    rw[eqA_iff.1 h2]
    have:oY k2 k=false:=by
     cases e:oY k2 k with
     |false=>rfl
     |true=>rw[eqA_iff.1 e,rN] at he;cases he
    rw[this];rfl
   |false=>rw[cond_false,cond_false];exact rh k v r k'
theorem xM (k:fZ) (x:Int):∀(en:List (fZ×Int)) (k':fZ),cI (rU en k x) k'=(cI en k').map fun v=>bif oY k' k then dz v x else v
 |[],k'=>rfl
 |(k2,a)::r,k'=>by
  simp only[rU]
  cases he:oY k k2 with
  |true=>
   rw[cond_true]
   simp only[cI]
   have e:=eqA_iff.1 he
   subst e
   cases h2:oY k' k with
   |true=>rfl
   |false=>
    simp only[cond_false]
    cases cI r k'<;>rfl
  |false=>
   rw[cond_false]
   simp only[cI]
   cases h2:oY k' k2 with
   |true=>
    have e:=eqA_iff.1 h2
    subst e
    have:oY k' k=false:=by
     cases e:oY k' k with
     |false=>rfl
     |true=>rw[eqA_iff.1 e,rN] at he;cases he
    simp[this]
   |false=>rw[cond_false,cond_false];exact xM k x r k'
def pw (g:GateLedger):fZ:=(g.team,g.resource)
def DK (p:GatePurse):fZ:=(p.team,p.resource)
def Em (f:GateLedger→Int) (gs:List GateLedger):List (fZ×Int):=gs.foldl (fun en g=>pj en (pw g) (f g)) []
def DP (en:List (fZ×Int)) (ps:List GatePurse):List (fZ×Int):=ps.foldl (fun en p=>rU en (DK p) p.amount) en
theorem Dr (f:GateLedger→Int) (gs:List GateLedger) (g:GateLedger):Em f (gs++[g])=pj (Em f gs) (pw g) (f g):=by simp[Em]
theorem Dp (en:List (fZ×Int)) (ps:List GatePurse) (p:GatePurse):DP en (ps++[p])=rU (DP en ps) (DK p) p.amount:=by simp[DP]
theorem rl (k:fZ):∀(ps:List GatePurse) (en:List (fZ×Int)),cI (DP en ps) k=(cI en k).map fun v=>mN k.1 k.2 ps v
 |[],en=>by simp[DP,mN]
 |p::ps,en=>by
  show cI (DP (rU en (DK p) p.amount) ps) k=_
  rw[rl k ps,xM]
  cases cI en k with
  |none=>rfl
  |some v=>
   simp only[Option.map_some,mN]
   congr 2
   have:oY k (DK p)=(p.team==k.1&&p.resource==k.2):=by
    simp only[oY,DK]
    rw[BEq.comm (a:=k.1),BEq.comm (a:=k.2)]
   rw[this]
def DV (t r:Bs):List GatePurse→Int
 |[]=>0
 |p::ps=>(bif p.team==t&&p.resource==r then p.amount else 0)+DV t r ps
theorem mM (t r:Bs):∀(ps:List GatePurse) (n:Int),IntKind.i64.wrap n=n→mN t r ps n=IntKind.i64.wrap (n+DV t r ps)
 |[],n,h=>by simp only[mN,DV,Int.add_zero,h]
 |p::ps,n,h=>by
  simp only[mN,DV]
  cases p.team==t&&p.resource==r with
  |false=>rw[cond_false,cond_false,mM t r ps n h,Int.zero_add]
  |true=>
   rw[cond_true,cond_true,mM t r ps _ (px _ _)]
   unfold dz
   simp only[IntKind.wrap_i64]
   omega
theorem BB (t r:Bs) (ps:List GatePurse) (a b:Int):mN t r ps (dz a b)=dz (dz b (mN t r ps 0)) a:=by
 rw[mM t r ps _ (px _ _),mM t r ps 0 rfl]
 unfold dz
 simp only[IntKind.wrap_i64]
 omega
theorem BL (a b:Bs):gg a b a b=false:=by simp[gg,jm]
theorem xK {a b c d e f:Bs} (h:gg a b c d=true) (k:gg c d e f=true):gg a b e f=true:=by
 simp only[gg,Bool.or_eq_true,Bool.and_eq_true,beq_iff_eq] at h k ⊢
 rcases h with h|⟨rfl,h⟩
 ·rcases k with k|⟨rfl,k⟩
  ·exact .inl (ni h k)
  ·exact .inl h
 ·rcases k with k|⟨rfl,k⟩
  ·exact .inl k
  ·exact .inr ⟨rfl,ni h k⟩
def mD (p:Option GateLedger) (g:GateLedger):Bool:=match p with|some q=>gg q.team q.resource g.team g.resource|none=>true
theorem uu:∀{gs:List GateLedger} {q:GateLedger},aq mD (some q) gs=true→∀g∈gs,gg q.team q.resource g.team g.resource=true
 |[],_,_,g,h=>by cases h
 |x::gs,q,hc,g,h=>by
  simp only[aq,mD,Bool.and_eq_true] at hc
  rcases List.mem_cons.1 h with rfl|h
  ·exact hc.1
  ·exact xK hc.1 (uu hc.2 g h)
theorem yk (f:GateLedger→Int) (k:fZ):∀(gs:List GateLedger) (en:List (fZ×Int)),(∀g∈gs,pw g≠k)→cI (gs.foldl (fun en g=>pj en (pw g) (f g)) en) k=cI en k
 |[],en,_=>rfl
 |g::gs,en,h=>by
  rw[List.foldl_cons,yk f k gs _ (fun x hx=>h x (List.mem_cons_of_mem _ hx)),rh,Fi (fun e=>h g List.mem_cons_self e.symm)]
  rfl
theorem rO (f:GateLedger→Int):∀{gs:List GateLedger} {p:Option GateLedger} (en:List (fZ×Int)),aq mD p gs=true→∀g∈gs,cI (gs.foldl (fun en g=>pj en (pw g) (f g)) en) (pw g)=some (f g)
 |[],_,_,_,g,h=>by cases h
 |x::gs,p,en,hc,g,h=>by
  simp only[aq,Bool.and_eq_true] at hc
  rw[List.foldl_cons]
  rcases List.mem_cons.1 h with rfl|h
  ·rw[yk f (pw g) gs _ (fun y hy e=>?_),rh,rN]
   ·rfl
   ·have:=uu hc.2 y hy
    simp only[pw,Prod.mk.injEq] at e
    rw[e.1,e.2,BL] at this
    cases this
  ·exact rO f _ hc.2 g h
theorem jl {α:Type} {r r':Option α→α→Bool} (h:∀p x,r p x=true→r' p x=true):∀{xs:List α} {p:Option α},aq r p xs=true→aq r' p xs=true
 |[],_,_=>rfl
 |x::xs,p,hc=>by
  simp only[aq,Bool.and_eq_true] at hc ⊢
  exact ⟨h _ _ hc.1,jl h hc.2⟩
theorem uo {α:Type} {r:Option α→α→Bool} {q:α→Bool}:∀{xs:List α} {p:Option α},aq (fun p x=>r p x&&q x) p xs=(aq r p xs&&xs.all q)
 |[],_=>rfl
 |x::xs,p=>by
  simp only[aq,List.all_cons,uo (xs:=xs)]
  cases r p x<;>cases q x<;>simp
end Go.Vc
end
