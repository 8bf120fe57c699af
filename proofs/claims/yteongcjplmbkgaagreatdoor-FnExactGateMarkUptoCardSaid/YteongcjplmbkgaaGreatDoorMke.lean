/- Part 5 of a proof: Contracts: GateCheck of the program. Contracts: copies of objects; values that are not set. Contracts: values that are not set. Rows in which each stands behind what it reads: one by one (greedy) and depth first come to the same. Plain Lean, no program. What a field's mends read; rows of fields: pure facts. Contracts: mends of the specification. Contracts: what a field's mends read (a closure), depth first (a closure that calls itself), rows of fields. Contracts: the walk depth first, a closure that calls itself. Contracts: rows of fields. Mended values: the order of the fields does not count, -/
import Derived.Test.YteongcjplmbkgaaGreatDoorMka
import Derived.Test.YteongcjplmbkgaaGreatDoorMkb
import Derived.Test.YteongcjplmbkgaaGreatDoorMkc
import Derived.Test.YteongcjplmbkgaaGreatDoorMkd
set_option linter.unusedVariables false
set_option linter.unusedSimpArgs false
section
namespace Go.Vc
open Go.Proofs
set_option maxRecDepth 100000
def yq (p:Int×Int):AV:=bif p.1==0 then .val .nilIface else .iface 264 (.at_ [.int .i64 p.1,.int .i64 p.2])
theorem Ed {b:Bool} (h:b=false):AV.iface 264 (.at_ [.int .i64 1,.int .i64 0])=yq (bif b then (0,0) else (1,0)):=by rw[h];rfl
theorem Ee {b:Bool} (h:b=true):AV.val .nilIface=yq (bif b then (0,0) else (1,0)):=by rw[h];rfl
theorem Df {p:Int×Int} {a b:Int} (h:p=(a,b)) (ha:(a==0)=false):AV.iface 264 (.at_ [.int .i64 a,.int .i64 b])=yq p:=by rw[h,yq,ha];rfl
theorem Bw {x:Int}:eX x 0 1000000=(!decide (x<0)&& !decide (x>1000000)):=by
 unfold eX
 by_cases h1:x<0<;>by_cases h2:x>1000000<;>simp[h1,h2]<;>omega
theorem wQ (xs:List GateShape) (o:GateObject):Spec P 213 [.d (aa xs),st o.e] (yq (bif jL xs o&&aH xs then (0,0) else (1,0))):=by
 refine Spec.of_vc aG au [.tmp 4] Tryz.func213 rfl rfl rfl rfl (fun hok=>?_)
 repeat refine ai ?_
 refine oc (fo _ _) ?_
 repeat' first
  |refine ai ?_
  |(refine aj ?_ ?_<;>intro h)
  |refine oc (eY _) ?_
  |refine oc (cZ _) ?_
  |refine oc (fp _) ?_
 all_goals first
  |(refine Ed ?_;(try simp only[Bool.not_eq_true',Bool.not_eq_false',List.length_map] at*);simp only[jL,Bw, *,cond_true,cond_false,bl];done)
  |(refine Ee ?_;(try simp only[Bool.not_eq_true',Bool.not_eq_false',List.length_map] at*);simp only[jL,Bw, *,cond_true,cond_false,bl];done)
theorem rQ (xs:List GateShape) (o:GateObject):Spec P 214 [.d (aa xs),st o.e] (yq (e7 (ag xs o.kind o.values.length).1 o.values 0)):=by
 refine Spec.of_vc aG au [.tmp 4] Tryz.func214 rfl rfl rfl rfl (fun hok=>?_)
 have hb:=iM (o:=o) ⟨hok.2.1,trivial⟩
 repeat refine ai ?_
 refine oc (fo _ _) ?_
 obtain ⟨hl,_⟩:=co (xs:=xs) (k:=o.kind) (n:=o.values.length)
 generalize (ag xs o.kind o.values.length).1=fs at*
 repeat refine ai ?_
 refine dX (fs) (fun i=>e7 fs o.values 0=e7 (fs.drop i) (o.values.drop i) i) (fun i=>[(3,.ptr 0 0),(15,.d (ab fs)),(16,.d (.int .i64 (fs.map GateField.e).length)),(17,.d (.int .i64 i))]) (fun i=>⟨[(0,.cells 103 (o.e.map .d))],1,0⟩) (rfl) ?_
 intro i hi hr
 have hs:fs.length≤ap:=by omega
 repeat refine ai ?_
 refine aj ?_ ?_<;>intro g1
 ·have hlt:i<fs.length:=V g1
  have hlt2:i<o.values.length:=by omega
  rw[tg hlt hlt2] at hr
  repeat refine ai ?_
  refine U (e:=GateField.e) (xs:=fs) (hlt) rfl ?_
  repeat refine ai ?_
  refine aj ?_ ?_<;>intro g2
  ·repeat refine ai ?_
   refine U (e:=eB) (xs:=o.values) (hlt2) rfl ?_
   repeat refine ai ?_
   refine aj ?_ ?_<;>intro g3
   ·refine Df ?_ rfl
    simp only[hr, *,cond_true,cond_false]
   ·repeat refine ai ?_
    refine ak ?_
    repeat refine ai ?_
    refine U (e:=eB) (xs:=o.values) (hlt2) rfl ?_
    repeat refine ai ?_
    refine aj ?_ ?_<;>intro g4
    ·repeat refine ai ?_
     refine U (e:=eB) (xs:=o.values) (hlt2) rfl ?_
     repeat refine ai ?_
     refine oc (ez _ _) ?_
     repeat refine ai ?_
     refine aj ?_ ?_<;>intro g5
     ·simp only[bne,cond_true,cond_false,Bool.not_eq_true',Bool.not_eq_false'] at*
      refine Df ?_ rfl
      first|(simp only[hr, *,cond_true,cond_false];done)|(simp_all;done)
     ·simp only[bne,cond_true,cond_false,Bool.not_eq_true',Bool.not_eq_false'] at*
      have hq:e7 fs o.values 0=e7 (fs.drop (i+1)) (o.values.drop (i+1)) (i+1):=by first|(simp only[hr, *,cond_true,cond_false];done)|(simp_all;done)
      repeat refine ai ?_
      exact bX hlt hs hq
    ·repeat refine ai ?_
     refine an ?_
     simp only[bne,cond_true,cond_false,Bool.not_eq_true',Bool.not_eq_false'] at*
     have hq:e7 fs o.values 0=e7 (fs.drop (i+1)) (o.values.drop (i+1)) (i+1):=by first|(simp only[hr, *,cond_true,cond_false];done)|(simp_all;done)
     repeat refine ai ?_
     exact bX hlt hs hq
  ·repeat refine ai ?_
   refine ak ?_
   repeat refine ai ?_
   refine U (e:=eB) (xs:=o.values) (hlt2) rfl ?_
   repeat refine ai ?_
   refine aj ?_ ?_<;>intro g4
   ·repeat refine ai ?_
    refine U (e:=eB) (xs:=o.values) (hlt2) rfl ?_
    repeat refine ai ?_
    refine oc (ez _ _) ?_
    repeat refine ai ?_
    refine aj ?_ ?_<;>intro g5
    ·simp only[bne,cond_true,cond_false,Bool.not_eq_true',Bool.not_eq_false'] at*
     refine Df ?_ rfl
     first|(simp only[hr, *,cond_true,cond_false];done)|(simp_all;done)
    ·simp only[bne,cond_true,cond_false,Bool.not_eq_true',Bool.not_eq_false'] at*
     have hq:e7 fs o.values 0=e7 (fs.drop (i+1)) (o.values.drop (i+1)) (i+1):=by first|(simp only[hr, *,cond_true,cond_false];done)|(simp_all;done)
     repeat refine ai ?_
     exact bX hlt hs hq
   ·repeat refine ai ?_
    refine an ?_
    simp only[bne,cond_true,cond_false,Bool.not_eq_true',Bool.not_eq_false'] at*
    have hq:e7 fs o.values 0=e7 (fs.drop (i+1)) (o.values.drop (i+1)) (i+1):=by first|(simp only[hr, *,cond_true,cond_false];done)|(simp_all;done)
    repeat refine ai ?_
    exact bX hlt hs hq
 ·have e:e7 fs o.values 0=(0,0):=by rw[hr,xb (Z g1)]
  rw[e]
  rfl
theorem Aq {fs:List GateField} {vs:List Bs}:∀{i:Nat},((e7 fs vs i).1==0)=true→e7 fs vs i=(0,0):=by
 induction fs generalizing vs with
 |nil=>intro i _;rfl
 |cons f fs ih=>
  intro i h
  cases vs with
  |nil=>rfl
  |cons v vs=>
   simp only[e7] at h ⊢
   cases h1:v==[]<;>cases h2:f.must<;>cases h3:da f v<;>simp only[h1,h2,h3,cond_true,cond_false] at h ⊢ <;>first|exact ih h|(simp at h;done)
theorem jJ (xs:List GateShape) (o:GateObject):Spec P 183 [.d (aa xs),st o.e] (Bf (i0 xs o)):=by
 refine Spec.of_vc aG au [.tmp 4,.tmp 5] Tryz.func183 rfl rfl rfl rfl (fun hok=>?_)
 have hform:=wQ xs o
 have hfields:=rQ xs o
 have hpair:i0 xs o=bif jL xs o&&aH xs then e7 (ag xs o.kind o.values.length).1 o.values 0 else (1,0):=by
  unfold i0 za
  cases aH xs<;>cases jL xs o<;>rfl
 rw[hpair]
 generalize (jL xs o&&aH xs)=b at*
 repeat refine ai ?_
 refine ⟨fun m l h=>∃i:Nat,m=2 - i∧i≤2∧(i=0∨b=true)∧(i=2→((e7 (ag xs o.kind o.values.length).1 o.values 0).1==0)=true)∧l=[(0,.d (aa xs)),(3,.ptr 0 0),(9,.d (.list [[.fn 213],[.fn 214]])),(10,.d (.int .i64 2)),(11,.d (.int .i64 i))]∧h=⟨[(0,.cells 103 (o.e.map .d))],1,0⟩,
  ⟨_,_,_,⟨0,rfl,Nat.zero_le _,.inl rfl,fun h=>(by cases h),rfl,rfl⟩,rfl,rfl,⟨rfl,rfl,rfl,rfl,rfl,trivial⟩,⟨rfl,trivial⟩,⟨rfl,trivial⟩⟩,?_⟩
 rintro m l hh ⟨i,rfl,hi,hb,hz,rfl,rfl⟩
 rcases (show i=0∨i=1∨i=2 by omega) with rfl|rfl|rfl
 ·repeat refine ai ?_
  refine ay ?_
  repeat refine ai ?_
  refine ⟨by decide,_,rfl,rfl,?_⟩
  cases b with
  |false=>
   replace hform:Spec P 213 [.d (aa xs),st o.e] (.iface 264 (.at_ [.int .i64 1,.int .i64 0])):=hform
   repeat refine ai ?_
   refine oc (hform) ?_
   repeat refine ai ?_
   refine ay ?_
   repeat refine ai ?_
   refine oc (Bz _ _) ?_
   rfl
  |true=>
   replace hform:Spec P 213 [.d (aa xs),st o.e] (.val .nilIface):=hform
   repeat refine ai ?_
   refine oc (hform) ?_
   repeat refine ai ?_
   refine an ?_
   repeat refine ai ?_
   exact ⟨_,_,_,⟨1,rfl,by decide,.inr rfl,fun h=>(by cases h),rfl,rfl⟩,by decide,rfl,rfl,⟨rfl,rfl,rfl,rfl,rfl,trivial⟩,⟨rfl,trivial⟩,⟨rfl,trivial⟩⟩
 ·have hb':b=true:=by rcases hb with h|h;cases h;exact h
  subst hb'
  repeat refine ai ?_
  refine ay ?_
  repeat refine ai ?_
  refine ⟨by decide,_,rfl,rfl,?_⟩
  unfold yq at hfields
  cases hq:((e7 (ag xs o.kind o.values.length).1 o.values 0).1==0) with
  |false=>
   rw[hq] at hfields
   simp only[cond_true,cond_false] at hfields
   repeat refine ai ?_
   refine oc (hfields) ?_
   repeat refine ai ?_
   refine ay ?_
   repeat refine ai ?_
   refine oc (Bz _ _) ?_
   rfl
  |true=>
   rw[hq] at hfields
   simp only[cond_true,cond_false] at hfields
   repeat refine ai ?_
   refine oc (hfields) ?_
   repeat refine ai ?_
   refine an ?_
   repeat refine ai ?_
   exact ⟨_,_,_,⟨2,rfl,by decide,.inr rfl,fun _=>rfl,rfl,rfl⟩,by decide,rfl,rfl,⟨rfl,rfl,rfl,rfl,rfl,trivial⟩,⟨rfl,trivial⟩,⟨rfl,trivial⟩⟩
 ·have hb':b=true:=by rcases hb with h|h;cases h;exact h
  subst hb'
  repeat refine ai ?_
  refine an ?_
  rw[cond_true,Aq (hz rfl)]
  rfl
end Go.Vc
end
section
namespace Go.Vc
open Go.Proofs
set_option maxRecDepth 100000
theorem D0 (n:Nat) (z:List D):(List.replicate n z).length=n:=List.length_replicate
theorem oQ (xs:List Bs):∀r∈xs.map eB,r.length=1:=fun r hr=>by
 obtain ⟨x,_,rfl⟩:=List.mem_map.1 hr
 rfl
theorem uU (xs:List Bs) (h0:0<xs.length) (hs:xs.length≤ap):HSpec P 192 [.d (lS xs)] hp0 (.own 0) ⟨[(0,.row 9 1 (xs.map eB))],1,0⟩:=by
 refine i9 aG au [.tmp 2] Tryz.func192 rfl rfl rfl rfl rfl (fun hok=>?_)
 repeat refine ai ?_
 refine aj ?_ ?_<;>intro h1
 ·rw[List.length_map] at h1
  exfalso
  have:=beq_iff_eq.1 h1
  omega
 ·repeat refine ai ?_
  refine ⟨Int.natCast_nonneg _,Int.le_refl _,dH hs,?_⟩
  repeat refine ai ?_
  refine ⟨?_,?_,oQ xs,?_⟩
  ·simp
  ·simpa using h0
  repeat refine ai ?_
  all_goals (repeat' first|exact rfl|exact trivial|refine aj ?_ ?_)
theorem jI (xs:List Bs):Spec P 192 [.d (lS xs)] (.d (lS xs)):=by
 refine Spec.of_vc aG au [.tmp 2] Tryz.func192 rfl rfl rfl rfl (fun hok=>?_)
 have hs:xs.length≤ap:=aw hok.1.1
 repeat refine ai ?_
 refine aj ?_ ?_<;>intro h1
 ·rw[List.length_map] at h1
  have:=beq_iff_eq.1 h1
  have:xs=[]:=List.eq_nil_of_length_eq_zero (by omega)
  subst this
  rfl
 ·rw[List.length_map] at h1
  have h1:=beq_eq_false_iff_ne.1 h1
  repeat refine ai ?_
  refine ⟨Int.natCast_nonneg _,Int.le_refl _,dH hs,?_⟩
  repeat refine ai ?_
  refine ⟨?_,?_,oQ xs,?_⟩
  ·simp
  ·rw[List.length_map];omega
  repeat refine ai ?_
  rfl
theorem ye (o:GateObject):Spec P 145 [st o.e] (st o.e):=by
 refine Spec.of_vc aG au [.cell 2 103] Tryz.func145 rfl rfl rfl rfl (fun hok=>?_)
 repeat refine ai ?_
 refine oc (jI _) ?_
 repeat refine ai ?_
 refine oc (jI _) ?_
 repeat refine ai ?_
 exact rfl
theorem zd (o:GateObject) (h0:0<o.values.length):HSpec P 145 [st o.e] hp0 (xR o (.own 2) (.d (lS o.holds))) ⟨[(2,.row 9 1 (o.values.map eB))],3,0⟩:=by
 refine i9 aG au [.cell 2 103] Tryz.func145 rfl rfl rfl rfl rfl (fun hok=>?_)
 have hb:=iM (o:=o) hok
 repeat refine ai ?_
 refine ow (uU o.values h0 hb.1) ?_
 repeat refine ai ?_
 refine oc (jI _) ?_
 repeat refine ai ?_
 all_goals (repeat' first|exact rfl|exact trivial|refine aj ?_ ?_)
theorem sn (o:GateObject) (hv:o.values.length≤ap) (hh:o.holds.length≤ap):HSpec P 141 [st o.e] hp0 (xR o (.own 2) (.own 3)) ⟨[(3,.row 9 1 (o.holds.map eB)),(2,.row 9 1 (o.values.map eB))],4,0⟩:=by
 refine i9 aG au [.cell 2 103] Tryz.func141 rfl rfl rfl rfl rfl (fun hok=>?_)
 repeat refine ai ?_
 refine aj (oQ _) ?_
 repeat refine ai ?_
 refine aj (by simpa using hv) ?_
 repeat refine ai ?_
 refine aj (oQ _) ?_
 repeat refine ai ?_
 refine aj (by simpa using hh) ?_
 repeat refine ai ?_
 all_goals (repeat' first|exact rfl|exact trivial|refine aj ?_ ?_)
end Go.Vc
end
section
namespace Go.Vc
open Go.Proofs
set_option maxRecDepth 100000
def jd (f:GateField) (v:Bs):Bs:=bif v==[] then f.default_ else v
def e9:List GateField→List Bs→List Bs
 |f::fs,v::vs=>jd f v::e9 fs vs
 |_,vs=>vs
theorem Dt (vs:List Bs):e9 [] vs=vs:=rfl
theorem no:∀(fs:List GateField) (vs:List Bs),(e9 fs vs).length=vs.length
 |[],vs=>rfl
 |f::fs,[]=>rfl
 |f::fs,v::vs=>by simp[e9,no fs vs]
theorem wZ:∀{fs:List GateField} {vs:List Bs} {i:Nat},i<fs.length→(e9 (fs.take i) vs)[i]? =vs[i]?
 |[],_,_,h=>by simp at h
 |f::fs,[],i,h=>by cases i<;>simp[e9]
 |f::fs,v::vs,0,h=>rfl
 |f::fs,v::vs,i+1,h=>by simpa [e9] using wZ (fs:=fs) (vs:=vs) (i:=i) (by simpa using h)
theorem qE:∀{fs:List GateField} {vs:List Bs} {i:Nat} (h:i<fs.length) (h2:i<vs.length),e9 (fs.take (i+1)) vs=(e9 (fs.take i) vs).set i (jd fs[i] vs[i])
 |[],_,_,h,_=>by simp at h
 |f::fs,[],i,h,h2=>by simp at h2
 |f::fs,v::vs,0,h,h2=>by simp[e9]
 |f::fs,v::vs,i+1,h,h2=>by simpa [e9] using qE (fs:=fs) (vs:=vs) (i:=i) (by simpa using h) (by simpa using h2)
theorem zl {fs:List GateField} {vs:List Bs} {i:Nat} (h:i<fs.length) (h2:i<vs.length) (h3:i<(e9 (fs.take i) vs).length):(e9 (fs.take i) vs)[i]=vs[i]:=by
 have:=wZ (vs:=vs) h
 rw[List.getElem?_eq_getElem h3,List.getElem?_eq_getElem h2] at this
 exact Option.some.inj this
theorem pJ {α:Type} {l:List α} {i:Nat} (h:i<l.length) {x:α} (e:l[i]=x):l.set i x=l:=by
 subst e;simp
theorem pR {t n:Nat} {W:List Bs} {i:Nat} {v:Bs} (h:i<W.length):some (AO.row t n ((W.map eB).set i (dw (eB W[i]) 0 (eB v))))=some (AO.row t n ((W.set i v).map eB)):=by
 congr 2
 simp only[List.map_set]
 rfl
def fr (xs:List GateShape) (o:GateObject):GateObject:={o with values:=e9 (ag xs o.kind o.values.length).1 o.values}
theorem AZ (xs:List GateShape) (o:GateObject):Spec P 207 [.d (aa xs),st o.e] (st (fr xs o).e):=by
 refine Spec.of_vc aG au [.cell 4 103] Tryz.func207 rfl rfl rfl rfl (fun hok=>?_)
 have hb:=iM (o:=o) ⟨hok.2.1,trivial⟩
 repeat refine ai ?_
 refine ow (sn o hb.1 hb.2) ?_
 repeat refine ai ?_
 refine oc (er _ _) ?_
 obtain ⟨hl,hl2⟩:=co (xs:=xs) (k:=o.kind) (n:=o.values.length)
 have hfs:(ag xs o.kind o.values.length).2=false→(ag xs o.kind o.values.length).1=[]:=by
  rcases di (xs:=xs) (k:=o.kind) (n:=o.values.length) with ⟨h1,h2⟩|⟨j,hj,_,h,_⟩
  ·exact fun _=>h2
  ·rw[h];exact fun h=>by cases h
 repeat refine ai ?_
 refine aj ?_ ?_<;>intro h0
 ·simp only[Bool.not_eq_true'] at h0
  have e:fr xs o=o:=by unfold fr;rw[hfs h0];rfl
  rw[e]
  repeat refine ai ?_
  exact rfl
 ·simp only[Bool.not_eq_false'] at h0
  have hl:=hl2 h0
  unfold fr
  generalize (ag xs o.kind o.values.length).1=fs at*
  repeat refine ai ?_
  refine mq (fs) (fun i (W:List Bs)=>W=e9 (fs.take i) o.values) (fun i (W:List Bs)=>[(4,.ptr 1 0),(5,.ptr 6 0),(6,.d (ab fs)),(8,.d (.int .i64 i))]) (fun i (W:List Bs)=>⟨[(6,.cells 103 [.d (.str o.kind),.d (.str o.name),.d (.str o.team),.own 4,.d (.bool o.ending),.own 5,.d (.int .i64 o.version)]),(4,.row 9 1 (W.map eB)),(5,.row 9 1 (o.holds.map eB)),(1,.cells 103 [.d (.str []),.d (.str []),.d (.str []),.nils,.d (.bool false),.nils,.d (.int .i64 0)])],7,0⟩) (rfl) ?_
  intro i W hi hr
  have hs:fs.length≤ap:=by omega
  have hW:W.length=o.values.length:=by rw[hr,no]
  repeat refine ai ?_
  refine aj ?_ ?_<;>intro h1
  ·have hlt:i<fs.length:=V h1
   have hlt2:i<o.values.length:=by omega
   have hlt3:i<W.length:=by omega
   have hv:W[i]=o.values[i]:=by simp only[hr];exact zl hlt hlt2 _
   have hst:e9 (fs.take (i+1)) o.values=W.set i (jd fs[i] o.values[i]):=by rw[hr,←qE hlt hlt2]
   repeat refine ai ?_
   refine aj (Int.natCast_nonneg _) (aj (by rw[List.length_map];omega) ?_)
   repeat refine ai ?_
   refine ⟨_,uY hlt3,?_⟩
   repeat refine ai ?_
   refine aj ?_ ?_<;>intro h2
   ·have hf:jd fs[i] o.values[i]=fs[i].default_:=by unfold jd;rw[←hv,show (W[i]==[])=true from h2];rfl
    repeat refine ai ?_
    refine Eg ?_
    repeat refine ai ?_
    refine U (e:=GateField.e) (xs:=fs) (hlt) rfl ?_
    repeat refine ai ?_
    refine aj (Int.natCast_nonneg _) (aj (by rw[List.length_map];omega) ?_)
    repeat refine ai ?_
    refine ⟨_,uY hlt3,Nat.le_refl _,?_⟩
    repeat refine ai ?_
    exact cV (W.set i fs[i].default_) hlt hs (by rw[hst,hf]) fun hw=>by repeat' first|exact rfl|exact trivial|exact nd hw|exact pR hlt3|refine aj ?_ ?_
   ·have hf:jd fs[i] o.values[i]=W[i]:=by unfold jd;rw[←hv,show (W[i]==[])=false from h2];rfl
    repeat refine ai ?_
    exact cV W hlt hs (by rw[hst,hf,pJ hlt3 rfl])
  ·have hi':fs.length≤i:=Z h1
   rw[List.take_of_length_le hi'] at hr
   rw[←hr]
   repeat refine ai ?_
   exact rfl
theorem Ao {xs:List GateShape} {o:GateObject} (h0:(ag xs o.kind o.values.length).2=false):fr xs o=o:=by
 unfold fr
 rcases di (xs:=xs) (k:=o.kind) (n:=o.values.length) with ⟨h1,h2⟩|⟨j,hj,_,h,_⟩
 ·rw[h2];rfl
 ·rw[h] at h0;cases h0
theorem yo {xs:List GateShape} {o:GateObject} (h0:o.values=[]):fr xs o=o:=by
 unfold fr
 rw[h0]
 cases o
 simp only at h0
 subst h0
 generalize (ag xs _ _).1=fs
 cases fs<;>rfl
theorem yj (xs:List GateShape) (o:GateObject):Spec P 217 [.d (aa xs),st o.e] (st (bif aH xs then fr xs o else o).e):=by
 refine Spec.of_vc aG au [.cell 4 103] Tryz.func217 rfl rfl rfl rfl (fun hok=>?_)
 have hb:=iM (o:=o) ⟨hok.2.1,trivial⟩
 obtain ⟨hl,hl2⟩:=co (xs:=xs) (k:=o.kind) (n:=o.values.length)
 cases hv:o.values with
 |nil=>
  repeat refine ai ?_
  refine oc (ye _) ?_
  repeat refine ai ?_
  refine oc (fo _ _) ?_
  rw[yo hv]
  repeat refine ai ?_
  refine aj ?_ ?_<;>intro h0
  ·repeat refine ai ?_
   refine oc (eY _) ?_
   repeat refine ai ?_
   refine aj ?_ ?_<;>intro h1
   ·repeat refine ai ?_
    cases aH xs<;>exact rfl
   ·simp only[Bool.not_eq_false'] at h0 h1
    have hl:=hl2 h0
    rw[hv] at hl
    simp only[hv] at hl ⊢
    generalize (ag xs o.kind ([]:List Bs).length).1=fs at*
    have:fs=[]:=List.eq_nil_of_length_eq_zero hl
    subst this
    repeat refine ai ?_
    refine ⟨I0 ([]:List GateField) (fun _=>True) (fun i=>[(3,.ptr 0 0),(4,.ptr 1 0),(25,.d (ab [])),(26,.d (.int .i64 0)),(27,.d (.int .i64 i))]) (fun i=>⟨[(0,.cells 103 [.d (.str o.kind),.d (.str o.name),.d (.str o.team),.d (lS []),.d (.bool o.ending),.d (lS o.holds),.d (.int .i64 o.version)]),(1,.cells 103 [.d (.str []),.d (.str []),.d (.str []),.nils,.d (.bool false),.nils,.d (.int .i64 0)])],2,0⟩),⟨_,_,_,⟨0,rfl,Nat.zero_le _,trivial,rfl,rfl⟩,by repeat' first|exact rfl|exact trivial|refine aj ?_ ?_⟩,?_⟩
    rintro m l hh ⟨i,rfl,hi,hr,rfl,rfl⟩
    repeat refine ai ?_
    refine aj ?_ ?_<;>intro g1
    ·exact absurd (of_decide_eq_true g1) (by omega)
    ·have ho:st o.e=xR o (.d (lS [])) (.d (lS o.holds)):=by rw[CP,hv]
     repeat refine ai ?_
     cases aH xs<;>exact ho.symm
  ·repeat refine ai ?_
   cases aH xs<;>exact rfl
 |cons v0 vr=>
  have hpos:0<o.values.length:=by rw[hv];simp
  clear hv
  repeat refine ai ?_
  refine ow (zd o hpos) ?_
  repeat refine ai ?_
  refine oe (fun g=>nP xs o g 4) ?_
  repeat refine ai ?_
  refine aj ?_ ?_<;>intro h0
  ·repeat refine ai ?_
   refine oc (eY _) ?_
   repeat refine ai ?_
   refine aj ?_ ?_<;>intro h1
   ·simp only[Bool.not_eq_true',Bool.not_eq_false'] at h0 h1
    rw[h1]
    repeat refine ai ?_
    exact rfl
   ·simp only[Bool.not_eq_false'] at h0 h1
    have hl:=hl2 h0
    rw[h1]
    unfold fr
    generalize (ag xs o.kind o.values.length).1=fs at*
    repeat refine ai ?_
    refine mq (fs) (fun i (W:List Bs)=>W=e9 (fs.take i) o.values) (fun i (W:List Bs)=>[(3,.ptr 0 0),(4,.ptr 1 0),(25,.d (ab fs)),(26,.d (.int .i64 (fs.map GateField.e).length)),(27,.d (.int .i64 i))]) (fun i (W:List Bs)=>⟨[(0,.cells 103 [.d (.str o.kind),.d (.str o.name),.d (.str o.team),.own 4,.d (.bool o.ending),.d (lS o.holds),.d (.int .i64 o.version)]),(4,.row 9 1 (W.map eB)),(1,.cells 103 [.d (.str []),.d (.str []),.d (.str []),.nils,.d (.bool false),.nils,.d (.int .i64 0)])],5,0⟩) (rfl) ?_
    intro i W hi hr
    have hs:fs.length≤ap:=by omega
    have hW:W.length=o.values.length:=by rw[hr,no]
    repeat refine ai ?_
    refine aj ?_ ?_<;>intro g1
    ·have hlt:i<fs.length:=V g1
     have hlt2:i<o.values.length:=by omega
     have hlt3:i<W.length:=by omega
     have hv:W[i]=o.values[i]:=by simp only[hr];exact zl hlt hlt2 _
     have hst:e9 (fs.take (i+1)) o.values=W.set i (jd fs[i] o.values[i]):=by rw[hr,←qE hlt hlt2]
     repeat refine ai ?_
     refine U (e:=GateField.e) (xs:=fs) (hlt) rfl ?_
     repeat refine ai ?_
     refine aj (Int.natCast_nonneg _) (aj (by rw[List.length_map];omega) ?_)
     repeat refine ai ?_
     refine ⟨_,uY hlt3,?_⟩
     repeat refine ai ?_
     refine aj ?_ ?_<;>intro h2
     ·have hf:jd fs[i] o.values[i]=fs[i].default_:=by unfold jd;rw[←hv,show (W[i]==[])=true from h2];rfl
      repeat refine ai ?_
      refine aj (Int.natCast_nonneg _) (aj (by rw[List.length_map];omega) ?_)
      repeat refine ai ?_
      refine ⟨_,uY hlt3,Nat.le_refl _,?_⟩
      repeat refine ai ?_
      exact cV (W.set i fs[i].default_) hlt hs (by rw[hst,hf]) fun hw=>by repeat' first|exact rfl|exact trivial|exact nd hw|exact pR hlt3|refine aj ?_ ?_
     ·have hf:jd fs[i] o.values[i]=W[i]:=by unfold jd;rw[←hv,show (W[i]==[])=false from h2];rfl
      repeat refine ai ?_
      exact cV W hlt hs (by rw[hst,hf,pJ hlt3 rfl])
    ·have hi':fs.length≤i:=Z g1
     rw[List.take_of_length_le hi'] at hr
     rw[←hr]
     repeat refine ai ?_
     exact rfl
  ·simp only[Bool.not_eq_true'] at h0
   rw[Ao h0]
   repeat refine ai ?_
   cases aH xs<;>exact rfl
end Go.Vc
end
section
namespace Go.Vc
def Ej (rd:Bs→List Bs) (ns:List Bs):Prop:=∃r:Bs→Nat,∀n∈ns,∀y∈rd n,r y<r n
def stepG (rd:Bs→List Bs) (ns row:List Bs):List Bs:=
 match ns.find? (fun f=> !row.contains f&&(rd f).all row.contains) with
 |some f=>row++[f]
 |none=>row
def fq (rd:Bs→List Bs) (ns:List Bs):Nat→List Bs
 |0=>[]
 |k+1=>stepG rd ns (fq rd ns k)
theorem ey:∀{xs ys:List Bs},xs.Nodup→(∀x∈xs,x∈ys)→xs.length≤ys.length
 |[],_,_,_=>Nat.zero_le _
 |x::xs,ys,hn,hs=>by
  have hn':=List.nodup_cons.1 hn
  have hx:x∈ys:=hs x List.mem_cons_self
  have h1:xs.length≤(ys.erase x).length:=ey hn'.2 (fun y hy=>by
   have hne:y≠x:=fun e=>hn'.1 (e▸hy)
   exact (List.mem_erase_of_ne hne).2 (hs y (List.mem_cons_of_mem _ hy)))
  have h2:=List.length_erase_of_mem hx
  have h3:=List.length_pos_of_mem hx
  simp only[List.length_cons];omega
theorem wY {α:Type} (p:α→Prop) (r:α→Nat):∀m:Nat,(∃x,p x∧r x≤m)→∃x,p x∧∀y,p y→r x≤r y
 |0,⟨x,hx,hr⟩=>⟨x,hx,fun y _=>by omega⟩
 |m+1,⟨x,hx,hr⟩=>by
  by_cases h:∃y,p y∧r y≤m
  ·exact wY p r m h
  ·exact ⟨x,hx,fun y hy=>by
    have:¬r y≤m:=fun c=>h ⟨y,hy,c⟩
    omega⟩
theorem yp:∀{ns row:List Bs},ns.Nodup→row.length<ns.length→∃x,x∈ns∧x ∉ row:=by
 intro ns row hn hl
 refine Classical.byContradiction fun h=>?_
 have:ns.length≤row.length:=ey hn (fun x hx=>Classical.byContradiction fun hx'=>h ⟨x,hx,hx'⟩)
 omega
structure r7 (rd:Bs→List Bs) (ns row:List Bs):Prop where
 nd:row.Nodup
 sub:∀x∈row,x∈ns
 beh:∀x∈row,∀y∈rd x,row.idxOf y<row.idxOf x
theorem gm {row:List Bs} {x f:Bs} (h:x∈row):(row++[f]).idxOf x=row.idxOf x:=by
 rw[List.idxOf_append,if_pos h]
theorem Am {rd:Bs→List Bs} {ns row:List Bs} {f:Bs} (g:r7 rd ns row) (hf:f∈ns) (h:f ∉ row) (hr:∀y∈rd f,y∈row):r7 rd ns (row++[f]):=by
 refine ⟨?_,?_,?_⟩
 ·rw[List.nodup_append]
  refine ⟨g.nd,by simp,?_⟩
  intro a ha b hb e
  rw[List.mem_singleton] at hb
  exact h (hb▸e▸ha)
 ·intro x hx
  rcases List.mem_append.1 hx with hx|hx
  ·exact g.sub x hx
  ·rw[List.mem_singleton] at hx;exact hx▸hf
 ·intro x hx y hy
  rcases List.mem_append.1 hx with hx|hx
  ·have h1:=g.beh x hx y hy
   have h2:row.idxOf x<row.length:=List.idxOf_lt_length_of_mem hx
   have hy':y∈row:=List.idxOf_lt_length_iff.1 (by omega)
   rw[gm hx,gm hy'];exact h1
  ·rw[List.mem_singleton] at hx
   subst hx
   have hy':=hr y hy
   rw[gm hy',List.idxOf_append,if_neg h]
   have:=List.idxOf_lt_length_of_mem hy'
   omega
theorem xu {rd:Bs→List Bs} {ns row:List Bs} (g:r7 rd ns row):r7 rd ns (stepG rd ns row):=by
 unfold stepG
 split
 ·rename_i f hf
  have h1:=List.find?_some hf
  rw[Bool.and_eq_true,Bool.not_eq_true'] at h1
  refine Am g (List.mem_of_find?_eq_some hf) ?_ ?_
  ·intro c
   have:=h1.1
   rw[←Bool.not_eq_true,List.contains_iff_mem] at this
   exact this c
  ·intro y hy
   have:=List.all_eq_true.1 h1.2 y hy
   exact List.contains_iff_mem.1 this
 ·exact g
theorem fM (rd:Bs→List Bs) (ns:List Bs):∀k,r7 rd ns (fq rd ns k)
 |0=>⟨List.nodup_nil,(fun x hx=>absurd hx List.not_mem_nil),(fun x hx=>absurd hx List.not_mem_nil)⟩
 |k+1=>xu (fM rd ns k)
theorem nQ {rd:Bs→List Bs} {ns:List Bs} (hn:ns.Nodup) (hin:∀n∈ns,∀y∈rd n,y∈ns) (ha:Ej rd ns):∀k,k≤ns.length→(fq rd ns k).length=k
 |0,_=>rfl
 |k+1,h=>by
  have ih:=nQ hn hin ha k (by omega)
  have g:=fM rd ns k
  obtain ⟨r,hr⟩:=ha
  obtain ⟨x0,hx0,hx0'⟩:=yp (row:=fq rd ns k) hn (by omega)
  obtain ⟨x,⟨hx,hxr⟩,hmin⟩:=wY (fun x=>x∈ns∧x ∉ fq rd ns k) r (r x0) ⟨x0,⟨hx0,hx0'⟩,Nat.le_refl _⟩
  have hready:(!(fq rd ns k).contains x&&(rd x).all (fq rd ns k).contains)=true:=by
   rw[Bool.and_eq_true,Bool.not_eq_true',List.all_eq_true]
   refine ⟨?_,fun y hy=>?_⟩
   ·rw[←Bool.not_eq_true,List.contains_iff_mem];exact hxr
   ·refine List.contains_iff_mem.2 (Classical.byContradiction fun c=>?_)
    have:=hmin y ⟨hin x hx y hy,c⟩
    have:=hr x hx y hy
    omega
  show (stepG rd ns (fq rd ns k)).length=k+1
  unfold stepG
  split
  ·rw[List.length_append,ih];rfl
  ·rename_i hf
   have:=List.find?_eq_none.1 hf x hx
   exact absurd hready this
theorem yk {rd:Bs→List Bs} {ns:List Bs} (hn:ns.Nodup) (h:(fq rd ns ns.length).length=ns.length):Ej rd ns:=by
 have g:=fM rd ns ns.length
 refine ⟨(fq rd ns ns.length).idxOf,fun n hm y hy=>g.beh n ?_ y hy⟩
 refine Classical.byContradiction fun c=>?_
 have:(n::fq rd ns ns.length).length≤ns.length:=ey (List.nodup_cons.2 ⟨c,g.nd⟩) (fun x hx=>by
  rcases List.mem_cons.1 hx with e|e
  ·exact e▸hm
  ·exact g.sub x e)
 rw[List.length_cons] at this
 omega
structure Wk where
 st:List (Bs×Int)
 out:List Bs
def lk:List (Bs×Int)→Bs→Int
 |[],_=>0
 |(k,v)::r,x=>bif k==x then v else lk r x
def pt:List (Bs×Int)→Bs→Int→List (Bs×Int)
 |[],x,v=>[(x,v)]
 |(k,u)::r,x,v=>bif k==x then (k,v)::r else (k,u)::pt r x v
theorem eW {x y:Bs} {v:Int}:∀{s:List (Bs×Int)},lk (pt s x v) y=bif x==y then v else lk s y
 |[]=>by simp only[pt,lk]
 |(k,u)::r=>by
  cases h:k==x with
  |true=>
   have e:k=x:=beq_iff_eq.1 h
   subst e
   simp only[pt,h,cond_true,lk]
   cases k==y<;>rfl
  |false=>
   simp only[pt,h,cond_false,lk,eW (s:=r)]
   cases h2:k==y with
   |true=>
    have e:k=y:=beq_iff_eq.1 h2
    subst e
    have:(x==k)=false:=by rw[←Bool.not_eq_true,beq_iff_eq];rw[←Bool.not_eq_true,beq_iff_eq] at h;exact fun c=>h c.symm
    rw[this];rfl
   |false=>rfl
def bH (w:Bs→Wk→Bool×Wk):List Bs→Wk→Bool×Wk
 |[],s=>(true,s)
 |y::ys,s=>match w y s with
  |(false,s')=>(false,s')
  |(true,s')=>bH w ys s'
def bU (rd:Bs→List Bs):Nat→Bs→Wk→Bool×Wk
 |0,_,s=>(false,s)
 |k+1,x,s=>bif lk s.st x==1 then (false,s) else bif lk s.st x==2 then (true,s) else
  match bH (bU rd k) (rd x) ⟨pt s.st x 1,s.out⟩ with
  |(false,s')=>(false,s')
  |(true,s')=>(true,⟨pt s'.st x 2,s'.out++[x]⟩)
def white (ns:List Bs) (s:Wk):Nat:=(ns.filter fun n=>lk s.st n==0).length
structure mP (rd:Bs→List Bs) (ns:List Bs) (s:Wk):Prop where
 nd:s.out.Nodup
 sub:∀x∈s.out,x∈ns
 val:∀x,lk s.st x=0∨lk s.st x=1∨lk s.st x=2
 two:∀x,lk s.st x=2↔x∈s.out
 beh:∀x∈s.out,∀y∈rd x,s.out.idxOf y<s.out.idxOf x
structure WkLe (s s':Wk):Prop where
 one:∀x,lk s.st x=1↔lk s'.st x=1
 two:∀x,lk s.st x=2→lk s'.st x=2
 white:∀x,lk s'.st x=0→lk s.st x=0
theorem WkLe.refl (s:Wk):WkLe s s:=⟨fun _=>Iff.rfl,fun _ h=>h,fun _ h=>h⟩
theorem WkLe.trans {a b c:Wk} (h:WkLe a b) (k:WkLe b c):WkLe a c:=⟨fun x=>(h.one x).trans (k.one x),fun x e=>k.two x (h.two x e),fun x e=>h.white x (k.white x e)⟩
theorem gX {p q:Bs→Bool}:∀{ns:List Bs},(∀x,p x=true→q x=true)→(ns.filter p).length≤(ns.filter q).length
 |[],_=>Nat.le_refl _
 |n::ns,h=>by
  have ih:=gX (ns:=ns) h
  cases hp:p n with
  |true=>rw[List.filter_cons_of_pos hp,List.filter_cons_of_pos (h n hp)];simp only[List.length_cons];omega
  |false=>
   rw[List.filter_cons_of_neg (by rw[hp];simp)]
   cases hq:q n with
   |true=>rw[List.filter_cons_of_pos hq];simp only[List.length_cons];omega
   |false=>rw[List.filter_cons_of_neg (by rw[hq];simp)];exact ih
theorem kz {p q:Bs→Bool} {a:Bs}:∀{ns:List Bs},(∀x,p x=true→q x=true)→a∈ns→p a=false→q a=true→(ns.filter p).length<(ns.filter q).length
 |[],_,h,_,_=>absurd h List.not_mem_nil
 |n::ns,h,ha,h1,h2=>by
  by_cases e:n=a
  ·subst e
   rw[List.filter_cons_of_neg (by rw[h1];simp),List.filter_cons_of_pos h2]
   have:=gX (ns:=ns) h
   simp only[List.length_cons];omega
  ·have hm:a∈ns:=(List.mem_cons.1 ha).resolve_left (fun c=>e c.symm)
   have ih:=kz (ns:=ns) h hm h1 h2
   cases hp:p n with
   |true=>rw[List.filter_cons_of_pos hp,List.filter_cons_of_pos (h n hp)];simp only[List.length_cons];omega
   |false=>
    rw[List.filter_cons_of_neg (by rw[hp];simp)]
    cases hq:q n with
    |true=>rw[List.filter_cons_of_pos hq];simp only[List.length_cons];omega
    |false=>rw[List.filter_cons_of_neg (by rw[hq];simp)];exact ih
theorem vy {ns:List Bs} {s s':Wk} (h:WkLe s s'):white ns s'≤white ns s:=gX (fun x hx=>by
 rw[beq_iff_eq] at hx ⊢;exact h.white x hx)
theorem vx {ns:List Bs} {s:Wk} {x:Bs} (hx:x∈ns) (h:lk s.st x=0) (o:List Bs):white ns ⟨pt s.st x 1,o⟩<white ns s:=by
 refine kz (a:=x) (fun y hy=>?_) hx ?_ ?_
 ·simp only[eW] at hy
  cases e:x==y with
  |true=>rw[e] at hy;simp at hy
  |false=>rw[e] at hy;exact hy
 ·simp only[eW,BEq.rfl,cond_true];rfl
 ·rw[h];rfl
def xg (rd:Bs→List Bs) (ns:List Bs) (x:Bs) (s:Wk) (r:Bool×Wk):Prop:=
 (r.1=true→mP rd ns r.2∧WkLe s r.2∧lk r.2.st x=2)∧
 (r.1=false→∀rk:Bs→Nat,(∀n∈ns,∀y∈rd n,rk y<rk n)→∃z,lk s.st z=1∧rk z≤rk x)
theorem iw {rd:Bs→List Bs} {ns:List Bs} {w:Bs→Wk→Bool×Wk} {n:Nat}:∀(ys:List Bs) (s:Wk),(∀y∈ys,∀s,mP rd ns s→white ns s≤n→xg rd ns y s (w y s))→mP rd ns s→white ns s≤n→
 ((bH w ys s).1=true→mP rd ns (bH w ys s).2∧WkLe s (bH w ys s).2∧∀y∈ys,lk (bH w ys s).2.st y=2)∧
 ((bH w ys s).1=false→∀rk:Bs→Nat,(∀n∈ns,∀y∈rd n,rk y<rk n)→∃z y,y∈ys∧lk s.st z=1∧rk z≤rk y)
 |[],s,_,hs,_=>⟨fun _=>⟨hs,WkLe.refl _,fun y hy=>absurd hy List.not_mem_nil⟩,fun h=>by simp[bH] at h⟩
 |y::ys,s,hw,hs,hn=>by
  have g:=hw y List.mem_cons_self s hs hn
  unfold bH
  cases e:w y s with
  |mk b s'=>cases b with
   |false=>
    refine ⟨fun h=>by simp at h,fun _ rk hrk=>?_⟩
    rw[e] at g
    obtain ⟨z,h1,h2⟩:=g.2 rfl rk hrk
    exact ⟨z,y,List.mem_cons_self,h1,h2⟩
   |true=>
    rw[e] at g
    obtain ⟨g1,g2,g3⟩:=g.1 rfl
    have ih:=iw ys s' (fun y hy=>hw y (List.mem_cons_of_mem _ hy)) g1 (Nat.le_trans (vy g2) hn)
    refine ⟨fun h=>?_,fun h rk hrk=>?_⟩
    ·obtain ⟨i1,i2,i3⟩:=ih.1 h
     refine ⟨i1,g2.trans i2,fun u hu=>?_⟩
     rcases List.mem_cons.1 hu with c|c
     ·rw[c];exact i2.two y g3
     ·exact i3 u c
    ·obtain ⟨z,u,hu,h1,h2⟩:=ih.2 h rk hrk
     exact ⟨z,u,List.mem_cons_of_mem _ hu,(g2.one z).2 h1,h2⟩
theorem ge {rd:Bs→List Bs} {ns:List Bs} (hin:∀n∈ns,∀y∈rd n,y∈ns):∀(k:Nat) (x:Bs) (s:Wk),x∈ns→mP rd ns s→white ns s<k→xg rd ns x s (bU rd k x s)
 |0,_,_,_,_,h=>by omega
 |k+1,x,s,hx,hs,hn=>by
  unfold bU
  cases h1:lk s.st x==1 with
  |true=>
   rw[beq_iff_eq] at h1
   exact ⟨fun h=>by simp at h,fun _ rk _=>⟨x,h1,Nat.le_refl _⟩⟩
  |false=>cases h2:lk s.st x==2 with
   |true=>
    rw[beq_iff_eq] at h2
    exact ⟨fun _=>⟨hs,WkLe.refl _,h2⟩,fun h=>by simp at h⟩
   |false=>
    have h0:lk s.st x=0:=by
     have e1:lk s.st x≠1:=fun c=>by rw[c] at h1;simp at h1
     have e2:lk s.st x≠2:=fun c=>by rw[c] at h2;simp at h2
     rcases hs.val x with c|c|c
     ·exact c
     ·exact absurd c e1
     ·exact absurd c e2
    have hout:x ∉ s.out:=fun c=>by
     have:=(hs.two x).2 c
     rw[h0] at this;exact absurd this (by decide)
    simp only[cond_false]
    have hs1:mP rd ns ⟨pt s.st x 1,s.out⟩:=by
     refine ⟨hs.nd,hs.sub,fun y=>?_,fun y=>?_,hs.beh⟩
     ·simp only[eW]
      cases x==y
      ·exact hs.val y
      ·exact .inr (.inl rfl)
     ·simp only[eW]
      cases e:x==y with
      |true=>
       have e':x=y:=beq_iff_eq.1 e
       subst e'
       exact ⟨fun c=>by simp at c,fun c=>absurd c hout⟩
      |false=>exact hs.two y
    have hw:=vx hx h0 s.out
    have g:=iw (rd:=rd) (ns:=ns) (w:=bU rd k) (n:=white ns ⟨pt s.st x 1,s.out⟩) (rd x) ⟨pt s.st x 1,s.out⟩
     (fun y hy s' hs' hl=>ge hin k y s' (hin x hx y hy) hs' (by omega)) hs1 (Nat.le_refl _)
    cases e:bH (bU rd k) (rd x) ⟨pt s.st x 1,s.out⟩ with
    |mk b s'=>
     rw[e] at g
     cases b with
     |false=>
      refine ⟨fun h=>by simp at h,fun _ rk hrk=>?_⟩
      obtain ⟨z,y,hy,hz,hle⟩:=g.2 rfl rk hrk
      have hlt:=hrk x hx y hy
      refine ⟨z,?_,by omega⟩
      have hz':lk (pt s.st x 1) z=1:=hz
      rw[eW] at hz'
      cases e2:x==z with
      |true=>
       have e3:x=z:=beq_iff_eq.1 e2
       subst e3
       omega
      |false=>rw[e2] at hz';exact hz'
     |true=>
      obtain ⟨g1,g2,g3⟩:=g.1 rfl
      have g1:mP rd ns s':=g1
      have g3:∀y∈rd x,lk s'.st y=2:=g3
      refine ⟨fun _=>?_,fun h=>by simp at h⟩
      have hx1:lk s'.st x=1:=(g2.one x).1 (by simp only[eW,BEq.rfl,cond_true])
      have hx':x ∉ s'.out:=fun c=>by
       have:=(g1.two x).2 c
       rw[hx1] at this;exact absurd this (by decide)
      refine ⟨⟨?_,?_,fun y=>?_,fun y=>?_,?_⟩,⟨fun y=>?_,fun y hy=>?_,fun y hy=>?_⟩,?_⟩
      ·show (s'.out++[x]).Nodup
       rw[List.nodup_append]
       refine ⟨g1.nd,by simp,?_⟩
       intro a ha b hb e
       rw[List.mem_singleton] at hb
       exact hx' (hb▸e▸ha)
      ·intro y hy
       rcases List.mem_append.1 hy with hy|hy
       ·exact g1.sub y hy
       ·rw[List.mem_singleton] at hy;exact hy▸hx
      ·simp only[eW]
       cases x==y
       ·exact g1.val y
       ·exact .inr (.inr rfl)
      ·simp only[eW,List.mem_append,List.mem_singleton]
       cases e2:x==y with
       |true=>
        have e3:x=y:=beq_iff_eq.1 e2
        exact ⟨fun _=> .inr e3.symm,fun _=>rfl⟩
       |false=>
        have e3:x≠y:=fun c=>by rw[c] at e2;simp at e2
        exact (g1.two y).trans ⟨.inl,fun c=>c.resolve_right (fun c=>e3 c.symm)⟩
      ·intro u hu y hy
       rcases List.mem_append.1 hu with hu|hu
       ·have q1:=g1.beh u hu y hy
        have q2:s'.out.idxOf u<s'.out.length:=List.idxOf_lt_length_of_mem hu
        have hy':y∈s'.out:=List.idxOf_lt_length_iff.1 (by omega)
        rw[gm hu,gm hy'];exact q1
       ·rw[List.mem_singleton] at hu
        subst hu
        have hy':=(g1.two y).1 (g3 y hy)
        rw[gm hy',List.idxOf_append,if_neg hx']
        have:=List.idxOf_lt_length_of_mem hy'
        omega
      ·simp only[eW]
       cases e2:x==y with
       |true=>
        have e3:x=y:=beq_iff_eq.1 e2
        subst e3
        rw[h0]
        exact ⟨fun c=>by simp at c,fun c=>by simp at c⟩
       |false=>
        have:=g2.one y
        simp only[eW,e2,cond_false] at this
        exact this
      ·simp only[eW]
       cases e2:x==y with
       |true=>rfl
       |false=>
        have:=g2.two y
        simp only[eW,e2,cond_false] at this
        exact this hy
      ·simp only[eW] at hy
       cases e2:x==y with
       |true=>rw[e2] at hy;simp at hy
       |false=>
        rw[e2] at hy
        have:=g2.white y hy
        simp only[eW,e2,cond_false] at this
        exact this
      ·simp only[eW,BEq.rfl,cond_true]
def zu:Wk:=⟨[],[]⟩
theorem xi (rd:Bs→List Bs) (ns:List Bs):mP rd ns zu:=⟨List.nodup_nil,fun x h=>absurd h List.not_mem_nil,fun _=> .inl rfl,fun x=>⟨fun h=>absurd (show (0:Int)=2 from h) (by decide),fun h=>absurd h List.not_mem_nil⟩,fun x h=>absurd h List.not_mem_nil⟩
theorem jU (ns:List Bs) (s:Wk):white ns s≤ns.length:=List.length_filter_le _ _
theorem sa {w:Bs→Wk→Bool×Wk} (hw:∀y s,∃t,(w y s).2.out=s.out++t):∀(ys:List Bs) (s:Wk),∃t,(bH w ys s).2.out=s.out++t
 |[],s=>⟨[],by simp[bH]⟩
 |y::ys,s=>by
  obtain ⟨t,ht⟩:=hw y s
  unfold bH
  cases e:w y s with
  |mk b s'=>
   rw[e] at ht
   cases b with
   |false=>exact ⟨t,ht⟩
   |true=>
    obtain ⟨t2,ht2⟩:=sa hw ys s'
    exact ⟨t++t2,by rw[←List.append_assoc,←ht];exact ht2⟩
theorem gp (rd:Bs→List Bs):∀(k:Nat) (x:Bs) (s:Wk),∃t,(bU rd k x s).2.out=s.out++t
 |0,_,s=>⟨[],by simp[bU]⟩
 |k+1,x,s=>by
  unfold bU
  cases lk s.st x==1 with
  |true=>exact ⟨[],by simp⟩
  |false=>cases lk s.st x==2 with
   |true=>exact ⟨[],by simp⟩
   |false=>
    obtain ⟨t,ht⟩:=sa (w:=bU rd k) (gp rd k) (rd x) ⟨pt s.st x 1,s.out⟩
    simp only[cond_false]
    cases e:bH (bU rd k) (rd x) ⟨pt s.st x 1,s.out⟩ with
    |mk b s'=>
     rw[e] at ht
     cases b with
     |false=>exact ⟨t,ht⟩
     |true=>exact ⟨t++[x],by rw[←List.append_assoc,←ht]⟩
theorem ln {rd:Bs→List Bs} {k:Nat} {x:Bs} {s:Wk} (h:(lk s.st x==1)=true):bU rd (k+1) x s=(false,s):=by
 unfold bU;rw[h];rfl
theorem lm {rd:Bs→List Bs} {k:Nat} {x:Bs} {s:Wk} (h:(lk s.st x==1)=false) (h2:(lk s.st x==2)=true):bU rd (k+1) x s=(true,s):=by
 unfold bU;rw[h,h2];rfl
theorem gG {rd:Bs→List Bs} {k:Nat} {x:Bs} {s s':Wk} (h:(lk s.st x==1)=false) (h2:(lk s.st x==2)=false) (e:bH (bU rd k) (rd x) ⟨pt s.st x 1,s.out⟩=(false,s')):bU rd (k+1) x s=(false,s'):=by
 unfold bU;rw[h,h2,e];rfl
theorem hH {rd:Bs→List Bs} {k:Nat} {x:Bs} {s s':Wk} (h:(lk s.st x==1)=false) (h2:(lk s.st x==2)=false) (e:bH (bU rd k) (rd x) ⟨pt s.st x 1,s.out⟩=(true,s')):bU rd (k+1) x s=(true,⟨pt s'.st x 2,s'.out++[x]⟩):=by
 unfold bU;rw[h,h2,e];rfl
theorem dA {w:Bs→Wk→Bool×Wk} {ys:List Bs} {i:Nat} {s:Wk} (h:i<ys.length):bH w (ys.drop i) s=match w ys[i] s with
 |(false,s')=>(false,s')
 |(true,s')=>bH w (ys.drop (i+1)) s':=by
 rw[List.drop_eq_getElem_cons h];rfl
theorem eE {w:Bs→Wk→Bool×Wk} {ys:List Bs} {i:Nat} {s:Wk} (h:ys.length≤i):bH w (ys.drop i) s=(true,s):=by
 rw[List.drop_of_length_le h];rfl
structure xf (rd:Bs→List Bs) (ns:List Bs) (x:Bs) (s s1:Wk):Prop where
 ok:mP rd ns s1
 one:lk s1.st x=1
 white:white ns s1<white ns s
theorem ll {rd:Bs→List Bs} {ns:List Bs} {x:Bs} {s:Wk} (hx:x∈ns) (hs:mP rd ns s) (h1:(lk s.st x==1)=false) (h2:(lk s.st x==2)=false):xf rd ns x s ⟨pt s.st x 1,s.out⟩:=by
 have h0:lk s.st x=0:=by
  rcases hs.val x with c|c|c
  ·exact c
  ·rw[c] at h1;simp at h1
  ·rw[c] at h2;simp at h2
 have hout:x ∉ s.out:=fun c=>by
  have:=(hs.two x).2 c
  rw[h0] at this;exact absurd this (by decide)
 refine ⟨⟨hs.nd,hs.sub,fun y=>?_,fun y=>?_,hs.beh⟩,by simp only[eW,BEq.rfl,cond_true],vx hx h0 _⟩
 ·simp only[eW]
  cases x==y
  ·exact hs.val y
  ·exact .inr (.inl rfl)
 ·simp only[eW]
  cases e:x==y with
  |true=>
   have e':x=y:=beq_iff_eq.1 e
   subst e'
   exact ⟨fun c=>by simp at c,fun c=>absurd c hout⟩
  |false=>exact hs.two y
theorem gD {rd:Bs→List Bs} {ns:List Bs} (hin:∀n∈ns,∀y∈rd n,y∈ns) {k:Nat} {x y:Bs} {s s1 s2:Wk} (h:xf rd ns x s s1) (hk:white ns s<k+1) (hy:y∈ns) (e:bU rd k y s1=(true,s2)):xf rd ns x s s2:=by
 have hw:=h.white
 have g:=ge hin k y s1 hy h.ok (by omega)
 rw[e] at g
 obtain ⟨g1,g2,_⟩:=g.1 rfl
 exact ⟨g1,(g2.one x).1 h.one,Nat.lt_of_le_of_lt (vy g2) h.white⟩
theorem jT {rd:Bs→List Bs} {ns:List Bs} {x:Bs} {s s1:Wk} (hx:x∈ns) (h:xf rd ns x s s1):s1.out.length+1≤ns.length:=by
 have:(x::s1.out).length≤ns.length:=ey (List.nodup_cons.2 ⟨fun c=>by
  have:=(h.ok.two x).2 c
  rw[h.one] at this;exact absurd this (by decide),h.ok.nd⟩) (fun y hy=>by
  rcases List.mem_cons.1 hy with e|e
  ·exact e▸hx
  ·exact h.ok.sub y e)
 exact this
theorem AG {rd:Bs→List Bs} {ns:List Bs} (hin:∀n∈ns,∀y∈rd n,y∈ns):(bH (bU rd (ns.length+1)) ns zu).1=true↔Ej rd ns:=by
 have g:=iw (rd:=rd) (ns:=ns) (w:=bU rd (ns.length+1)) (n:=ns.length) ns zu
  (fun y hy s hs hl=>ge hin _ y s hy hs (by omega)) (xi rd ns) (jU _ _)
 constructor
 ·intro h
  obtain ⟨g1,g2,g3⟩:=g.1 h
  exact ⟨(bH (bU rd (ns.length+1)) ns zu).2.out.idxOf,fun n hn y hy=>g1.beh n ((g1.two n).1 (g3 n hn)) y hy⟩
 ·rintro ⟨rk,hrk⟩
  cases e:(bH (bU rd (ns.length+1)) ns zu).1 with
  |true=>rfl
  |false=>
   obtain ⟨z,y,hy,hz,_⟩:=g.2 e rk hrk
   exact absurd hz (by show ¬((0:Int)=1);decide)
theorem vz {rd:Bs→List Bs} {ns:List Bs} (hn:ns.Nodup) (hin:∀n∈ns,∀y∈rd n,y∈ns):
 (bH (bU rd (ns.length+1)) ns zu).1=decide ((fq rd ns ns.length).length=ns.length):=by
 rw[Bool.eq_iff_iff,decide_eq_true_eq,AG hin]
 exact ⟨fun h=>nQ hn hin h _ (Nat.le_refl _),yk hn⟩
end Go.Vc
end
section
namespace Go.Vc
theorem zr {α:Type} {key:α→Bs}:∀{xs:List α} {p:Option Bs},dz key p xs=true→∀a∈xs,∀b∈xs,key a=key b→a=b
 |[],_,_,a,ha,_,_,_=>by cases ha
 |x::xs,p,h,a,ha,b,hb,e=>by
  simp only[dz,Bool.and_eq_true] at h
  rcases List.mem_cons.1 ha with rfl|ha'
  ·rcases List.mem_cons.1 hb with rfl|hb'
   ·rfl
   ·have:=mN h.2 b hb'
    rw[←e,i5] at this;cases this
  ·rcases List.mem_cons.1 hb with rfl|hb'
   ·have:=mN h.2 a ha'
    rw[e,i5] at this;cases this
   ·exact zr h.2 a ha' b hb' e
def jg (s:Bs):List Bs:=bif s==[] then [] else [s]
def yQ (k n:Bs) (m:GateMend):List Bs:=bif m.kind==k&&m.field==n then jg m.when_++jg m.from_ else []
def O (k:Bs) (ms:List GateMend) (n:Bs):List Bs:=(ms.map (yQ k n)).flatten
def Do (k f:Bs) (row:List Bs) (m:GateMend):Bool:=
 !((m.kind==k&&m.field==f)&&((!(m.when_==[])&& !row.any (·==m.when_))||(!(m.from_==[])&& !row.any (·==m.from_))))
def pW (k f:Bs) (row:List Bs) (ms:List GateMend):Bool:=ms.all (Do k f row)
theorem i6 {row:List Bs} {s:Bs}:row.any (·==s)=row.contains s:=by
 rw[Bool.eq_iff_iff,List.any_eq_true,List.contains_iff_mem]
 constructor
 ·rintro ⟨x,hx,e⟩;rw[beq_iff_eq] at e;exact e▸hx
 ·intro h;exact ⟨s,h,BEq.rfl⟩
theorem Bm {s:Bs} {p:Bs→Bool}:(jg s).all p= !(!(s==[])&& !p s):=by
 unfold jg
 cases s==[]<;>simp
theorem Cn {k f:Bs} {row:List Bs} {m:GateMend}:Do k f row m=(yQ k f m).all row.contains:=by
 unfold Do yQ
 cases (m.kind==k&&m.field==f) with
 |false=>rfl
 |true=>
  simp only[cond_true,List.all_append,Bm,i6,Bool.true_and,Bool.not_or]
theorem nT {p:Bs→Bool}:∀{l:List (List Bs)},l.flatten.all p=l.all (·.all p)
 |[]=>rfl
 |x::l=>by simp only[List.flatten_cons,List.all_append,List.all_cons,nT]
theorem xK {k f:Bs} {row:List Bs} {ms:List GateMend}:pW k f row ms=(O k ms f).all row.contains:=by
 unfold pW O
 rw[nT,List.all_map]
 congr 1
 funext m
 exact Cn
def bj (s:GateShape):List Bs:=s.fields.map (·.name)
def gP (s:GateShape) (ms:List GateMend) (row:List Bs) (f:Bs):Bool:= !row.any (·==f)&&pW s.kind f row ms
def gr (s:GateShape) (ms:List GateMend) (n:Nat):List Bs:=fq (O s.kind ms) (bj s) n
def lR (s:GateShape) (ms:List GateMend):List Bs:=gr s ms s.fields.length
theorem zq {s:GateShape} {ms:List GateMend} {row:List Bs}:gP s ms row=fun f=> !row.contains f&&(O s.kind ms f).all row.contains:=by
 funext f
 unfold gP
 rw[i6,xK]
theorem zg {s:GateShape} {ms:List GateMend} {n:Nat} {f:Bs} (h:(bj s).find? (gP s ms (gr s ms n))=some f):gr s ms (n+1)=gr s ms n++[f]:=by
 rw[zq] at h
 show stepG _ _ _=_
 unfold stepG
 unfold gr at h ⊢
 rw[h]
theorem zh {s:GateShape} {ms:List GateMend} {n:Nat} (h:(bj s).find? (gP s ms (gr s ms n))=none):gr s ms (n+1)=gr s ms n:=by
 rw[zq] at h
 show stepG _ _ _=_
 unfold stepG
 unfold gr at h ⊢
 rw[h]
theorem Dc (s:GateShape) (ms:List GateMend) (n:Nat):(gr s ms n).length≤s.fields.length:=by
 have g:=fM (O s.kind ms) (bj s) n
 have:=ey g.nd g.sub
 rw[bj,List.length_map] at this
 exact this
theorem CM (s:GateShape) (ms:List GateMend):∀n,(gr s ms n).length≤n
 |0=>Nat.le_refl _
 |n+1=>by
  have ih:=CM s ms n
  cases h:(bj s).find? (gP s ms (gr s ms n)) with
  |none=>rw[zh h];omega
  |some f=>rw[zg h,List.length_append,List.length_singleton];omega
def nK (s:GateShape) (ms:List GateMend) (row:List Bs) (l:List GateField):Option Bs:=(l.map (·.name)).find? (gP s ms row)
theorem kW {s:GateShape} {ms:List GateMend} {row:List Bs} {xs:List GateField} {i:Nat} (h:i<xs.length):nK s ms row (xs.drop i)=bif gP s ms row xs[i].name then some xs[i].name else nK s ms row (xs.drop (i+1)):=by
 unfold nK
 rw[List.drop_eq_getElem_cons h,List.map_cons,List.find?_cons]
 cases gP s ms row xs[i].name<;>rfl
theorem Ac {s:GateShape} {ms:List GateMend} {row:List Bs} {xs:List GateField} {i:Nat} (h:xs.length≤i):nK s ms row (xs.drop i)=none:=by
 rw[List.drop_of_length_le h];rfl
def bu (shapes:List GateShape) (ms:List GateMend):Bool:=
 aH shapes&&(!decide ((ms.length:Int)>12)&&(ms.all (bE shapes)&&shapes.all fun s=>((lR s ms).length:Int)==(s.fields.length:Int)))
theorem qB {kinds:List Bs}:∀{fs:List GateField} {pre:List Bs},kj kinds pre fs=true→(fs.map (·.name)).Nodup∧∀x∈pre,x ∉ fs.map (·.name)
 |[],_,_=>⟨List.nodup_nil,fun _ _ h=>by cases h⟩
 |f::fs,pre,h=>by
  simp only[kj,Bool.and_eq_true,Bool.not_eq_true'] at h
  obtain ⟨h1,_,h3⟩:=h
  obtain ⟨g1,g2⟩:=qB h3
  rw[i6] at h1
  refine ⟨?_,fun x hx c=>?_⟩
  ·rw[List.map_cons,List.nodup_cons]
   exact ⟨g2 f.name (List.mem_append.2 (.inr List.mem_cons_self)),g1⟩
  ·rw[List.map_cons] at c
   rcases List.mem_cons.1 c with c|c
   ·have:pre.contains f.name=true:=List.contains_iff_mem.2 (c▸hx)
    rw[h1] at this;cases this
   ·exact g2 x (List.mem_append.2 (.inl hx)) c
theorem lK {xs:List GateShape} (h:aH xs=true) {s:GateShape} (hs:s∈xs):(bj s).Nodup:=by
 unfold aH at h
 simp only[Bool.and_eq_true] at h
 have:=List.all_eq_true.1 h.2.2 s hs
 unfold bp at this
 simp only[Bool.and_eq_true] at this
 exact (qB this.2).1
theorem xv {xs:List GateShape} (h:aH xs=true) {a b:GateShape} (ha:a∈xs) (hb:b∈xs) (e:a.kind=b.kind):a=b:=by
 unfold aH at h
 simp only[Bool.and_eq_true] at h
 exact zr h.2.1 a ha b hb e
theorem lZ {fs:List GateField} {n:Bs} (h:eU fs n=true):n∈fs.map (·.name):=by
 unfold eU at h
 rw[Bool.and_eq_true,mC] at h
 obtain ⟨f,hf,e⟩:=List.any_eq_true.1 h.1
 rw[beq_iff_eq] at e
 exact List.mem_map.2 ⟨f,hf,e⟩
theorem wi {s y:Bs} (h:y∈jg s):y=s∧(s==[])=false:=by
 unfold jg at h
 cases e:s==[] with
 |true=>rw[e] at h;cases h
 |false=>rw[e] at h;exact ⟨List.mem_singleton.1 h,rfl⟩
theorem y4 {xs:List GateShape} (h:aH xs=true) {s:GateShape} (hs:s∈xs) {m:GateMend} (hm:bE xs m=true) (e:m.kind=s.kind):im s.fields m=true:=by
 unfold bE at hm
 split at hm
 ·rename_i s' hq
  rw[Bool.and_eq_true] at hm
  obtain ⟨j,hj,h1,h2,_⟩:=dx hm.1
  rw[h1,Int.toNat_natCast,List.getElem?_eq_getElem hj] at hq
  have e1:s'=xs[j]:=(Option.some.inj hq).symm
  have e2:xs[j].kind=m.kind:=by simpa using h2
  have:s'=s:=xv h (e1▸List.getElem_mem hj) hs (by rw[e1,e2,e])
  exact this▸hm.2
 ·cases hm
theorem jA {xs:List GateShape} {ms:List GateMend} (h:aH xs=true) (hm:ms.all (bE xs)=true) {s:GateShape} (hs:s∈xs):∀n,∀y∈O s.kind ms n,y∈bj s:=by
 intro n y hy
 unfold O at hy
 obtain ⟨l,hl,hy⟩:=List.mem_flatten.1 hy
 obtain ⟨m,hm1,rfl⟩:=List.mem_map.1 hl
 unfold yQ at hy
 cases e:(m.kind==s.kind&&m.field==n) with
 |false=>rw[e] at hy;cases hy
 |true=>
  rw[e] at hy
  rw[Bool.and_eq_true,beq_iff_eq] at e
  have hf:=y4 h hs (List.all_eq_true.1 hm m hm1) e.1
  unfold im at hf
  simp only[Bool.and_eq_true,Bool.or_eq_true] at hf
  rcases List.mem_append.1 hy with hy|hy
  ·obtain ⟨rfl,hne⟩:=wi hy
   rcases hf.1.2.1 with c|c
   ·rw[hne] at c;cases c
   ·exact lZ c
  ·obtain ⟨rfl,hne⟩:=wi hy
   rcases hf.1.2.2 with c|c
   ·rw[hne] at c;cases c
   ·exact lZ c
end Go.Vc
end
section
namespace Go.Vc
open Go.Proofs
set_option maxRecDepth 100000
theorem zJ (ms:List GateMend) (k f:Bs) (row:List Bs):Spec P 223 [.d (af ms),.d (.str k),.d (.str f),.d (lS row)] (.d (.bool (pW k f row ms))):=by
 refine Spec.of_vc aG au [.tmp 8] Tryz.func223 rfl rfl rfl rfl (fun hok=>?_)
 have hs:ms.length≤ap:=aw hok.1.1
 repeat refine ai ?_
 refine dX (ms) (fun i=>pW k f row ms=(ms.drop i).all (Do k f row)) (fun i=>[(0,.d (af ms)),(1,.d (.str k)),(2,.d (.str f)),(3,.d (lS row)),(9,.d (.int .i64 i))]) (fun i=>hp0) (rfl) ?_
 intro i hi hr
 repeat refine ai ?_
 refine aj ?_ ?_<;>intro h1
 ·have hlt:i<ms.length:=V h1
  rw[aD hlt] at hr
  repeat refine ai ?_
  refine U (e:=GateMend.e) (xs:=ms) (hlt) rfl ?_
  repeat refine ai ?_
  repeat' first
   |refine ai ?_
   |(refine aj ?_ ?_<;>intro h)
   |refine oc (uk _ _) ?_
  all_goals first
   |(refine bd ?_;(try simp only[Bool.not_eq_true',Bool.not_eq_false'] at*);rw[hr];simp only[Do, *,bl];done)
   |exact ⟨_,_,_,⟨i+1,rfl,hlt,(by (try simp only[Bool.not_eq_true',Bool.not_eq_false'] at*);rw[hr];simp only[Do, *,bl]),rfl,rfl⟩,by omega,rfl,rfl,⟨rfl,rfl,rfl,rfl,nd (Y hlt hs),trivial⟩,trivial,trivial⟩
 ·refine bd ?_
  rw[hr,ci (Z h1)]
theorem fg (s:GateShape):(st s.e)= .agg [.d (.str s.kind),.d (ab s.fields)]:=rfl
theorem yI (s:GateShape) (ms:List GateMend):Spec P 203 [st s.e,.d (af ms)] (.d (lS (lR s ms))):=by
 refine Spec.of_vc aG au [.tmp 4] Tryz.func203 rfl rfl rfl rfl (fun hok=>?_)
 have hs:s.fields.length≤ap:=by
  have:=hok.1
  simp only[st,AV.ok,GateShape.e,List.map,ea] at this
  exact aw this.2.1.1
 repeat refine ai ?_
 refine dX (s.fields) (fun n=>True) (fun n=>[(1,.d (af ms)),(2,.ptr 0 0),(5,.own 1),(6,.d (.int .i64 n))]) (fun n=>⟨[(1,.row 9 1 ((gr s ms n).map eB)),(0,.cells 164 (s.e.map .d))],2,0⟩) (trivial) ?_
 intro n hn hr
 repeat refine ai ?_
 refine aj ?_ ?_<;>intro h1
 ·have hlt0:n<s.fields.length:=V h1
  repeat refine ai ?_
  refine dX (s.fields) (fun i=>nK s ms (gr s ms n) s.fields=nK s ms (gr s ms n) (s.fields.drop i)) (fun i=>[(1,.d (af ms)),(2,.ptr 0 0),(5,.own 1),(6,.d (.int .i64 n)),(7,.d (.int .i64 i))]) (fun i=>⟨[(1,.row 9 1 ((gr s ms n).map eB)),(0,.cells 164 (s.e.map .d))],2,0⟩) (rfl) ?_
  intro i hi hr
  repeat refine ai ?_
  refine aj ?_ ?_<;>intro h2
  ·have hlt:i<s.fields.length:=V h2
   repeat refine ai ?_
   refine U (e:=GateField.e) (xs:=s.fields) (hlt) rfl ?_
   repeat refine ai ?_
   refine oc (uk _ _) ?_
   repeat refine ai ?_
   refine aj ?_ ?_<;>intro h3
   ·simp only[Bool.not_eq_true',Bool.not_eq_false'] at h3
    repeat refine ai ?_
    refine oc (zJ _ _ _ _) ?_
    repeat refine ai ?_
    refine aj ?_ ?_<;>intro h4
    ·repeat refine ai ?_
     refine aj (fun r hr=>by rw[List.mem_singleton.1 hr];rfl) ?_
     repeat refine ai ?_
     refine aj (by have:=CM s ms n;simp only[List.length_map,List.length_cons,List.length_nil];unfold ap at*;omega) ?_
     have hc:gP s ms (gr s ms n) s.fields[i].name=true:=by unfold gP;rw[h3,h4];rfl
     have hg:gr s ms (n+1)=gr s ms n++[s.fields[i].name]:=zg (by
      show nK s ms (gr s ms n) s.fields=_
      rw[hr,kW hlt,hc];rfl)
     repeat refine ai ?_
     exact bX hlt0 hs trivial fun hw=>⟨rfl,rfl,⟨rfl,rfl,rfl,nd hw,trivial⟩,⟨rfl,rfl,trivial⟩,⟨de (by rw[hg,List.map_append];rfl),rfl,trivial⟩⟩
    ·repeat refine ai ?_
     exact bX hlt hs (by rw[hr,kW hlt,show gP s ms (gr s ms n) s.fields[i].name=false from by unfold gP;rw[h4,Bool.and_false]];rfl)
   ·simp only[Bool.not_eq_true',Bool.not_eq_false'] at h3
    repeat refine ai ?_
    exact bX hlt hs (by rw[hr,kW hlt,show gP s ms (gr s ms n) s.fields[i].name=false from by unfold gP;rw[h3];rfl];rfl)
  ·have hg:gr s ms (n+1)=gr s ms n:=zh (by
    show nK s ms (gr s ms n) s.fields=_
    rw[hr,Ac (Z h2)])
   repeat refine ai ?_
   exact bX hlt0 hs trivial fun hw=>⟨rfl,rfl,⟨rfl,rfl,rfl,nd hw,trivial⟩,⟨rfl,rfl,trivial⟩,⟨de (by rw[hg]),rfl,trivial⟩⟩
 ·refine ld ?_
  rw[show n=s.fields.length from by have:=Z h1;omega];rfl
theorem rG (xs:List GateShape) (ms:List GateMend):Spec P 170 [.d (aa xs),.d (af ms)] (.d (.bool (bu xs ms))):=by
 refine Spec.of_vc aG au [.tmp 4] Tryz.func170 rfl rfl rfl rfl (fun hok=>?_)
 have hs:xs.length≤ap:=aw hok.1.1
 have hsm:ms.length≤ap:=aw hok.2.1.1
 repeat refine ai ?_
 refine oc (pN _) ?_
 repeat refine ai ?_
 refine aj ?_ ?_<;>intro h0
 ·simp only[Bool.not_eq_true',Bool.not_eq_false'] at h0
  repeat refine ai ?_
  refine aj ?_ ?_<;>intro h1
  ·rw[List.length_map] at h1
   refine bd ?_
   simp only[bu,h1,bl]
  ·rw[List.length_map] at h1
   have e:bu xs ms=(ms.all (bE xs)&&xs.all fun s=>((lR s ms).length:Int)==(s.fields.length:Int)):=by simp only[bu,h0,h1,bl]
   rw[e]
   repeat refine ai ?_
   refine dX (ms) (fun i=>ms.all (bE xs)=(ms.drop i).all (bE xs)) (fun i=>[(0,.d (aa xs)),(1,.d (af ms)),(5,.d (.int .i64 i))]) (fun i=>hp0) (rfl) ?_
   intro i hi hr
   repeat refine ai ?_
   refine aj ?_ ?_<;>intro h2
   ·have hlt:i<ms.length:=V h2
    rw[aD hlt] at hr
    repeat refine ai ?_
    refine U (e:=GateMend.e) (xs:=ms) (hlt) rfl ?_
    repeat refine ai ?_
    refine oc (xB _ _) ?_
    repeat refine ai ?_
    refine aj ?_ ?_<;>intro h3
    ·simp only[Bool.not_eq_true',Bool.not_eq_false'] at h3
     refine bd ?_
     rw[hr,h3];rfl
    ·simp only[Bool.not_eq_true',Bool.not_eq_false'] at h3
     repeat refine ai ?_
     exact bX hlt hsm (by rw[hr,h3];rfl)
   ·rw[ci (Z h2)] at hr
    rw[hr,Bool.true_and]
    repeat refine ai ?_
    refine dX (xs) (fun i=>(xs.all fun s=>((lR s ms).length:Int)==(s.fields.length:Int))=((xs.drop i).all fun s=>((lR s ms).length:Int)==(s.fields.length:Int))) (fun i=>[(0,.d (aa xs)),(1,.d (af ms)),(6,.d (.int .i64 i))]) (fun i=>hp0) (rfl) ?_
    intro i hi hr
    repeat refine ai ?_
    refine aj ?_ ?_<;>intro h4
    ·have hlt:i<xs.length:=V h4
     rw[aD hlt] at hr
     repeat refine ai ?_
     refine ak ?_
     repeat refine ai ?_
     refine U (e:=GateShape.e) (xs:=xs) (hlt) rfl ?_
     repeat refine ai ?_
     refine oc (yI _ _) ?_
     repeat refine ai ?_
     refine U (e:=GateShape.e) (xs:=xs) (hlt) rfl ?_
     repeat refine ai ?_
     refine aj ?_ ?_<;>intro h5
     ·simp only[bne,Bool.not_eq_true',Bool.not_eq_false',List.length_map] at h5
      refine bd ?_
      rw[hr,h5];rfl
     ·simp only[bne,Bool.not_eq_true',Bool.not_eq_false',List.length_map] at h5
      repeat refine ai ?_
      exact bX hlt hs (by rw[hr,h5];rfl)
    ·refine bd ?_
     rw[hr,ci (Z h4)]
 ·simp only[Bool.not_eq_true',Bool.not_eq_false'] at h0
  refine bd ?_
  simp only[bu,h0,Bool.false_and]
end Go.Vc
end
section
namespace Go.Vc
open Go.Proofs
set_option maxRecDepth 100000
def A7 (id:Nat):List Bs→AV
 |[]=> .nils
 |_::_=> .own id
def yO (objs:List (Nat×AO)) (nx id:Nat):List Bs→Heap
 |[]=>⟨objs,nx,nx⟩
 |x::xs=>⟨(id,.row 9 1 ((x::xs).map eB))::objs,id+1,nx⟩
def gY (p:Bs×Int):List D×AV:=([.str p.1],.d (.int .i64 p.2))
def va:AV:= .fn 231 [.ptr 1 0,.ptr 0 0]
def Dd:AV:= .fn 236 [.ptr 6 0,.ptr 4 0,.ptr 8 0,.ptr 7 0]
def oS (s:GateShape):AO:= .cells 164 (s.e.map .d)
def oM (ms:List GateMend):AO:= .cells 38 [.d (af ms)]
def oA (all:List Bs):AO:= .row 9 1 (all.map eB)
def oR:AO:= .cells 263 [va]
def oT (w:Wk):AO:= .map 271 .str (w.st.map gY)
def oP:AO:= .cells 271 [.mapr 5]
def oW:AO:= .cells 115 [Dd]
def hWo (s:GateShape) (ms:List GateMend) (all:List Bs) (es:List (List D×AV)):List Bs→List (Nat×AO)
 |[]=>[(8,oW),(7,.cells 101 [.nils]),(6,oP),(5,.map 271 .str es),(4,oR),(1,oM ms),(0,oS s)]
 |x::xs=>[(9,.row 9 1 ((x::xs).map eB)),(8,oW),(7,.cells 101 [.own 9]),(6,oP),(5,.map 271 .str es),(4,oR),(1,oM ms),(0,oS s)]
def Eq:List Bs→Nat
 |[]=>9
 |_::_=>10
def Eb (lo:Nat) (s:GateShape) (ms:List GateMend) (all:List Bs) (es:List (List D×AV)) (out:List Bs):Heap:=⟨hWo s ms all es out,Eq out,lo⟩
def hW (lo:Nat) (s:GateShape) (ms:List GateMend) (all:List Bs) (w:Wk):Heap:=Eb lo s ms all (w.st.map gY) w.out
theorem cb {k n:Bs} {ms:List GateMend} {i:Nat} (h:i<ms.length):O k (ms.take (i+1)) n=O k (ms.take i) n++yQ k n ms[i]:=by
 unfold O
 rw[List.take_succ_eq_append_getElem h,List.map_append,List.flatten_append]
 simp
theorem wj (s:Bs):(jg s).length≤1:=by unfold jg;cases s==[]<;>simp
theorem fh {k n:Bs}:∀{ms:List GateMend},(O k ms n).length≤2*ms.length
 |[]=>Nat.le_refl _
 |m::ms=>by
  have ih:=fh (k:=k) (n:=n) (ms:=ms)
  unfold O at ih ⊢
  simp only[List.map_cons,List.flatten_cons,List.length_append,List.length_cons]
  have:(yQ k n m).length≤2:=by
   have h1:=wj m.when_
   have h2:=wj m.from_
   unfold yQ
   cases (m.kind==k&&m.field==n)
   ·simp
   ·simp only[cond_true,List.length_append];omega
  omega
theorem ao {n:Nat}:∀{st:List (Bs×Int)},Cw n (st.map gY)
 |[]=>trivial
 |_::_=>⟨rfl,ao⟩
theorem oN {k n:Bs} {m:GateMend} (h:(m.kind==k)=false):yQ k n m=[]:=by unfold yQ;rw[h];rfl
theorem lV {k n:Bs} {m:GateMend} (h:(m.field==n)=false):yQ k n m=[]:=by unfold yQ;rw[h,Bool.and_false];rfl
theorem uu {k n:Bs} {m:GateMend} (h:(m.kind==k)=true) (h2:(m.field==n)=true):yQ k n m=jg m.when_++jg m.from_:=by unfold yQ;rw[h,h2];rfl
theorem eg {s:Bs} (h:(s==[])=true):jg s=[]:=by unfold jg;rw[h];rfl
theorem dm {s:Bs} (h:(s==[])=false):jg s=[s]:=by unfold jg;rw[h];rfl
theorem bC (t n:Nat) (a:Bs) (r:List Bs) (w:Bs):some (AO.row t n ((a::r).map eB++[[.str w]]))=some (AO.row t n ((a::(r++[w])).map eB)):=by simp[eB]
theorem dl (t n:Nat) (a:Bs) (r:List Bs) (w f:Bs):some (AO.row t n (((a::r).map eB++[[.str w]])++[[.str f]]))=some (AO.row t n ((a::(r++[w,f])).map eB)):=by simp[eB]
theorem oU (lo:Nat) (s:GateShape) (ms:List GateMend) (hm:ms.length≤12) (all:List Bs) (es:List (List D×AV)) (hes:∀n,Cw n es) (hsub:∀i b,xq i b es=es) (out:List Bs) (n:Bs):
 HSpec P 231 [.d (.str n),.ptr 1 0,.ptr 0 0] (Eb lo s ms all es out) (.d (lS (O s.kind ms n))) (Eb lo s ms all es out):=by
 have hs:ms.length≤ap:=by unfold ap;omega
 cases out with
 |nil=>
  refine HSpec.of_vc aG au [.tmp 4] Tryz.func231 rfl rfl rfl rfl rfl (fun hok=>?_)
  repeat refine ai ?_
  refine mq (ms) (fun i (A:List Bs)=>A=O s.kind (ms.take i) n) (fun i (A:List Bs)=>[(0,.d (.str n)),(1,.ptr 1 0),(2,.ptr 0 0),(5,A7 10 A),(8,.d (af ms)),(9,.d (.int .i64 (ms.map GateMend.e).length)),(10,.d (.int .i64 i))]) (fun i (A:List Bs)=>yO [(8,oW),(7,.cells 101 [.nils]),(6,oP),(5,.map 271 .str es),(4,oR),(1,oM ms),(0,oS s)] 9 10 A) (rfl) ?_ ⟨rfl,rfl,⟨rfl,rfl,rfl,rfl,rfl,rfl,rfl,trivial⟩,⟨rfl,rfl,rfl,⟨rfl,hes _⟩,rfl,rfl,rfl,trivial⟩,⟨rfl,rfl,rfl,rfl,rfl,rfl,rfl,trivial⟩⟩
  intro i A hi hr
  have hAl:A.length≤24:=by
   have:=fh (k:=s.kind) (n:=n) (ms:=ms.take i)
   rw[←hr,List.length_take] at this
   omega
  repeat refine ai ?_
  refine aj ?_ ?_<;>intro h1
  ·have hlt:i<ms.length:=V h1
   repeat refine ai ?_
   refine U (e:=GateMend.e) (xs:=ms) (hlt) rfl ?_
   repeat refine ai ?_
   cases A with
   |nil=>
    repeat refine ai ?_
    refine aj ?_ ?_<;>intro h2
    ·simp only[bne,Bool.not_eq_true',Bool.not_eq_false'] at h2
     repeat refine ai ?_
     refine aj ?_ ?_<;>intro h3
     ·simp only[bne,Bool.not_eq_true',Bool.not_eq_false'] at h3
      repeat refine ai ?_
      exact cV ([]) hlt hs (by rw[cb hlt,←hr,lV h3,List.append_nil]) fun hw=>by repeat' first|exact rfl|exact trivial|exact nd hw|exact hes _|refine aj ?_ ?_
     ·simp only[bne,Bool.not_eq_true',Bool.not_eq_false'] at h3
      have hstep:=cb (k:=s.kind) (n:=n) hlt
      rw[uu h2 h3,←hr] at hstep
      repeat refine ai ?_
      refine aj ?_ ?_<;>intro h4
      ·simp only[bne,Bool.not_eq_true',Bool.not_eq_false'] at h4
       rw[dm h4] at hstep
       repeat refine ai ?_
       refine aj (fun r hr=>by rw[List.mem_singleton.1 hr];rfl) ?_
       repeat refine ai ?_
       refine aj (by simp only[List.length_nil,List.length_cons,List.length_map] at*;unfold ap;omega) ?_
       repeat refine ai ?_
       refine aj ?_ ?_<;>intro h5
       ·simp only[bne,Bool.not_eq_true',Bool.not_eq_false'] at h5
        rw[dm h5] at hstep
        repeat refine ai ?_
        refine aj (fun r hr=>by rw[List.mem_singleton.1 hr];rfl) ?_
        repeat refine ai ?_
        refine aj (by simp only[List.length_append,List.length_nil,List.length_cons,List.length_map] at*;unfold ap;omega) ?_
        repeat refine ai ?_
        exact cV ([ms[i].when_,ms[i].from_]) hlt hs (by rw[hstep];rfl) fun hw=>by repeat' first|exact rfl|exact trivial|exact nd hw|exact hes _|exact aI (hsub _ _)|exact aI (by rw[hsub,hsub])|exact de rfl|exact bC _ _ _ _ _|exact dl _ _ _ _ _ _|refine aj ?_ ?_
       ·simp only[bne,Bool.not_eq_true',Bool.not_eq_false'] at h5
        rw[eg h5] at hstep
        repeat refine ai ?_
        exact cV ([ms[i].when_]) hlt hs (by rw[hstep];rfl) fun hw=>by repeat' first|exact rfl|exact trivial|exact nd hw|exact hes _|exact aI (hsub _ _)|exact aI (by rw[hsub,hsub])|exact de rfl|exact bC _ _ _ _ _|exact dl _ _ _ _ _ _|refine aj ?_ ?_
      ·simp only[bne,Bool.not_eq_true',Bool.not_eq_false'] at h4
       rw[eg h4] at hstep
       repeat refine ai ?_
       refine aj ?_ ?_<;>intro h5
       ·simp only[bne,Bool.not_eq_true',Bool.not_eq_false'] at h5
        rw[dm h5] at hstep
        repeat refine ai ?_
        refine aj (fun r hr=>by rw[List.mem_singleton.1 hr];rfl) ?_
        repeat refine ai ?_
        refine aj (by simp only[List.length_nil,List.length_cons,List.length_map] at*;unfold ap;omega) ?_
        repeat refine ai ?_
        exact cV ([ms[i].from_]) hlt hs (by rw[hstep];rfl) fun hw=>by repeat' first|exact rfl|exact trivial|exact nd hw|exact hes _|exact aI (hsub _ _)|exact aI (by rw[hsub,hsub])|exact de rfl|exact bC _ _ _ _ _|exact dl _ _ _ _ _ _|refine aj ?_ ?_
       ·simp only[bne,Bool.not_eq_true',Bool.not_eq_false'] at h5
        rw[eg h5] at hstep
        repeat refine ai ?_
        exact cV ([]) hlt hs (by rw[hstep];simp) fun hw=>by repeat' first|exact rfl|exact trivial|exact nd hw|exact hes _|refine aj ?_ ?_
    ·simp only[bne,Bool.not_eq_true',Bool.not_eq_false'] at h2
     repeat refine ai ?_
     exact cV ([]) hlt hs (by rw[cb hlt,←hr,oN h2,List.append_nil]) fun hw=>by repeat' first|exact rfl|exact trivial|exact nd hw|exact hes _|refine aj ?_ ?_
   |cons a tl=>
    repeat refine ai ?_
    refine aj ?_ ?_<;>intro h2
    ·simp only[bne,Bool.not_eq_true',Bool.not_eq_false'] at h2
     repeat refine ai ?_
     refine aj ?_ ?_<;>intro h3
     ·simp only[bne,Bool.not_eq_true',Bool.not_eq_false'] at h3
      repeat refine ai ?_
      exact cV (a::tl) hlt hs (by rw[cb hlt,←hr,lV h3,List.append_nil]) fun hw=>by repeat' first|exact rfl|exact trivial|exact nd hw|exact hes _|refine aj ?_ ?_
     ·simp only[bne,Bool.not_eq_true',Bool.not_eq_false'] at h3
      have hstep:=cb (k:=s.kind) (n:=n) hlt
      rw[uu h2 h3,←hr] at hstep
      repeat refine ai ?_
      refine aj ?_ ?_<;>intro h4
      ·simp only[bne,Bool.not_eq_true',Bool.not_eq_false'] at h4
       rw[dm h4] at hstep
       repeat refine ai ?_
       refine aj (fun r hr=>by rw[List.mem_singleton.1 hr];rfl) ?_
       repeat refine ai ?_
       refine aj (by simp only[List.length_append,List.length_nil,List.length_cons,List.length_map] at*;unfold ap;omega) ?_
       repeat refine ai ?_
       refine aj ?_ ?_<;>intro h5
       ·simp only[bne,Bool.not_eq_true',Bool.not_eq_false'] at h5
        rw[dm h5] at hstep
        repeat refine ai ?_
        refine aj (fun r hr=>by rw[List.mem_singleton.1 hr];rfl) ?_
        repeat refine ai ?_
        refine aj (by simp only[List.length_append,List.length_nil,List.length_cons,List.length_map] at*;unfold ap;omega) ?_
        repeat refine ai ?_
        exact cV (a::(tl++[ms[i].when_,ms[i].from_])) hlt hs (by rw[hstep];rfl) fun hw=>by repeat' first|exact rfl|exact trivial|exact nd hw|exact hes _|exact aI (hsub _ _)|exact aI (by rw[hsub,hsub])|exact de rfl|exact bC _ _ _ _ _|exact dl _ _ _ _ _ _|refine aj ?_ ?_
       ·simp only[bne,Bool.not_eq_true',Bool.not_eq_false'] at h5
        rw[eg h5] at hstep
        repeat refine ai ?_
        exact cV (a::(tl++[ms[i].when_])) hlt hs (by rw[hstep];rfl) fun hw=>by repeat' first|exact rfl|exact trivial|exact nd hw|exact hes _|exact aI (hsub _ _)|exact aI (by rw[hsub,hsub])|exact de rfl|exact bC _ _ _ _ _|exact dl _ _ _ _ _ _|refine aj ?_ ?_
      ·simp only[bne,Bool.not_eq_true',Bool.not_eq_false'] at h4
       rw[eg h4] at hstep
       repeat refine ai ?_
       refine aj ?_ ?_<;>intro h5
       ·simp only[bne,Bool.not_eq_true',Bool.not_eq_false'] at h5
        rw[dm h5] at hstep
        repeat refine ai ?_
        refine aj (fun r hr=>by rw[List.mem_singleton.1 hr];rfl) ?_
        repeat refine ai ?_
        refine aj (by simp only[List.length_append,List.length_nil,List.length_cons,List.length_map] at*;unfold ap;omega) ?_
        repeat refine ai ?_
        exact cV (a::(tl++[ms[i].from_])) hlt hs (by rw[hstep];rfl) fun hw=>by repeat' first|exact rfl|exact trivial|exact nd hw|exact hes _|exact aI (hsub _ _)|exact aI (by rw[hsub,hsub])|exact de rfl|exact bC _ _ _ _ _|exact dl _ _ _ _ _ _|refine aj ?_ ?_
       ·simp only[bne,Bool.not_eq_true',Bool.not_eq_false'] at h5
        rw[eg h5] at hstep
        repeat refine ai ?_
        exact cV (a::tl) hlt hs (by rw[hstep];simp) fun hw=>by repeat' first|exact rfl|exact trivial|exact nd hw|exact hes _|refine aj ?_ ?_
    ·simp only[bne,Bool.not_eq_true',Bool.not_eq_false'] at h2
     repeat refine ai ?_
     exact cV (a::tl) hlt hs (by rw[cb hlt,←hr,oN h2,List.append_nil]) fun hw=>by repeat' first|exact rfl|exact trivial|exact nd hw|exact hes _|refine aj ?_ ?_
  ·have ha:A=O s.kind ms n:=by rw[hr,List.take_of_length_le (Z h1)]
   rw[←ha]
   cases A with
   |nil=>
    refine aj rfl (aj rfl ⟨rfl,rfl,?_,?_,?_⟩)
    all_goals (repeat' first|exact rfl|exact trivial|exact hes _|exact aI (hsub _ _)|refine aj ?_ ?_)
   |cons a tl=>
    refine aj rfl (aj rfl ⟨rfl,rfl,?_,?_,?_⟩)
    all_goals (repeat' first|exact rfl|exact trivial|exact hes _|exact aI (hsub _ _)|refine aj ?_ ?_)
 |cons x xs=>
  refine HSpec.of_vc aG au [.tmp 4] Tryz.func231 rfl rfl rfl rfl rfl (fun hok=>?_)
  repeat refine ai ?_
  refine mq (ms) (fun i (A:List Bs)=>A=O s.kind (ms.take i) n) (fun i (A:List Bs)=>[(0,.d (.str n)),(1,.ptr 1 0),(2,.ptr 0 0),(5,A7 11 A),(8,.d (af ms)),(9,.d (.int .i64 (ms.map GateMend.e).length)),(10,.d (.int .i64 i))]) (fun i (A:List Bs)=>yO [(9,.row 9 1 ((x::xs).map eB)),(8,oW),(7,.cells 101 [.own 9]),(6,oP),(5,.map 271 .str es),(4,oR),(1,oM ms),(0,oS s)] 10 11 A) (rfl) ?_ ⟨rfl,rfl,⟨rfl,rfl,rfl,rfl,rfl,rfl,rfl,trivial⟩,⟨rfl,rfl,rfl,rfl,⟨rfl,hes _⟩,rfl,rfl,rfl,trivial⟩,⟨rfl,rfl,rfl,rfl,rfl,rfl,rfl,rfl,trivial⟩⟩
  intro i A hi hr
  have hAl:A.length≤24:=by
   have:=fh (k:=s.kind) (n:=n) (ms:=ms.take i)
   rw[←hr,List.length_take] at this
   omega
  repeat refine ai ?_
  refine aj ?_ ?_<;>intro h1
  ·have hlt:i<ms.length:=V h1
   repeat refine ai ?_
   refine U (e:=GateMend.e) (xs:=ms) (hlt) rfl ?_
   repeat refine ai ?_
   cases A with
   |nil=>
    repeat refine ai ?_
    refine aj ?_ ?_<;>intro h2
    ·simp only[bne,Bool.not_eq_true',Bool.not_eq_false'] at h2
     repeat refine ai ?_
     refine aj ?_ ?_<;>intro h3
     ·simp only[bne,Bool.not_eq_true',Bool.not_eq_false'] at h3
      repeat refine ai ?_
      exact cV ([]) hlt hs (by rw[cb hlt,←hr,lV h3,List.append_nil]) fun hw=>by repeat' first|exact rfl|exact trivial|exact nd hw|exact hes _|refine aj ?_ ?_
     ·simp only[bne,Bool.not_eq_true',Bool.not_eq_false'] at h3
      have hstep:=cb (k:=s.kind) (n:=n) hlt
      rw[uu h2 h3,←hr] at hstep
      repeat refine ai ?_
      refine aj ?_ ?_<;>intro h4
      ·simp only[bne,Bool.not_eq_true',Bool.not_eq_false'] at h4
       rw[dm h4] at hstep
       repeat refine ai ?_
       refine aj (fun r hr=>by rw[List.mem_singleton.1 hr];rfl) ?_
       repeat refine ai ?_
       refine aj (by simp only[List.length_nil,List.length_cons,List.length_map] at*;unfold ap;omega) ?_
       repeat refine ai ?_
       refine aj ?_ ?_<;>intro h5
       ·simp only[bne,Bool.not_eq_true',Bool.not_eq_false'] at h5
        rw[dm h5] at hstep
        repeat refine ai ?_
        refine aj (fun r hr=>by rw[List.mem_singleton.1 hr];rfl) ?_
        repeat refine ai ?_
        refine aj (by simp only[List.length_append,List.length_nil,List.length_cons,List.length_map] at*;unfold ap;omega) ?_
        repeat refine ai ?_
        exact cV ([ms[i].when_,ms[i].from_]) hlt hs (by rw[hstep];rfl) fun hw=>by repeat' first|exact rfl|exact trivial|exact nd hw|exact hes _|exact aI (hsub _ _)|exact aI (by rw[hsub,hsub])|exact de rfl|exact bC _ _ _ _ _|exact dl _ _ _ _ _ _|refine aj ?_ ?_
       ·simp only[bne,Bool.not_eq_true',Bool.not_eq_false'] at h5
        rw[eg h5] at hstep
        repeat refine ai ?_
        exact cV ([ms[i].when_]) hlt hs (by rw[hstep];rfl) fun hw=>by repeat' first|exact rfl|exact trivial|exact nd hw|exact hes _|exact aI (hsub _ _)|exact aI (by rw[hsub,hsub])|exact de rfl|exact bC _ _ _ _ _|exact dl _ _ _ _ _ _|refine aj ?_ ?_
      ·simp only[bne,Bool.not_eq_true',Bool.not_eq_false'] at h4
       rw[eg h4] at hstep
       repeat refine ai ?_
       refine aj ?_ ?_<;>intro h5
       ·simp only[bne,Bool.not_eq_true',Bool.not_eq_false'] at h5
        rw[dm h5] at hstep
        repeat refine ai ?_
        refine aj (fun r hr=>by rw[List.mem_singleton.1 hr];rfl) ?_
        repeat refine ai ?_
        refine aj (by simp only[List.length_nil,List.length_cons,List.length_map] at*;unfold ap;omega) ?_
        repeat refine ai ?_
        exact cV ([ms[i].from_]) hlt hs (by rw[hstep];rfl) fun hw=>by repeat' first|exact rfl|exact trivial|exact nd hw|exact hes _|exact aI (hsub _ _)|exact aI (by rw[hsub,hsub])|exact de rfl|exact bC _ _ _ _ _|exact dl _ _ _ _ _ _|refine aj ?_ ?_
       ·simp only[bne,Bool.not_eq_true',Bool.not_eq_false'] at h5
        rw[eg h5] at hstep
        repeat refine ai ?_
        exact cV ([]) hlt hs (by rw[hstep];simp) fun hw=>by repeat' first|exact rfl|exact trivial|exact nd hw|exact hes _|refine aj ?_ ?_
    ·simp only[bne,Bool.not_eq_true',Bool.not_eq_false'] at h2
     repeat refine ai ?_
     exact cV ([]) hlt hs (by rw[cb hlt,←hr,oN h2,List.append_nil]) fun hw=>by repeat' first|exact rfl|exact trivial|exact nd hw|exact hes _|refine aj ?_ ?_
   |cons a tl=>
    repeat refine ai ?_
    refine aj ?_ ?_<;>intro h2
    ·simp only[bne,Bool.not_eq_true',Bool.not_eq_false'] at h2
     repeat refine ai ?_
     refine aj ?_ ?_<;>intro h3
     ·simp only[bne,Bool.not_eq_true',Bool.not_eq_false'] at h3
      repeat refine ai ?_
      exact cV (a::tl) hlt hs (by rw[cb hlt,←hr,lV h3,List.append_nil]) fun hw=>by repeat' first|exact rfl|exact trivial|exact nd hw|exact hes _|refine aj ?_ ?_
     ·simp only[bne,Bool.not_eq_true',Bool.not_eq_false'] at h3
      have hstep:=cb (k:=s.kind) (n:=n) hlt
      rw[uu h2 h3,←hr] at hstep
      repeat refine ai ?_
      refine aj ?_ ?_<;>intro h4
      ·simp only[bne,Bool.not_eq_true',Bool.not_eq_false'] at h4
       rw[dm h4] at hstep
       repeat refine ai ?_
       refine aj (fun r hr=>by rw[List.mem_singleton.1 hr];rfl) ?_
       repeat refine ai ?_
       refine aj (by simp only[List.length_append,List.length_nil,List.length_cons,List.length_map] at*;unfold ap;omega) ?_
       repeat refine ai ?_
       refine aj ?_ ?_<;>intro h5
       ·simp only[bne,Bool.not_eq_true',Bool.not_eq_false'] at h5
        rw[dm h5] at hstep
        repeat refine ai ?_
        refine aj (fun r hr=>by rw[List.mem_singleton.1 hr];rfl) ?_
        repeat refine ai ?_
        refine aj (by simp only[List.length_append,List.length_nil,List.length_cons,List.length_map] at*;unfold ap;omega) ?_
        repeat refine ai ?_
        exact cV (a::(tl++[ms[i].when_,ms[i].from_])) hlt hs (by rw[hstep];rfl) fun hw=>by repeat' first|exact rfl|exact trivial|exact nd hw|exact hes _|exact aI (hsub _ _)|exact aI (by rw[hsub,hsub])|exact de rfl|exact bC _ _ _ _ _|exact dl _ _ _ _ _ _|refine aj ?_ ?_
       ·simp only[bne,Bool.not_eq_true',Bool.not_eq_false'] at h5
        rw[eg h5] at hstep
        repeat refine ai ?_
        exact cV (a::(tl++[ms[i].when_])) hlt hs (by rw[hstep];rfl) fun hw=>by repeat' first|exact rfl|exact trivial|exact nd hw|exact hes _|exact aI (hsub _ _)|exact aI (by rw[hsub,hsub])|exact de rfl|exact bC _ _ _ _ _|exact dl _ _ _ _ _ _|refine aj ?_ ?_
      ·simp only[bne,Bool.not_eq_true',Bool.not_eq_false'] at h4
       rw[eg h4] at hstep
       repeat refine ai ?_
       refine aj ?_ ?_<;>intro h5
       ·simp only[bne,Bool.not_eq_true',Bool.not_eq_false'] at h5
        rw[dm h5] at hstep
        repeat refine ai ?_
        refine aj (fun r hr=>by rw[List.mem_singleton.1 hr];rfl) ?_
        repeat refine ai ?_
        refine aj (by simp only[List.length_append,List.length_nil,List.length_cons,List.length_map] at*;unfold ap;omega) ?_
        repeat refine ai ?_
        exact cV (a::(tl++[ms[i].from_])) hlt hs (by rw[hstep];rfl) fun hw=>by repeat' first|exact rfl|exact trivial|exact nd hw|exact hes _|exact aI (hsub _ _)|exact aI (by rw[hsub,hsub])|exact de rfl|exact bC _ _ _ _ _|exact dl _ _ _ _ _ _|refine aj ?_ ?_
       ·simp only[bne,Bool.not_eq_true',Bool.not_eq_false'] at h5
        rw[eg h5] at hstep
        repeat refine ai ?_
        exact cV (a::tl) hlt hs (by rw[hstep];simp) fun hw=>by repeat' first|exact rfl|exact trivial|exact nd hw|exact hes _|refine aj ?_ ?_
    ·simp only[bne,Bool.not_eq_true',Bool.not_eq_false'] at h2
     repeat refine ai ?_
     exact cV (a::tl) hlt hs (by rw[cb hlt,←hr,oN h2,List.append_nil]) fun hw=>by repeat' first|exact rfl|exact trivial|exact nd hw|exact hes _|refine aj ?_ ?_
  ·have ha:A=O s.kind ms n:=by rw[hr,List.take_of_length_le (Z h1)]
   rw[←ha]
   cases A with
   |nil=>
    refine aj rfl (aj rfl ⟨rfl,rfl,?_,?_,?_⟩)
    all_goals (repeat' first|exact rfl|exact trivial|exact hes _|exact aI (hsub _ _)|refine aj ?_ ?_)
   |cons a tl=>
    refine aj rfl (aj rfl ⟨rfl,rfl,?_,?_,?_⟩)
    all_goals (repeat' first|exact rfl|exact trivial|exact hes _|exact aI (hsub _ _)|refine aj ?_ ?_)
end Go.Vc
end
section
namespace Go.Vc
open Go.Proofs
set_option maxRecDepth 100000
theorem hU {i:Nat} {b:AV}:∀{st:List (Bs×Int)},xq i b (st.map gY)=st.map gY
 |[]=>rfl
 |p::st=>by
  have ih:=hU (i:=i) (b:=b) (st:=st)
  simp only[List.map_cons,xq,gY,ih,AV.sub]
theorem eT {x:Bs} {v:Int}:∀{st:List (Bs×Int)},bK (st.map gY) [.str x] (.d (.int .i64 v))=(pt st x v).map gY
 |[]=>rfl
 |(k,u)::st=>by
  have ih:=eT (x:=x) (v:=v) (st:=st)
  simp only[List.map_cons,gY,bK,cR,pt,mL x k]
  cases k==x with
  |true=>rfl
  |false=>simp only[cond_false,List.map_cons,gY];exact congrArg _ ih
theorem qn {x:Bs}:∀(st:List (Bs×Int)),(az (st.map gY) [.str x]=none∧lk st x=0)∨az (st.map gY) [.str x]=some (.d (.int .i64 (lk st x)))
 |[]=> .inl ⟨rfl,rfl⟩
 |(k,u)::st=>by
  simp only[List.map_cons,gY,az,cR,lk,mL x k]
  cases k==x with
  |true=>exact .inr rfl
  |false=>exact qn st
theorem fw {t:Nat} {tk:TK} {x:Bs} {v:Int} {st:List (Bs×Int)}:some (AO.map t tk (bK (st.map gY) [.str x] (.d (.int .i64 v))))=some (AO.map t tk ((pt st x v).map gY)):=by rw[eT]
theorem ig {t:Nat} {tk:TK} {x:Bs} {v:Int} {st:List (Bs×Int)} {i:Nat} {b:AV}:some (AO.map t tk (xq i b (bK (st.map gY) [.str x] (.d (.int .i64 v)))))=some (AO.map t tk ((pt st x v).map gY)):=by rw[eT,hU]
theorem jH (s:GateShape) (ms:List GateMend) (hm:ms.length≤12) (all N:List Bs) (hN:N.length≤ap) (hin:∀n∈N,∀y∈O s.kind ms n,y∈N):
 ∀(k lo:Nat) (x:Bs) (w:Wk),x∈N→mP (O s.kind ms) N w→white N w<k→
 HSpec P 236 [.d (.str x),.ptr 6 0,.ptr 4 0,.ptr 8 0,.ptr 7 0] (hW lo s ms all w) (.d (.bool (bU (O s.kind ms) k x w).1)) (hW lo s ms all (bU (O s.kind ms) k x w).2)
 |0,_,_,_,_,_,h=>by omega
 |k+1,lo,x,w,hx,hwk,hk=>by
  obtain ⟨st,out⟩:=w
  generalize hq:bU (O s.kind ms) (k+1) x ⟨st,out⟩=q
  obtain ⟨b,w2⟩:=q
  show HSpec P _ _ _ (.d (.bool b)) (hW lo s ms all w2)
  cases out with
  |nil=>
   refine HSpec.of_vc aG au [.tmp 6] Tryz.func236 rfl rfl rfl rfl rfl (fun hok=>?_)
   repeat refine ai ?_
   rcases qn (x:=x) st with ⟨e0,e1⟩|e1
   ·refine ⟨_,e0,?_⟩
    repeat refine ai ?_
    refine aj ?_ ?_<;>intro g1
    ·have g1':(lk st x==1)=true:=by first|exact g1|(rw[e1];exact g1)
     rw[ln g1'] at hq
     obtain ⟨rfl,rfl⟩:=Prod.mk.inj hq
     refine aj rfl (aj rfl ⟨rfl,rfl,?_,?_,?_⟩)
     all_goals (repeat' first|exact rfl|exact trivial|exact ao|refine aj ?_ ?_)
    ·have g1':(lk st x==1)=false:=by first|exact g1|(rw[e1];exact g1)
     repeat refine ai ?_
     refine aj ?_ ?_<;>intro g2
     ·have g2':(lk st x==2)=true:=by first|exact g2|(rw[e1];exact g2)
      rw[lm g1' g2'] at hq
      obtain ⟨rfl,rfl⟩:=Prod.mk.inj hq
      refine aj rfl (aj rfl ⟨rfl,rfl,?_,?_,?_⟩)
      all_goals (repeat' first|exact rfl|exact trivial|exact ao|refine aj ?_ ?_)
     ·have g2':(lk st x==2)=false:=by first|exact g2|(rw[e1];exact g2)
      repeat refine ai ?_
      refine oh (oU _ s ms hm all (bK (st.map gY) [.str x] (.d (.int .i64 1))) (fun n=>by rw[eT];exact ao) (fun i b=>by rw[eT];exact hU) [] x) ?_
      have hs:(O s.kind ms x).length≤ap:=by
       have:=fh (k:=s.kind) (n:=x) (ms:=ms)
       unfold ap;omega
      repeat refine ai ?_
      refine mq ((O s.kind ms x)) (fun i (u:Wk)=>bH (bU (O s.kind ms) k) (O s.kind ms x) ⟨pt st x 1,[]⟩=bH (bU (O s.kind ms) k) ((O s.kind ms x).drop i) u∧xf (O s.kind ms) N x ⟨st,[]⟩ u∧∃t,u.out=[]++t) (fun i (u:Wk)=>[(0,.d (.str x)),(1,.ptr 6 0),(2,.ptr 4 0),(3,.ptr 8 0),(4,.ptr 7 0),(20,.d (lS (O s.kind ms x))),(21,.d (.int .i64 ((O s.kind ms x).map eB).length)),(22,.d (.int .i64 i))]) (fun i (u:Wk)=>hW 9 s ms all u) (⟨rfl,ll hx hwk g1' g2',[],by simp⟩) ?_ ⟨rfl,rfl,⟨rfl,rfl,rfl,rfl,rfl,rfl,rfl,rfl,trivial⟩,(by repeat' first|exact rfl|exact trivial|exact ao|refine aj ?_ ?_),(by repeat' first|exact rfl|exact trivial|exact fw|refine aj ?_ ?_)⟩
      intro i u hi hr
      obtain ⟨hE,hI,hT⟩:=hr
      obtain ⟨st1,out1⟩:=u
      cases out1 with
      |nil=>
       repeat refine ai ?_
       refine aj ?_ ?_<;>intro h1
       ·have hlt:i<(O s.kind ms x).length:=V h1
        have hy:(O s.kind ms x)[i]∈N:=hin x hx _ (List.getElem_mem hlt)
        have hc:=jH s ms hm all N hN hin k 9 (O s.kind ms x)[i] ⟨st1,[]⟩ hy hI.ok (by have:=hI.white;omega)
        rw[dA hlt] at hE
        generalize hv:bU (O s.kind ms) k (O s.kind ms x)[i] ⟨st1,[]⟩=v at hc hE
        obtain ⟨b3,st3,out3⟩:=v
        have hO:∃t,out3=[]++t:=by
             have:=gp (O s.kind ms) k (O s.kind ms x)[i] ⟨st1,[]⟩
             rw[hv] at this;exact this
        have hT3:∃t,out3=[]++t:=by
             obtain ⟨t,ht⟩:=hT
             obtain ⟨t2,ht2⟩:=hO
             exact ⟨t++t2,by rw[ht2,←List.append_assoc];exact congrArg (·++t2) ht⟩
        repeat refine ai ?_
        refine aA (e:=eB) (xs:=(O s.kind ms x)) (hlt) (rfl) rfl ?_
        repeat refine ai ?_
        cases out3 with
        |nil=>
         cases b3 with
         |false=>
          refine Or.inr (Or.inl (Exists.intro _ (Exists.intro _ (aj (aj rfl hc) ?_))))
          repeat refine ai ?_
          refine ay ?_
          rw[gG g1' g2' hE] at hq
          obtain ⟨rfl,rfl⟩:=Prod.mk.inj hq
          refine aj rfl (aj rfl ⟨rfl,rfl,?_,?_,?_⟩)
          all_goals (repeat' first|exact rfl|exact trivial|exact ao|refine aj ?_ ?_)
         |true=>
          refine Or.inr (Or.inl (Exists.intro _ (Exists.intro _ (aj (aj rfl hc) ?_))))
          repeat refine ai ?_
          refine an ?_
          repeat refine ai ?_
          exact cV ⟨st3,[]⟩ hlt hs ⟨hE,gD hin hI hk hy hv,hT3⟩ fun hw=>by repeat' first|exact rfl|exact trivial|exact nd hw|exact ao|refine aj ?_ ?_
        |cons z zs=>
         cases b3 with
         |false=>
          refine Or.inr (Or.inl (Exists.intro _ (Exists.intro _ (aj (aj rfl hc) ?_))))
          repeat refine ai ?_
          refine ay ?_
          rw[gG g1' g2' hE] at hq
          obtain ⟨rfl,rfl⟩:=Prod.mk.inj hq
          refine aj rfl (aj rfl ⟨rfl,rfl,?_,?_,?_⟩)
          all_goals (repeat' first|exact rfl|exact trivial|exact ao|refine aj ?_ ?_)
         |true=>
          refine Or.inr (Or.inl (Exists.intro _ (Exists.intro _ (aj (aj rfl hc) ?_))))
          repeat refine ai ?_
          refine an ?_
          repeat refine ai ?_
          exact cV ⟨st3,(z::zs)⟩ hlt hs ⟨hE,gD hin hI hk hy hv,hT3⟩ fun hw=>by repeat' first|exact rfl|exact trivial|exact nd hw|exact ao|refine aj ?_ ?_
       ·rw[eE (Z h1)] at hE
        rw[hH g1' g2' hE] at hq
        obtain ⟨rfl,rfl⟩:=Prod.mk.inj hq
        have hroom:=jT hx hI
        repeat refine ai ?_
        refine aj (fun r hr=>by rw[List.mem_singleton.1 hr];rfl) ?_
        repeat refine ai ?_
        refine aj (by simp only[List.length_append,List.length_nil,List.length_cons,List.length_map] at*;unfold ap at*;omega) ?_
        refine aj rfl (aj rfl ⟨rfl,rfl,?_,?_,?_⟩)
        all_goals (repeat' first|exact rfl|exact trivial|exact ao|exact fw|exact ig|exact bC _ _ _ _ _|refine aj ?_ ?_)
      |cons y ys=>
       repeat refine ai ?_
       refine aj ?_ ?_<;>intro h1
       ·have hlt:i<(O s.kind ms x).length:=V h1
        have hy:(O s.kind ms x)[i]∈N:=hin x hx _ (List.getElem_mem hlt)
        have hc:=jH s ms hm all N hN hin k 9 (O s.kind ms x)[i] ⟨st1,(y::ys)⟩ hy hI.ok (by have:=hI.white;omega)
        rw[dA hlt] at hE
        generalize hv:bU (O s.kind ms) k (O s.kind ms x)[i] ⟨st1,(y::ys)⟩=v at hc hE
        obtain ⟨b3,st3,out3⟩:=v
        have hO:∃t,out3=(y::ys)++t:=by
             have:=gp (O s.kind ms) k (O s.kind ms x)[i] ⟨st1,(y::ys)⟩
             rw[hv] at this;exact this
        have hT3:∃t,out3=[]++t:=by
             obtain ⟨t,ht⟩:=hT
             obtain ⟨t2,ht2⟩:=hO
             exact ⟨t++t2,by rw[ht2,←List.append_assoc];exact congrArg (·++t2) ht⟩
        repeat refine ai ?_
        refine aA (e:=eB) (xs:=(O s.kind ms x)) (hlt) (rfl) rfl ?_
        repeat refine ai ?_
        cases out3 with
        |nil=>
         obtain ⟨t,ht⟩:=hO
         cases ht
        |cons z zs=>
         cases b3 with
         |false=>
          refine Or.inr (Or.inl (Exists.intro _ (Exists.intro _ (aj (aj rfl hc) ?_))))
          repeat refine ai ?_
          refine ay ?_
          rw[gG g1' g2' hE] at hq
          obtain ⟨rfl,rfl⟩:=Prod.mk.inj hq
          refine aj rfl (aj rfl ⟨rfl,rfl,?_,?_,?_⟩)
          all_goals (repeat' first|exact rfl|exact trivial|exact ao|refine aj ?_ ?_)
         |true=>
          refine Or.inr (Or.inl (Exists.intro _ (Exists.intro _ (aj (aj rfl hc) ?_))))
          repeat refine ai ?_
          refine an ?_
          repeat refine ai ?_
          exact cV ⟨st3,(z::zs)⟩ hlt hs ⟨hE,gD hin hI hk hy hv,hT3⟩ fun hw=>by repeat' first|exact rfl|exact trivial|exact nd hw|exact ao|refine aj ?_ ?_
       ·rw[eE (Z h1)] at hE
        rw[hH g1' g2' hE] at hq
        obtain ⟨rfl,rfl⟩:=Prod.mk.inj hq
        have hroom:=jT hx hI
        repeat refine ai ?_
        refine aj (fun r hr=>by rw[List.mem_singleton.1 hr];rfl) ?_
        repeat refine ai ?_
        refine aj (by simp only[List.length_append,List.length_nil,List.length_cons,List.length_map] at*;unfold ap at*;omega) ?_
        refine aj rfl (aj rfl ⟨rfl,rfl,?_,?_,?_⟩)
        all_goals (repeat' first|exact rfl|exact trivial|exact ao|exact fw|exact ig|exact bC _ _ _ _ _|refine aj ?_ ?_)
   ·refine ⟨_,e1,?_⟩
    repeat refine ai ?_
    refine aj ?_ ?_<;>intro g1
    ·have g1':(lk st x==1)=true:=by first|exact g1|(rw[e1];exact g1)
     rw[ln g1'] at hq
     obtain ⟨rfl,rfl⟩:=Prod.mk.inj hq
     refine aj rfl (aj rfl ⟨rfl,rfl,?_,?_,?_⟩)
     all_goals (repeat' first|exact rfl|exact trivial|exact ao|refine aj ?_ ?_)
    ·have g1':(lk st x==1)=false:=by first|exact g1|(rw[e1];exact g1)
     repeat refine ai ?_
     refine aj ?_ ?_<;>intro g2
     ·have g2':(lk st x==2)=true:=by first|exact g2|(rw[e1];exact g2)
      rw[lm g1' g2'] at hq
      obtain ⟨rfl,rfl⟩:=Prod.mk.inj hq
      refine aj rfl (aj rfl ⟨rfl,rfl,?_,?_,?_⟩)
      all_goals (repeat' first|exact rfl|exact trivial|exact ao|refine aj ?_ ?_)
     ·have g2':(lk st x==2)=false:=by first|exact g2|(rw[e1];exact g2)
      repeat refine ai ?_
      refine oh (oU _ s ms hm all (bK (st.map gY) [.str x] (.d (.int .i64 1))) (fun n=>by rw[eT];exact ao) (fun i b=>by rw[eT];exact hU) [] x) ?_
      have hs:(O s.kind ms x).length≤ap:=by
       have:=fh (k:=s.kind) (n:=x) (ms:=ms)
       unfold ap;omega
      repeat refine ai ?_
      refine mq ((O s.kind ms x)) (fun i (u:Wk)=>bH (bU (O s.kind ms) k) (O s.kind ms x) ⟨pt st x 1,[]⟩=bH (bU (O s.kind ms) k) ((O s.kind ms x).drop i) u∧xf (O s.kind ms) N x ⟨st,[]⟩ u∧∃t,u.out=[]++t) (fun i (u:Wk)=>[(0,.d (.str x)),(1,.ptr 6 0),(2,.ptr 4 0),(3,.ptr 8 0),(4,.ptr 7 0),(20,.d (lS (O s.kind ms x))),(21,.d (.int .i64 ((O s.kind ms x).map eB).length)),(22,.d (.int .i64 i))]) (fun i (u:Wk)=>hW 9 s ms all u) (⟨rfl,ll hx hwk g1' g2',[],by simp⟩) ?_ ⟨rfl,rfl,⟨rfl,rfl,rfl,rfl,rfl,rfl,rfl,rfl,trivial⟩,(by repeat' first|exact rfl|exact trivial|exact ao|refine aj ?_ ?_),(by repeat' first|exact rfl|exact trivial|exact fw|refine aj ?_ ?_)⟩
      intro i u hi hr
      obtain ⟨hE,hI,hT⟩:=hr
      obtain ⟨st1,out1⟩:=u
      cases out1 with
      |nil=>
       repeat refine ai ?_
       refine aj ?_ ?_<;>intro h1
       ·have hlt:i<(O s.kind ms x).length:=V h1
        have hy:(O s.kind ms x)[i]∈N:=hin x hx _ (List.getElem_mem hlt)
        have hc:=jH s ms hm all N hN hin k 9 (O s.kind ms x)[i] ⟨st1,[]⟩ hy hI.ok (by have:=hI.white;omega)
        rw[dA hlt] at hE
        generalize hv:bU (O s.kind ms) k (O s.kind ms x)[i] ⟨st1,[]⟩=v at hc hE
        obtain ⟨b3,st3,out3⟩:=v
        have hO:∃t,out3=[]++t:=by
             have:=gp (O s.kind ms) k (O s.kind ms x)[i] ⟨st1,[]⟩
             rw[hv] at this;exact this
        have hT3:∃t,out3=[]++t:=by
             obtain ⟨t,ht⟩:=hT
             obtain ⟨t2,ht2⟩:=hO
             exact ⟨t++t2,by rw[ht2,←List.append_assoc];exact congrArg (·++t2) ht⟩
        repeat refine ai ?_
        refine aA (e:=eB) (xs:=(O s.kind ms x)) (hlt) (rfl) rfl ?_
        repeat refine ai ?_
        cases out3 with
        |nil=>
         cases b3 with
         |false=>
          refine Or.inr (Or.inl (Exists.intro _ (Exists.intro _ (aj (aj rfl hc) ?_))))
          repeat refine ai ?_
          refine ay ?_
          rw[gG g1' g2' hE] at hq
          obtain ⟨rfl,rfl⟩:=Prod.mk.inj hq
          refine aj rfl (aj rfl ⟨rfl,rfl,?_,?_,?_⟩)
          all_goals (repeat' first|exact rfl|exact trivial|exact ao|refine aj ?_ ?_)
         |true=>
          refine Or.inr (Or.inl (Exists.intro _ (Exists.intro _ (aj (aj rfl hc) ?_))))
          repeat refine ai ?_
          refine an ?_
          repeat refine ai ?_
          exact cV ⟨st3,[]⟩ hlt hs ⟨hE,gD hin hI hk hy hv,hT3⟩ fun hw=>by repeat' first|exact rfl|exact trivial|exact nd hw|exact ao|refine aj ?_ ?_
        |cons z zs=>
         cases b3 with
         |false=>
          refine Or.inr (Or.inl (Exists.intro _ (Exists.intro _ (aj (aj rfl hc) ?_))))
          repeat refine ai ?_
          refine ay ?_
          rw[gG g1' g2' hE] at hq
          obtain ⟨rfl,rfl⟩:=Prod.mk.inj hq
          refine aj rfl (aj rfl ⟨rfl,rfl,?_,?_,?_⟩)
          all_goals (repeat' first|exact rfl|exact trivial|exact ao|refine aj ?_ ?_)
         |true=>
          refine Or.inr (Or.inl (Exists.intro _ (Exists.intro _ (aj (aj rfl hc) ?_))))
          repeat refine ai ?_
          refine an ?_
          repeat refine ai ?_
          exact cV ⟨st3,(z::zs)⟩ hlt hs ⟨hE,gD hin hI hk hy hv,hT3⟩ fun hw=>by repeat' first|exact rfl|exact trivial|exact nd hw|exact ao|refine aj ?_ ?_
       ·rw[eE (Z h1)] at hE
        rw[hH g1' g2' hE] at hq
        obtain ⟨rfl,rfl⟩:=Prod.mk.inj hq
        have hroom:=jT hx hI
        repeat refine ai ?_
        refine aj (fun r hr=>by rw[List.mem_singleton.1 hr];rfl) ?_
        repeat refine ai ?_
        refine aj (by simp only[List.length_append,List.length_nil,List.length_cons,List.length_map] at*;unfold ap at*;omega) ?_
        refine aj rfl (aj rfl ⟨rfl,rfl,?_,?_,?_⟩)
        all_goals (repeat' first|exact rfl|exact trivial|exact ao|exact fw|exact ig|exact bC _ _ _ _ _|refine aj ?_ ?_)
      |cons y ys=>
       repeat refine ai ?_
       refine aj ?_ ?_<;>intro h1
       ·have hlt:i<(O s.kind ms x).length:=V h1
        have hy:(O s.kind ms x)[i]∈N:=hin x hx _ (List.getElem_mem hlt)
        have hc:=jH s ms hm all N hN hin k 9 (O s.kind ms x)[i] ⟨st1,(y::ys)⟩ hy hI.ok (by have:=hI.white;omega)
        rw[dA hlt] at hE
        generalize hv:bU (O s.kind ms) k (O s.kind ms x)[i] ⟨st1,(y::ys)⟩=v at hc hE
        obtain ⟨b3,st3,out3⟩:=v
        have hO:∃t,out3=(y::ys)++t:=by
             have:=gp (O s.kind ms) k (O s.kind ms x)[i] ⟨st1,(y::ys)⟩
             rw[hv] at this;exact this
        have hT3:∃t,out3=[]++t:=by
             obtain ⟨t,ht⟩:=hT
             obtain ⟨t2,ht2⟩:=hO
             exact ⟨t++t2,by rw[ht2,←List.append_assoc];exact congrArg (·++t2) ht⟩
        repeat refine ai ?_
        refine aA (e:=eB) (xs:=(O s.kind ms x)) (hlt) (rfl) rfl ?_
        repeat refine ai ?_
        cases out3 with
        |nil=>
         obtain ⟨t,ht⟩:=hO
         cases ht
        |cons z zs=>
         cases b3 with
         |false=>
          refine Or.inr (Or.inl (Exists.intro _ (Exists.intro _ (aj (aj rfl hc) ?_))))
          repeat refine ai ?_
          refine ay ?_
          rw[gG g1' g2' hE] at hq
          obtain ⟨rfl,rfl⟩:=Prod.mk.inj hq
          refine aj rfl (aj rfl ⟨rfl,rfl,?_,?_,?_⟩)
          all_goals (repeat' first|exact rfl|exact trivial|exact ao|refine aj ?_ ?_)
         |true=>
          refine Or.inr (Or.inl (Exists.intro _ (Exists.intro _ (aj (aj rfl hc) ?_))))
          repeat refine ai ?_
          refine an ?_
          repeat refine ai ?_
          exact cV ⟨st3,(z::zs)⟩ hlt hs ⟨hE,gD hin hI hk hy hv,hT3⟩ fun hw=>by repeat' first|exact rfl|exact trivial|exact nd hw|exact ao|refine aj ?_ ?_
       ·rw[eE (Z h1)] at hE
        rw[hH g1' g2' hE] at hq
        obtain ⟨rfl,rfl⟩:=Prod.mk.inj hq
        have hroom:=jT hx hI
        repeat refine ai ?_
        refine aj (fun r hr=>by rw[List.mem_singleton.1 hr];rfl) ?_
        repeat refine ai ?_
        refine aj (by simp only[List.length_append,List.length_nil,List.length_cons,List.length_map] at*;unfold ap at*;omega) ?_
        refine aj rfl (aj rfl ⟨rfl,rfl,?_,?_,?_⟩)
        all_goals (repeat' first|exact rfl|exact trivial|exact ao|exact fw|exact ig|exact bC _ _ _ _ _|refine aj ?_ ?_)
  |cons a tl=>
   refine HSpec.of_vc aG au [.tmp 6] Tryz.func236 rfl rfl rfl rfl rfl (fun hok=>?_)
   repeat refine ai ?_
   rcases qn (x:=x) st with ⟨e0,e1⟩|e1
   ·refine ⟨_,e0,?_⟩
    repeat refine ai ?_
    refine aj ?_ ?_<;>intro g1
    ·have g1':(lk st x==1)=true:=by first|exact g1|(rw[e1];exact g1)
     rw[ln g1'] at hq
     obtain ⟨rfl,rfl⟩:=Prod.mk.inj hq
     refine aj rfl (aj rfl ⟨rfl,rfl,?_,?_,?_⟩)
     all_goals (repeat' first|exact rfl|exact trivial|exact ao|refine aj ?_ ?_)
    ·have g1':(lk st x==1)=false:=by first|exact g1|(rw[e1];exact g1)
     repeat refine ai ?_
     refine aj ?_ ?_<;>intro g2
     ·have g2':(lk st x==2)=true:=by first|exact g2|(rw[e1];exact g2)
      rw[lm g1' g2'] at hq
      obtain ⟨rfl,rfl⟩:=Prod.mk.inj hq
      refine aj rfl (aj rfl ⟨rfl,rfl,?_,?_,?_⟩)
      all_goals (repeat' first|exact rfl|exact trivial|exact ao|refine aj ?_ ?_)
     ·have g2':(lk st x==2)=false:=by first|exact g2|(rw[e1];exact g2)
      repeat refine ai ?_
      refine oh (oU _ s ms hm all (bK (st.map gY) [.str x] (.d (.int .i64 1))) (fun n=>by rw[eT];exact ao) (fun i b=>by rw[eT];exact hU) (a::tl) x) ?_
      have hs:(O s.kind ms x).length≤ap:=by
       have:=fh (k:=s.kind) (n:=x) (ms:=ms)
       unfold ap;omega
      repeat refine ai ?_
      refine mq ((O s.kind ms x)) (fun i (u:Wk)=>bH (bU (O s.kind ms) k) (O s.kind ms x) ⟨pt st x 1,(a::tl)⟩=bH (bU (O s.kind ms) k) ((O s.kind ms x).drop i) u∧xf (O s.kind ms) N x ⟨st,(a::tl)⟩ u∧∃t,u.out=(a::tl)++t) (fun i (u:Wk)=>[(0,.d (.str x)),(1,.ptr 6 0),(2,.ptr 4 0),(3,.ptr 8 0),(4,.ptr 7 0),(20,.d (lS (O s.kind ms x))),(21,.d (.int .i64 ((O s.kind ms x).map eB).length)),(22,.d (.int .i64 i))]) (fun i (u:Wk)=>hW 10 s ms all u) (⟨rfl,ll hx hwk g1' g2',[],by simp⟩) ?_ ⟨rfl,rfl,⟨rfl,rfl,rfl,rfl,rfl,rfl,rfl,rfl,trivial⟩,(by repeat' first|exact rfl|exact trivial|exact ao|refine aj ?_ ?_),(by repeat' first|exact rfl|exact trivial|exact fw|refine aj ?_ ?_)⟩
      intro i u hi hr
      obtain ⟨hE,hI,hT⟩:=hr
      obtain ⟨st1,out1⟩:=u
      cases out1 with
      |nil=>
       obtain ⟨t,ht⟩:=hT
       cases ht
      |cons y ys=>
       repeat refine ai ?_
       refine aj ?_ ?_<;>intro h1
       ·have hlt:i<(O s.kind ms x).length:=V h1
        have hy:(O s.kind ms x)[i]∈N:=hin x hx _ (List.getElem_mem hlt)
        have hc:=jH s ms hm all N hN hin k 10 (O s.kind ms x)[i] ⟨st1,(y::ys)⟩ hy hI.ok (by have:=hI.white;omega)
        rw[dA hlt] at hE
        generalize hv:bU (O s.kind ms) k (O s.kind ms x)[i] ⟨st1,(y::ys)⟩=v at hc hE
        obtain ⟨b3,st3,out3⟩:=v
        have hO:∃t,out3=(y::ys)++t:=by
             have:=gp (O s.kind ms) k (O s.kind ms x)[i] ⟨st1,(y::ys)⟩
             rw[hv] at this;exact this
        have hT3:∃t,out3=(a::tl)++t:=by
             obtain ⟨t,ht⟩:=hT
             obtain ⟨t2,ht2⟩:=hO
             exact ⟨t++t2,by rw[ht2,←List.append_assoc];exact congrArg (·++t2) ht⟩
        repeat refine ai ?_
        refine aA (e:=eB) (xs:=(O s.kind ms x)) (hlt) (rfl) rfl ?_
        repeat refine ai ?_
        cases out3 with
        |nil=>
         obtain ⟨t,ht⟩:=hO
         cases ht
        |cons z zs=>
         cases b3 with
         |false=>
          refine Or.inr (Or.inl (Exists.intro _ (Exists.intro _ (aj (aj rfl hc) ?_))))
          repeat refine ai ?_
          refine ay ?_
          rw[gG g1' g2' hE] at hq
          obtain ⟨rfl,rfl⟩:=Prod.mk.inj hq
          refine aj rfl (aj rfl ⟨rfl,rfl,?_,?_,?_⟩)
          all_goals (repeat' first|exact rfl|exact trivial|exact ao|refine aj ?_ ?_)
         |true=>
          refine Or.inr (Or.inl (Exists.intro _ (Exists.intro _ (aj (aj rfl hc) ?_))))
          repeat refine ai ?_
          refine an ?_
          repeat refine ai ?_
          exact cV ⟨st3,(z::zs)⟩ hlt hs ⟨hE,gD hin hI hk hy hv,hT3⟩ fun hw=>by repeat' first|exact rfl|exact trivial|exact nd hw|exact ao|refine aj ?_ ?_
       ·rw[eE (Z h1)] at hE
        rw[hH g1' g2' hE] at hq
        obtain ⟨rfl,rfl⟩:=Prod.mk.inj hq
        have hroom:=jT hx hI
        repeat refine ai ?_
        refine aj (fun r hr=>by rw[List.mem_singleton.1 hr];rfl) ?_
        repeat refine ai ?_
        refine aj (by simp only[List.length_append,List.length_nil,List.length_cons,List.length_map] at*;unfold ap at*;omega) ?_
        refine aj rfl (aj rfl ⟨rfl,rfl,?_,?_,?_⟩)
        all_goals (repeat' first|exact rfl|exact trivial|exact ao|exact fw|exact ig|exact bC _ _ _ _ _|refine aj ?_ ?_)
   ·refine ⟨_,e1,?_⟩
    repeat refine ai ?_
    refine aj ?_ ?_<;>intro g1
    ·have g1':(lk st x==1)=true:=by first|exact g1|(rw[e1];exact g1)
     rw[ln g1'] at hq
     obtain ⟨rfl,rfl⟩:=Prod.mk.inj hq
     refine aj rfl (aj rfl ⟨rfl,rfl,?_,?_,?_⟩)
     all_goals (repeat' first|exact rfl|exact trivial|exact ao|refine aj ?_ ?_)
    ·have g1':(lk st x==1)=false:=by first|exact g1|(rw[e1];exact g1)
     repeat refine ai ?_
     refine aj ?_ ?_<;>intro g2
     ·have g2':(lk st x==2)=true:=by first|exact g2|(rw[e1];exact g2)
      rw[lm g1' g2'] at hq
      obtain ⟨rfl,rfl⟩:=Prod.mk.inj hq
      refine aj rfl (aj rfl ⟨rfl,rfl,?_,?_,?_⟩)
      all_goals (repeat' first|exact rfl|exact trivial|exact ao|refine aj ?_ ?_)
     ·have g2':(lk st x==2)=false:=by first|exact g2|(rw[e1];exact g2)
      repeat refine ai ?_
      refine oh (oU _ s ms hm all (bK (st.map gY) [.str x] (.d (.int .i64 1))) (fun n=>by rw[eT];exact ao) (fun i b=>by rw[eT];exact hU) (a::tl) x) ?_
      have hs:(O s.kind ms x).length≤ap:=by
       have:=fh (k:=s.kind) (n:=x) (ms:=ms)
       unfold ap;omega
      repeat refine ai ?_
      refine mq ((O s.kind ms x)) (fun i (u:Wk)=>bH (bU (O s.kind ms) k) (O s.kind ms x) ⟨pt st x 1,(a::tl)⟩=bH (bU (O s.kind ms) k) ((O s.kind ms x).drop i) u∧xf (O s.kind ms) N x ⟨st,(a::tl)⟩ u∧∃t,u.out=(a::tl)++t) (fun i (u:Wk)=>[(0,.d (.str x)),(1,.ptr 6 0),(2,.ptr 4 0),(3,.ptr 8 0),(4,.ptr 7 0),(20,.d (lS (O s.kind ms x))),(21,.d (.int .i64 ((O s.kind ms x).map eB).length)),(22,.d (.int .i64 i))]) (fun i (u:Wk)=>hW 10 s ms all u) (⟨rfl,ll hx hwk g1' g2',[],by simp⟩) ?_ ⟨rfl,rfl,⟨rfl,rfl,rfl,rfl,rfl,rfl,rfl,rfl,trivial⟩,(by repeat' first|exact rfl|exact trivial|exact ao|refine aj ?_ ?_),(by repeat' first|exact rfl|exact trivial|exact fw|refine aj ?_ ?_)⟩
      intro i u hi hr
      obtain ⟨hE,hI,hT⟩:=hr
      obtain ⟨st1,out1⟩:=u
      cases out1 with
      |nil=>
       obtain ⟨t,ht⟩:=hT
       cases ht
      |cons y ys=>
       repeat refine ai ?_
       refine aj ?_ ?_<;>intro h1
       ·have hlt:i<(O s.kind ms x).length:=V h1
        have hy:(O s.kind ms x)[i]∈N:=hin x hx _ (List.getElem_mem hlt)
        have hc:=jH s ms hm all N hN hin k 10 (O s.kind ms x)[i] ⟨st1,(y::ys)⟩ hy hI.ok (by have:=hI.white;omega)
        rw[dA hlt] at hE
        generalize hv:bU (O s.kind ms) k (O s.kind ms x)[i] ⟨st1,(y::ys)⟩=v at hc hE
        obtain ⟨b3,st3,out3⟩:=v
        have hO:∃t,out3=(y::ys)++t:=by
             have:=gp (O s.kind ms) k (O s.kind ms x)[i] ⟨st1,(y::ys)⟩
             rw[hv] at this;exact this
        have hT3:∃t,out3=(a::tl)++t:=by
             obtain ⟨t,ht⟩:=hT
             obtain ⟨t2,ht2⟩:=hO
             exact ⟨t++t2,by rw[ht2,←List.append_assoc];exact congrArg (·++t2) ht⟩
        repeat refine ai ?_
        refine aA (e:=eB) (xs:=(O s.kind ms x)) (hlt) (rfl) rfl ?_
        repeat refine ai ?_
        cases out3 with
        |nil=>
         obtain ⟨t,ht⟩:=hO
         cases ht
        |cons z zs=>
         cases b3 with
         |false=>
          refine Or.inr (Or.inl (Exists.intro _ (Exists.intro _ (aj (aj rfl hc) ?_))))
          repeat refine ai ?_
          refine ay ?_
          rw[gG g1' g2' hE] at hq
          obtain ⟨rfl,rfl⟩:=Prod.mk.inj hq
          refine aj rfl (aj rfl ⟨rfl,rfl,?_,?_,?_⟩)
          all_goals (repeat' first|exact rfl|exact trivial|exact ao|refine aj ?_ ?_)
         |true=>
          refine Or.inr (Or.inl (Exists.intro _ (Exists.intro _ (aj (aj rfl hc) ?_))))
          repeat refine ai ?_
          refine an ?_
          repeat refine ai ?_
          exact cV ⟨st3,(z::zs)⟩ hlt hs ⟨hE,gD hin hI hk hy hv,hT3⟩ fun hw=>by repeat' first|exact rfl|exact trivial|exact nd hw|exact ao|refine aj ?_ ?_
       ·rw[eE (Z h1)] at hE
        rw[hH g1' g2' hE] at hq
        obtain ⟨rfl,rfl⟩:=Prod.mk.inj hq
        have hroom:=jT hx hI
        repeat refine ai ?_
        refine aj (fun r hr=>by rw[List.mem_singleton.1 hr];rfl) ?_
        repeat refine ai ?_
        refine aj (by simp only[List.length_append,List.length_nil,List.length_cons,List.length_map] at*;unfold ap at*;omega) ?_
        refine aj rfl (aj rfl ⟨rfl,rfl,?_,?_,?_⟩)
        all_goals (repeat' first|exact rfl|exact trivial|exact ao|exact fw|exact ig|exact bC _ _ _ _ _|refine aj ?_ ?_)
end Go.Vc
end
section
namespace Go.Vc
open Go.Proofs
set_option maxRecDepth 100000
def ic (rd:Bs→List Bs) (all:List Bs):List Bs×Bool:=match bH (bU rd (all.length+1)) all zu with
 |(true,u)=>(u.out,true)
 |(false,_)=>([],false)
theorem yN {rd:Bs→List Bs} {all:List Bs}:(ic rd all).2=(bH (bU rd (all.length+1)) all zu).1:=by
 unfold ic
 split<;>(rename_i h;rw[h])
theorem oL {rd:Bs→List Bs} {all:List Bs} {u:Wk} (h:bH (bU rd (all.length+1)) all zu=(false,u)):ic rd all=([],false):=by
 unfold ic;rw[h]
theorem pS {rd:Bs→List Bs} {all:List Bs} {u:Wk} (h:bH (bU rd (all.length+1)) all zu=(true,u)):ic rd all=(u.out,true):=by
 unfold ic;rw[h]
def hA (lo nx:Nat) (s:GateShape) (ms:List GateMend):Heap:=⟨[(1,oM ms),(0,oS s)],nx,lo⟩
theorem DJ (s:GateShape) (ms:List GateMend) (hm:ms.length≤12) (all:List Bs) (hN:all.length≤ap) (hin:∀n∈all,∀y∈O s.kind ms n,y∈all) (lo:Nat):
 HSpec P 230 [.d (lS all),va] (hA lo 4 s ms) (.tup [.d (lS (ic (O s.kind ms) all).1),.d (.bool (ic (O s.kind ms) all).2)]) (hA lo 4 s ms):=by
 refine HSpec.of_vc aG au [.tmp 4,.tmp 5] Tryz.func230 rfl rfl rfl rfl rfl (fun hok=>?_)
 have hs:=hN
 repeat refine ai ?_
 refine mq (all) (fun i (u:Wk)=>bH (bU (O s.kind ms) (all.length+1)) all zu=bH (bU (O s.kind ms) (all.length+1)) (all.drop i) u∧mP (O s.kind ms) all u) (fun i (u:Wk)=>[(7,.ptr 7 0),(8,.ptr 8 0),(13,.d (lS all)),(14,.d (.int .i64 (all.map eB).length)),(15,.d (.int .i64 i))]) (fun i (u:Wk)=>hW 4 s ms all u) (⟨rfl,xi _ _⟩) ?_ ⟨rfl,rfl,⟨rfl,rfl,rfl,rfl,rfl,trivial⟩,(by repeat' first|exact rfl|exact trivial|exact ao|refine aj ?_ ?_),(by repeat' first|exact rfl|exact trivial|refine aj ?_ ?_)⟩
 intro i u hi hr
 obtain ⟨hE,hI⟩:=hr
 obtain ⟨st1,out1⟩:=u
 cases out1 with
 |nil=>
  repeat refine ai ?_
  refine aj ?_ ?_<;>intro h1
  ·have hlt:i<all.length:=V h1
   have hy:all[i]∈all:=List.getElem_mem hlt
   have hwl:white all ⟨st1,[]⟩<all.length+1:=Nat.lt_succ_of_le (jU _ _)
   have hc:=jH s ms hm all all hN hin (all.length+1) 4 all[i] ⟨st1,[]⟩ hy hI hwl
   have hg:=ge hin (all.length+1) all[i] ⟨st1,[]⟩ hy hI hwl
   rw[dA hlt] at hE
   generalize hv:bU (O s.kind ms) (all.length+1) all[i] ⟨st1,[]⟩=v at hc hE hg
   obtain ⟨b3,st3,out3⟩:=v
   repeat refine ai ?_
   refine U (e:=eB) (xs:=all) (hlt) rfl ?_
   repeat refine ai ?_
   cases b3 with
   |false=>
    cases out3 with
    |nil=>
     rw[oL hE]
     refine Or.inr (Or.inl (Exists.intro _ (Exists.intro _ (aj (aj rfl hc) ?_))))
     repeat refine ai ?_
     refine ay ?_
     refine aj rfl (aj rfl ⟨rfl,rfl,?_,?_,?_⟩)
     all_goals (repeat' first|exact rfl|exact trivial|exact ao|refine aj ?_ ?_)
    |cons z zs=>
     rw[oL hE]
     refine Or.inr (Or.inl (Exists.intro _ (Exists.intro _ (aj (aj rfl hc) ?_))))
     repeat refine ai ?_
     refine ay ?_
     refine aj rfl (aj rfl ⟨rfl,rfl,?_,?_,?_⟩)
     all_goals (repeat' first|exact rfl|exact trivial|exact ao|refine aj ?_ ?_)
   |true=>
    have hok3:mP (O s.kind ms) all ⟨st3,out3⟩:=(hg.1 rfl).1
    cases out3 with
    |nil=>
     refine Or.inr (Or.inl (Exists.intro _ (Exists.intro _ (aj (aj rfl hc) ?_))))
     repeat refine ai ?_
     refine an ?_
     repeat refine ai ?_
     exact cV ⟨st3,[]⟩ hlt hs ⟨hE,hok3⟩ fun hw=>by repeat' first|exact rfl|exact trivial|exact nd hw|exact ao|refine aj ?_ ?_
    |cons z zs=>
     refine Or.inr (Or.inl (Exists.intro _ (Exists.intro _ (aj (aj rfl hc) ?_))))
     repeat refine ai ?_
     refine an ?_
     repeat refine ai ?_
     exact cV ⟨st3,(z::zs)⟩ hlt hs ⟨hE,hok3⟩ fun hw=>by repeat' first|exact rfl|exact trivial|exact nd hw|exact ao|refine aj ?_ ?_
  ·rw[eE (Z h1)] at hE
   rw[pS hE]
   refine aj rfl (aj rfl ⟨rfl,rfl,?_,?_,?_⟩)
   all_goals (repeat' first|exact rfl|exact trivial|exact ao|refine aj ?_ ?_)
 |cons y ys=>
  repeat refine ai ?_
  refine aj ?_ ?_<;>intro h1
  ·have hlt:i<all.length:=V h1
   have hy:all[i]∈all:=List.getElem_mem hlt
   have hwl:white all ⟨st1,(y::ys)⟩<all.length+1:=Nat.lt_succ_of_le (jU _ _)
   have hc:=jH s ms hm all all hN hin (all.length+1) 4 all[i] ⟨st1,(y::ys)⟩ hy hI hwl
   have hg:=ge hin (all.length+1) all[i] ⟨st1,(y::ys)⟩ hy hI hwl
   rw[dA hlt] at hE
   generalize hv:bU (O s.kind ms) (all.length+1) all[i] ⟨st1,(y::ys)⟩=v at hc hE hg
   obtain ⟨b3,st3,out3⟩:=v
   repeat refine ai ?_
   refine U (e:=eB) (xs:=all) (hlt) rfl ?_
   repeat refine ai ?_
   cases b3 with
   |false=>
    cases out3 with
    |nil=>
     rw[oL hE]
     refine Or.inr (Or.inl (Exists.intro _ (Exists.intro _ (aj (aj rfl hc) ?_))))
     repeat refine ai ?_
     refine ay ?_
     refine aj rfl (aj rfl ⟨rfl,rfl,?_,?_,?_⟩)
     all_goals (repeat' first|exact rfl|exact trivial|exact ao|refine aj ?_ ?_)
    |cons z zs=>
     rw[oL hE]
     refine Or.inr (Or.inl (Exists.intro _ (Exists.intro _ (aj (aj rfl hc) ?_))))
     repeat refine ai ?_
     refine ay ?_
     refine aj rfl (aj rfl ⟨rfl,rfl,?_,?_,?_⟩)
     all_goals (repeat' first|exact rfl|exact trivial|exact ao|refine aj ?_ ?_)
   |true=>
    have hok3:mP (O s.kind ms) all ⟨st3,out3⟩:=(hg.1 rfl).1
    cases out3 with
    |nil=>
     refine Or.inr (Or.inl (Exists.intro _ (Exists.intro _ (aj (aj rfl hc) ?_))))
     repeat refine ai ?_
     refine an ?_
     repeat refine ai ?_
     exact cV ⟨st3,[]⟩ hlt hs ⟨hE,hok3⟩ fun hw=>by repeat' first|exact rfl|exact trivial|exact nd hw|exact ao|refine aj ?_ ?_
    |cons z zs=>
     refine Or.inr (Or.inl (Exists.intro _ (Exists.intro _ (aj (aj rfl hc) ?_))))
     repeat refine ai ?_
     refine an ?_
     repeat refine ai ?_
     exact cV ⟨st3,(z::zs)⟩ hlt hs ⟨hE,hok3⟩ fun hw=>by repeat' first|exact rfl|exact trivial|exact nd hw|exact ao|refine aj ?_ ?_
  ·rw[eE (Z h1)] at hE
   rw[pS hE]
   refine aj rfl (aj rfl ⟨rfl,rfl,?_,?_,?_⟩)
   all_goals (repeat' first|exact rfl|exact trivial|exact ao|refine aj ?_ ?_)
theorem Db (s:GateShape) (ms:List GateMend) (lo:Nat):HSpec P 230 [.nils,va] (hA lo 2 s ms) (.tup [.d (lS []),.d (.bool true)]) (hA lo 2 s ms):=by
 refine HSpec.of_vc aG au [.tmp 4,.tmp 5] Tryz.func230 rfl rfl rfl rfl rfl (fun hok=>?_)
 have hs:([]:List Bs).length≤ap:=Nat.zero_le _
 repeat refine ai ?_
 refine dX (([]:List Bs)) (fun i=>True) (fun i=>[(7,.ptr 5 0),(13,.nils),(14,.d (.int .i64 0)),(15,.d (.int .i64 i))]) (fun i=>⟨[(5,.cells 101 [.nils]),(1,oM ms),(0,oS s)],7,2⟩) (trivial) ?_
 intro i hi hr
 repeat refine ai ?_
 refine aj ?_ ?_<;>intro h1
 ·exact absurd (of_decide_eq_true h1) (by omega)
 ·refine aj rfl (aj rfl ⟨rfl,rfl,?_,?_,?_⟩)
  all_goals (repeat' first|exact rfl|exact trivial|refine aj ?_ ?_)
theorem uT (s:GateShape) (ms:List GateMend) (hm:ms.length≤12) (hin:∀n∈bj s,∀y∈O s.kind ms n,y∈bj s):
 Spec P 212 [st s.e,.d (af ms)] (.tup [.d (lS (ic (O s.kind ms) (bj s)).1),.d (.bool (ic (O s.kind ms) (bj s)).2)]):=by
 refine Spec.of_vc aG au [.tmp 4,.tmp 5] Tryz.func212 rfl rfl rfl rfl (fun hok=>?_)
 have hs:s.fields.length≤ap:=by
  have:=hok.1
  simp only[st,AV.ok,GateShape.e,List.map,ea] at this
  exact aw this.2.1.1
 repeat refine ai ?_
 refine mq (s.fields) (fun i (A:List Bs)=>A=(s.fields.take i).map (·.name)) (fun i (A:List Bs)=>[(2,.ptr 0 0),(3,.ptr 1 0),(6,A7 3 A),(10,.d (ab s.fields)),(11,.d (.int .i64 (s.fields.map GateField.e).length)),(12,.d (.int .i64 i))]) (fun i (A:List Bs)=>⟨(yO [(1,oM ms),(0,oS s)] 2 3 A).objs,(yO [(1,oM ms),(0,oS s)] 2 3 A).nx,0⟩) (rfl) ?_
 intro i A hi hr
 have hA:A.length≤s.fields.length:=by rw[hr,List.length_map,List.length_take];omega
 have hA2:A.length≤i:=by rw[hr,List.length_map,List.length_take];omega
 repeat refine ai ?_
 refine aj ?_ ?_<;>intro h1
 ·have hlt:i<s.fields.length:=V h1
  have hstep:(s.fields.take (i+1)).map (·.name)=A++[s.fields[i].name]:=by
   rw[List.take_succ_eq_append_getElem hlt,List.map_append,←hr];rfl
  repeat refine ai ?_
  refine U (e:=GateField.e) (xs:=s.fields) (hlt) rfl ?_
  repeat refine ai ?_
  cases A with
  |nil=>
   repeat refine ai ?_
   refine aj (fun r hr=>by rw[List.mem_singleton.1 hr];rfl) ?_
   repeat refine ai ?_
   refine aj (by simp only[List.length_nil,List.length_cons,List.length_map] at*;unfold ap;omega) ?_
   repeat refine ai ?_
   exact cV ([s.fields[i].name]) hlt hs (by rw[hstep];rfl)
  |cons a tl=>
   repeat refine ai ?_
   refine aj (fun r hr=>by rw[List.mem_singleton.1 hr];rfl) ?_
   repeat refine ai ?_
   refine aj (by simp only[List.length_append,List.length_nil,List.length_cons,List.length_map] at*;unfold ap at*;omega) ?_
   repeat refine ai ?_
   exact cV (a::(tl++[s.fields[i].name])) hlt hs (by rw[hstep];rfl) fun hw=>by repeat' first|exact rfl|exact trivial|exact nd hw|exact bC _ _ _ _ _|refine aj ?_ ?_
 ·have ha:A=bj s:=by rw[hr,List.take_of_length_le (Z h1)];rfl
  rw[←ha] at hin ⊢
  cases A with
  |nil=>
   repeat refine ai ?_
   refine oh (Db s ms _) ?_
   rfl
  |cons a tl=>
   repeat refine ai ?_
   refine op (DJ s ms hm (a::tl) (Nat.le_trans hA hs) hin _) ?_
   rfl
def pT (s:GateShape) (ms:List GateMend):Bool:=((lR s ms).length:Int)==(s.fields.length:Int)
theorem kU {xs:List GateShape} {ms:List GateMend} (h:aH xs=true) (hm:ms.all (bE xs)=true) {s:GateShape} (hs:s∈xs):(ic (O s.kind ms) (bj s)).2=pT s ms:=by
 rw[yN,vz (lK h hs) (fun n _=>jA h hm hs n)]
 have e:(bj s).length=s.fields.length:=by rw[bj,List.length_map]
 unfold pT lR gr
 rw[e,Bool.eq_iff_iff,decide_eq_true_eq,beq_iff_eq]
 omega
theorem Af {xs:List GateShape} {m:GateMend} {j:Nat} (hj:j<xs.length) (e:dy (·.kind==m.kind) xs=(j:Int)):bE xs m=im xs[j].fields m:=by
 unfold bE
 rw[e,Int.toNat_natCast,List.getElem?_eq_getElem hj]
 have:decide ((j:Int)≥0)=true:=decide_eq_true (by omega)
 simp only[this,Bool.true_and]
theorem wD {xs:List GateShape} {m:GateMend} (h:decide (dy (·.kind==m.kind) xs<0)=true):bE xs m=false:=by
 have h':decide (dy (·.kind==m.kind) xs≥0)=false:=decide_eq_false (by have:=of_decide_eq_true h;omega)
 unfold bE
 split<;>simp only[h',Bool.false_and]
theorem fD (xs:List GateShape) (ms:List GateMend):Spec P 181 [.d (aa xs),.d (af ms)] (.d (.bool (bu xs ms))):=by
 refine Spec.of_vc aG au [.tmp 4] Tryz.func181 rfl rfl rfl rfl (fun hok=>?_)
 have hs:xs.length≤ap:=aw hok.1.1
 have hsm:ms.length≤ap:=aw hok.2.1.1
 repeat refine ai ?_
 refine oc (eY _) ?_
 repeat refine ai ?_
 refine aj ?_ ?_<;>intro h0
 ·simp only[Bool.not_eq_true',Bool.not_eq_false'] at h0
  repeat refine ai ?_
  refine aj ?_ ?_<;>intro h1
  ·rw[List.length_map] at h1
   refine bd ?_
   simp only[bu,h1,bl]
  ·rw[List.length_map] at h1
   have hm12:ms.length≤12:=by have:=of_decide_eq_false h1;omega
   have e:bu xs ms=(ms.all (bE xs)&&xs.all fun s=>pT s ms):=by simp only[bu,h0,h1,bl];rfl
   rw[e]
   repeat refine ai ?_
   refine dX (ms) (fun i=>ms.all (bE xs)=(ms.drop i).all (bE xs)) (fun i=>[(0,.d (aa xs)),(1,.d (af ms)),(20,.d (af ms)),(21,.d (.int .i64 (ms.map GateMend.e).length)),(22,.d (.int .i64 i))]) (fun i=>hp0) (rfl) ?_
   intro i hi hr
   repeat refine ai ?_
   refine aj ?_ ?_<;>intro h2
   ·have hlt:i<ms.length:=V h2
    rw[aD hlt] at hr
    repeat refine ai ?_
    refine U (e:=GateMend.e) (xs:=ms) (hlt) rfl ?_
    repeat refine ai ?_
    refine oc (ip _ _) ?_
    repeat refine ai ?_
    refine ak ?_
    repeat refine ai ?_
    refine aj ?_ ?_<;>intro h3
    ·obtain ⟨j,hj,ej,_⟩:=dx (p:=fun s:GateShape=>s.kind==ms[i].kind) (xs:=xs) (decide_eq_true (by have:=of_decide_eq_false h3;omega))
     repeat refine ai ?_
     refine aA (e:=GateShape.e) (xs:=xs) (hj) (ej) rfl ?_
     repeat refine ai ?_
     refine oc (BG _ _) ?_
     rw[Af hj ej] at hr
     repeat refine ai ?_
     refine aj ?_ ?_<;>intro h4
     ·change (!im xs[j].fields ms[i])=true at h4
      simp only[Bool.not_eq_true',Bool.not_eq_false'] at h4
      refine bd ?_
      rw[hr,h4];rfl
     ·change (!im xs[j].fields ms[i])=false at h4
      simp only[Bool.not_eq_true',Bool.not_eq_false'] at h4
      repeat refine ai ?_
      exact bX hlt hsm (by rw[hr,h4];rfl)
    ·repeat refine ai ?_
     refine ay ?_
     refine bd ?_
     rw[hr,wD h3];rfl
   ·rw[ci (Z h2)] at hr
    rw[hr,Bool.true_and]
    repeat refine ai ?_
    refine dX (xs) (fun i=>(xs.all fun s=>pT s ms)=((xs.drop i).all fun s=>pT s ms)) (fun i=>[(0,.d (aa xs)),(1,.d (af ms)),(43,.d (aa xs)),(44,.d (.int .i64 (xs.map GateShape.e).length)),(45,.d (.int .i64 i))]) (fun i=>hp0) (rfl) ?_
    intro i hi hr
    repeat refine ai ?_
    refine aj ?_ ?_<;>intro h5
    ·have hlt:i<xs.length:=V h5
     rw[aD hlt] at hr
     repeat refine ai ?_
     refine U (e:=GateShape.e) (xs:=xs) (hlt) rfl ?_
     repeat refine ai ?_
     refine oc (uT xs[i] ms hm12 (fun n _=>jA h0 (by assumption) (List.getElem_mem hlt) n)) ?_
     rw[kU h0 (by assumption) (List.getElem_mem hlt)]
     repeat refine ai ?_
     refine aj ?_ ?_<;>intro h6
     ·simp only[Bool.not_eq_true',Bool.not_eq_false'] at h6
      refine bd ?_
      rw[hr,h6];rfl
     ·simp only[Bool.not_eq_true',Bool.not_eq_false'] at h6
      repeat refine ai ?_
      exact bX hlt hs (by rw[hr,h6];rfl)
    ·refine bd ?_
     rw[hr,ci (Z h5)]
 ·simp only[Bool.not_eq_true',Bool.not_eq_false'] at h0
  refine bd ?_
  simp only[bu,h0,Bool.false_and]
end Go.Vc
end
section
namespace Go.Vc
def cv (fs:List GateField) (vals:List Bs) (n:Bs):Bs:=match vals[(dy (·.name==n) fs).toNat]? with|some v=>v|none=>[]
def jO (e:Bs→Bs) (k n:Bs) (m:GateMend):Bool:=(m.kind==k&&m.field==n)&&((m.when_==[]||e m.when_==m.is_)&&(m.from_==[]|| !(e m.from_==[])))
def ku (e:Bs→Bs) (m:GateMend):Bs:=bif m.from_==[] then m.put else e m.from_
def nq (e:Bs→Bs) (k n d:Bs):List GateMend→Bs
 |[]=>d
 |m::ms=>bif jO e k n m then ku e m else nq e k n d ms
def qM (fs:List GateField) (ms:List GateMend) (k:Bs) (vals:List Bs) (n:Bs):Bs:=nq (cv fs vals) k n (cv fs vals n) ms
def bt (fs:List GateField) (ms:List GateMend) (k:Bs) (vals:List Bs) (n:Bs):List Bs:=vals.set (dy (·.name==n) fs).toNat (qM fs ms k vals n)
def bO (fs:List GateField) (ms:List GateMend) (k:Bs) (row:List Bs) (vals:List Bs):List Bs:=row.foldl (bt fs ms k) vals
theorem la {e1 e2:Bs→Bs} {k n d:Bs}:∀{ms:List GateMend},(∀y∈O k ms n,e1 y=e2 y)→nq e1 k n d ms=nq e2 k n d ms
 |[],_=>rfl
 |m::ms,h=>by
  have ih:=la (e1:=e1) (e2:=e2) (k:=k) (n:=n) (d:=d) (ms:=ms) (fun y hy=>h y (by simp only[O,List.map_cons,List.flatten_cons,List.mem_append];exact .inr hy))
  simp only[nq,ih]
  cases hkf:(m.kind==k&&m.field==n) with
  |false=>simp only[jO,hkf,Bool.false_and,cond_false]
  |true=>
   have hr:∀y∈jg m.when_++jg m.from_,e1 y=e2 y:=fun y hy=>h y (by simp only[O,List.map_cons,List.flatten_cons,List.mem_append,yQ,hkf,cond_true];exact .inl (List.mem_append.1 hy))
   have hw:(m.when_==[])=true∨e1 m.when_=e2 m.when_:=by
    cases hq:m.when_==[] with
    |true=>exact .inl rfl
    |false=>exact .inr (hr _ (List.mem_append.2 (.inl (by simp[jg,hq]))))
   have hf:(m.from_==[])=true∨e1 m.from_=e2 m.from_:=by
    cases hq:m.from_==[] with
    |true=>exact .inl rfl
    |false=>exact .inr (hr _ (List.mem_append.2 (.inr (by simp[jg,hq]))))
   have hc:jO e1 k n m=jO e2 k n m:=by
    simp only[jO]
    rcases hw with hw|hw<;>rcases hf with hf|hf<;>simp only[hw,hf,Bool.true_or]
   have hg:ku e1 m=ku e2 m:=by
    simp only[ku]
    rcases hf with hf|hf<;>simp only[hf,cond_true]
   rw[hc,hg]
theorem fJ {fs:List GateField} {n:Bs} (h:n∈fs.map (·.name)):∃j:Nat,∃h:j<fs.length,dy (·.name==n) fs=(j:Int)∧fs[j].name=n:=by
 rcases gx (p:=fun f:GateField=>f.name==n) fs 0 with ⟨h1,h2⟩|⟨j,hj,h1,h2,_⟩
 ·obtain ⟨f,hf,rfl⟩:=List.mem_map.1 h
  have:=List.any_eq_false.1 h2 f hf
  simp at this
 ·exact ⟨j,hj,by unfold dy;rw[h1,Nat.zero_add],beq_iff_eq.1 h2⟩
theorem Bn {fs:List GateField} (hn:(fs.map (·.name)).Nodup) {i j:Nat} (hi:i<fs.length) (hj:j<fs.length) (h:fs[i].name=fs[j].name):i=j:=by
 have e:(fs.map GateField.name)[i]'(by simpa using hi)=(fs.map GateField.name)[j]'(by simpa using hj):=by simpa using h
 exact (List.getElem_inj hn).1 e
section
variable {fs:List GateField} {ms:List GateMend} {k:Bs}
theorem fG {vals:List Bs} {n:Bs} {j:Nat} (e:dy (·.name==n) fs=(j:Int)) (h:j<vals.length):cv fs vals n=vals[j]:=by
 unfold cv
 rw[e,Int.toNat_natCast,List.getElem?_eq_getElem h]
theorem mT {vals:List Bs} (hl:vals.length=fs.length) {n y v:Bs} (hn:n∈fs.map (·.name)) (hy:y∈fs.map (·.name)):cv fs (vals.set (dy (·.name==n) fs).toNat v) y=if y=n then v else cv fs vals y:=by
 obtain ⟨i,hi,e1,e2⟩:=fJ hn
 obtain ⟨j,hj,e3,e4⟩:=fJ hy
 rw[e1,Int.toNat_natCast,fG e3 (by rw[List.length_set];omega),List.getElem_set]
 by_cases h:i=j
 ·subst h
  rw[if_pos rfl,if_pos (by rw[←e4,←e2])]
 ·rw[if_neg h,fG e3 (by omega),if_neg]
  intro e
  subst e
  rw[e1] at e3
  exact h (by omega)
theorem iS (vals:List Bs) (n:Bs):(bt fs ms k vals n).length=vals.length:=List.length_set ..
theorem gg:∀(row:List Bs) (vals:List Bs),(bO fs ms k row vals).length=vals.length
 |[],_=>rfl
 |n::row,vals=>by
  show (bO fs ms k row (bt fs ms k vals n)).length=_
  rw[gg row,iS]
theorem gM:∀{row:List Bs} {vals:List Bs},vals.length=fs.length→(∀x∈row,x∈fs.map (·.name))→∀{y:Bs},y∈fs.map (·.name)→y ∉ row→cv fs (bO fs ms k row vals) y=cv fs vals y
 |[],_,_,_,_,_,_=>rfl
 |n::row,vals,hl,hr,y,hy,hne=>by
  show cv fs (bO fs ms k row (bt fs ms k vals n)) y=_
  rw[gM (by rw[iS];exact hl) (fun x hx=>hr x (List.mem_cons_of_mem _ hx)) hy (fun h=>hne (List.mem_cons_of_mem _ h))]
  unfold bt
  rw[mT hl (hr n List.mem_cons_self) hy,if_neg (fun e:y=n=>hne (e▸List.mem_cons_self))]
theorem sE (a b:List Bs) (vals:List Bs):bO fs ms k (a++b) vals=bO fs ms k b (bO fs ms k a vals):=by
 unfold bO;exact List.foldl_append
theorem wC {row:List Bs} (g:r7 (O k ms) (fs.map (·.name)) row) {vals:List Bs} (hl:vals.length=fs.length) {n:Bs} (hn:n∈row):
 cv fs (bO fs ms k row vals) n=nq (cv fs (bO fs ms k row vals)) k n (cv fs vals n) ms:=by
 obtain ⟨pre,post,rfl⟩:=List.append_of_mem hn
 have hnd:=g.nd
 rw[List.nodup_append] at hnd
 obtain ⟨_,hpost,hdis⟩:=hnd
 rw[List.nodup_cons] at hpost
 have hpre:n ∉ pre:=fun h=>hdis n h n List.mem_cons_self rfl
 have hsub:∀x∈pre++n::post,x∈fs.map (·.name):=g.sub
 have hl1:(bO fs ms k pre vals).length=fs.length:=by rw[gg,hl]
 have hn':=hsub n (by simp)
 have e0:bO fs ms k (pre++n::post) vals=bO fs ms k post (bt fs ms k (bO fs ms k pre vals) n):=by rw[sE];rfl
 have hl2:(bt fs ms k (bO fs ms k pre vals) n).length=fs.length:=by rw[iS,hl1]
 have hps:∀x∈post,x∈fs.map (·.name):=fun x hx=>hsub x (by simp[hx])
 have e1:cv fs (bO fs ms k (pre++n::post) vals) n=qM fs ms k (bO fs ms k pre vals) n:=by
  rw[e0,gM hl2 hps hn' hpost.1]
  unfold bt
  rw[mT hl1 hn' hn',if_pos rfl]
 rw[e1]
 unfold qM
 have e2:cv fs (bO fs ms k pre vals) n=cv fs vals n:=gM hl (fun x hx=>hsub x (by simp[hx])) hn' hpre
 rw[e2]
 refine la fun y hy=>?_
 have hb:=g.beh n (by simp) y hy
 have hni:(pre++n::post).idxOf n=pre.length:=by rw[List.idxOf_append,if_neg hpre];simp
 have hyp:y∈pre:=by
  rw[hni] at hb
  rw[List.idxOf_append] at hb
  split at hb
  ·assumption
  ·omega
 have hy':=hsub y (by simp[hyp])
 rw[e0,gM hl2 hps hy' (fun h=>hdis y hyp y (List.mem_cons_of_mem _ h) rfl)]
 unfold bt
 rw[mT hl1 hn' hy',if_neg (fun e:y=n=>hpre (e▸hyp))]
theorem wB (hnd:(fs.map (·.name)).Nodup) {r1 r2:List Bs} (g1:r7 (O k ms) (fs.map (·.name)) r1) (g2:r7 (O k ms) (fs.map (·.name)) r2) (h1:∀n∈fs.map (·.name),n∈r1) (h2:∀n∈fs.map (·.name),n∈r2)
 {vals:List Bs} (hl:vals.length=fs.length):bO fs ms k r1 vals=bO fs ms k r2 vals:=by
 have key:∀(i:Nat) (n:Bs),n∈fs.map (·.name)→r1.idxOf n=i→cv fs (bO fs ms k r1 vals) n=cv fs (bO fs ms k r2 vals) n:=by
  intro i
  induction i using Nat.strongRecOn with
  |_ i ih=>
   intro n hn hi
   rw[wC g1 hl (h1 n hn),wC g2 hl (h2 n hn)]
   refine la fun y hy=>?_
   have hb:=g1.beh n (h1 n hn) y hy
   have hyr:y∈r1:=List.idxOf_lt_length_iff.1 (by have:=List.idxOf_lt_length_of_mem (h1 n hn);omega)
   exact ih _ (hi▸hb) y (g1.sub y hyr) rfl
 have l1:(bO fs ms k r1 vals).length=fs.length:=by rw[gg,hl]
 have l2:(bO fs ms k r2 vals).length=fs.length:=by rw[gg,hl]
 apply List.ext_getElem (by rw[l1,l2])
 intro j hj1 hj2
 have hj:j<fs.length:=by omega
 have hm:fs[j].name∈fs.map (·.name):=List.mem_map.2 ⟨_,List.getElem_mem hj,rfl⟩
 obtain ⟨j',hj',e1,e2⟩:=fJ hm
 have:=Bn hnd hj' hj e2
 subst this
 have hk:=key _ _ hm rfl
 rw[fG e1 hj1,fG e1 hj2] at hk
 exact hk
end
theorem ss (s:GateShape) (ms:List GateMend):r7 (O s.kind ms) (bj s) (lR s ms):=fM _ _ _
theorem BM:∀{ns row:List Bs},ns.Nodup→row.Nodup→(∀x∈row,x∈ns)→row.length=ns.length→∀n∈ns,n∈row:=by
 intro ns row hn hr hs hl n hm
 refine Classical.byContradiction fun h=>?_
 have:(n::row).length≤ns.length:=ey (List.nodup_cons.2 ⟨h,hr⟩) (fun x hx=>by
  rcases List.mem_cons.1 hx with e|e
  ·exact e▸hm
  ·exact hs x e)
 simp only[List.length_cons] at this
 omega
theorem sr {rd:Bs→List Bs} {ns:List Bs} (hin:∀n∈ns,∀y∈rd n,y∈ns) (h:(ic rd ns).2=true):r7 rd ns (ic rd ns).1∧∀n∈ns,n∈(ic rd ns).1:=by
 have g:=iw (rd:=rd) (ns:=ns) (w:=bU rd (ns.length+1)) (n:=ns.length) ns zu
  (fun y hy s hs hl=>ge hin _ y s hy hs (by omega)) (xi rd ns) (jU _ _)
 rw[yN] at h
 obtain ⟨g1,g2,g3⟩:=g.1 h
 cases e:bH (bU rd (ns.length+1)) ns zu with
 |mk b u=>
  rw[e] at h g1 g2 g3
  simp only at h
  subst h
  rw[pS e]
  exact ⟨⟨g1.nd,g1.sub,g1.beh⟩,fun n hn=>(g1.two n).1 (g3 n hn)⟩
end Go.Vc
end
section
namespace Go.Vc
open Go.Proofs
set_option maxRecDepth 100000
theorem Bd {fs:List GateField} {vals:List Bs} (hl:vals.length=fs.length) (h0:0<fs.length) (y:Bs) (c:Prop) (hc:c→y∈fs.map (·.name)):∃j,∃hj:j<vals.length,c→(dy (·.name==y) fs=(j:Int)∧cv fs vals y=vals[j]):=by
 by_cases h:c
 ·obtain ⟨j,hj,e,_⟩:=fJ (hc h)
  exact ⟨j,by omega,fun _=>⟨e,fG e (by omega)⟩⟩
 ·exact ⟨0,by omega,fun g=>absurd g h⟩
def Cc (fs:List GateField) (k:Bs) (m:GateMend):Prop:=(m.kind==k)=true→((m.when_==[])=false→m.when_∈fs.map (·.name))∧((m.from_==[])=false→m.from_∈fs.map (·.name))
theorem sZ {e:Bs→Bs} {k n d:Bs} {ms:List GateMend} {i:Nat} (h:i<ms.length):nq e k n d (ms.drop i)=bif jO e k n ms[i] then ku e ms[i] else nq e k n d (ms.drop (i+1)):=by
 rw[List.drop_eq_getElem_cons h];rfl
theorem xa {e:Bs→Bs} {k n d:Bs} {ms:List GateMend} {i:Nat} (h:ms.length≤i):nq e k n d (ms.drop i)=d:=by
 rw[List.drop_of_length_le h];rfl
set_option maxHeartbeats 4000000 in
theorem vW (fs:List GateField) (ms:List GateMend) (o:GateObject) (n:Bs) (hl:o.values.length=fs.length) (hn:n∈fs.map (·.name)) (hm:∀m∈ms,Cc fs o.kind m):
 Spec P 224 [.d (ab fs),.d (af ms),st o.e,.d (.str n)] (.d (.str (qM fs ms o.kind o.values n))):=by
 refine Spec.of_vc aG au [.tmp 8] Tryz.func224 rfl rfl rfl rfl (fun hok=>?_)
 have hs:ms.length≤ap:=aw hok.2.1.1
 obtain ⟨jn,hjn,en,_⟩:=fJ hn
 repeat refine ai ?_
 refine dX (ms) (fun i=>qM fs ms o.kind o.values n=nq (cv fs o.values) o.kind n (cv fs o.values n) (ms.drop i)) (fun i=>[(0,.d (ab fs)),(1,.d (af ms)),(3,.d (.str n)),(6,.ptr 0 0),(9,.d (.int .i64 i))]) (fun i=>⟨[(0,.cells 103 (o.e.map .d))],1,0⟩) (rfl) ?_
 intro i hi hr
 repeat refine ai ?_
 refine aj ?_ ?_<;>intro h1
 ·have hlt:i<ms.length:=V h1
  rw[sZ hlt] at hr
  have hmi:=hm ms[i] (List.getElem_mem hlt)
  obtain ⟨jw,hjw,ew⟩:=Bd hl (by omega) ms[i].when_ ((ms[i].kind==o.kind)=true∧(ms[i].when_==[])=false) (fun h=>(hmi h.1).1 h.2)
  obtain ⟨jf,hjf,ef⟩:=Bd hl (by omega) ms[i].from_ ((ms[i].kind==o.kind)=true∧(ms[i].from_==[])=false) (fun h=>(hmi h.1).2 h.2)
  generalize hd:nq (cv fs o.values) o.kind n (cv fs o.values n) (ms.drop (i+1))=rest at hr
  repeat refine ai ?_
  refine U (e:=GateMend.e) (xs:=ms) (hlt) rfl ?_
  repeat refine ai ?_
  refine ak ?_
  repeat refine ai ?_
  repeat' first
   |refine ai ?_
   |(refine aj ?_ ?_<;>intro h)
   |refine oc (ia _ _) ?_
   |refine aj (by kernel_rfl) ?_
   |refine aA (e:=eB) (xs:=o.values) hjw (ew (by simp_all)).1 rfl ?_
   |refine aA (e:=eB) (xs:=o.values) hjf (ef (by simp_all)).1 rfl ?_
  all_goals (simp only[cond_false,cond_true,Bool.not_eq_true',Bool.not_eq_false',reduceCtorEq] at*)
  all_goals (try have ew':=(ew ⟨by assumption,by assumption⟩).2)
  all_goals (try have ef':=(ef ⟨by assumption,by assumption⟩).2)
  all_goals first
   |(refine sd ?_;rw[hr];simp only[jO,ku, *,cond_true,cond_false,bl];done)
   |(have hq:qM fs ms o.kind o.values n=rest:=(by rw[hr];simp only[jO,ku, *,cond_true,cond_false,bl]);exact bX hlt hs (hq.trans hd.symm))
 ·repeat refine ai ?_
  refine ak ?_
  repeat refine ai ?_
  refine oc (ia _ _) ?_
  repeat refine ai ?_
  refine aA (e:=eB) (xs:=o.values) ((show jn<o.values.length by omega)) (en) rfl ?_
  repeat refine ai ?_
  refine sd ?_
  rw[hr,xa (Z h1),fG en (by omega)]
theorem sF {xs:List GateShape} {ms:List GateMend} (h:aH xs=true) (hm:ms.all (bE xs)=true) {s:GateShape} (hs:s∈xs):∀m∈ms,Cc s.fields s.kind m:=by
 intro m hmm hk
 have hf:=y4 h hs (List.all_eq_true.1 hm m hmm) (beq_iff_eq.1 hk)
 unfold im at hf
 simp only[Bool.and_eq_true,Bool.or_eq_true] at hf
 obtain ⟨⟨_,h2,h3⟩,_⟩:=hf
 refine ⟨fun g=>?_,fun g=>?_⟩
 ·rcases h2 with h2|h2
  ·rw[g] at h2;cases h2
  ·exact lZ h2
 ·rcases h3 with h3|h3
  ·rw[g] at h3;cases h3
  ·exact lZ h3
def dQ (xs:List GateShape) (ms:List GateMend) (o:GateObject):GateObject:=match xs[(dy (·.kind==o.kind) xs).toNat]? with
 |some s=>bif (ag xs o.kind o.values.length).2 then {o with values:=bO s.fields ms o.kind (lR s ms) o.values} else o
 |none=>o
theorem qg {xs:List GateShape} {ms:List GateMend} {o:GateObject} (h:(ag xs o.kind o.values.length).2=false):dQ xs ms o=o:=by
 unfold dQ
 split
 ·rw[h];rfl
 ·rfl
theorem qh {xs:List GateShape} {ms:List GateMend} {o:GateObject} {j:Nat} (hj:j<xs.length) (e:dy (·.kind==o.kind) xs=(j:Int)) (h:(ag xs o.kind o.values.length).2=true):dQ xs ms o={o with values:=bO xs[j].fields ms o.kind (lR xs[j] ms) o.values}:=by
 unfold dQ
 rw[e,Int.toNat_natCast,List.getElem?_eq_getElem hj,h]
 rfl
theorem qi {fs:List GateField} {ms:List GateMend} {k:Bs} {row:List Bs} {vals:List Bs} {i:Nat} (h:i<row.length):bO fs ms k (row.take (i+1)) vals=bt fs ms k (bO fs ms k (row.take i) vals) row[i]:=by
 rw[List.take_succ_eq_append_getElem h,sE];rfl
set_option maxHeartbeats 1000000 in
theorem xA (xs:List GateShape) (ms:List GateMend) (o:GateObject) (hx:aH xs=true) (hm:ms.all (bE xs)=true):
 Spec P 206 [.d (aa xs),.d (af ms),st o.e] (st (dQ xs ms o).e):=by
 refine Spec.of_vc aG au [.cell 6 103] Tryz.func206 rfl rfl rfl rfl (fun hok=>?_)
 have hb:=iM (o:=o) ⟨hok.2.2.1,trivial⟩
 repeat refine ai ?_
 refine ow (sn o hb.1 hb.2) ?_
 repeat refine ai ?_
 refine oc (er _ _) ?_
 repeat refine ai ?_
 refine aj ?_ ?_<;>intro h0
 ·simp only[Bool.not_eq_true'] at h0
  rw[qg h0]
  repeat refine ai ?_
  exact rfl
 ·simp only[Bool.not_eq_false'] at h0
  rcases di (xs:=xs) (k:=o.kind) (n:=o.values.length) with ⟨h1,_⟩|⟨j,hj,ej,ef,hl,hk⟩
  ·rw[h1] at h0;cases h0
  rw[qh hj ej h0]
  repeat refine ai ?_
  refine oc (ib _ _) ?_
  repeat refine ai ?_
  refine aA (e:=GateShape.e) (xs:=xs) (hj) (ej) rfl ?_
  repeat refine ai ?_
  refine oc (yI xs[j] ms) ?_
  have g:=ss xs[j] ms
  have hmi:=sF hx hm (List.getElem_mem hj)
  rw[hk] at hmi
  have hfs:(ag xs o.kind o.values.length).1=xs[j].fields:=by rw[ef]
  rw[hfs]
  have hrl:(lR xs[j] ms).length≤xs[j].fields.length:=Dc _ _ _
  have hsub:∀x∈lR xs[j] ms,x∈xs[j].fields.map (·.name):=g.sub
  generalize hfe:xs[j].fields=fs at*
  generalize lR xs[j] ms=row at*
  repeat refine ai ?_
  refine mq (row) (fun i (W:List Bs)=>W=bO fs ms o.kind (row.take i) o.values) (fun i (W:List Bs)=>[(1,.d (af ms)),(6,.ptr 1 0),(7,.ptr 6 0),(8,.d (ab fs)),(10,.d (lS row)),(11,.d (.int .i64 i))]) (fun i (W:List Bs)=>⟨[(6,.cells 103 [.d (.str o.kind),.d (.str o.name),.d (.str o.team),.own 4,.d (.bool o.ending),.own 5,.d (.int .i64 o.version)]),(4,.row 9 1 (W.map eB)),(5,.row 9 1 (o.holds.map eB)),(1,.cells 103 [.d (.str []),.d (.str []),.d (.str []),.nils,.d (.bool false),.nils,.d (.int .i64 0)])],7,0⟩) (rfl) ?_
  intro i W hi hr
  have hs:row.length≤ap:=by omega
  have hW:W.length=fs.length:=by rw[hr,gg,hl]
  repeat refine ai ?_
  refine aj ?_ ?_<;>intro h1
  ·have hlt:i<row.length:=V h1
   have hin:=hsub _ (List.getElem_mem hlt)
   obtain ⟨p,hp,ep,_⟩:=fJ hin
   have hst:bO fs ms o.kind (row.take (i+1)) o.values=bt fs ms o.kind W row[i]:=by rw[qi hlt,←hr]
   repeat refine ai ?_
   refine Eg ?_
   repeat refine ai ?_
   refine U (e:=eB) (xs:=row) (hlt) rfl ?_
   repeat refine ai ?_
   refine oc (ia _ _) ?_
   repeat refine ai ?_
   refine U (e:=eB) (xs:=row) (hlt) rfl ?_
   repeat refine ai ?_
   refine oc (vW fs ms {o with values:=W} row[i] hW hin hmi) ?_
   repeat refine ai ?_
   refine aj (by rw[ep];exact Int.natCast_nonneg _) (aj (by rw[ep,List.length_map];omega) ?_)
   repeat refine ai ?_
   have hpt:(dy (·.name==row[i]) fs).toNat<W.length:=by rw[ep];omega
   refine ⟨eB W[(dy (·.name==row[i]) fs).toNat],by rw[List.getElem?_map,List.getElem?_eq_getElem hpt];rfl,Nat.le_refl _,?_⟩
   repeat refine ai ?_
   exact cV (bt fs ms o.kind W row[i]) hlt hs (by rw[hst]) fun hw=>by repeat' first|exact rfl|exact trivial|exact nd hw|exact pR hpt|refine aj ?_ ?_
  ·rw[List.take_of_length_le (Z h1)] at hr
   rw[←hr]
   repeat refine ai ?_
   exact rfl
end Go.Vc
end
section
namespace Go.Vc
open Go.Proofs
set_option maxRecDepth 100000
theorem pM (xs:List GateShape) (ms:List GateMend) (o:GateObject) (hx:aH xs=true) (hm:ms.all (bE xs)=true):
 Spec P 174 [.d (aa xs),.d (af ms),st o.e] (st (dQ xs ms (fr xs o)).e):=by
 refine Spec.of_vc aG au [.cell 6 103] Tryz.func174 rfl rfl rfl rfl (fun hok=>?_)
 repeat refine ai ?_
 refine oc (AZ _ _) ?_
 repeat refine ai ?_
 refine oc (xA xs ms (fr xs o) hx hm) ?_
 repeat refine ai ?_
 exact rfl
theorem sU (fs:List GateField) (o:GateObject) (n:Bs) (hl:o.values.length=fs.length) (hn:n∈fs.map (·.name)):Spec P 233 [.d (.str n),.at_ o.e,.at_ [ab fs]] (.d (.str (cv fs o.values n))):=by
 refine Spec.of_vc aG au [.tmp 4] Tryz.func233 rfl rfl rfl rfl (fun hok=>?_)
 obtain ⟨j,hj,e,_⟩:=fJ hn
 repeat refine ai ?_
 refine ak ?_
 repeat refine ai ?_
 refine oc (j6 _ _) ?_
 repeat refine ai ?_
 refine aA (e:=eB) (xs:=o.values) ((show j<o.values.length by omega)) (e) rfl ?_
 repeat refine ai ?_
 refine sd ?_
 rw[fG e (by omega)]
theorem li {b:Bool} (h:(!b)=false):b=true:=by simpa using h
theorem oz {b:Bool} (h:(!b)=true):b=false:=by simpa using h
theorem eJ {xs:List GateShape} {ms:List GateMend} (h:bu xs ms=true):aH xs=true∧ms.all (bE xs)=true∧ms.length≤12∧∀s∈xs,pT s ms=true:=by
 unfold bu at h
 simp only[Bool.and_eq_true,Bool.not_eq_true',decide_eq_false_iff_not] at h
 obtain ⟨h1,h2,h3,h4⟩:=h
 exact ⟨h1,h3,by omega,fun s hs=>List.all_eq_true.1 h4 s hs⟩
theorem A5 {xs:List GateShape} {ms:List GateMend} (h:bu xs ms=true) {s:GateShape} (hs:s∈xs) {vals:List Bs} (hl:vals.length=s.fields.length):
 bO s.fields ms s.kind (ic (O s.kind ms) (bj s)).1 vals=bO s.fields ms s.kind (lR s ms) vals:=by
 obtain ⟨h1,h2,h3,h4⟩:=eJ h
 have hr:=h4 s hs
 have hnd:=lK h1 hs
 have hin:∀n∈bj s,∀y∈O s.kind ms n,y∈bj s:=fun n _=>jA h1 h2 hs n
 obtain ⟨g1,g2⟩:=sr hin (by rw[kU h1 h2 hs];exact hr)
 have g:=ss s ms
 refine wB hnd g1 g g2 (BM hnd g.nd g.sub ?_) hl
 unfold pT at hr
 have:=beq_iff_eq.1 hr
 show _=(s.fields.map (·.name)).length
 rw[List.length_map]
 omega
theorem sD (fs:List GateField) (ms:List GateMend) (k:Bs):∀row:List Bs,bO fs ms k row []=[]
 |[]=>rfl
 |n::row=>by
  show bO fs ms k row (bt fs ms k [] n)=[]
  have:bt fs ms k [] n=[]:=by unfold bt;rfl
  rw[this];exact sD fs ms k row
theorem wA {xs:List GateShape} {ms:List GateMend} {o:GateObject} (h:o.values=[]):dQ xs ms o=o:=by
 unfold dQ
 split
 ·cases (ag xs o.kind o.values.length).2
  ·rfl
  ·rw[cond_true]
   cases o
   simp only at h
   subst h
   simp only[sD]
 ·rfl
set_option maxHeartbeats 1000000 in
theorem rT (xs:List GateShape) (ms:List GateMend) (o:GateObject) (hv:o.values=[]):Spec P 216 [.d (aa xs),.d (af ms),st o.e] (st o.e):=by
 refine Spec.of_vc aG au [.cell 6 103] Tryz.func216 rfl rfl rfl rfl (fun hok=>?_)
 have hsm:ms.length≤ap:=aw hok.2.1.1
 repeat refine ai ?_
 refine oc (ye _) ?_
 repeat refine ai ?_
 refine oc (fo _ _) ?_
 repeat refine ai ?_
 refine aj ?_ ?_<;>intro h0
 ·repeat refine ai ?_
  refine oc (fD _ _) ?_
  repeat refine ai ?_
  refine aj ?_ ?_<;>intro h1
  ·repeat refine ai ?_
   exact rfl
  ·simp only[Bool.not_eq_false'] at h0 h1
   obtain ⟨hx,hm,hm12,hro⟩:=eJ h1
   rcases di (xs:=xs) (k:=o.kind) (n:=o.values.length) with ⟨h2,_⟩|⟨j,hj,ej,ef,hl,hk⟩
   ·rw[h2] at h0;cases h0
   have hjm:=List.getElem_mem hj
   have hin:∀n∈bj xs[j],∀y∈O xs[j].kind ms n,y∈bj xs[j]:=fun n _=>jA hx hm hjm n
   have hn0:bj xs[j]=[]:=by
    have:(bj xs[j]).length=xs[j].fields.length:=List.length_map ..
    rw[hl,hv] at this
    exact List.eq_nil_of_length_eq_zero this
   repeat refine ai ?_
   refine oc (ip _ _) ?_
   repeat refine ai ?_
   refine aA (e:=GateShape.e) (xs:=xs) (hj) (ej) rfl ?_
   repeat refine ai ?_
   refine oc (uT xs[j] ms hm12 hin) ?_
   rw[hn0]
   generalize ag xs o.kind o.values.length=ff at*
   repeat refine ai ?_
   refine dX (([]:List Bs)) (fun i=>True) (fun i=>[(5,.ptr 0 0),(6,.ptr 1 0),(47,.d (lS [])),(48,.d (.int .i64 0)),(49,.d (.int .i64 i))]) (fun i=>⟨[(0,.cells 103 [.d (.str o.kind),.d (.str o.name),.d (.str o.team),.d (lS o.values),.d (.bool o.ending),.d (lS o.holds),.d (.int .i64 o.version)]),(1,.cells 103 [.d (.str []),.d (.str []),.d (.str []),.nils,.d (.bool false),.nils,.d (.int .i64 0)])],2,0⟩) (trivial) ?_
   intro i hi hr
   repeat refine ai ?_
   refine aj ?_ ?_<;>intro g1
   ·exact absurd (of_decide_eq_true g1) (by omega)
   ·repeat refine ai ?_
    exact rfl
 ·repeat refine ai ?_
  exact rfl
set_option maxHeartbeats 4000000 in
theorem rS (xs:List GateShape) (ms:List GateMend) (o:GateObject) (hpos:0<o.values.length):Spec P 216 [.d (aa xs),.d (af ms),st o.e] (st (bif bu xs ms then dQ xs ms o else o).e):=by
 refine Spec.of_vc aG au [.cell 6 103] Tryz.func216 rfl rfl rfl rfl (fun hok=>?_)
 have hb:=iM (o:=o) ⟨hok.2.2.1,trivial⟩
 have hsm:ms.length≤ap:=aw hok.2.1.1
 repeat refine ai ?_
 refine ow (zd o hpos) ?_
 repeat refine ai ?_
 refine oe (fun g=>nP xs o g 4) ?_
 repeat refine ai ?_
 refine aj ?_ ?_<;>intro h0
 ·repeat refine ai ?_
  refine oc (fD _ _) ?_
  repeat refine ai ?_
  refine aj ?_ ?_<;>intro h1
  ·simp only[Bool.not_eq_true',Bool.not_eq_false'] at h0 h1
   rw[h1]
   repeat refine ai ?_
   exact rfl
  ·simp only[Bool.not_eq_false'] at h0 h1
   obtain ⟨hx,hm,hm12,hro⟩:=eJ h1
   rcases di (xs:=xs) (k:=o.kind) (n:=o.values.length) with ⟨h2,_⟩|⟨j,hj,ej,ef,hl,hk⟩
   ·rw[h2] at h0;cases h0
   have hjm:=List.getElem_mem hj
   have hres:(bif bu xs ms then dQ xs ms o else o)={o with values:=bO xs[j].fields ms o.kind (ic (O o.kind ms) (bj xs[j])).1 o.values}:=by
    have:=A5 h1 hjm (vals:=o.values) hl.symm
    rw[hk] at this
    rw[h1,cond_true,qh hj ej h0,this]
   rw[hres]
   have hin:∀n∈bj xs[j],∀y∈O xs[j].kind ms n,y∈bj xs[j]:=fun n _=>jA hx hm hjm n
   obtain ⟨g,_⟩:=sr hin (by rw[kU hx hm hjm];exact hro _ hjm)
   have hmi:=sF hx hm hjm
   rw[hk] at hmi
   have hfs:(ag xs o.kind o.values.length).1=xs[j].fields:=by rw[ef]
   rw[hfs]
   repeat refine ai ?_
   refine oc (ip _ _) ?_
   repeat refine ai ?_
   refine aA (e:=GateShape.e) (xs:=xs) (hj) (ej) rfl ?_
   repeat refine ai ?_
   refine oc (uT xs[j] ms hm12 hin) ?_
   rw[hk]
   rw[hk] at g
   have hsub:∀x∈(ic (O o.kind ms) (bj xs[j])).1,x∈xs[j].fields.map (·.name):=g.sub
   have hrl:(ic (O o.kind ms) (bj xs[j])).1.length≤xs[j].fields.length:=by
    have:=ey g.nd g.sub
    have e:(bj xs[j]).length=xs[j].fields.length:=List.length_map ..
    rw[e] at this
    exact this
   generalize (ic (O o.kind ms) (bj xs[j])).2=rb at*
   generalize (ic (O o.kind ms) (bj xs[j])).1=row at*
   generalize xs[j].fields=fs at*
   repeat refine ai ?_
   refine mq (row) (fun i (W:List Bs)=>W=bO fs ms o.kind (row.take i) o.values) (fun i (W:List Bs)=>[(1,.d (af ms)),(5,.ptr 0 0),(6,.ptr 1 0),(7,.ptr 5 0),(11,.fn 233 [.ptr 0 0,.ptr 5 0]),(47,.d (lS row)),(48,.d (.int .i64 (row.map eB).length)),(49,.d (.int .i64 i))]) (fun i (W:List Bs)=>⟨[(5,.cells 162 [.d (ab fs)]),(4,.row 9 1 (W.map eB)),(1,.cells 103 [.d (.str []),.d (.str []),.d (.str []),.nils,.d (.bool false),.nils,.d (.int .i64 0)]),(0,.cells 103 [.d (.str o.kind),.d (.str o.name),.d (.str o.team),.own 4,.d (.bool o.ending),.d (lS o.holds),.d (.int .i64 o.version)])],6,0⟩) (rfl) ?_
   intro i W hi hr
   have hs:row.length≤ap:=by omega
   have hW:W.length=fs.length:=by rw[hr,gg,hl]
   repeat refine ai ?_
   refine aj ?_ ?_<;>intro g1
   ·have hlt:i<row.length:=V g1
    have hnin:=hsub _ (List.getElem_mem hlt)
    obtain ⟨p,hp,ep,_⟩:=fJ hnin
    have hst:bO fs ms o.kind (row.take (i+1)) o.values=bt fs ms o.kind W row[i]:=by rw[qi hlt,←hr]
    have hpt:(dy (·.name==row[i]) fs).toNat<W.length:=by rw[ep];omega
    repeat refine ai ?_
    refine U (e:=eB) (xs:=row) (hlt) rfl ?_
    repeat refine ai ?_
    generalize row[i]=nm at*
    have hrW:=hr
    clear hr
    repeat refine ai ?_
    refine dX (ms) (fun q=>qM fs ms o.kind W nm=nq (cv fs W) o.kind nm (cv fs W nm) (ms.drop q)) (fun q=>[(1,.d (af ms)),(5,.ptr 0 0),(6,.ptr 1 0),(7,.ptr 5 0),(11,.fn 233 [.ptr 0 0,.ptr 5 0]),(13,.d (.str nm)),(47,.d (lS row)),(48,.d (.int .i64 (row.map eB).length)),(49,.d (.int .i64 i)),(53,.d (af ms)),(54,.d (.int .i64 (ms.map GateMend.e).length)),(55,.d (.int .i64 q))]) (fun q=>⟨[(5,.cells 162 [.d (ab fs)]),(4,.row 9 1 (W.map eB)),(1,.cells 103 [.d (.str []),.d (.str []),.d (.str []),.nils,.d (.bool false),.nils,.d (.int .i64 0)]),(0,.cells 103 [.d (.str o.kind),.d (.str o.name),.d (.str o.team),.own 4,.d (.bool o.ending),.d (lS o.holds),.d (.int .i64 o.version)])],6,0⟩) (rfl) ?_
    intro q hq hr
    have hsq:ms.length≤ap:=hsm
    repeat refine ai ?_
    refine aj ?_ ?_<;>intro g2
    ·have hlq:q<ms.length:=V g2
     rw[sZ hlq] at hr
     have hmq:=hmi ms[q] (List.getElem_mem hlq)
     generalize hd:nq (cv fs W) o.kind nm (cv fs W nm) (ms.drop (q+1))=rest at hr
     repeat refine ai ?_
     refine U (e:=GateMend.e) (xs:=ms) (hlq) rfl ?_
     repeat refine ai ?_
     have hpi:(0:Int)≤dy (·.name==nm) fs:=by rw[ep];exact Int.natCast_nonneg _
     have hpl:dy (·.name==nm) fs<((W.map eB).length:Int):=by rw[ep,List.length_map];omega
     have hget:(W.map eB)[(dy (·.name==nm) fs).toNat]? =some (eB W[(dy (·.name==nm) fs).toNat]):=by rw[List.getElem?_map,List.getElem?_eq_getElem hpt];rfl
     repeat' first
      |refine ai ?_
      |(refine aj ?_ ?_<;>intro h)
      |refine Or.inr (Or.inr (Or.inr (Or.inl (Exists.intro _ (aj rfl (aj (sU fs {o with values:=W} ms[q].when_ hW ((hmq (li (by assumption))).1 (oz (by assumption)))) ?_))))))
      |refine Or.inr (Or.inr (Or.inr (Or.inl (Exists.intro _ (aj rfl (aj (sU fs {o with values:=W} ms[q].from_ hW ((hmq (li (by assumption))).2 (oz (by assumption)))) ?_))))))
      |refine oc (j6 _ _) ?_
      |refine aj (by kernel_rfl) (aj (by kernel_rfl) ?_)
      |refine aj (by kernel_rfl) ?_
      |refine aj hpi (aj hpl ?_)
      |refine ⟨_,hget,Nat.le_refl _,?_⟩
     all_goals clear hok hmi hin hres g hro hpl hpi hget hsub
     all_goals first
      |(exfalso;clear hrW hr hst hd hmq hpt ep hnin g1 g2 hW hrl hfs hl ef hk hjm ej hm hx h1 h0 hsm hb;simp only[cond_false,cond_true,Bool.not_eq_true',Bool.not_eq_false',reduceCtorEq,Bool.true_eq_false,Bool.false_eq_true] at*;done)
      |(exfalso;clear hrW hr hst hd hmq hpt ep hnin g1 g2 hW hrl hfs hl ef hk hjm ej hm hx h1 h0 hsm hb;simp only[cond_false,cond_true,Bool.not_eq_true',Bool.not_eq_false',reduceCtorEq] at*;simp only[*,reduceCtorEq,Bool.true_eq_false,Bool.false_eq_true] at*;done)
      |(refine (fun hq:qM fs ms o.kind W nm=rest=>?_) ?_
        rotate_left
        ·(rw[hr];clear hrW hr hst hd hmq hpt ep hnin g1 g2 hW hrl hfs hl ef hk hjm ej hm hx h1 h0 hsm hb;simp only[cond_false,cond_true,Bool.not_eq_true',Bool.not_eq_false',reduceCtorEq] at*;simp only[jO,ku, *,cond_true,cond_false,bl];done)
        repeat refine ai ?_
        exact bX hlq hsq (hq.trans hd.symm))
      |(refine (fun hq:qM fs ms o.kind W nm=ms[q].put=>?_) ?_
        rotate_left
        ·(rw[hr];clear hrW hr hst hd hmq hpt ep hnin g1 g2 hW hrl hfs hl ef hk hjm ej hm hx h1 h0 hsm hb;simp only[cond_false,cond_true,Bool.not_eq_true',Bool.not_eq_false',reduceCtorEq] at*;simp only[jO,ku, *,cond_true,cond_false,bl];done)
        repeat refine ai ?_
        exact cV (W.set (dy (·.name==nm) fs).toNat ms[q].put) hlt hs (by rw[hst];unfold bt;rw[hq]) fun hw=>by repeat' first|exact rfl|exact trivial|exact nd hw|exact pR hpt|refine aj ?_ ?_)
      |(refine (fun hq:qM fs ms o.kind W nm=cv fs W ms[q].from_=>?_) ?_
        rotate_left
        ·(rw[hr];clear hrW hr hst hd hmq hpt ep hnin g1 g2 hW hrl hfs hl ef hk hjm ej hm hx h1 h0 hsm hb;simp only[cond_false,cond_true,Bool.not_eq_true',Bool.not_eq_false',reduceCtorEq] at*;simp only[jO,ku, *,cond_true,cond_false,bl];done)
        repeat refine ai ?_
        exact cV (W.set (dy (·.name==nm) fs).toNat (cv fs W ms[q].from_)) hlt hs (by rw[hst];unfold bt;rw[hq]) fun hw=>by repeat' first|exact rfl|exact trivial|exact nd hw|exact pR hpt|refine aj ?_ ?_)
    ·have hq:qM fs ms o.kind W nm=cv fs W nm:=by rw[hr,xa (Z g2)]
     have hW2:bt fs ms o.kind W nm=W:=by
      unfold bt
      refine pJ hpt ?_
      rw[hq,fG ep (by omega)]
      congr 1
      rw[ep];rfl
     repeat refine ai ?_
     exact cV W hlt hs (by rw[hst,hW2])
   ·rw[List.take_of_length_le (Z g1)] at hr
    rw[←hr]
    repeat refine ai ?_
    exact rfl
 ·simp only[Bool.not_eq_true'] at h0
  rw[qg h0]
  repeat refine ai ?_
  cases bu xs ms<;>exact rfl
theorem uW (xs:List GateShape) (ms:List GateMend) (o:GateObject):Spec P 216 [.d (aa xs),.d (af ms),st o.e] (st (bif bu xs ms then dQ xs ms o else o).e):=by
 by_cases h:0<o.values.length
 ·exact rS xs ms o h
 ·have hv:o.values=[]:=List.eq_nil_of_length_eq_zero (by omega)
  have:(bif bu xs ms then dQ xs ms o else o)=o:=by
   rw[wA hv];cases bu xs ms<;>rfl
  rw[this]
  exact rT xs ms o hv
def ee (xs:List GateShape) (ms:List GateMend) (o:GateObject):GateObject:=dQ xs ms (fr xs o)
theorem iV (xs:List GateShape) (ms:List GateMend) (o:GateObject):Spec P 185 [.d (aa xs),.d (af ms),st o.e] (st (bif bu xs ms then ee xs ms o else o).e):=by
 refine Spec.of_vc aG au [.cell 6 103] Tryz.func185 rfl rfl rfl rfl (fun hok=>?_)
 repeat refine ai ?_
 refine oc (fD _ _) ?_
 repeat refine ai ?_
 refine aj ?_ ?_<;>intro h
 ·simp only[Bool.not_eq_true'] at h
  rw[h,cond_false]
  repeat refine ai ?_
  refine oc (ye _) ?_
  repeat refine ai ?_
  exact rfl
 ·simp only[Bool.not_eq_false'] at h
  obtain ⟨hx,_⟩:=eJ h
  repeat refine ai ?_
  refine oc (yj _ _) ?_
  repeat refine ai ?_
  refine oc (uW _ _ _) ?_
  rw[h,hx]
  repeat refine ai ?_
  exact rfl
end Go.Vc
end
section
namespace Go.Vc
open Go.Proofs
set_option maxRecDepth 100000
def bY:List GateField→List Bs→Nat→List (Nat×GateField)
 |f::fs,v::vs,i=>bif f.kind==4&& !(v==[]) then (i,f)::bY fs vs (i+1) else bY fs vs (i+1)
 |_,_,_=>[]
def fC (p:Nat×GateField):List AV→Prop:=thinL [.d (.int .i64 p.1),st p.2.e]
def cg (xs:List GateShape) (o:GateObject):List (Nat×GateField):=bY (ag xs o.kind o.values.length).1 o.values 0
theorem kY {fs:List GateField} {vs:List Bs} {i:Nat} (h:fs=[]):bY fs vs i=[]:=by subst h;rfl
theorem gO {fs:List GateField} {vs:List Bs} {i:Nat} (h:i<fs.length) (h2:i<vs.length):bY (fs.drop i) (vs.drop i) i=bif fs[i].kind==4&& !(vs[i]==[]) then (i,fs[i])::bY (fs.drop (i+1)) (vs.drop (i+1)) (i+1) else bY (fs.drop (i+1)) (vs.drop (i+1)) (i+1):=by
 rw[List.drop_eq_getElem_cons h,List.drop_eq_getElem_cons h2];rfl
theorem wm {o:GateObject} (h:AV.ok (.at_ o.e)):o.values.length≤ap∧o.holds.length≤ap:=by
 simp only[AV.ok,GateObject.e,bz,D.ok] at h
 exact ⟨aw h.2.2.2.1.1,aw h.2.2.2.2.2.1.1⟩
theorem oV (l:GateLaw) (o:GateObject):Spec P 106 [st l.e,st o.e] (.fn 165 [.at_ l.e,.at_ o.e]):=by
 refine Spec.of_vc aG au [.tmp 4] Tryz.func106 rfl rfl rfl rfl (fun hok=>?_)
 repeat refine ai ?_
 exact rfl
set_option maxHeartbeats 1000000 in
theorem mD (l:GateLaw) (o:GateObject) (hc:Heap):(dv P).iter 165 [.at_ l.e,.at_ o.e] hc ((cg l.shapes o).map fC):=by
 refine yb aG au Tryz.func165 rfl rfl rfl rfl rfl (fun y hok=>?_)
 have hfs:(ag l.shapes o.kind o.values.length).2=false→(ag l.shapes o.kind o.values.length).1=[]:=by
  rcases di (xs:=l.shapes) (k:=o.kind) (n:=o.values.length) with ⟨h1,h2⟩|⟨j,hj,_,h,_⟩
  ·exact fun _=>h2
  ·rw[h];exact fun h=>by cases h
 obtain ⟨hl,hl2⟩:=co (xs:=l.shapes) (k:=o.kind) (n:=o.values.length)
 repeat refine ai ?_
 refine oc (fo _ _) ?_
 unfold cg
 repeat refine ai ?_
 refine aj ?_ ?_<;>intro h0
 ·simp only[Bool.not_eq_true'] at h0
  rw[hfs h0]
  repeat refine ai ?_
  exact .inr rfl
 ·simp only[Bool.not_eq_false'] at h0
  have hl:=hl2 h0
  generalize (ag l.shapes o.kind o.values.length).1=fs at*
  repeat refine ai ?_
  refine ⟨fun m j l' h=>∃(i:Nat) (pre:List (Nat×GateField)),m=fs.length - i∧i≤fs.length∧bY fs o.values 0=pre++bY (fs.drop i) (o.values.drop i) i∧j=pre.length∧l'=[(0,.val (.func (.yield y) #[] #[])),(1,.at_ l.e),(2,.at_ o.e),(17,.d (ab fs)),(18,.d (.int .i64 (fs.map GateField.e).length)),(19,.d (.int .i64 i))]∧h=hp0,
   ⟨0,_,_,_,rfl,⟨0,[],rfl,Nat.zero_le _,rfl,rfl,rfl,rfl⟩,rfl,rfl,⟨rfl,rfl,rfl,rfl,rfl,rfl,trivial⟩,trivial,trivial⟩,?_⟩
  rintro m j l' hh ⟨i,pre,rfl,hi,hr,rfl,rfl,rfl⟩
  have hb:=wm hok.2.1
  have hs:fs.length≤ap:=by omega
  repeat refine ai ?_
  refine aj ?_ ?_<;>intro g1
  ·have hlt:i<fs.length:=V g1
   have hlt2:i<o.values.length:=by omega
   rw[gO hlt hlt2] at hr
   repeat refine ai ?_
   refine U (e:=GateField.e) (xs:=fs) (hlt) rfl ?_
   repeat refine ai ?_
   refine aj ?_ ?_<;>intro h1
   ·repeat refine ai ?_
    refine U (e:=eB) (xs:=o.values) (hlt2) rfl ?_
    repeat refine ai ?_
    refine aj ?_ ?_<;>intro h2
    ·have hc:(fs[i].kind==4&& !(o.values[i]==[]))=true:=by rw[h1,h2];rfl
     rw[hc,cond_true] at hr
     repeat refine ai ?_
     refine ⟨⟨fC (i,fs[i]),?_,fun x h=>h⟩,?_,?_⟩
     ·rw[hr,List.getElem?_map,List.getElem?_append_right (Nat.le_refl _),Nat.sub_self];rfl
     ·repeat refine ai ?_
      refine ⟨_,_,_,_,rfl,⟨i+1,pre++[(i,fs[i])],rfl,hlt,(by rw[hr,List.append_assoc];rfl),(by simp),rfl,rfl⟩,by omega,rfl,rfl,⟨rfl,rfl,rfl,rfl,rfl,nd (Y hlt hs),trivial⟩,trivial,trivial⟩
     ·repeat refine ai ?_
      exact .inl rfl
    ·have hc:(fs[i].kind==4&& !(o.values[i]==[]))=false:=by rw[h1,h2];rfl
     rw[hc,cond_false] at hr
     repeat refine ai ?_
     refine ⟨_,_,_,_,rfl,⟨i+1,pre,rfl,hlt,hr,rfl,rfl,rfl⟩,by omega,rfl,rfl,⟨rfl,rfl,rfl,rfl,rfl,nd (Y hlt hs),trivial⟩,trivial,trivial⟩
   ·have hc:(fs[i].kind==4&& !(o.values[i]==[]))=false:=by rw[h1];rfl
    rw[hc,cond_false] at hr
    repeat refine ai ?_
    refine ⟨_,_,_,_,rfl,⟨i+1,pre,rfl,hlt,hr,rfl,rfl,rfl⟩,by omega,rfl,rfl,⟨rfl,rfl,rfl,rfl,rfl,nd (Y hlt hs),trivial⟩,trivial,trivial⟩
  ·have hi':=Z g1
   rw[List.drop_of_length_le hi',kY rfl,List.append_nil] at hr
   repeat refine ai ?_
   refine .inr ?_
   rw[List.length_map,hr]
end Go.Vc
end
section
namespace Go.Vc
open Go.Proofs
set_option maxRecDepth 100000
def aq {α:Type} (r:Option α→α→Bool):Option α→List α→Bool
 |_,[]=>true
 |p,x::xs=>r p x&&aq r (some x) xs
def cw {α:Type} (xs:List α):Nat→Option α
 |0=>none
 |j+1=>xs[j]?
section
variable {α:Type} {r:Option α→α→Bool} {xs:List α} {i:Nat}
theorem dM (h:i<xs.length):aq r (cw xs i) (xs.drop i)=(r (cw xs i) xs[i]&&aq r (cw xs (i+1)) (xs.drop (i+1))):=by
 rw[List.drop_eq_getElem_cons h]
 simp only[aq,cw,List.getElem?_eq_getElem h]
theorem eK {p:Option α} (h:xs.length≤i):aq r p (xs.drop i)=true:=by
 rw[List.drop_of_length_le h];rfl
theorem cd (h0:0<i) (h:i<xs.length):cw xs i=some (xs[i - 1]'(by omega)):=by
 obtain ⟨j,rfl⟩:∃j,i=j+1:=⟨i - 1,by omega⟩
 simp only[cw,Nat.add_sub_cancel]
 exact List.getElem?_eq_getElem _
theorem ce (h:i=0):cw xs i=none:=by
 subst h
 rfl
end
theorem sI (a b c d:Bs):(!(Op.bytesLess a c||a==c)||(a==c&& !Op.bytesLess b d))= !fU a b c d:=by
 unfold fU
 cases e:(a==c) with
 |true=>rw[beq_iff_eq.1 e,i5];simp
 |false=>simp
theorem ng {n a b:Int} (h:decide (n<a)=true):eX n a b=false:=by
 have:=of_decide_eq_true h
 unfold eX;rw[decide_eq_false (by omega)];rfl
theorem nh {n a b:Int} (h:decide (n>b)=true):eX n a b=false:=by
 have:=of_decide_eq_true h
 unfold eX;rw[decide_eq_false (p:=n≤b) (by omega),Bool.and_false]
theorem kZ {n a b:Int} (h:decide (n<a)=false) (h2:decide (n>b)=false):eX n a b=true:=by
 have:=of_decide_eq_false h
 have:=of_decide_eq_false h2
 unfold eX;rw[decide_eq_true (by omega),decide_eq_true (by omega)];rfl
def tL (vs:List Bs) (i:Nat):Bs:=match vs[i]? with|some v=>v|none=>[]
theorem fQ {vs:List Bs} {i:Nat} (h:i<vs.length):tL vs i=vs[i]:=by unfold tL;rw[List.getElem?_eq_getElem h]
theorem qr:∀{fs:List GateField} {vs:List Bs} {i:Nat} {p:Nat×GateField},p∈bY fs vs i→i≤p.1∧p.1<i+vs.length∧p.2∈fs∧(p.2.kind==4)=true
 |[],vs,i,p,h=>by simp[bY] at h
 |f::fs,[],i,p,h=>by simp[bY] at h
 |f::fs,v::vs,i,p,h=>by
  have tail:p∈bY fs vs (i+1)→i≤p.1∧p.1<i+(v::vs).length∧p.2∈f::fs∧(p.2.kind==4)=true:=fun h=>by
   obtain ⟨h1,h2,h3,h4⟩:=qr h
   exact ⟨by omega,by simp only[List.length_cons];omega,List.mem_cons_of_mem _ h3,h4⟩
  simp only[bY] at h
  cases hc:f.kind==4&& !(v==[]) with
  |false=>rw[hc] at h;exact tail h
  |true=>
   rw[hc,cond_true] at h
   rcases List.mem_cons.1 h with e|h
   ·subst e
    rw[Bool.and_eq_true] at hc
    exact ⟨Nat.le_refl _,by simp,List.mem_cons_self,hc.1⟩
   ·exact tail h
theorem iT {xs:List GateShape} {o:GateObject} {p:Nat×GateField} (h:p∈cg xs o):p.1<o.values.length:=by
 have:=(qr h).2.1
 omega
theorem c9 {p:Nat×GateField} {x:List AV} (h:fC p x):∃A c,x=[.d (.int .i64 p.1),.agg [.d (.str p.2.name),.d (.int .i64 p.2.kind),.d (.int .i64 p.2.least),.d (.int .i64 p.2.most),.d (.raw (.slice A (p.2.words.map eB).length c)),.d (.str p.2.to_),.d (.int .i64 p.2.role),.d (.bool p.2.must),.d (.bool p.2.fixed),.d (.str p.2.default_),.d (.str p.2.weighs)]]:=by
 unfold fC st GateField.e at h
 simp only[thinL,thinC,List.map] at h
 obtain ⟨y0,ys,rfl,⟨y1,rfl,rfl⟩,cs,y2,rfl,⟨z1,rfl,z2,rfl,z3,rfl,z4,rfl,A,c,z5,rfl,z6,rfl,z7,rfl,z8,rfl,z9,rfl,z10,rfl,z11,rfl,rfl⟩,rfl⟩:=h
 exact ⟨A,c,rfl⟩
theorem j3 {xs:List (Nat×GateField)} {k:Nat} {X:List AV→Prop} (h:(xs.map fC)[k]? =some X):∃p,xs[k]? =some p∧p∈xs∧X=fC p:=by
 rw[List.getElem?_map] at h
 cases hp:xs[k]? with
 |none=>rw[hp] at h;cases h
 |some p=>rw[hp] at h;cases h;exact ⟨p,rfl,List.mem_of_getElem? hp,rfl⟩
def e8 (b:GateBook) (k n:Bs):Bool:=decide (dy (fun x=>x.kind==k&&x.name==n) b.objects≥0)
theorem jM {b:GateBook} {k n:Bs} (h:decide (dy (fun x:GateObject=>x.kind==k&&x.name==n) b.objects<0)=true):e8 b k n=false:=by
 have:=of_decide_eq_true h
 exact decide_eq_false (by omega)
theorem iq {b:GateBook} {k n:Bs} (h:decide (dy (fun x:GateObject=>x.kind==k&&x.name==n) b.objects<0)=false):e8 b k n=true:=by
 have:=of_decide_eq_false h
 exact decide_eq_true (by omega)
theorem yC {α:Type} {p:α→Bool} {xs:List α} {x:α} (h:x∈xs) (hp:p x=false):xs.all p=false:=by
 rw[List.all_eq_false]
 exact ⟨x,h,by rw[hp];simp⟩
def ax (L:GateLaw) (b:GateBook) (o:GateObject):Bool:=
 (za L.shapes o).1==0&&(L.teams.any (·.name==o.team)&&(eX o.version 1 b.now&&((ee L.shapes L.mends o).values==o.values&&(cg L.shapes o).all (fun p=>e8 b p.2.to_ (tL o.values p.1)))))
def kg (L:GateLaw) (b:GateBook) (p:Option GateObject) (o:GateObject):Bool:=(match p with|some q=>fU q.kind q.name o.kind o.name|none=>true)&&ax L b o
def me (L:GateLaw) (b:GateBook):Bool:= !decide ((b.objects.length:Int)>40)&&aq (kg L b) none b.objects
set_option maxHeartbeats 2000000 in
theorem wP (L:GateLaw) (b:GateBook) (hm:bu L.shapes L.mends=true):Spec P 126 [st b.e,st L.e] (.d (.bool (me L b))):=by
 refine Spec.of_vc aG au [.cell 4 4] Tryz.func126 rfl rfl rfl rfl (fun hok=>?_)
 have hs:=(cE (dr hok)).1
 obtain ⟨hx,hmm,hm12,hro⟩:=eJ hm
 repeat refine ai ?_
 refine aj ?_ ?_<;>intro h0
 ·repeat refine ai ?_
  refine bd ?_
  rw[List.length_map] at h0
  rw[me,h0];rfl
 rw[List.length_map] at h0
 have hob:me L b=aq (kg L b) none b.objects:=by rw[me,h0];rfl
 rw[hob]
 repeat refine ai ?_
 refine dX (b.objects) (fun i=>aq (kg L b) none b.objects=aq (kg L b) (cw b.objects i) (b.objects.drop i)) (fun i=>[(2,.ptr 0 0),(3,.ptr 1 0),(4,.ptr 2 0),(17,.d (aF b.objects)),(18,.d (.int .i64 (b.objects.map GateObject.e).length)),(19,.d (.int .i64 i))]) (fun i=>⟨[(2,.cells 4 [.d (.bool false)]),(1,.cells 41 (L.e.map .d)),(0,.cells 48 (b.e.map .d))],3,0⟩) (rfl) ?_
 intro i hi hr
 repeat refine ai ?_
 refine aj ?_ ?_<;>intro h1
 ·have hlt:i<b.objects.length:=V h1
  rw[dM hlt] at hr
  repeat refine ai ?_
  refine U (e:=GateObject.e) (xs:=b.objects) (hlt) rfl ?_
  repeat refine ai ?_
  refine aj ?_ ?_<;>intro h2
  ·have h3:=k5 h2
   repeat refine ai ?_
   refine aA (e:=GateObject.e) (xs:=b.objects) ((show i - 1<b.objects.length by omega)) (aW h3 hlt hs) rfl ?_
   repeat refine ai ?_
   have hpv:cw b.objects i=some (b.objects[i - 1]'(by omega)):=cd h3 hlt
   rw[hpv] at hr
   generalize hq:b.objects[i - 1]'(by omega)=q at*
   have hno:∀c,(!(Op.bytesLess q.kind b.objects[i].kind||q.kind==b.objects[i].kind)||(q.kind==b.objects[i].kind&& !Op.bytesLess q.name b.objects[i].name))=c→kg L b (some q) b.objects[i]=(!c&&ax L b b.objects[i]):=fun c h=>by
    rw[sI] at h
    rw[←h,Bool.not_not];rfl
   repeat refine ai ?_
   refine aj ?_ ?_<;>intro a1
   ·repeat refine ai ?_
    refine aj ?_ ?_<;>intro a2
    ·repeat refine ai ?_
     refine aj ?_ ?_<;>intro a3
     ·repeat refine ai ?_
      refine bd ?_
      rw[hr,hno true (by rw[a1,a2];exact a3)];rfl
     ·rw[hno false (by rw[a1,a2];exact a3),Bool.not_false,Bool.true_and] at hr
      repeat refine ai ?_
      refine oc (jJ _ _) ?_
      rw[show i0 L.shapes b.objects[i]=za L.shapes b.objects[i] from by unfold i0;rw[hx];rfl]
      generalize ho:b.objects[i]=o at*
      repeat refine ai ?_
      refine aj ?_ ?_<;>intro c1
      ·have c1:=oz c1
       repeat refine ai ?_
       refine bd ?_
       rw[hr,show ax L b o=false from by simp only[ax,c1,bl]]
       rfl
      ·have c1:=li c1
       repeat refine ai ?_
       refine ak ?_
       repeat refine ai ?_
       refine oc (fK _ _) ?_
       repeat refine ai ?_
       refine aj ?_ ?_<;>intro c2
       ·have c2:=li (idx_lt.symm.trans c2)
        repeat refine ai ?_
        refine aj ?_ ?_<;>intro c3
        ·repeat refine ai ?_
         refine aj ?_ ?_<;>intro c4
         ·have c4':=kZ c3 c4
          repeat refine ai ?_
          refine oc (iV _ _ _) ?_
          rw[hm,cond_true]
          repeat refine ai ?_
          refine oc (iU _ _) ?_
          repeat refine ai ?_
          refine aj ?_ ?_<;>intro c5
          ·have c5:((ee L.shapes L.mends o).values==o.values)=false:=oz c5
           repeat refine ai ?_
           refine bd ?_
           rw[hr,show ax L b o=false from by simp only[ax,c1,c2,c4',c5,bl]]
           rfl
          ·have c5:((ee L.shapes L.mends o).values==o.values)=true:=li c5
           have hrest:ax L b o=(cg L.shapes o).all (fun p=>e8 b p.2.to_ (tL o.values p.1)):=by simp only[ax,c1,c2,c4',c5,Bool.true_and]
           rw[hrest] at hr
           repeat refine ai ?_
           refine oc (oV _ _) ?_
           repeat refine ai ?_
           refine ⟨(cg L.shapes o).map fC,fun k=>∀p,(cg L.shapes o)[k]? =some p→e8 b p.2.to_ (tL o.values p.1)=true,mD L o _,?_,?_,?_⟩
           ·intro X hX x hx
            obtain ⟨p,_,rfl⟩:=List.mem_map.1 hX
            obtain ⟨A,c,rfl⟩:=c9 hx
            rfl
           ·intro k X hX x hx
            obtain ⟨p,hp,hpm,rfl⟩:=j3 hX
            obtain ⟨A,c,rfl⟩:=c9 hx
            have hpl:=iT hpm
            repeat refine ai ?_
            refine ⟨[(2,.ptr 0 0),(4,.ptr 2 0),(6,.ptr 3 0),(10,.d (.int .i64 p.1)),(11,.at_ [.str p.2.name,.int .i64 p.2.kind,.int .i64 p.2.least,.int .i64 p.2.most,.raw (.slice A (p.2.words.map eB).length c),.str p.2.to_,.int .i64 p.2.role,.bool p.2.must,.bool p.2.fixed,.str p.2.default_,.str p.2.weighs])],⟨rfl,rfl,⟨rfl,rfl,rfl,rfl,.inr ⟨_,_,_,_,rfl,Nat.le_of_ble_eq_true rfl,rfl,rfl,rfl⟩,trivial⟩,?_,?_⟩,?_⟩
            ·repeat' first|exact rfl|exact trivial|refine aj ?_ ?_
            ·repeat' first|exact rfl|exact trivial|refine aj ?_ ?_
            repeat refine ai ?_
            refine ak ?_
            repeat refine ai ?_
            refine U (e:=eB) (xs:=o.values) (hpl) rfl ?_
            repeat refine ai ?_
            refine oc (yh _ _ _) ?_
            repeat refine ai ?_
            refine aj ?_ ?_<;>intro d1
            ·repeat refine ai ?_
             refine bd ?_
             rw[hr,yC hpm (by rw[fQ hpl];exact jM d1)];rfl
            ·repeat refine ai ?_
             refine ⟨fun p' hp'=>?_,rfl,rfl,trivial,?_,?_⟩
             ·rw[hp] at hp'
              cases hp'
              rw[fQ hpl];exact iq d1
             ·repeat' first|exact rfl|exact trivial|refine aj ?_ ?_
             ·repeat' first|exact rfl|exact trivial|refine aj ?_ ?_
           ·intro hall
            have hal:(cg L.shapes o).all (fun p=>e8 b p.2.to_ (tL o.values p.1))=true:=by
                 rw[List.all_eq_true]
                 intro p hp
                 obtain ⟨k,hk,rfl⟩:=List.getElem_of_mem hp
                 exact hall k (by rw[List.length_map];exact hk) _ (List.getElem?_eq_getElem hk)
            rw[hal,Bool.true_and] at hr
            repeat refine ai ?_
            exact bX hlt hs hr
         ·have c4':=nh (a:=1) c4
          repeat refine ai ?_
          refine ay ?_
          repeat refine ai ?_
          refine bd ?_
          rw[hr,show ax L b o=false from by simp only[ax,c1,c2,c4',bl]]
          rfl
        ·have c3':=ng (b:=b.now) c3
         repeat refine ai ?_
         refine an ?_
         repeat refine ai ?_
         refine ay ?_
         repeat refine ai ?_
         refine bd ?_
         rw[hr,show ax L b o=false from by simp only[ax,c1,c2,c3',bl]]
         rfl
       ·have c2:=oz (idx_lt.symm.trans c2)
        repeat refine ai ?_
        refine an ?_
        repeat refine ai ?_
        refine an ?_
        repeat refine ai ?_
        refine ay ?_
        repeat refine ai ?_
        refine bd ?_
        rw[hr,show ax L b o=false from by simp only[ax,c1,c2,bl]]
        rfl
    ·rw[hno false (by rw[a1,a2];rfl),Bool.not_false,Bool.true_and] at hr
     repeat refine ai ?_
     refine oc (jJ _ _) ?_
     rw[show i0 L.shapes b.objects[i]=za L.shapes b.objects[i] from by unfold i0;rw[hx];rfl]
     generalize ho:b.objects[i]=o at*
     repeat refine ai ?_
     refine aj ?_ ?_<;>intro c1
     ·have c1:=oz c1
      repeat refine ai ?_
      refine bd ?_
      rw[hr,show ax L b o=false from by simp only[ax,c1,bl]]
      rfl
     ·have c1:=li c1
      repeat refine ai ?_
      refine ak ?_
      repeat refine ai ?_
      refine oc (fK _ _) ?_
      repeat refine ai ?_
      refine aj ?_ ?_<;>intro c2
      ·have c2:=li (idx_lt.symm.trans c2)
       repeat refine ai ?_
       refine aj ?_ ?_<;>intro c3
       ·repeat refine ai ?_
        refine aj ?_ ?_<;>intro c4
        ·have c4':=kZ c3 c4
         repeat refine ai ?_
         refine oc (iV _ _ _) ?_
         rw[hm,cond_true]
         repeat refine ai ?_
         refine oc (iU _ _) ?_
         repeat refine ai ?_
         refine aj ?_ ?_<;>intro c5
         ·have c5:((ee L.shapes L.mends o).values==o.values)=false:=oz c5
          repeat refine ai ?_
          refine bd ?_
          rw[hr,show ax L b o=false from by simp only[ax,c1,c2,c4',c5,bl]]
          rfl
         ·have c5:((ee L.shapes L.mends o).values==o.values)=true:=li c5
          have hrest:ax L b o=(cg L.shapes o).all (fun p=>e8 b p.2.to_ (tL o.values p.1)):=by simp only[ax,c1,c2,c4',c5,Bool.true_and]
          rw[hrest] at hr
          repeat refine ai ?_
          refine oc (oV _ _) ?_
          repeat refine ai ?_
          refine ⟨(cg L.shapes o).map fC,fun k=>∀p,(cg L.shapes o)[k]? =some p→e8 b p.2.to_ (tL o.values p.1)=true,mD L o _,?_,?_,?_⟩
          ·intro X hX x hx
           obtain ⟨p,_,rfl⟩:=List.mem_map.1 hX
           obtain ⟨A,c,rfl⟩:=c9 hx
           rfl
          ·intro k X hX x hx
           obtain ⟨p,hp,hpm,rfl⟩:=j3 hX
           obtain ⟨A,c,rfl⟩:=c9 hx
           have hpl:=iT hpm
           repeat refine ai ?_
           refine ⟨[(2,.ptr 0 0),(4,.ptr 2 0),(6,.ptr 3 0),(10,.d (.int .i64 p.1)),(11,.at_ [.str p.2.name,.int .i64 p.2.kind,.int .i64 p.2.least,.int .i64 p.2.most,.raw (.slice A (p.2.words.map eB).length c),.str p.2.to_,.int .i64 p.2.role,.bool p.2.must,.bool p.2.fixed,.str p.2.default_,.str p.2.weighs])],⟨rfl,rfl,⟨rfl,rfl,rfl,rfl,.inr ⟨_,_,_,_,rfl,Nat.le_of_ble_eq_true rfl,rfl,rfl,rfl⟩,trivial⟩,?_,?_⟩,?_⟩
           ·repeat' first|exact rfl|exact trivial|refine aj ?_ ?_
           ·repeat' first|exact rfl|exact trivial|refine aj ?_ ?_
           repeat refine ai ?_
           refine ak ?_
           repeat refine ai ?_
           refine U (e:=eB) (xs:=o.values) (hpl) rfl ?_
           repeat refine ai ?_
           refine oc (yh _ _ _) ?_
           repeat refine ai ?_
           refine aj ?_ ?_<;>intro d1
           ·repeat refine ai ?_
            refine bd ?_
            rw[hr,yC hpm (by rw[fQ hpl];exact jM d1)];rfl
           ·repeat refine ai ?_
            refine ⟨fun p' hp'=>?_,rfl,rfl,trivial,?_,?_⟩
            ·rw[hp] at hp'
             cases hp'
             rw[fQ hpl];exact iq d1
            ·repeat' first|exact rfl|exact trivial|refine aj ?_ ?_
            ·repeat' first|exact rfl|exact trivial|refine aj ?_ ?_
          ·intro hall
           have hal:(cg L.shapes o).all (fun p=>e8 b p.2.to_ (tL o.values p.1))=true:=by
                rw[List.all_eq_true]
                intro p hp
                obtain ⟨k,hk,rfl⟩:=List.getElem_of_mem hp
                exact hall k (by rw[List.length_map];exact hk) _ (List.getElem?_eq_getElem hk)
           rw[hal,Bool.true_and] at hr
           repeat refine ai ?_
           exact bX hlt hs hr
        ·have c4':=nh (a:=1) c4
         repeat refine ai ?_
         refine ay ?_
         repeat refine ai ?_
         refine bd ?_
         rw[hr,show ax L b o=false from by simp only[ax,c1,c2,c4',bl]]
         rfl
       ·have c3':=ng (b:=b.now) c3
        repeat refine ai ?_
        refine an ?_
        repeat refine ai ?_
        refine ay ?_
        repeat refine ai ?_
        refine bd ?_
        rw[hr,show ax L b o=false from by simp only[ax,c1,c2,c3',bl]]
        rfl
      ·have c2:=oz (idx_lt.symm.trans c2)
       repeat refine ai ?_
       refine an ?_
       repeat refine ai ?_
       refine an ?_
       repeat refine ai ?_
       refine ay ?_
       repeat refine ai ?_
       refine bd ?_
       rw[hr,show ax L b o=false from by simp only[ax,c1,c2,bl]]
       rfl
   ·repeat refine ai ?_
    refine bd ?_
    rw[hr,hno true (by rw[a1];rfl)];rfl
  ·have hpv:cw b.objects i=none:=ce (oC h2)
   rw[hpv] at hr
   replace hr:aq (kg L b) none b.objects=(ax L b b.objects[i]&&aq (kg L b) (cw b.objects (i+1)) (b.objects.drop (i+1))):=by rw[hr];rfl
   repeat refine ai ?_
   refine oc (jJ _ _) ?_
   rw[show i0 L.shapes b.objects[i]=za L.shapes b.objects[i] from by unfold i0;rw[hx];rfl]
   generalize ho:b.objects[i]=o at*
   repeat refine ai ?_
   refine aj ?_ ?_<;>intro c1
   ·have c1:=oz c1
    repeat refine ai ?_
    refine bd ?_
    rw[hr,show ax L b o=false from by simp only[ax,c1,bl]]
    rfl
   ·have c1:=li c1
    repeat refine ai ?_
    refine ak ?_
    repeat refine ai ?_
    refine oc (fK _ _) ?_
    repeat refine ai ?_
    refine aj ?_ ?_<;>intro c2
    ·have c2:=li (idx_lt.symm.trans c2)
     repeat refine ai ?_
     refine aj ?_ ?_<;>intro c3
     ·repeat refine ai ?_
      refine aj ?_ ?_<;>intro c4
      ·have c4':=kZ c3 c4
       repeat refine ai ?_
       refine oc (iV _ _ _) ?_
       rw[hm,cond_true]
       repeat refine ai ?_
       refine oc (iU _ _) ?_
       repeat refine ai ?_
       refine aj ?_ ?_<;>intro c5
       ·have c5:((ee L.shapes L.mends o).values==o.values)=false:=oz c5
        repeat refine ai ?_
        refine bd ?_
        rw[hr,show ax L b o=false from by simp only[ax,c1,c2,c4',c5,bl]]
        rfl
       ·have c5:((ee L.shapes L.mends o).values==o.values)=true:=li c5
        have hrest:ax L b o=(cg L.shapes o).all (fun p=>e8 b p.2.to_ (tL o.values p.1)):=by simp only[ax,c1,c2,c4',c5,Bool.true_and]
        rw[hrest] at hr
        repeat refine ai ?_
        refine oc (oV _ _) ?_
        repeat refine ai ?_
        refine ⟨(cg L.shapes o).map fC,fun k=>∀p,(cg L.shapes o)[k]? =some p→e8 b p.2.to_ (tL o.values p.1)=true,mD L o _,?_,?_,?_⟩
        ·intro X hX x hx
         obtain ⟨p,_,rfl⟩:=List.mem_map.1 hX
         obtain ⟨A,c,rfl⟩:=c9 hx
         rfl
        ·intro k X hX x hx
         obtain ⟨p,hp,hpm,rfl⟩:=j3 hX
         obtain ⟨A,c,rfl⟩:=c9 hx
         have hpl:=iT hpm
         repeat refine ai ?_
         refine ⟨[(2,.ptr 0 0),(4,.ptr 2 0),(6,.ptr 3 0),(10,.d (.int .i64 p.1)),(11,.at_ [.str p.2.name,.int .i64 p.2.kind,.int .i64 p.2.least,.int .i64 p.2.most,.raw (.slice A (p.2.words.map eB).length c),.str p.2.to_,.int .i64 p.2.role,.bool p.2.must,.bool p.2.fixed,.str p.2.default_,.str p.2.weighs])],⟨rfl,rfl,⟨rfl,rfl,rfl,rfl,.inr ⟨_,_,_,_,rfl,Nat.le_of_ble_eq_true rfl,rfl,rfl,rfl⟩,trivial⟩,?_,?_⟩,?_⟩
         ·repeat' first|exact rfl|exact trivial|refine aj ?_ ?_
         ·repeat' first|exact rfl|exact trivial|refine aj ?_ ?_
         repeat refine ai ?_
         refine ak ?_
         repeat refine ai ?_
         refine U (e:=eB) (xs:=o.values) (hpl) rfl ?_
         repeat refine ai ?_
         refine oc (yh _ _ _) ?_
         repeat refine ai ?_
         refine aj ?_ ?_<;>intro d1
         ·repeat refine ai ?_
          refine bd ?_
          rw[hr,yC hpm (by rw[fQ hpl];exact jM d1)];rfl
         ·repeat refine ai ?_
          refine ⟨fun p' hp'=>?_,rfl,rfl,trivial,?_,?_⟩
          ·rw[hp] at hp'
           cases hp'
           rw[fQ hpl];exact iq d1
          ·repeat' first|exact rfl|exact trivial|refine aj ?_ ?_
          ·repeat' first|exact rfl|exact trivial|refine aj ?_ ?_
        ·intro hall
         have hal:(cg L.shapes o).all (fun p=>e8 b p.2.to_ (tL o.values p.1))=true:=by
              rw[List.all_eq_true]
              intro p hp
              obtain ⟨k,hk,rfl⟩:=List.getElem_of_mem hp
              exact hall k (by rw[List.length_map];exact hk) _ (List.getElem?_eq_getElem hk)
         rw[hal,Bool.true_and] at hr
         repeat refine ai ?_
         exact bX hlt hs hr
      ·have c4':=nh (a:=1) c4
       repeat refine ai ?_
       refine ay ?_
       repeat refine ai ?_
       refine bd ?_
       rw[hr,show ax L b o=false from by simp only[ax,c1,c2,c4',bl]]
       rfl
     ·have c3':=ng (b:=b.now) c3
      repeat refine ai ?_
      refine an ?_
      repeat refine ai ?_
      refine ay ?_
      repeat refine ai ?_
      refine bd ?_
      rw[hr,show ax L b o=false from by simp only[ax,c1,c2,c3',bl]]
      rfl
    ·have c2:=oz (idx_lt.symm.trans c2)
     repeat refine ai ?_
     refine an ?_
     repeat refine ai ?_
     refine an ?_
     repeat refine ai ?_
     refine ay ?_
     repeat refine ai ?_
     refine bd ?_
     rw[hr,show ax L b o=false from by simp only[ax,c1,c2,bl]]
     rfl
 ·repeat refine ai ?_
  refine bd ?_
  rw[hr,eK (Z h1)]
end Go.Vc
end
section
namespace Go.Vc
open Go.Proofs
set_option maxRecDepth 100000
theorem ko (xs ys:List Bs):Spec P 173 [.d (lS xs),.d (lS ys)] (.d (.bool (xs==ys))):=by
 refine Spec.of_vc aG au [.tmp 4] Tryz.func173 rfl rfl rfl rfl (fun hok=>?_)
 have hs:xs.length≤ap:=aw hok.1.1
 repeat refine ai ?_
 refine aj ?_ ?_<;>intro h0
 ·refine bd ?_
  rw[List.length_map,List.length_map] at h0
  cases e:xs==ys with
  |false=>rfl
  |true=>rw[beq_iff_eq.1 e] at h0;simp at h0
 ·rw[List.length_map,List.length_map] at h0
  have hl:xs.length=ys.length:=by simp at h0;omega
  repeat refine ai ?_
  refine dX (xs) (fun i=>(xs==ys)=(xs.drop i==ys.drop i)) (fun i=>[(0,.d (lS xs)),(1,.d (lS ys)),(5,.d (.int .i64 i))]) (fun i=>hp0) (rfl) ?_
  intro i hi hr
  repeat refine ai ?_
  refine aj ?_ ?_<;>intro h1
  ·have hlt:i<xs.length:=V h1
   have hlt':i<ys.length:=by omega
   rw[List.drop_eq_getElem_cons hlt,List.drop_eq_getElem_cons hlt',List.cons_beq_cons] at hr
   repeat refine ai ?_
   refine ak ?_
   repeat refine ai ?_
   refine U (e:=eB) (xs:=xs) (hlt) rfl ?_
   repeat refine ai ?_
   refine U (e:=eB) (xs:=ys) (hlt') rfl ?_
   repeat refine ai ?_
   refine aj ?_ ?_<;>intro h2
   ·refine bd ?_
    simp only[Bool.not_eq_true',Bool.not_eq_false'] at h2
    rw[hr,h2];rfl
   ·simp only[Bool.not_eq_true',Bool.not_eq_false'] at h2
    repeat refine ai ?_
    exact bX hlt hs (by rw[hr,h2];rfl)
  ·refine bd ?_
   have hge:=Z h1
   rw[hr,List.drop_of_length_le hge,List.drop_of_length_le (by omega)];rfl
theorem wM {xs:List GateShape} {o:GateObject} (h:((za xs o).1==0)=true):(ag xs o.kind o.values.length).2=true:=by
 unfold za jL at h
 cases hf:(ag xs o.kind o.values.length).2 with
 |true=>rfl
 |false=>rw[hf] at h;cases h
theorem yY {b:GateBook} (h:ea [st b.e]) {o:GateObject} (ho:o∈b.objects):o.values.length≤ap∧o.holds.length≤ap:=by
 have:=h.1
 simp only[st,AV.ok,GateBook.e,List.map,ea] at this
 refine wm ?_
 simp only[AV.ok]
 exact okRows_iff.1 this.2.2.2.1.2 _ (List.mem_map.2 ⟨o,ho,rfl⟩)
set_option maxHeartbeats 2000000 in
theorem rE (L:GateLaw) (b:GateBook) (hm:bu L.shapes L.mends=true):Spec P 115 [st L.e,st b.e] (.d (.bool (me L b))):=by
 refine Spec.of_vc aG au [.tmp 4] Tryz.func115 rfl rfl rfl rfl (fun hok=>?_)
 have hs:=(cE hok.2).1
 obtain ⟨hx,hmm,hm12,hro⟩:=eJ hm
 repeat refine ai ?_
 refine aj ?_ ?_<;>intro h0
 ·refine bd ?_
  rw[List.length_map] at h0
  rw[me,h0];rfl
 rw[List.length_map] at h0
 have hob:me L b=aq (kg L b) none b.objects:=by rw[me,h0];rfl
 rw[hob]
 repeat refine ai ?_
 refine dX (b.objects) (fun i=>aq (kg L b) none b.objects=aq (kg L b) (cw b.objects i) (b.objects.drop i)) (fun i=>[(2,.ptr 0 0),(3,.ptr 1 0),(5,.d (.int .i64 i))]) (fun i=>⟨[(1,.cells 48 (b.e.map .d)),(0,.cells 41 (L.e.map .d))],2,0⟩) (rfl) ?_
 intro i hi hr
 repeat refine ai ?_
 refine aj ?_ ?_<;>intro h1
 ·have hlt:i<b.objects.length:=V h1
  rw[dM hlt] at hr
  repeat refine ai ?_
  refine U (e:=GateObject.e) (xs:=b.objects) (hlt) rfl ?_
  repeat refine ai ?_
  have hvb:=(yY hok.2 (List.getElem_mem hlt)).1
  generalize ho:b.objects[i]=o at*
  have hob0:∀c,(match cw b.objects i with|some q=>fU q.kind q.name o.kind o.name|none=>true)=c→kg L b (cw b.objects i) o=(c&&ax L b o):=fun c h=>by rw[←h];rfl
  repeat refine ai ?_
  refine oc (zK _ _) ?_
  repeat refine ai ?_
  refine aj ?_ ?_<;>intro c1
  ·have c1:((za L.shapes o).1==0)=true:=li c1
   repeat refine ai ?_
   refine oc (lN _ _) ?_
   repeat refine ai ?_
   refine aj ?_ ?_<;>intro c2
   ·have c2:(L.teams.any (·.name==o.team))=true:=li c2
    repeat refine ai ?_
    refine oc (dV _ _ _) ?_
    repeat refine ai ?_
    refine aj ?_ ?_<;>intro c3
    ·have c3:eX o.version 1 b.now=false:=oz c3
     repeat refine ai ?_
     refine bd ?_
     rw[hr,show kg L b (cw b.objects i) o=false from by rw[hob0 _ rfl];simp only[ax,c1,c2,c3,bl]]
     rfl
    ·have c3:eX o.version 1 b.now=true:=li c3
     repeat refine ai ?_
     refine ak ?_
     repeat refine ai ?_
     refine aj ?_ ?_<;>intro p1
     ·have h3:=k5 p1
      have hpv:cw b.objects i=some (b.objects[i - 1]'(by omega)):=cd h3 hlt
      repeat refine ai ?_
      refine aA (e:=GateObject.e) (xs:=b.objects) ((show i - 1<b.objects.length by omega)) (aW h3 hlt hs) rfl ?_
      repeat refine ai ?_
      refine aA (e:=GateObject.e) (xs:=b.objects) ((show i - 1<b.objects.length by omega)) (aW h3 hlt hs) rfl ?_
      repeat refine ai ?_
      rw[hpv] at hob0
      repeat refine ai ?_
      refine oc (uh _ _ _ _) ?_
      repeat refine ai ?_
      refine aj ?_ ?_<;>intro p2
      ·have hp:=(oJ _ _ _ _).symm.trans p2
       rw[Bool.not_eq_true'] at hp
       repeat refine ai ?_
       refine bd ?_
       rw[hr,hpv,hob0 false hp];rfl
      ·have hp:=(oJ _ _ _ _).symm.trans p2
       rw[Bool.not_eq_false'] at hp
       rw[hpv,hob0 true hp,Bool.true_and] at hr
       repeat refine ai ?_
       refine ak ?_
       repeat refine ai ?_
       refine oc (pM L.shapes L.mends o hx hmm) ?_
       repeat refine ai ?_
       refine oc (ko _ _) ?_
       repeat refine ai ?_
       refine aj ?_ ?_<;>intro c5
       ·have c5:((ee L.shapes L.mends o).values==o.values)=false:=oz c5
        repeat refine ai ?_
        refine bd ?_
        rw[hr,show ax L b o=false from by simp only[ax,c1,c2,c3,c5,bl]]
        rfl
       ·have c5:((ee L.shapes L.mends o).values==o.values)=true:=li c5
        have hrest:ax L b o=(bY (ag L.shapes o.kind o.values.length).1 o.values 0).all (fun p=>e8 b p.2.to_ (tL o.values p.1)):=by simp only[ax,c1,c2,c3,c5,Bool.true_and];rfl
        rw[hrest] at hr
        repeat refine ai ?_
        refine oc (er _ _) ?_
        have hfl:=(co (xs:=L.shapes) (k:=o.kind) (n:=o.values.length)).2 (wM c1)
        generalize (ag L.shapes o.kind o.values.length).1=fs at*
        have hfs:fs.length≤ap:=by omega
        generalize hlk:(bY fs o.values 0).all (fun p=>e8 b p.2.to_ (tL o.values p.1))=lk at*
        generalize hck:aq (kg L b) none b.objects=ck at*
        have hrO:=hr
        clear hr
        repeat refine ai ?_
        refine dX (fs) (fun k=>lk=(bY (fs.drop k) (o.values.drop k) k).all (fun p=>e8 b p.2.to_ (tL o.values p.1))) (fun k=>[(2,.ptr 0 0),(3,.ptr 1 0),(5,.d (.int .i64 i)),(6,.ptr 2 0),(9,.d (ab fs)),(11,.d (.int .i64 k))]) (fun k=>⟨[(2,.cells 103 (o.e.map .d)),(1,.cells 48 (b.e.map .d)),(0,.cells 41 (L.e.map .d))],3,0⟩) (hlk.symm) ?_
        intro k hk hr
        repeat refine ai ?_
        refine aj ?_ ?_<;>intro g1
        ·have hlk1:k<fs.length:=V g1
         have hlk2:k<o.values.length:=by omega
         rw[gO hlk1 hlk2] at hr
         repeat refine ai ?_
         refine ak ?_
         repeat refine ai ?_
         refine U (e:=GateField.e) (xs:=fs) (hlk1) rfl ?_
         repeat refine ai ?_
         refine aj ?_ ?_<;>intro g2
         ·repeat refine ai ?_
          refine U (e:=eB) (xs:=o.values) (hlk2) rfl ?_
          repeat refine ai ?_
          refine aj ?_ ?_<;>intro g3
          ·have hc:(fs[k].kind==4&& !(o.values[k]==[]))=true:=by rw[g2];exact g3
           rw[hc,cond_true,List.all_cons] at hr
           repeat refine ai ?_
           refine U (e:=GateField.e) (xs:=fs) (hlk1) rfl ?_
           repeat refine ai ?_
           refine U (e:=eB) (xs:=o.values) (hlk2) rfl ?_
           repeat refine ai ?_
           refine oc (AY _ _ _) ?_
           repeat refine ai ?_
           refine aj ?_ ?_<;>intro g4
           ·refine bd ?_
            rw[fQ hlk2,jM g4,Bool.false_and] at hr
            rw[hrO,hr];rfl
           ·rw[fQ hlk2,iq g4,Bool.true_and] at hr
            repeat refine ai ?_
            exact ⟨_,_,_,⟨k+1,rfl,hlk1,hr,rfl,rfl⟩,by omega,rfl,rfl,⟨rfl,rfl,rfl,rfl,rfl,nd (Y hlk1 hfs),trivial⟩,(by repeat' first|exact rfl|exact trivial|refine aj ?_ ?_),(by repeat' first|exact rfl|exact trivial|refine aj ?_ ?_)⟩
          ·have hc:(fs[k].kind==4&& !(o.values[k]==[]))=false:=by rw[g2];exact g3
           rw[hc,cond_false] at hr
           repeat refine ai ?_
           refine an ?_
           repeat refine ai ?_
           exact ⟨_,_,_,⟨k+1,rfl,hlk1,hr,rfl,rfl⟩,by omega,rfl,rfl,⟨rfl,rfl,rfl,rfl,rfl,nd (Y hlk1 hfs),trivial⟩,(by repeat' first|exact rfl|exact trivial|refine aj ?_ ?_),(by repeat' first|exact rfl|exact trivial|refine aj ?_ ?_)⟩
         ·have hc:(fs[k].kind==4&& !(o.values[k]==[]))=false:=by rw[g2];rfl
          rw[hc,cond_false] at hr
          repeat refine ai ?_
          refine an ?_
          repeat refine ai ?_
          refine an ?_
          repeat refine ai ?_
          exact ⟨_,_,_,⟨k+1,rfl,hlk1,hr,rfl,rfl⟩,by omega,rfl,rfl,⟨rfl,rfl,rfl,rfl,rfl,nd (Y hlk1 hfs),trivial⟩,(by repeat' first|exact rfl|exact trivial|refine aj ?_ ?_),(by repeat' first|exact rfl|exact trivial|refine aj ?_ ?_)⟩
        ·rw[List.drop_of_length_le (Z g1),kY rfl] at hr
         have hl:lk=true:=hr
         rw[hl,Bool.true_and] at hrO
         repeat refine ai ?_
         exact bX hlt hs hrO
     ·have hpv:=ce (xs:=b.objects) (oC p1)
      rw[hpv] at hr
      rw[hpv] at hob0
      rw[hob0 true rfl,Bool.true_and] at hr
      repeat refine ai ?_
      refine an ?_
      repeat refine ai ?_
      refine ak ?_
      repeat refine ai ?_
      refine oc (pM L.shapes L.mends o hx hmm) ?_
      repeat refine ai ?_
      refine oc (ko _ _) ?_
      repeat refine ai ?_
      refine aj ?_ ?_<;>intro c5
      ·have c5:((ee L.shapes L.mends o).values==o.values)=false:=oz c5
       repeat refine ai ?_
       refine bd ?_
       rw[hr,show ax L b o=false from by simp only[ax,c1,c2,c3,c5,bl]]
       rfl
      ·have c5:((ee L.shapes L.mends o).values==o.values)=true:=li c5
       have hrest:ax L b o=(bY (ag L.shapes o.kind o.values.length).1 o.values 0).all (fun p=>e8 b p.2.to_ (tL o.values p.1)):=by simp only[ax,c1,c2,c3,c5,Bool.true_and];rfl
       rw[hrest] at hr
       repeat refine ai ?_
       refine oc (er _ _) ?_
       have hfl:=(co (xs:=L.shapes) (k:=o.kind) (n:=o.values.length)).2 (wM c1)
       generalize (ag L.shapes o.kind o.values.length).1=fs at*
       have hfs:fs.length≤ap:=by omega
       generalize hlk:(bY fs o.values 0).all (fun p=>e8 b p.2.to_ (tL o.values p.1))=lk at*
       generalize hck:aq (kg L b) none b.objects=ck at*
       have hrO:=hr
       clear hr
       repeat refine ai ?_
       refine dX (fs) (fun k=>lk=(bY (fs.drop k) (o.values.drop k) k).all (fun p=>e8 b p.2.to_ (tL o.values p.1))) (fun k=>[(2,.ptr 0 0),(3,.ptr 1 0),(5,.d (.int .i64 i)),(6,.ptr 2 0),(9,.d (ab fs)),(11,.d (.int .i64 k))]) (fun k=>⟨[(2,.cells 103 (o.e.map .d)),(1,.cells 48 (b.e.map .d)),(0,.cells 41 (L.e.map .d))],3,0⟩) (hlk.symm) ?_
       intro k hk hr
       repeat refine ai ?_
       refine aj ?_ ?_<;>intro g1
       ·have hlk1:k<fs.length:=V g1
        have hlk2:k<o.values.length:=by omega
        rw[gO hlk1 hlk2] at hr
        repeat refine ai ?_
        refine ak ?_
        repeat refine ai ?_
        refine U (e:=GateField.e) (xs:=fs) (hlk1) rfl ?_
        repeat refine ai ?_
        refine aj ?_ ?_<;>intro g2
        ·repeat refine ai ?_
         refine U (e:=eB) (xs:=o.values) (hlk2) rfl ?_
         repeat refine ai ?_
         refine aj ?_ ?_<;>intro g3
         ·have hc:(fs[k].kind==4&& !(o.values[k]==[]))=true:=by rw[g2];exact g3
          rw[hc,cond_true,List.all_cons] at hr
          repeat refine ai ?_
          refine U (e:=GateField.e) (xs:=fs) (hlk1) rfl ?_
          repeat refine ai ?_
          refine U (e:=eB) (xs:=o.values) (hlk2) rfl ?_
          repeat refine ai ?_
          refine oc (AY _ _ _) ?_
          repeat refine ai ?_
          refine aj ?_ ?_<;>intro g4
          ·refine bd ?_
           rw[fQ hlk2,jM g4,Bool.false_and] at hr
           rw[hrO,hr];rfl
          ·rw[fQ hlk2,iq g4,Bool.true_and] at hr
           repeat refine ai ?_
           exact ⟨_,_,_,⟨k+1,rfl,hlk1,hr,rfl,rfl⟩,by omega,rfl,rfl,⟨rfl,rfl,rfl,rfl,rfl,nd (Y hlk1 hfs),trivial⟩,(by repeat' first|exact rfl|exact trivial|refine aj ?_ ?_),(by repeat' first|exact rfl|exact trivial|refine aj ?_ ?_)⟩
         ·have hc:(fs[k].kind==4&& !(o.values[k]==[]))=false:=by rw[g2];exact g3
          rw[hc,cond_false] at hr
          repeat refine ai ?_
          refine an ?_
          repeat refine ai ?_
          exact ⟨_,_,_,⟨k+1,rfl,hlk1,hr,rfl,rfl⟩,by omega,rfl,rfl,⟨rfl,rfl,rfl,rfl,rfl,nd (Y hlk1 hfs),trivial⟩,(by repeat' first|exact rfl|exact trivial|refine aj ?_ ?_),(by repeat' first|exact rfl|exact trivial|refine aj ?_ ?_)⟩
        ·have hc:(fs[k].kind==4&& !(o.values[k]==[]))=false:=by rw[g2];rfl
         rw[hc,cond_false] at hr
         repeat refine ai ?_
         refine an ?_
         repeat refine ai ?_
         refine an ?_
         repeat refine ai ?_
         exact ⟨_,_,_,⟨k+1,rfl,hlk1,hr,rfl,rfl⟩,by omega,rfl,rfl,⟨rfl,rfl,rfl,rfl,rfl,nd (Y hlk1 hfs),trivial⟩,(by repeat' first|exact rfl|exact trivial|refine aj ?_ ?_),(by repeat' first|exact rfl|exact trivial|refine aj ?_ ?_)⟩
       ·rw[List.drop_of_length_le (Z g1),kY rfl] at hr
        have hl:lk=true:=hr
        rw[hl,Bool.true_and] at hrO
        repeat refine ai ?_
        exact bX hlt hs hrO
   ·have c2:(L.teams.any (·.name==o.team))=false:=oz c2
    repeat refine ai ?_
    refine bd ?_
    rw[hr,show kg L b (cw b.objects i) o=false from by rw[hob0 _ rfl];simp only[ax,c1,c2,bl]]
    rfl
  ·have c1:((za L.shapes o).1==0)=false:=oz c1
   repeat refine ai ?_
   refine bd ?_
   rw[hr,show kg L b (cw b.objects i) o=false from by rw[hob0 _ rfl];simp only[ax,c1,bl]]
   rfl
 ·refine bd ?_
  rw[hr,eK (Z h1)]
end Go.Vc
end
section
namespace Go.Vc
open Go.Proofs
set_option maxRecDepth 100000
def wb (p:Option GateGrant) (n:Int):Bool:=match p with|some q=> !decide (q.number≥n)|none=>true
def eA (b:GateBook) (p:Option GateGrant) (g:GateGrant):Bool:=eX g.number 1 b.given&&(wb p g.number&&(aT g.to_&&((g.by_==[]||aT g.by_)&&bb g.rule)))
def f9 (b:GateBook):Bool:= !decide ((b.grants.length:Int)>24)&&aq (eA b) none b.grants
theorem mz (n a b:Int):eX n a b=(!decide (n<a)&& !decide (n>b)):=by
 unfold eX
 congr 1
 ·by_cases h:n<a
  ·rw[decide_eq_true h,decide_eq_false (by omega)];rfl
  ·rw[decide_eq_false h,decide_eq_true (by omega)];rfl
 ·by_cases h:n>b
  ·rw[decide_eq_true h,decide_eq_false (by omega)];rfl
  ·rw[decide_eq_false h,decide_eq_true (by omega)];rfl
set_option maxHeartbeats 2000000 in
theorem yg (b:GateBook):Spec P 127 [st b.e] (.d (.bool (f9 b))):=by
 refine Spec.of_vc aG au [.tmp 2] Tryz.func127 rfl rfl rfl rfl (fun hok=>?_)
 have hs:=(cE hok).2.1
 repeat refine ai ?_
 refine aj ?_ ?_<;>intro h0
 ·refine bd ?_
  rw[List.length_map] at h0
  rw[f9,h0];rfl
 rw[List.length_map] at h0
 have hob:f9 b=aq (eA b) none b.grants:=by rw[f9,h0];rfl
 rw[hob]
 repeat refine ai ?_
 refine dX (b.grants) (fun i=>aq (eA b) none b.grants=aq (eA b) (cw b.grants i) (b.grants.drop i)) (fun i=>[(1,.ptr 0 0),(10,.d (bn b.grants)),(11,.d (.int .i64 (b.grants.map GateGrant.e).length)),(12,.d (.int .i64 i))]) (fun i=>⟨[(0,.cells 48 (b.e.map .d))],1,0⟩) (rfl) ?_
 intro i hi hr
 repeat refine ai ?_
 refine aj ?_ ?_<;>intro h1
 ·have hlt:i<b.grants.length:=V h1
  rw[dM hlt] at hr
  repeat refine ai ?_
  refine U (e:=GateGrant.e) (xs:=b.grants) (hlt) rfl ?_
  repeat refine ai ?_
  refine ak ?_
  repeat refine ai ?_
  repeat' first
   |refine ai ?_
   |(refine n1 ?_;intro h)
   |(refine n2 ?_;intro h)
   |(refine n3 ?_;intro h)
   |(refine n4 ?_;intro h)
   |(refine aj ?_ ?_<;>intro h)
   |refine oc (cZ _) ?_
   |refine oc (BD _) ?_
   |refine aj (by kernel_rfl) ?_
   |refine aA (e:=GateGrant.e) (xs:=b.grants) (k:=i - 1) (by omega) (aW (k5 (by assumption)) hlt hs) rfl ?_
  all_goals (first|rw[cd (k5 (by assumption)) hlt] at hr|rw[ce (oC (by assumption))] at hr|skip)
  all_goals (simp only[cond_false,cond_true,Bool.not_eq_true',Bool.not_eq_false',reduceCtorEq] at*)
  all_goals first
   |(refine bd ?_
     rw[hr]
     clear hr
     simp only[eA,wb,mz, *,bl]
     done)
   |(refine (fun hq:aq (eA b) none b.grants=aq (eA b) (cw b.grants (i+1)) (b.grants.drop (i+1))=>?_) ?_
     rotate_left
     ·rw[hr]
      clear hr
      simp only[eA,wb,mz, *,bl]
      done
     ·repeat refine ai ?_
      exact bX hlt hs hq)
 ·refine bd ?_
  rw[hr,eK (Z h1)]
set_option maxHeartbeats 2000000 in
theorem uj (b:GateBook):Spec P 116 [st b.e] (.d (.bool (f9 b))):=by
 refine Spec.of_vc aG au [.tmp 2] Tryz.func116 rfl rfl rfl rfl (fun hok=>?_)
 have hs:=(cE hok).2.1
 repeat refine ai ?_
 refine aj ?_ ?_<;>intro h0
 ·refine bd ?_
  rw[List.length_map] at h0
  rw[f9,h0];rfl
 rw[List.length_map] at h0
 have hob:f9 b=aq (eA b) none b.grants:=by rw[f9,h0];rfl
 rw[hob]
 repeat refine ai ?_
 refine dX (b.grants) (fun i=>aq (eA b) none b.grants=aq (eA b) (cw b.grants i) (b.grants.drop i)) (fun i=>[(1,.ptr 0 0),(3,.d (.int .i64 i))]) (fun i=>⟨[(0,.cells 48 (b.e.map .d))],1,0⟩) (rfl) ?_
 intro i hi hr
 repeat refine ai ?_
 refine aj ?_ ?_<;>intro h1
 ·have hlt:i<b.grants.length:=V h1
  rw[dM hlt] at hr
  repeat refine ai ?_
  refine U (e:=GateGrant.e) (xs:=b.grants) (hlt) rfl ?_
  repeat refine ai ?_
  refine ak ?_
  repeat refine ai ?_
  repeat' first
   |refine ai ?_
   |(refine n1 ?_;intro h)
   |(refine n2 ?_;intro h)
   |(refine n3 ?_;intro h)
   |(refine n4 ?_;intro h)
   |(refine aj ?_ ?_<;>intro h)
   |refine oc (dV _ _ _) ?_
   |refine oc (bB _) ?_
   |refine oc (xz _) ?_
   |refine aj (by kernel_rfl) ?_
   |refine aA (e:=GateGrant.e) (xs:=b.grants) (k:=i - 1) (by omega) (aW (k5 (by assumption)) hlt hs) rfl ?_
  all_goals (first|rw[cd (k5 (by assumption)) hlt] at hr|rw[ce (oC (by assumption))] at hr|skip)
  all_goals (simp only[cond_false,cond_true,Bool.not_eq_true',Bool.not_eq_false',reduceCtorEq] at*)
  all_goals first
   |(refine bd ?_
     rw[hr]
     clear hr
     simp only[eA,wb, *,bl]
     done)
   |(refine (fun hq:aq (eA b) none b.grants=aq (eA b) (cw b.grants (i+1)) (b.grants.drop (i+1))=>?_) ?_
     rotate_left
     ·rw[hr]
      clear hr
      simp only[eA,wb, *,bl]
      done
     ·repeat refine ai ?_
      exact bX hlt hs hq)
 ·refine bd ?_
  rw[hr,eK (Z h1)]
end Go.Vc
end
section
namespace Go.Vc
open Go.Proofs
set_option maxRecDepth 100000
def fR (xs:List GateTeam):Nat→Bs→Bs→Bool
 |0,a,b=>a==b
 |k+1,a,b=>a==b||(!(c8 a xs==[])&&fR xs k (c8 a xs) b)
def ny (xs:List GateTeam) (a b:Bs):Bool:=fR xs 4 a b
theorem p8:∀{xs:List GateTeam} {n:Bs},xs.any (·.name==n)=false→c8 n xs=[]
 |[],_,_=>rfl
 |x::xs,n,h=>by
  rw[List.any_cons,Bool.or_eq_false_iff] at h
  simp only[c8,h.1,cond_false]
  exact p8 h.2
theorem yF {k n:Nat} (h:k<n) (hn:n≤100):IntKind.i64.wrap ((k:Int)+1)=((k+1:Nat):Int):=by
 rw[IntKind.wrap_i64];omega
theorem vX (xs:List GateTeam) (a b:Bs):Spec P 155 [.d (al xs),.d (.str a),.d (.str b)] (.d (.bool (ny xs a b))):=by
 refine Spec.of_vc aG au [.tmp 6] Tryz.func155 rfl rfl rfl rfl (fun hok=>?_)
 repeat refine ai ?_
 refine aj ?_ ?_<;>intro h0
 ·refine bd ?_
  simp only[ny,fR,h0,Bool.true_or]
 have hu:ny xs a b=(!(c8 a xs==[])&&fR xs 3 (c8 a xs) b):=by simp only[ny,fR,h0,Bool.false_or]
 rw[hu]
 repeat refine ai ?_
 refine ⟨fun m l h=>∃(s:Nat) (x:Bs),m=4 - s∧s≤4∧(!(c8 a xs==[])&&fR xs 3 (c8 a xs) b)=(bif Nat.ble 4 s then false else (!(c8 x xs==[])&&fR xs (3 - s) (c8 x xs) b))∧l=[(0,.d (al xs)),(1,.d (.str x)),(2,.d (.str b)),(7,.d (.int .i64 s))]∧h=hp0,
  ⟨_,_,_,⟨0,a,rfl,by decide,rfl,rfl,rfl⟩,rfl,rfl,⟨rfl,rfl,rfl,rfl,trivial⟩,trivial,trivial⟩,?_⟩
 rintro m l hh ⟨s,x,rfl,hs,hr,rfl,rfl⟩
 repeat refine ai ?_
 refine aj ?_ ?_<;>intro h1
 ·have hs4:s<4:=by have:=of_decide_eq_true h1;omega
  rw[show Nat.ble 4 s=false from by cases e:Nat.ble 4 s;rfl;have:=Nat.le_of_ble_eq_true e;omega,cond_false] at hr
  repeat refine ai ?_
  refine oc (jv _ _) ?_
  repeat refine ai ?_
  refine aj ?_ ?_<;>intro h2
  ·refine bd ?_
   rw[hr,h2];rfl
  ·rw[h2,Bool.not_false,Bool.true_and] at hr
   generalize c8 x xs=y at*
   repeat refine ai ?_
   refine aj ?_ ?_<;>intro h3
   ·refine bd ?_
    rw[hr]
    cases (3 - s)<;>simp only[fR,h3,Bool.true_or]
   ·repeat refine ai ?_
    refine ⟨_,_,_,⟨s+1,y,rfl,hs4,?_,rfl,rfl⟩,by omega,rfl,rfl,⟨rfl,rfl,rfl,nd (yF hs4 (by decide)),trivial⟩,trivial,trivial⟩
    rw[hr]
    rcases (show s=0∨s=1∨s=2∨s=3 by omega) with rfl|rfl|rfl|rfl
    ·show (y==b||_)=_
     rw[h3];rfl
    ·show (y==b||_)=_
     rw[h3];rfl
    ·show (y==b||_)=_
     rw[h3];rfl
    ·exact h3
 ·have hs4:s=4:=by have:=of_decide_eq_false h1;omega
  subst hs4
  refine bd ?_
  rw[hr];rfl
theorem wR (xs:List GateTeam) (a b:Bs):Spec P 159 [.d (al xs),.d (.str a),.d (.str b)] (.d (.bool (ny xs a b))):=by
 refine Spec.of_vc aG au [.tmp 6] Tryz.func159 rfl rfl rfl rfl (fun hok=>?_)
 refine ⟨fun m l h=>∃(s:Nat) (x:Bs),m=4 - s∧s≤4∧ny xs a b=fR xs (4 - s) x b∧l=[(0,.d (al xs)),(1,.d (.str x)),(2,.d (.str b)),(7,.d (.int .i64 s))]∧h=hp0,
  ⟨_,_,_,⟨0,a,rfl,by decide,rfl,rfl,rfl⟩,rfl,rfl,⟨rfl,rfl,rfl,rfl,trivial⟩,trivial,trivial⟩,?_⟩
 rintro m l hh ⟨s,x,rfl,hs,hr,rfl,rfl⟩
 repeat refine ai ?_
 refine aj ?_ ?_<;>intro h1
 ·have h1:(x==b)=false:=oz h1
  repeat refine ai ?_
  refine oc (fK _ _) ?_
  repeat refine ai ?_
  refine aj ?_ ?_<;>intro h2
  ·have hs4:s<4:=by
    have:=beq_eq_false_iff_ne.1 h2
    omega
   have hu:fR xs (4 - s) x b=(!(c8 x xs==[])&&fR xs (4 - (s+1)) (c8 x xs) b):=by
    rw[show 4 - s=(4 - (s+1))+1 from by omega]
    show (x==b||_)=_
    rw[h1];rfl
   rw[hu] at hr
   repeat refine ai ?_
   refine aj ?_ ?_<;>intro h3
   ·obtain ⟨j,hj,ej,_⟩:=dx (p:=fun t:GateTeam=>t.name==x) (xs:=xs) (decide_eq_true (by have:=of_decide_eq_false h3;omega))
    obtain ⟨_,eo⟩:=na (n:=x) (xs:=xs) (k:=0) (j:=j) (by rw[Nat.zero_add];exact ej)
    repeat refine ai ?_
    refine aA (e:=GateTeam.e) (xs:=xs) (hj) (ej) rfl ?_
    repeat refine ai ?_
    refine aj ?_ ?_<;>intro h4
    ·refine bd ?_
     rw[hr,eo,h4];rfl
    ·repeat refine ai ?_
     refine aA (e:=GateTeam.e) (xs:=xs) (hj) (ej) rfl ?_
     repeat refine ai ?_
     rw[eo,h4,Bool.not_false,Bool.true_and] at hr
     repeat refine ai ?_
     exact ⟨_,_,_,⟨s+1,_,rfl,hs4,hr,rfl,rfl⟩,by omega,rfl,rfl,⟨rfl,rfl,rfl,nd (yF hs4 (by decide)),trivial⟩,trivial,trivial⟩
   ·have hn:=oz (idx_lt.symm.trans h3)
    rw[p8 hn] at hr
    refine bd ?_
    rw[hr];rfl
  ·have hs4:s=4:=by
    have:=beq_iff_eq.1 h2
    omega
   subst hs4
   refine bd ?_
   rw[hr]
   exact h1.symm
 ·have h1:(x==b)=true:=li h1
  refine bd ?_
  rw[hr]
  cases (4 - s)<;>simp only[fR,h1,Bool.true_or]
def dB (a b:Int):Int:=IntKind.i64.wrap (a+b)
theorem sb {a:Int} (h:IntKind.i64.wrap a=a):dB a 0=a:=by unfold dB;rw[Int.add_zero,h]
theorem zt (a:Int):IntKind.i64.wrap (IntKind.i64.wrap a)=IntKind.i64.wrap a:=by simp only[IntKind.wrap_i64];omega
theorem oI (a b:Int):IntKind.i64.wrap (dB a b)=dB a b:=zt _
theorem D6 (c:Bool):IntKind.i64.wrap (bif c then 1 else 0)=bif c then 1 else 0:=by cases c<;>rfl
def ei (r:Bs):List GateField→List Bs→Int→Int
 |f::fs,v::vs,n=>ei r fs vs (bif f.kind==1&&f.weighs==r then dB n (ik v) else n)
 |_,_,n=>n
theorem gE {r:Bs} {fs:List GateField} {vs:List Bs} {i:Nat} {n:Int} (h:i<fs.length) (h2:i<vs.length):ei r (fs.drop i) (vs.drop i) n=ei r (fs.drop (i+1)) (vs.drop (i+1)) (bif fs[i].kind==1&&fs[i].weighs==r then dB n (ik vs[i]) else n):=by
 rw[List.drop_eq_getElem_cons h,List.drop_eq_getElem_cons h2];rfl
theorem iu {r:Bs} {fs:List GateField} {vs:List Bs} {i:Nat} {n:Int} (h:fs.length≤i):ei r (fs.drop i) (vs.drop i) n=n:=by
 rw[List.drop_of_length_le h];rfl
def eO (L:GateLaw) (o:GateObject) (r:Bs):Int:=bif !(ag L.shapes o.kind o.values.length).2||r==[] then 0 else ei r (ag L.shapes o.kind o.values.length).1 o.values (bif r==o.kind then 1 else 0)
theorem uV (L:GateLaw) (o:GateObject) (r:Bs):Spec P 160 [st L.e,st o.e,.d (.str r)] (.d (.int .i64 (eO L o r))):=by
 refine Spec.of_vc aG au [.tmp 6] Tryz.func160 rfl rfl rfl rfl (fun hok=>?_)
 have hvb:=(iM (o:=o) ⟨hok.2.1,trivial⟩).1
 repeat refine ai ?_
 refine oc (fo _ _) ?_
 repeat refine ai ?_
 refine aj ?_ ?_<;>intro h0
 ·have h0:=li h0
  repeat refine ai ?_
  refine aj ?_ ?_<;>intro h1
  ·refine nd ?_
   simp only[eO,h0,h1,cond_true,bl]
  ·have hw:eO L o r=ei r (ag L.shapes o.kind o.values.length).1 o.values (bif r==o.kind then 1 else 0):=by simp only[eO,h0,h1,cond_false,bl]
   have hfl:=(co (xs:=L.shapes) (k:=o.kind) (n:=o.values.length)).2 h0
   rw[hw]
   generalize (ag L.shapes o.kind o.values.length).1=fs at*
   repeat refine ai ?_
   refine aj ?_ ?_<;>intro h2
   ·rw[h2,cond_true]
    repeat refine ai ?_
    refine mq (fs) (fun i (n:Int)=>ei r fs o.values 1=ei r (fs.drop i) (o.values.drop i) n) (fun i (n:Int)=>[(2,.d (.str r)),(4,.ptr 1 0),(9,.d (.int .i64 n)),(31,.d (ab fs)),(32,.d (.int .i64 (fs.map GateField.e).length)),(33,.d (.int .i64 i))]) (fun i (n:Int)=>⟨[(1,.cells 103 (o.e.map .d)),(0,.cells 41 (L.e.map .d))],2,0⟩) (rfl) ?_
    intro i n hi hr
    have hs:fs.length≤ap:=by omega
    repeat refine ai ?_
    refine aj ?_ ?_<;>intro g1
    ·have hlt:i<fs.length:=V g1
     have hlt2:i<o.values.length:=by omega
     rw[gE hlt hlt2] at hr
     repeat refine ai ?_
     refine U (e:=GateField.e) (xs:=fs) (hlt) rfl ?_
     repeat refine ai ?_
     refine aj ?_ ?_<;>intro g2
     ·repeat refine ai ?_
      refine aj ?_ ?_<;>intro g3
      ·have hc:(fs[i].kind==1&&fs[i].weighs==r)=false:=by rw[li g2,oz g3];rfl
       rw[hc,cond_false] at hr
       repeat refine ai ?_
       exact cV n hlt hs hr
      ·have hc:(fs[i].kind==1&&fs[i].weighs==r)=true:=by rw[li g2,li g3];rfl
       rw[hc,cond_true] at hr
       repeat refine ai ?_
       refine U (e:=eB) (xs:=o.values) (hlt2) rfl ?_
       repeat refine ai ?_
       refine oc (ni _) ?_
       repeat refine ai ?_
       exact cV (dB n (ik o.values[i])) hlt hs hr
     ·have hc:(fs[i].kind==1&&fs[i].weighs==r)=false:=by rw[oz g2];rfl
      rw[hc,cond_false] at hr
      repeat refine ai ?_
      exact cV n hlt hs hr
    ·refine nd ?_
     rw[hr,iu (Z g1)]
   ·rw[h2,cond_false]
    repeat refine ai ?_
    refine mq (fs) (fun i (n:Int)=>ei r fs o.values 0=ei r (fs.drop i) (o.values.drop i) n) (fun i (n:Int)=>[(2,.d (.str r)),(4,.ptr 1 0),(9,.d (.int .i64 n)),(31,.d (ab fs)),(32,.d (.int .i64 (fs.map GateField.e).length)),(33,.d (.int .i64 i))]) (fun i (n:Int)=>⟨[(1,.cells 103 (o.e.map .d)),(0,.cells 41 (L.e.map .d))],2,0⟩) (rfl) ?_
    intro i n hi hr
    have hs:fs.length≤ap:=by omega
    repeat refine ai ?_
    refine aj ?_ ?_<;>intro g1
    ·have hlt:i<fs.length:=V g1
     have hlt2:i<o.values.length:=by omega
     rw[gE hlt hlt2] at hr
     repeat refine ai ?_
     refine U (e:=GateField.e) (xs:=fs) (hlt) rfl ?_
     repeat refine ai ?_
     refine aj ?_ ?_<;>intro g2
     ·repeat refine ai ?_
      refine aj ?_ ?_<;>intro g3
      ·have hc:(fs[i].kind==1&&fs[i].weighs==r)=false:=by rw[li g2,oz g3];rfl
       rw[hc,cond_false] at hr
       repeat refine ai ?_
       exact cV n hlt hs hr
      ·have hc:(fs[i].kind==1&&fs[i].weighs==r)=true:=by rw[li g2,li g3];rfl
       rw[hc,cond_true] at hr
       repeat refine ai ?_
       refine U (e:=eB) (xs:=o.values) (hlt2) rfl ?_
       repeat refine ai ?_
       refine oc (ni _) ?_
       repeat refine ai ?_
       exact cV (dB n (ik o.values[i])) hlt hs hr
     ·have hc:(fs[i].kind==1&&fs[i].weighs==r)=false:=by rw[oz g2];rfl
      rw[hc,cond_false] at hr
      repeat refine ai ?_
      exact cV n hlt hs hr
    ·refine nd ?_
     rw[hr,iu (Z g1)]
 ·refine nd ?_
  simp only[eO,h0,Bool.true_or,cond_true]
end Go.Vc
end
section
namespace Go.Vc
open Go.Proofs
set_option maxRecDepth 100000
theorem yZ {v:Bs} (h:decide (iO v>0)=true):ik v=iO v:=by
 have:=of_decide_eq_true h
 unfold iO ik at*
 cases e:dG v with
 |none=>rw[e] at this;simp at this
 |some n=>rfl
theorem y3 {v:Bs} (h:decide (iO v>0)=false):ik v=0:=by
 have:=of_decide_eq_false h
 unfold iO ik at*
 cases e:dG v with
 |none=>rfl
 |some n=>
  rw[e] at this
  simp only at this ⊢
  have:=mg e
  omega
theorem ul (L:GateLaw) (o:GateObject) (r:Bs):Spec P 156 [st L.e,st o.e,.d (.str r)] (.d (.int .i64 (eO L o r))):=by
 refine Spec.of_vc aG au [.tmp 6] Tryz.func156 rfl rfl rfl rfl (fun hok=>?_)
 have hvb:=(iM (o:=o) ⟨hok.2.1,trivial⟩).1
 repeat refine ai ?_
 refine oc (er _ _) ?_
 repeat refine ai ?_
 refine aj ?_ ?_<;>intro h0
 ·have h0:=li h0
  repeat refine ai ?_
  refine aj ?_ ?_<;>intro h1
  ·refine nd ?_
   simp only[eO,h0,h1,cond_true,bl]
  ·have hw:eO L o r=ei r (ag L.shapes o.kind o.values.length).1 o.values (bif r==o.kind then 1 else 0):=by simp only[eO,h0,h1,cond_false,bl]
   have hfl:=(co (xs:=L.shapes) (k:=o.kind) (n:=o.values.length)).2 h0
   rw[hw]
   generalize (ag L.shapes o.kind o.values.length).1=fs at*
   repeat refine ai ?_
   refine aj ?_ ?_<;>intro h2
   ·rw[h2,cond_true]
    repeat refine ai ?_
    refine mq (fs) (fun i (n:Int)=>ei r fs o.values 1=ei r (fs.drop i) (o.values.drop i) n∧IntKind.i64.wrap n=n) (fun i (n:Int)=>[(2,.d (.str r)),(4,.ptr 1 0),(7,.d (ab fs)),(9,.d (.int .i64 n)),(10,.d (.int .i64 i))]) (fun i (n:Int)=>⟨[(1,.cells 103 (o.e.map .d)),(0,.cells 41 (L.e.map .d))],2,0⟩) (⟨rfl,rfl⟩) ?_
    intro i n hi hr
    obtain ⟨hr,hwn⟩:=hr
    have hs:fs.length≤ap:=by omega
    repeat refine ai ?_
    refine aj ?_ ?_<;>intro g1
    ·have hlt:i<fs.length:=V g1
     have hlt2:i<o.values.length:=by omega
     rw[gE hlt hlt2] at hr
     repeat refine ai ?_
     refine U (e:=eB) (xs:=o.values) (hlt2) rfl ?_
     repeat refine ai ?_
     refine oc (kQ _) ?_
     repeat refine ai ?_
     refine U (e:=GateField.e) (xs:=fs) (hlt) rfl ?_
     repeat refine ai ?_
     refine aj ?_ ?_<;>intro g2
     ·repeat refine ai ?_
      refine U (e:=GateField.e) (xs:=fs) (hlt) rfl ?_
      repeat refine ai ?_
      refine aj ?_ ?_<;>intro g3
      ·have hc:(fs[i].kind==1&&fs[i].weighs==r)=true:=by rw[g2];exact g3
       rw[hc,cond_true] at hr
       repeat refine ai ?_
       refine aj ?_ ?_<;>intro g4
       ·rw[yZ g4] at hr
        repeat refine ai ?_
        exact cV (dB n (iO o.values[i])) hlt hs ⟨hr,oI _ _⟩
       ·rw[y3 g4,sb hwn] at hr
        repeat refine ai ?_
        exact cV n hlt hs ⟨hr,hwn⟩
      ·have hc:(fs[i].kind==1&&fs[i].weighs==r)=false:=by rw[g2];exact g3
       rw[hc,cond_false] at hr
       repeat refine ai ?_
       exact cV n hlt hs ⟨hr,hwn⟩
     ·have hc:(fs[i].kind==1&&fs[i].weighs==r)=false:=by rw[g2];rfl
      rw[hc,cond_false] at hr
      repeat refine ai ?_
      exact cV n hlt hs ⟨hr,hwn⟩
    ·refine nd ?_
     rw[hr,iu (Z g1)]
   ·rw[h2,cond_false]
    repeat refine ai ?_
    refine mq (fs) (fun i (n:Int)=>ei r fs o.values 0=ei r (fs.drop i) (o.values.drop i) n∧IntKind.i64.wrap n=n) (fun i (n:Int)=>[(2,.d (.str r)),(4,.ptr 1 0),(7,.d (ab fs)),(9,.d (.int .i64 n)),(10,.d (.int .i64 i))]) (fun i (n:Int)=>⟨[(1,.cells 103 (o.e.map .d)),(0,.cells 41 (L.e.map .d))],2,0⟩) (⟨rfl,rfl⟩) ?_
    intro i n hi hr
    obtain ⟨hr,hwn⟩:=hr
    have hs:fs.length≤ap:=by omega
    repeat refine ai ?_
    refine aj ?_ ?_<;>intro g1
    ·have hlt:i<fs.length:=V g1
     have hlt2:i<o.values.length:=by omega
     rw[gE hlt hlt2] at hr
     repeat refine ai ?_
     refine U (e:=eB) (xs:=o.values) (hlt2) rfl ?_
     repeat refine ai ?_
     refine oc (kQ _) ?_
     repeat refine ai ?_
     refine U (e:=GateField.e) (xs:=fs) (hlt) rfl ?_
     repeat refine ai ?_
     refine aj ?_ ?_<;>intro g2
     ·repeat refine ai ?_
      refine U (e:=GateField.e) (xs:=fs) (hlt) rfl ?_
      repeat refine ai ?_
      refine aj ?_ ?_<;>intro g3
      ·have hc:(fs[i].kind==1&&fs[i].weighs==r)=true:=by rw[g2];exact g3
       rw[hc,cond_true] at hr
       repeat refine ai ?_
       refine aj ?_ ?_<;>intro g4
       ·rw[yZ g4] at hr
        repeat refine ai ?_
        exact cV (dB n (iO o.values[i])) hlt hs ⟨hr,oI _ _⟩
       ·rw[y3 g4,sb hwn] at hr
        repeat refine ai ?_
        exact cV n hlt hs ⟨hr,hwn⟩
      ·have hc:(fs[i].kind==1&&fs[i].weighs==r)=false:=by rw[g2];exact g3
       rw[hc,cond_false] at hr
       repeat refine ai ?_
       exact cV n hlt hs ⟨hr,hwn⟩
     ·have hc:(fs[i].kind==1&&fs[i].weighs==r)=false:=by rw[g2];rfl
      rw[hc,cond_false] at hr
      repeat refine ai ?_
      exact cV n hlt hs ⟨hr,hwn⟩
    ·refine nd ?_
     rw[hr,iu (Z g1)]
 ·refine nd ?_
  simp only[eO,h0,Bool.true_or,cond_true]
def pg (L:GateLaw) (t r:Bs):List GateObject→Int→Int
 |[],n=>n
 |o::os,n=>pg L t r os (bif ny L.teams o.team t then dB n (eO L o r) else n)
def sj (L:GateLaw) (b:GateBook) (t r:Bs):Int:=pg L t r b.objects 0
theorem pf {L:GateLaw} {t r:Bs} {os:List GateObject} {i:Nat} {n:Int} (h:i<os.length):pg L t r (os.drop i) n=pg L t r (os.drop (i+1)) (bif ny L.teams os[i].team t then dB n (eO L os[i] r) else n):=by
 rw[List.drop_eq_getElem_cons h];rfl
theorem si {L:GateLaw} {t r:Bs} {os:List GateObject} {i:Nat} {n:Int} (h:os.length≤i):pg L t r (os.drop i) n=n:=by
 rw[List.drop_of_length_le h];rfl
theorem yi (L:GateLaw) (b:GateBook) (t r:Bs):Spec P 99 [st L.e,st b.e,.d (.str t),.d (.str r)] (.d (.int .i64 (sj L b t r))):=by
 refine Spec.of_vc aG au [.tmp 8] Tryz.func99 rfl rfl rfl rfl (fun hok=>?_)
 have hs:=(cE (dr hok.2)).1
 repeat refine ai ?_
 refine mq (b.objects) (fun i (n:Int)=>sj L b t r=pg L t r (b.objects.drop i) n) (fun i (n:Int)=>[(2,.d (.str t)),(3,.d (.str r)),(4,.ptr 0 0),(5,.ptr 1 0),(9,.d (.int .i64 n)),(13,.d (aF b.objects)),(14,.d (.int .i64 (b.objects.map GateObject.e).length)),(15,.d (.int .i64 i))]) (fun i (n:Int)=>⟨[(1,.cells 48 (b.e.map .d)),(0,.cells 41 (L.e.map .d))],2,0⟩) (rfl) ?_
 intro i n hi hr
 repeat refine ai ?_
 refine aj ?_ ?_<;>intro g1
 ·have hlt:i<b.objects.length:=V g1
  rw[pf hlt] at hr
  skip
  repeat refine ai ?_
  refine U (e:=GateObject.e) (xs:=b.objects) (hlt) rfl ?_
  repeat refine ai ?_
  refine oc (wR _ _ _) ?_
  repeat refine ai ?_
  refine aj ?_ ?_<;>intro g2
  ·rw[g2,cond_true] at hr
   skip
   skip
   repeat refine ai ?_
   refine oc (uV _ _ _) ?_
   repeat refine ai ?_
   exact cV (dB n (eO L b.objects[i] r)) hlt hs hr
  ·rw[g2,cond_false] at hr
   repeat refine ai ?_
   exact cV n hlt hs hr
 ·refine nd ?_
  rw[hr,si (Z g1)]
theorem xC (L:GateLaw) (b:GateBook) (t r:Bs):Spec P 94 [st L.e,st b.e,.d (.str t),.d (.str r)] (.d (.int .i64 (sj L b t r))):=by
 refine Spec.of_vc aG au [.tmp 8] Tryz.func94 rfl rfl rfl rfl (fun hok=>?_)
 have hs:=(cE (dr hok.2)).1
 repeat refine ai ?_
 refine mq (b.objects) (fun i (n:Int)=>sj L b t r=pg L t r (b.objects.drop i) n) (fun i (n:Int)=>[(2,.d (.str t)),(3,.d (.str r)),(4,.ptr 0 0),(5,.ptr 1 0),(9,.d (.int .i64 n)),(10,.d (.int .i64 i))]) (fun i (n:Int)=>⟨[(1,.cells 48 (b.e.map .d)),(0,.cells 41 (L.e.map .d))],2,0⟩) (rfl) ?_
 intro i n hi hr
 repeat refine ai ?_
 refine aj ?_ ?_<;>intro g1
 ·have hlt:i<b.objects.length:=V g1
  rw[pf hlt] at hr
  repeat refine ai ?_
  refine ak ?_
  repeat refine ai ?_
  refine U (e:=GateObject.e) (xs:=b.objects) (hlt) rfl ?_
  repeat refine ai ?_
  refine oc (vX _ _ _) ?_
  repeat refine ai ?_
  refine aj ?_ ?_<;>intro g2
  ·rw[g2,cond_true] at hr
   repeat refine ai ?_
   refine ak ?_
   repeat refine ai ?_
   refine U (e:=GateObject.e) (xs:=b.objects) (hlt) rfl ?_
   repeat refine ai ?_
   refine oc (ul _ _ _) ?_
   repeat refine ai ?_
   exact cV (dB n (eO L b.objects[i] r)) hlt hs hr
  ·rw[g2,cond_false] at hr
   repeat refine ai ?_
   exact cV n hlt hs hr
 ·refine nd ?_
  rw[hr,si (Z g1)]
def md (t r:Bs):List GatePurse→Int→Int
 |[],n=>n
 |p::ps,n=>md t r ps (bif p.team==t&&p.resource==r then dB n p.amount else n)
def Cr (b:GateBook) (t r:Bs):Int:=md t r b.purses 0
theorem zZ {t r:Bs} {os:List GatePurse} {i:Nat} {n:Int} (h:i<os.length):md t r (os.drop i) n=md t r (os.drop (i+1)) (bif os[i].team==t&&os[i].resource==r then dB n os[i].amount else n):=by
 rw[List.drop_eq_getElem_cons h];rfl
theorem Bk {t r:Bs} {os:List GatePurse} {i:Nat} {n:Int} (h:os.length≤i):md t r (os.drop i) n=n:=by
 rw[List.drop_of_length_le h];rfl
theorem Ck (b:GateBook) (t r:Bs):Spec P 177 [st b.e,.d (.str t),.d (.str r)] (.d (.int .i64 (Cr b t r))):=by
 refine Spec.of_vc aG au [.tmp 6] Tryz.func177 rfl rfl rfl rfl (fun hok=>?_)
 have hs:=(cE (dr hok)).2.2.2
 repeat refine ai ?_
 refine mq (b.purses) (fun i (n:Int)=>Cr b t r=md t r (b.purses.drop i) n) (fun i (n:Int)=>[(1,.d (.str t)),(2,.d (.str r)),(3,.ptr 0 0),(7,.d (.int .i64 n)),(8,.d (.int .i64 i))]) (fun i (n:Int)=>⟨[(0,.cells 48 (b.e.map .d))],1,0⟩) (rfl) ?_
 intro i n hi hr
 repeat refine ai ?_
 refine aj ?_ ?_<;>intro g1
 ·have hlt:i<b.purses.length:=V g1
  rw[zZ hlt] at hr
  repeat refine ai ?_
  refine U (e:=GatePurse.e) (xs:=b.purses) (hlt) rfl ?_
  repeat refine ai ?_
  refine aj ?_ ?_<;>intro g2
  ·repeat refine ai ?_
   refine U (e:=GatePurse.e) (xs:=b.purses) (hlt) rfl ?_
   repeat refine ai ?_
   refine aj ?_ ?_<;>intro g3
   ·rw[g2,show (b.purses[i].resource==r)=true from g3,Bool.and_true,cond_true] at hr
    repeat refine ai ?_
    refine U (e:=GatePurse.e) (xs:=b.purses) (hlt) rfl ?_
    repeat refine ai ?_
    exact cV (dB n b.purses[i].amount) hlt hs hr
   ·rw[g2,show (b.purses[i].resource==r)=false from g3,Bool.and_false,cond_false] at hr
    repeat refine ai ?_
    exact cV n hlt hs hr
  ·rw[g2,Bool.false_and,cond_false] at hr
   repeat refine ai ?_
   exact cV n hlt hs hr
 ·refine nd ?_
  rw[hr,Bk (Z g1)]
end Go.Vc
end
section
namespace Go.Vc
open Go.Proofs
abbrev fP:=Bs×Bs
def rN (k:fP):List D:=[.str k.1,.str k.2]
def iZ (e:fP×Int):List D×AV:=(rN e.1,.d (.int .i64 e.2))
def nR (k k':fP):Bool:=k.1==k'.1&&k.2==k'.2
def oy:List (fP×Int)→fP→Int→List (fP×Int)
 |[],k,v=>[(k,v)]
 |(k',a)::r,k,v=>bif nR k k' then (k',v)::r else (k',a)::oy r k v
def cF:List (fP×Int)→fP→Option Int
 |[],_=>none
 |(k',a)::r,k=>bif nR k k' then some a else cF r k
def qP:List (fP×Int)→fP→Int→List (fP×Int)
 |[],_,_=>[]
 |(k',a)::r,k,v=>bif nR k k' then (k',dB a v)::r else (k',a)::qP r k v
theorem uN (k k':fP):cR (rN k) (rN k')=nR k k':=rfl
theorem wF (k:fP) (v:Int):∀en:List (fP×Int),bK (en.map iZ) (rN k) (.d (.int .i64 v))=(oy en k v).map iZ
 |[]=>rfl
 |(k',a)::r=>by
  simp only[List.map_cons,iZ,bK,uN,oy]
  cases nR k k' with
  |true=>rfl
  |false=>
   simp only[cond_false,List.map_cons,iZ,List.cons.injEq,true_and]
   exact wF k v r
theorem sH (k:fP):∀en:List (fP×Int),az (en.map iZ) (rN k)=(cF en k).map fun v=> .d (.int .i64 v)
 |[]=>rfl
 |(k',a)::r=>by
  simp only[List.map_cons,iZ,az,uN,cF]
  cases nR k k' with
  |true=>rfl
  |false=>exact sH k r
theorem y5 {k:fP} {v:Int}:∀{en:List (fP×Int)} {i:Nat},cF en k=some v→∃j,∃k':fP,ec (en.map iZ) (rN k) i=some (i+j,.d (.int .i64 v))∧en[j]? =some (k',v)∧∀x,qP en k x=en.set j (k',dB v x)
 |[],i,h=>by cases h
 |(k',a)::r,i,h=>by
  simp only[List.map_cons,iZ,ec,uN]
  simp only[cF] at h
  cases he:nR k k' with
  |true=>
   rw[he,cond_true] at h
   cases h
   exact ⟨0,k',rfl,rfl,fun x=>by simp only[qP,he,cond_true,List.set_cons_zero]⟩
  |false=>
   rw[he,cond_false] at h
   obtain ⟨j,k2,h1,h2,h3⟩:=y5 (i:=i+1) h
   exact ⟨j+1,k2,by rw[h1,show i+1+j=i+(j+1) from by omega],h2,fun x=>by simp only[qP,he,cond_false,h3,List.set_cons_succ]⟩
theorem ql (n:Nat):∀en:List (fP×Int),Cw n (en.map iZ)
 |[]=>trivial
 |e::r=>⟨rfl,ql n r⟩
theorem eqA_iff {k k':fP}:nR k k'=true↔k=k':=by
 obtain ⟨a,b⟩:=k
 obtain ⟨c,d⟩:=k'
 simp[nR]
theorem qJ (k:fP):nR k k=true:=eqA_iff.2 rfl
theorem Dg {k k':fP} (h:k≠k'):nR k k'=false:=by
 cases e:nR k k' with
 |false=>rfl
 |true=>exact absurd (eqA_iff.1 e) h
theorem qm (k:fP) (v:Int):∀(en:List (fP×Int)) (k':fP),cF (oy en k v) k'=bif nR k' k then some v else cF en k'
 |[],k'=>by simp only[oy,cF]
 |(k2,a)::r,k'=>by
  simp only[oy]
  cases he:nR k k2 with
  |true=>
   rw[cond_true]
   simp only[cF]
   rw[eqA_iff.1 he]
   cases nR k' k2<;>rfl
  |false=>
   rw[cond_false]
   simp only[cF]
   cases h2:nR k' k2 with
   |true=>
    rw[cond_true,cond_true]
    rw[eqA_iff.1 h2]
    have:nR k2 k=false:=by
     cases e:nR k2 k with
     |false=>rfl
     |true=>rw[eqA_iff.1 e,qJ] at he;cases he
    rw[this];rfl
   |false=>rw[cond_false,cond_false];exact qm k v r k'
theorem wK (k:fP) (x:Int):∀(en:List (fP×Int)) (k':fP),cF (qP en k x) k'=(cF en k').map fun v=>bif nR k' k then dB v x else v
 |[],k'=>rfl
 |(k2,a)::r,k'=>by
  simp only[qP]
  cases he:nR k k2 with
  |true=>
   rw[cond_true]
   simp only[cF]
   have e:=eqA_iff.1 he
   subst e
   cases h2:nR k' k with
   |true=>rfl
   |false=>
    simp only[cond_false]
    cases cF r k'<;>rfl
  |false=>
   rw[cond_false]
   simp only[cF]
   cases h2:nR k' k2 with
   |true=>
    have e:=eqA_iff.1 h2
    subst e
    have:nR k' k=false:=by
     cases e:nR k' k with
     |false=>rfl
     |true=>rw[eqA_iff.1 e,qJ] at he;cases he
    simp[this]
   |false=>rw[cond_false,cond_false];exact wK k x r k'
def oH (g:GateLedger):fP:=(g.team,g.resource)
def Ca (p:GatePurse):fP:=(p.team,p.resource)
def CE (f:GateLedger→Int) (gs:List GateLedger):List (fP×Int):=gs.foldl (fun en g=>oy en (oH g) (f g)) []
def Cd (en:List (fP×Int)) (ps:List GatePurse):List (fP×Int):=ps.foldl (fun en p=>qP en (Ca p) p.amount) en
theorem BT (f:GateLedger→Int) (gs:List GateLedger) (g:GateLedger):CE f (gs++[g])=oy (CE f gs) (oH g) (f g):=by simp[CE]
theorem BR (en:List (fP×Int)) (ps:List GatePurse) (p:GatePurse):Cd en (ps++[p])=qP (Cd en ps) (Ca p) p.amount:=by simp[Cd]
theorem qo (k:fP):∀(ps:List GatePurse) (en:List (fP×Int)),cF (Cd en ps) k=(cF en k).map fun v=>md k.1 k.2 ps v
 |[],en=>by simp[Cd,md]
 |p::ps,en=>by
  show cF (Cd (qP en (Ca p) p.amount) ps) k=_
  rw[qo k ps,wK]
  cases cF en k with
  |none=>rfl
  |some v=>
   simp only[Option.map_some,md]
   congr 2
   have:nR k (Ca p)=(p.team==k.1&&p.resource==k.2):=by
    simp only[nR,Ca]
    rw[BEq.comm (a:=k.1),BEq.comm (a:=k.2)]
   rw[this]
def Ch (t r:Bs):List GatePurse→Int
 |[]=>0
 |p::ps=>(bif p.team==t&&p.resource==r then p.amount else 0)+Ch t r ps
theorem mc (t r:Bs):∀(ps:List GatePurse) (n:Int),IntKind.i64.wrap n=n→md t r ps n=IntKind.i64.wrap (n+Ch t r ps)
 |[],n,h=>by simp only[md,Ch,Int.add_zero,h]
 |p::ps,n,h=>by
  simp only[md,Ch]
  cases p.team==t&&p.resource==r with
  |false=>rw[cond_false,cond_false,mc t r ps n h,Int.zero_add]
  |true=>
   rw[cond_true,cond_true,mc t r ps _ (oI _ _)]
   unfold dB
   simp only[IntKind.wrap_i64]
   omega
theorem zX (t r:Bs) (ps:List GatePurse) (a b:Int):md t r ps (dB a b)=dB (dB b (md t r ps 0)) a:=by
 rw[mc t r ps _ (oI _ _),mc t r ps 0 rfl]
 unfold dB
 simp only[IntKind.wrap_i64]
 omega
theorem Ah (a b:Bs):fU a b a b=false:=by simp[fU,i5]
theorem wI {a b c d e f:Bs} (h:fU a b c d=true) (k:fU c d e f=true):fU a b e f=true:=by
 simp only[fU,Bool.or_eq_true,Bool.and_eq_true,beq_iff_eq] at h k ⊢
 rcases h with h|⟨rfl,h⟩
 ·rcases k with k|⟨rfl,k⟩
  ·exact .inl (mM h k)
  ·exact .inl h
 ·rcases k with k|⟨rfl,k⟩
  ·exact .inl k
  ·exact .inr ⟨rfl,mM h k⟩
def lY (p:Option GateLedger) (g:GateLedger):Bool:=match p with|some q=>fU q.team q.resource g.team g.resource|none=>true
theorem tr:∀{gs:List GateLedger} {q:GateLedger},aq lY (some q) gs=true→∀g∈gs,fU q.team q.resource g.team g.resource=true
 |[],_,_,g,h=>by cases h
 |x::gs,q,hc,g,h=>by
  simp only[aq,lY,Bool.and_eq_true] at hc
  rcases List.mem_cons.1 h with rfl|h
  ·exact hc.1
  ·exact wI hc.1 (tr hc.2 g h)
theorem w9 (f:GateLedger→Int) (k:fP):∀(gs:List GateLedger) (en:List (fP×Int)),(∀g∈gs,oH g≠k)→cF (gs.foldl (fun en g=>oy en (oH g) (f g)) en) k=cF en k
 |[],en,_=>rfl
 |g::gs,en,h=>by
  rw[List.foldl_cons,w9 f k gs _ (fun x hx=>h x (List.mem_cons_of_mem _ hx)),qm,Dg (fun e=>h g List.mem_cons_self e.symm)]
  rfl
theorem qK (f:GateLedger→Int):∀{gs:List GateLedger} {p:Option GateLedger} (en:List (fP×Int)),aq lY p gs=true→∀g∈gs,cF (gs.foldl (fun en g=>oy en (oH g) (f g)) en) (oH g)=some (f g)
 |[],_,_,_,g,h=>by cases h
 |x::gs,p,en,hc,g,h=>by
  simp only[aq,Bool.and_eq_true] at hc
  rw[List.foldl_cons]
  rcases List.mem_cons.1 h with rfl|h
  ·rw[w9 f (oH g) gs _ (fun y hy e=>?_),qm,qJ]
   ·rfl
   ·have:=tr hc.2 y hy
    simp only[oH,Prod.mk.injEq] at e
    rw[e.1,e.2,Ah] at this
    cases this
  ·exact qK f _ hc.2 g h
theorem i4 {α:Type} {r r':Option α→α→Bool} (h:∀p x,r p x=true→r' p x=true):∀{xs:List α} {p:Option α},aq r p xs=true→aq r' p xs=true
 |[],_,_=>rfl
 |x::xs,p,hc=>by
  simp only[aq,Bool.and_eq_true] at hc ⊢
  exact ⟨h _ _ hc.1,i4 h hc.2⟩
theorem th {α:Type} {r:Option α→α→Bool} {q:α→Bool}:∀{xs:List α} {p:Option α},aq (fun p x=>r p x&&q x) p xs=(aq r p xs&&xs.all q)
 |[],_=>rfl
 |x::xs,p=>by
  simp only[aq,List.all_cons,th (xs:=xs)]
  cases r p x<;>cases q x<;>simp
end Go.Vc
end
