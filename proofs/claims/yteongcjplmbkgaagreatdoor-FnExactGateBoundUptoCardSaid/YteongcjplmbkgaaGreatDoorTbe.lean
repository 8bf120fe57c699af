/- Part 5 of a proof: Contracts: values that are not set. Rows in which each stands behind what it reads: one by one (greedy) and depth first come to the same. Plain Lean, no program. What a field's mends read; rows of fields: pure facts. Contracts: mends of the specification. Contracts: what a field's mends read (a closure), depth first (a closure that calls itself), rows of fields. Contracts: the walk depth first, a closure that calls itself. Contracts: rows of fields. Mended values: the order of the fields does not count, as long as each stands behind what it reads. No program, no memory. Contracts: mended objec -/
import Derived.Test.YteongcjplmbkgaaGreatDoorTba
import Derived.Test.YteongcjplmbkgaaGreatDoorTbb
import Derived.Test.YteongcjplmbkgaaGreatDoorTbc
import Derived.Test.YteongcjplmbkgaaGreatDoorTbd
set_option linter.unusedVariables false
set_option linter.unusedSimpArgs false
section
namespace Go.Vc
open Go.Proofs
set_option maxRecDepth 100000
def j7 (f:GateField) (v:Bs):Bs:=bif v==[] then f.default_ else v
def fM:List GateField→List Bs→List Bs
 |f::fs,v::vs=>j7 f v::fM fs vs
 |_,vs=>vs
theorem Gb (vs:List Bs):fM [] vs=vs:=rfl
theorem ph:∀(fs:List GateField) (vs:List Bs),(fM fs vs).length=vs.length
 |[],vs=>rfl
 |f::fs,[]=>rfl
 |f::fs,v::vs=>by simp[fM,ph fs vs]
theorem y9:∀{fs:List GateField} {vs:List Bs} {i:Nat},i<fs.length→(fM (fs.take i) vs)[i]? =vs[i]?
 |[],_,_,h=>by simp at h
 |f::fs,[],i,h=>by cases i<;>simp[fM]
 |f::fs,v::vs,0,h=>rfl
 |f::fs,v::vs,i+1,h=>by simpa [fM] using y9 (fs:=fs) (vs:=vs) (i:=i) (by simpa using h)
theorem sN:∀{fs:List GateField} {vs:List Bs} {i:Nat} (h:i<fs.length) (h2:i<vs.length),fM (fs.take (i+1)) vs=(fM (fs.take i) vs).set i (j7 fs[i] vs[i])
 |[],_,_,h,_=>by simp at h
 |f::fs,[],i,h,h2=>by simp at h2
 |f::fs,v::vs,0,h,h2=>by simp[fM]
 |f::fs,v::vs,i+1,h,h2=>by simpa [fM] using sN (fs:=fs) (vs:=vs) (i:=i) (by simpa using h) (by simpa using h2)
theorem BD {fs:List GateField} {vs:List Bs} {i:Nat} (h:i<fs.length) (h2:i<vs.length) (h3:i<(fM (fs.take i) vs).length):(fM (fs.take i) vs)[i]=vs[i]:=by
 have:=y9 (vs:=vs) h
 rw[List.getElem?_eq_getElem h3,List.getElem?_eq_getElem h2] at this
 exact Option.some.inj this
theorem rx {α:Type} {l:List α} {i:Nat} (h:i<l.length) {x:α} (e:l[i]=x):l.set i x=l:=by
 subst e;simp
theorem rF {t n:Nat} {W:List Bs} {i:Nat} {v:Bs} (h:i<W.length):some (AO.row t n ((W.map eB).set i (d8 (eB W[i]) 0 (eB v))))=some (AO.row t n ((W.set i v).map eB)):=by
 congr 2
 simp only[List.map_set]
 rfl
def gc (xs:List GateShape) (o:GateObject):GateObject:={o with values:=fM (am xs o.kind o.values.length).1 o.values}
theorem Df (xs:List GateShape) (o:GateObject):Spec P 207 [.d (aa xs),st o.e] (st (gc xs o).e):=by
 refine Spec.of_vc aP av [.cell 4 103] Tryz.func207 rfl rfl rfl rfl (fun hok=>?_)
 have hb:=iH (o:=o) ⟨hok.2.1,trivial⟩
 repeat refine ai ?_
 refine ow (uF o hb.1 hb.2) ?_
 repeat refine ai ?_
 refine oc (fQ _ _) ?_
 obtain ⟨hl,hl2⟩:=db (xs:=xs) (k:=o.kind) (n:=o.values.length)
 have hfs:(am xs o.kind o.values.length).2=false→(am xs o.kind o.values.length).1=[]:=by
  rcases dQ (xs:=xs) (k:=o.kind) (n:=o.values.length) with ⟨h1,h2⟩|⟨j,hj,_,h,_⟩
  ·exact fun _=>h2
  ·rw[h];exact fun h=>by cases h
 repeat refine ai ?_
 refine aj ?_ ?_<;>intro h0
 ·simp only[Bool.not_eq_true'] at h0
  have e:gc xs o=o:=by unfold gc;rw[hfs h0];rfl
  rw[e]
  repeat refine ai ?_
  exact rfl
 ·simp only[Bool.not_eq_false'] at h0
  have hl:=hl2 h0
  unfold gc
  generalize (am xs o.kind o.values.length).1=fs at*
  repeat refine ai ?_
  refine pK (fs) (fun i (W:List Bs)=>W=fM (fs.take i) o.values) (fun i (W:List Bs)=>[(4,.ptr 1 0),(5,.ptr 6 0),(6,.d (ab fs)),(8,.d (.int .i64 i))]) (fun i (W:List Bs)=>⟨[(6,.cells 103 [.d (.str o.kind),.d (.str o.name),.d (.str o.team),.own 4,.d (.bool o.ending),.own 5,.d (.int .i64 o.version)]),(4,.row 9 1 (W.map eB)),(5,.row 9 1 (o.holds.map eB)),(1,.cells 103 [.d (.str []),.d (.str []),.d (.str []),.nils,.d (.bool false),.nils,.d (.int .i64 0)])],7,0⟩) (rfl) ?_
  intro i W hi hr
  have hs:fs.length≤al:=by omega
  have hW:W.length=o.values.length:=by rw[hr,ph]
  repeat refine ai ?_
  refine aj ?_ ?_<;>intro h1
  ·have hlt:i<fs.length:=Y h1
   have hlt2:i<o.values.length:=by omega
   have hlt3:i<W.length:=by omega
   have hv:W[i]=o.values[i]:=by simp only[hr];exact BD hlt hlt2 _
   have hst:fM (fs.take (i+1)) o.values=W.set i (j7 fs[i] o.values[i]):=by rw[hr,←sN hlt hlt2]
   repeat refine ai ?_
   refine aj (Int.natCast_nonneg _) (aj (by rw[List.length_map];omega) ?_)
   repeat refine ai ?_
   refine ⟨_,w3 hlt3,?_⟩
   repeat refine ai ?_
   refine aj ?_ ?_<;>intro h2
   ·have hf:j7 fs[i] o.values[i]=fs[i].default_:=by unfold j7;rw[←hv,show (W[i]==[])=true from h2];rfl
    repeat refine ai ?_
    refine GB ?_
    repeat refine ai ?_
    refine U (e:=GateField.e) (xs:=fs) (hlt) rfl ?_
    repeat refine ai ?_
    refine aj (Int.natCast_nonneg _) (aj (by rw[List.length_map];omega) ?_)
    repeat refine ai ?_
    refine ⟨_,w3 hlt3,Nat.le_refl _,?_⟩
    repeat refine ai ?_
    exact d6 (W.set i fs[i].default_) hlt hs (by rw[hst,hf]) fun hw=>by repeat' first|exact rfl|exact trivial|exact nd hw|exact rF hlt3|refine aj ?_ ?_
   ·have hf:j7 fs[i] o.values[i]=W[i]:=by unfold j7;rw[←hv,show (W[i]==[])=false from h2];rfl
    repeat refine ai ?_
    exact d6 W hlt hs (by rw[hst,hf,rx hlt3 rfl])
  ·have hi':fs.length≤i:=Z h1
   rw[List.take_of_length_le hi'] at hr
   rw[←hr]
   repeat refine ai ?_
   exact rfl
theorem CD {xs:List GateShape} {o:GateObject} (h0:(am xs o.kind o.values.length).2=false):gc xs o=o:=by
 unfold gc
 rcases dQ (xs:=xs) (k:=o.kind) (n:=o.values.length) with ⟨h1,h2⟩|⟨j,hj,_,h,_⟩
 ·rw[h2];rfl
 ·rw[h] at h0;cases h0
theorem AF {xs:List GateShape} {o:GateObject} (h0:o.values=[]):gc xs o=o:=by
 unfold gc
 rw[h0]
 cases o
 simp only at h0
 subst h0
 generalize (am xs _ _).1=fs
 cases fs<;>rfl
theorem Aw (xs:List GateShape) (o:GateObject):Spec P 217 [.d (aa xs),st o.e] (st (bif aQ xs then gc xs o else o).e):=by
 refine Spec.of_vc aP av [.cell 4 103] Tryz.func217 rfl rfl rfl rfl (fun hok=>?_)
 have hb:=iH (o:=o) ⟨hok.2.1,trivial⟩
 obtain ⟨hl,hl2⟩:=db (xs:=xs) (k:=o.kind) (n:=o.values.length)
 cases hv:o.values with
 |nil=>
  repeat refine ai ?_
  refine oc (Aq _) ?_
  repeat refine ai ?_
  refine oc (fY _ _) ?_
  rw[AF hv]
  repeat refine ai ?_
  refine aj ?_ ?_<;>intro h0
  ·repeat refine ai ?_
   refine oc (fG _) ?_
   repeat refine ai ?_
   refine aj ?_ ?_<;>intro h1
   ·repeat refine ai ?_
    cases aQ xs<;>exact rfl
   ·simp only[Bool.not_eq_false'] at h0 h1
    have hl:=hl2 h0
    rw[hv] at hl
    simp only[hv] at hl ⊢
    generalize (am xs o.kind ([]:List Bs).length).1=fs at*
    have:fs=[]:=List.eq_nil_of_length_eq_zero hl
    subst this
    repeat refine ai ?_
    refine ⟨I0 ([]:List GateField) (fun _=>True) (fun i=>[(3,.ptr 0 0),(4,.ptr 1 0),(25,.d (ab [])),(26,.d (.int .i64 0)),(27,.d (.int .i64 i))]) (fun i=>⟨[(0,.cells 103 [.d (.str o.kind),.d (.str o.name),.d (.str o.team),.d (lS []),.d (.bool o.ending),.d (lS o.holds),.d (.int .i64 o.version)]),(1,.cells 103 [.d (.str []),.d (.str []),.d (.str []),.nils,.d (.bool false),.nils,.d (.int .i64 0)])],2,0⟩),⟨_,_,_,⟨0,rfl,Nat.zero_le _,trivial,rfl,rfl⟩,by repeat' first|exact rfl|exact trivial|refine aj ?_ ?_⟩,?_⟩
    rintro m l hh ⟨i,rfl,hi,hr,rfl,rfl⟩
    repeat refine ai ?_
    refine aj ?_ ?_<;>intro g1
    ·exact absurd (of_decide_eq_true g1) (by omega)
    ·have ho:st o.e=Af o (.d (lS [])) (.d (lS o.holds)):=by rw[Fw,hv]
     repeat refine ai ?_
     cases aQ xs<;>exact ho.symm
  ·repeat refine ai ?_
   cases aQ xs<;>exact rfl
 |cons v0 vr=>
  have hpos:0<o.values.length:=by rw[hv];simp
  clear hv
  repeat refine ai ?_
  refine ow (Bx o hpos) ?_
  repeat refine ai ?_
  refine oe (fun g=>pN xs o g 4) ?_
  repeat refine ai ?_
  refine aj ?_ ?_<;>intro h0
  ·repeat refine ai ?_
   refine oc (fG _) ?_
   repeat refine ai ?_
   refine aj ?_ ?_<;>intro h1
   ·simp only[Bool.not_eq_true',Bool.not_eq_false'] at h0 h1
    rw[h1]
    repeat refine ai ?_
    exact rfl
   ·simp only[Bool.not_eq_false'] at h0 h1
    have hl:=hl2 h0
    rw[h1]
    unfold gc
    generalize (am xs o.kind o.values.length).1=fs at*
    repeat refine ai ?_
    refine pK (fs) (fun i (W:List Bs)=>W=fM (fs.take i) o.values) (fun i (W:List Bs)=>[(3,.ptr 0 0),(4,.ptr 1 0),(25,.d (ab fs)),(26,.d (.int .i64 (fs.map GateField.e).length)),(27,.d (.int .i64 i))]) (fun i (W:List Bs)=>⟨[(0,.cells 103 [.d (.str o.kind),.d (.str o.name),.d (.str o.team),.own 4,.d (.bool o.ending),.d (lS o.holds),.d (.int .i64 o.version)]),(4,.row 9 1 (W.map eB)),(1,.cells 103 [.d (.str []),.d (.str []),.d (.str []),.nils,.d (.bool false),.nils,.d (.int .i64 0)])],5,0⟩) (rfl) ?_
    intro i W hi hr
    have hs:fs.length≤al:=by omega
    have hW:W.length=o.values.length:=by rw[hr,ph]
    repeat refine ai ?_
    refine aj ?_ ?_<;>intro g1
    ·have hlt:i<fs.length:=Y g1
     have hlt2:i<o.values.length:=by omega
     have hlt3:i<W.length:=by omega
     have hv:W[i]=o.values[i]:=by simp only[hr];exact BD hlt hlt2 _
     have hst:fM (fs.take (i+1)) o.values=W.set i (j7 fs[i] o.values[i]):=by rw[hr,←sN hlt hlt2]
     repeat refine ai ?_
     refine U (e:=GateField.e) (xs:=fs) (hlt) rfl ?_
     repeat refine ai ?_
     refine aj (Int.natCast_nonneg _) (aj (by rw[List.length_map];omega) ?_)
     repeat refine ai ?_
     refine ⟨_,w3 hlt3,?_⟩
     repeat refine ai ?_
     refine aj ?_ ?_<;>intro h2
     ·have hf:j7 fs[i] o.values[i]=fs[i].default_:=by unfold j7;rw[←hv,show (W[i]==[])=true from h2];rfl
      repeat refine ai ?_
      refine aj (Int.natCast_nonneg _) (aj (by rw[List.length_map];omega) ?_)
      repeat refine ai ?_
      refine ⟨_,w3 hlt3,Nat.le_refl _,?_⟩
      repeat refine ai ?_
      exact d6 (W.set i fs[i].default_) hlt hs (by rw[hst,hf]) fun hw=>by repeat' first|exact rfl|exact trivial|exact nd hw|exact rF hlt3|refine aj ?_ ?_
     ·have hf:j7 fs[i] o.values[i]=W[i]:=by unfold j7;rw[←hv,show (W[i]==[])=false from h2];rfl
      repeat refine ai ?_
      exact d6 W hlt hs (by rw[hst,hf,rx hlt3 rfl])
    ·have hi':fs.length≤i:=Z g1
     rw[List.take_of_length_le hi'] at hr
     rw[←hr]
     repeat refine ai ?_
     exact rfl
  ·simp only[Bool.not_eq_true'] at h0
   rw[CD h0]
   repeat refine ai ?_
   cases aQ xs<;>exact rfl
end Go.Vc
end
section
namespace Go.Vc
def G3 (rd:Bs→List Bs) (ns:List Bs):Prop:=∃r:Bs→Nat,∀n∈ns,∀y∈rd n,r y<r n
def stepG (rd:Bs→List Bs) (ns row:List Bs):List Bs:=
 match ns.find? (fun f=> !row.contains f&&(rd f).all row.contains) with
 |some f=>row++[f]
 |none=>row
def f9 (rd:Bs→List Bs) (ns:List Bs):Nat→List Bs
 |0=>[]
 |k+1=>stepG rd ns (f9 rd ns k)
theorem fb:∀{xs ys:List Bs},xs.Nodup→(∀x∈xs,x∈ys)→xs.length≤ys.length
 |[],_,_,_=>Nat.zero_le _
 |x::xs,ys,hn,hs=>by
  have hn':=List.nodup_cons.1 hn
  have hx:x∈ys:=hs x List.mem_cons_self
  have h1:xs.length≤(ys.erase x).length:=fb hn'.2 (fun y hy=>by
   have hne:y≠x:=fun e=>hn'.1 (e▸hy)
   exact (List.mem_erase_of_ne hne).2 (hs y (List.mem_cons_of_mem _ hy)))
  have h2:=List.length_erase_of_mem hx
  have h3:=List.length_pos_of_mem hx
  simp only[List.length_cons];omega
theorem y8 {α:Type} (p:α→Prop) (r:α→Nat):∀m:Nat,(∃x,p x∧r x≤m)→∃x,p x∧∀y,p y→r x≤r y
 |0,⟨x,hx,hr⟩=>⟨x,hx,fun y _=>by omega⟩
 |m+1,⟨x,hx,hr⟩=>by
  by_cases h:∃y,p y∧r y≤m
  ·exact y8 p r m h
  ·exact ⟨x,hx,fun y hy=>by
    have:¬r y≤m:=fun c=>h ⟨y,hy,c⟩
    omega⟩
theorem AH:∀{ns row:List Bs},ns.Nodup→row.length<ns.length→∃x,x∈ns∧x ∉ row:=by
 intro ns row hn hl
 refine Classical.byContradiction fun h=>?_
 have:ns.length≤row.length:=fb hn (fun x hx=>Classical.byContradiction fun hx'=>h ⟨x,hx,hx'⟩)
 omega
structure uo (rd:Bs→List Bs) (ns row:List Bs):Prop where
 nd:row.Nodup
 sub:∀x∈row,x∈ns
 beh:∀x∈row,∀y∈rd x,row.idxOf y<row.idxOf x
theorem gZ {row:List Bs} {x f:Bs} (h:x∈row):(row++[f]).idxOf x=row.idxOf x:=by
 rw[List.idxOf_append,if_pos h]
theorem CB {rd:Bs→List Bs} {ns row:List Bs} {f:Bs} (g:uo rd ns row) (hf:f∈ns) (h:f ∉ row) (hr:∀y∈rd f,y∈row):uo rd ns (row++[f]):=by
 refine ⟨?_,?_,?_⟩
 ·rw[List.nodup_append]
  refine ⟨g.nd,by simp,?_⟩
  intro a ha b hb e
  rw[List.mem_singleton] at hb
  exact h (hb▸e▸ha)
 ·intro x hx
  rcases List.mem_append.1 hx with hx|hx
  ·exact g.sub x hx
  ·rw[List.mem_singleton] at hx;exact hx▸hf
 ·intro x hx y hy
  rcases List.mem_append.1 hx with hx|hx
  ·have h1:=g.beh x hx y hy
   have h2:row.idxOf x<row.length:=List.idxOf_lt_length_of_mem hx
   have hy':y∈row:=List.idxOf_lt_length_iff.1 (by omega)
   rw[gZ hx,gZ hy'];exact h1
  ·rw[List.mem_singleton] at hx
   subst hx
   have hy':=hr y hy
   rw[gZ hy',List.idxOf_append,if_neg h]
   have:=List.idxOf_lt_length_of_mem hy'
   omega
theorem zK {rd:Bs→List Bs} {ns row:List Bs} (g:uo rd ns row):uo rd ns (stepG rd ns row):=by
 unfold stepG
 split
 ·rename_i f hf
  have h1:=List.find?_some hf
  rw[Bool.and_eq_true,Bool.not_eq_true'] at h1
  refine CB g (List.mem_of_find?_eq_some hf) ?_ ?_
  ·intro c
   have:=h1.1
   rw[←Bool.not_eq_true,List.contains_iff_mem] at this
   exact this c
  ·intro y hy
   have:=List.all_eq_true.1 h1.2 y hy
   exact List.contains_iff_mem.1 this
 ·exact g
theorem gy (rd:Bs→List Bs) (ns:List Bs):∀k,uo rd ns (f9 rd ns k)
 |0=>⟨List.nodup_nil,(fun x hx=>absurd hx List.not_mem_nil),(fun x hx=>absurd hx List.not_mem_nil)⟩
 |k+1=>zK (gy rd ns k)
theorem pO {rd:Bs→List Bs} {ns:List Bs} (hn:ns.Nodup) (hin:∀n∈ns,∀y∈rd n,y∈ns) (ha:G3 rd ns):∀k,k≤ns.length→(f9 rd ns k).length=k
 |0,_=>rfl
 |k+1,h=>by
  have ih:=pO hn hin ha k (by omega)
  have g:=gy rd ns k
  obtain ⟨r,hr⟩:=ha
  obtain ⟨x0,hx0,hx0'⟩:=AH (row:=f9 rd ns k) hn (by omega)
  obtain ⟨x,⟨hx,hxr⟩,hmin⟩:=y8 (fun x=>x∈ns∧x ∉ f9 rd ns k) r (r x0) ⟨x0,⟨hx0,hx0'⟩,Nat.le_refl _⟩
  have hready:(!(f9 rd ns k).contains x&&(rd x).all (f9 rd ns k).contains)=true:=by
   rw[Bool.and_eq_true,Bool.not_eq_true',List.all_eq_true]
   refine ⟨?_,fun y hy=>?_⟩
   ·rw[←Bool.not_eq_true,List.contains_iff_mem];exact hxr
   ·refine List.contains_iff_mem.2 (Classical.byContradiction fun c=>?_)
    have:=hmin y ⟨hin x hx y hy,c⟩
    have:=hr x hx y hy
    omega
  show (stepG rd ns (f9 rd ns k)).length=k+1
  unfold stepG
  split
  ·rw[List.length_append,ih];rfl
  ·rename_i hf
   have:=List.find?_eq_none.1 hf x hx
   exact absurd hready this
theorem Az {rd:Bs→List Bs} {ns:List Bs} (hn:ns.Nodup) (h:(f9 rd ns ns.length).length=ns.length):G3 rd ns:=by
 have g:=gy rd ns ns.length
 refine ⟨(f9 rd ns ns.length).idxOf,fun n hm y hy=>g.beh n ?_ y hy⟩
 refine Classical.byContradiction fun c=>?_
 have:(n::f9 rd ns ns.length).length≤ns.length:=fb (List.nodup_cons.2 ⟨c,g.nd⟩) (fun x hx=>by
  rcases List.mem_cons.1 hx with e|e
  ·exact e▸hm
  ·exact g.sub x e)
 rw[List.length_cons] at this
 omega
structure Wk where
 st:List (Bs×Int)
 out:List Bs
def lk:List (Bs×Int)→Bs→Int
 |[],_=>0
 |(k,v)::r,x=>bif k==x then v else lk r x
def pt:List (Bs×Int)→Bs→Int→List (Bs×Int)
 |[],x,v=>[(x,v)]
 |(k,u)::r,x,v=>bif k==x then (k,v)::r else (k,u)::pt r x v
theorem fE {x y:Bs} {v:Int}:∀{s:List (Bs×Int)},lk (pt s x v) y=bif x==y then v else lk s y
 |[]=>by simp only[pt,lk]
 |(k,u)::r=>by
  cases h:k==x with
  |true=>
   have e:k=x:=beq_iff_eq.1 h
   subst e
   simp only[pt,h,cond_true,lk]
   cases k==y<;>rfl
  |false=>
   simp only[pt,h,cond_false,lk,fE (s:=r)]
   cases h2:k==y with
   |true=>
    have e:k=y:=beq_iff_eq.1 h2
    subst e
    have:(x==k)=false:=by rw[←Bool.not_eq_true,beq_iff_eq];rw[←Bool.not_eq_true,beq_iff_eq] at h;exact fun c=>h c.symm
    rw[this];rfl
   |false=>rfl
def bN (w:Bs→Wk→Bool×Wk):List Bs→Wk→Bool×Wk
 |[],s=>(true,s)
 |y::ys,s=>match w y s with
  |(false,s')=>(false,s')
  |(true,s')=>bN w ys s'
def cg (rd:Bs→List Bs):Nat→Bs→Wk→Bool×Wk
 |0,_,s=>(false,s)
 |k+1,x,s=>bif lk s.st x==1 then (false,s) else bif lk s.st x==2 then (true,s) else
  match bN (cg rd k) (rd x) ⟨pt s.st x 1,s.out⟩ with
  |(false,s')=>(false,s')
  |(true,s')=>(true,⟨pt s'.st x 2,s'.out++[x]⟩)
def white (ns:List Bs) (s:Wk):Nat:=(ns.filter fun n=>lk s.st n==0).length
structure oo (rd:Bs→List Bs) (ns:List Bs) (s:Wk):Prop where
 nd:s.out.Nodup
 sub:∀x∈s.out,x∈ns
 val:∀x,lk s.st x=0∨lk s.st x=1∨lk s.st x=2
 two:∀x,lk s.st x=2↔x∈s.out
 beh:∀x∈s.out,∀y∈rd x,s.out.idxOf y<s.out.idxOf x
structure WkLe (s s':Wk):Prop where
 one:∀x,lk s.st x=1↔lk s'.st x=1
 two:∀x,lk s.st x=2→lk s'.st x=2
 white:∀x,lk s'.st x=0→lk s.st x=0
theorem WkLe.refl (s:Wk):WkLe s s:=⟨fun _=>Iff.rfl,fun _ h=>h,fun _ h=>h⟩
theorem WkLe.trans {a b c:Wk} (h:WkLe a b) (k:WkLe b c):WkLe a c:=⟨fun x=>(h.one x).trans (k.one x),fun x e=>k.two x (h.two x e),fun x e=>h.white x (k.white x e)⟩
theorem iL {p q:Bs→Bool}:∀{ns:List Bs},(∀x,p x=true→q x=true)→(ns.filter p).length≤(ns.filter q).length
 |[],_=>Nat.le_refl _
 |n::ns,h=>by
  have ih:=iL (ns:=ns) h
  cases hp:p n with
  |true=>rw[List.filter_cons_of_pos hp,List.filter_cons_of_pos (h n hp)];simp only[List.length_cons];omega
  |false=>
   rw[List.filter_cons_of_neg (by rw[hp];simp)]
   cases hq:q n with
   |true=>rw[List.filter_cons_of_pos hq];simp only[List.length_cons];omega
   |false=>rw[List.filter_cons_of_neg (by rw[hq];simp)];exact ih
theorem lV {p q:Bs→Bool} {a:Bs}:∀{ns:List Bs},(∀x,p x=true→q x=true)→a∈ns→p a=false→q a=true→(ns.filter p).length<(ns.filter q).length
 |[],_,h,_,_=>absurd h List.not_mem_nil
 |n::ns,h,ha,h1,h2=>by
  by_cases e:n=a
  ·subst e
   rw[List.filter_cons_of_neg (by rw[h1];simp),List.filter_cons_of_pos h2]
   have:=iL (ns:=ns) h
   simp only[List.length_cons];omega
  ·have hm:a∈ns:=(List.mem_cons.1 ha).resolve_left (fun c=>e c.symm)
   have ih:=lV (ns:=ns) h hm h1 h2
   cases hp:p n with
   |true=>rw[List.filter_cons_of_pos hp,List.filter_cons_of_pos (h n hp)];simp only[List.length_cons];omega
   |false=>
    rw[List.filter_cons_of_neg (by rw[hp];simp)]
    cases hq:q n with
    |true=>rw[List.filter_cons_of_pos hq];simp only[List.length_cons];omega
    |false=>rw[List.filter_cons_of_neg (by rw[hq];simp)];exact ih
theorem xv {ns:List Bs} {s s':Wk} (h:WkLe s s'):white ns s'≤white ns s:=iL (fun x hx=>by
 rw[beq_iff_eq] at hx ⊢;exact h.white x hx)
theorem xu {ns:List Bs} {s:Wk} {x:Bs} (hx:x∈ns) (h:lk s.st x=0) (o:List Bs):white ns ⟨pt s.st x 1,o⟩<white ns s:=by
 refine lV (a:=x) (fun y hy=>?_) hx ?_ ?_
 ·simp only[fE] at hy
  cases e:x==y with
  |true=>rw[e] at hy;simp at hy
  |false=>rw[e] at hy;exact hy
 ·simp only[fE,BEq.rfl,cond_true];rfl
 ·rw[h];rfl
def zx (rd:Bs→List Bs) (ns:List Bs) (x:Bs) (s:Wk) (r:Bool×Wk):Prop:=
 (r.1=true→oo rd ns r.2∧WkLe s r.2∧lk r.2.st x=2)∧
 (r.1=false→∀rk:Bs→Nat,(∀n∈ns,∀y∈rd n,rk y<rk n)→∃z,lk s.st z=1∧rk z≤rk x)
theorem ji {rd:Bs→List Bs} {ns:List Bs} {w:Bs→Wk→Bool×Wk} {n:Nat}:∀(ys:List Bs) (s:Wk),(∀y∈ys,∀s,oo rd ns s→white ns s≤n→zx rd ns y s (w y s))→oo rd ns s→white ns s≤n→
 ((bN w ys s).1=true→oo rd ns (bN w ys s).2∧WkLe s (bN w ys s).2∧∀y∈ys,lk (bN w ys s).2.st y=2)∧
 ((bN w ys s).1=false→∀rk:Bs→Nat,(∀n∈ns,∀y∈rd n,rk y<rk n)→∃z y,y∈ys∧lk s.st z=1∧rk z≤rk y)
 |[],s,_,hs,_=>⟨fun _=>⟨hs,WkLe.refl _,fun y hy=>absurd hy List.not_mem_nil⟩,fun h=>by simp[bN] at h⟩
 |y::ys,s,hw,hs,hn=>by
  have g:=hw y List.mem_cons_self s hs hn
  unfold bN
  cases e:w y s with
  |mk b s'=>cases b with
   |false=>
    refine ⟨fun h=>by simp at h,fun _ rk hrk=>?_⟩
    rw[e] at g
    obtain ⟨z,h1,h2⟩:=g.2 rfl rk hrk
    exact ⟨z,y,List.mem_cons_self,h1,h2⟩
   |true=>
    rw[e] at g
    obtain ⟨g1,g2,g3⟩:=g.1 rfl
    have ih:=ji ys s' (fun y hy=>hw y (List.mem_cons_of_mem _ hy)) g1 (Nat.le_trans (xv g2) hn)
    refine ⟨fun h=>?_,fun h rk hrk=>?_⟩
    ·obtain ⟨i1,i2,i3⟩:=ih.1 h
     refine ⟨i1,g2.trans i2,fun u hu=>?_⟩
     rcases List.mem_cons.1 hu with c|c
     ·rw[c];exact i2.two y g3
     ·exact i3 u c
    ·obtain ⟨z,u,hu,h1,h2⟩:=ih.2 h rk hrk
     exact ⟨z,u,List.mem_cons_of_mem _ hu,(g2.one z).2 h1,h2⟩
theorem gV {rd:Bs→List Bs} {ns:List Bs} (hin:∀n∈ns,∀y∈rd n,y∈ns):∀(k:Nat) (x:Bs) (s:Wk),x∈ns→oo rd ns s→white ns s<k→zx rd ns x s (cg rd k x s)
 |0,_,_,_,_,h=>by omega
 |k+1,x,s,hx,hs,hn=>by
  unfold cg
  cases h1:lk s.st x==1 with
  |true=>
   rw[beq_iff_eq] at h1
   exact ⟨fun h=>by simp at h,fun _ rk _=>⟨x,h1,Nat.le_refl _⟩⟩
  |false=>cases h2:lk s.st x==2 with
   |true=>
    rw[beq_iff_eq] at h2
    exact ⟨fun _=>⟨hs,WkLe.refl _,h2⟩,fun h=>by simp at h⟩
   |false=>
    have h0:lk s.st x=0:=by
     have e1:lk s.st x≠1:=fun c=>by rw[c] at h1;simp at h1
     have e2:lk s.st x≠2:=fun c=>by rw[c] at h2;simp at h2
     rcases hs.val x with c|c|c
     ·exact c
     ·exact absurd c e1
     ·exact absurd c e2
    have hout:x ∉ s.out:=fun c=>by
     have:=(hs.two x).2 c
     rw[h0] at this;exact absurd this (by decide)
    simp only[cond_false]
    have hs1:oo rd ns ⟨pt s.st x 1,s.out⟩:=by
     refine ⟨hs.nd,hs.sub,fun y=>?_,fun y=>?_,hs.beh⟩
     ·simp only[fE]
      cases x==y
      ·exact hs.val y
      ·exact .inr (.inl rfl)
     ·simp only[fE]
      cases e:x==y with
      |true=>
       have e':x=y:=beq_iff_eq.1 e
       subst e'
       exact ⟨fun c=>by simp at c,fun c=>absurd c hout⟩
      |false=>exact hs.two y
    have hw:=xu hx h0 s.out
    have g:=ji (rd:=rd) (ns:=ns) (w:=cg rd k) (n:=white ns ⟨pt s.st x 1,s.out⟩) (rd x) ⟨pt s.st x 1,s.out⟩
     (fun y hy s' hs' hl=>gV hin k y s' (hin x hx y hy) hs' (by omega)) hs1 (Nat.le_refl _)
    cases e:bN (cg rd k) (rd x) ⟨pt s.st x 1,s.out⟩ with
    |mk b s'=>
     rw[e] at g
     cases b with
     |false=>
      refine ⟨fun h=>by simp at h,fun _ rk hrk=>?_⟩
      obtain ⟨z,y,hy,hz,hle⟩:=g.2 rfl rk hrk
      have hlt:=hrk x hx y hy
      refine ⟨z,?_,by omega⟩
      have hz':lk (pt s.st x 1) z=1:=hz
      rw[fE] at hz'
      cases e2:x==z with
      |true=>
       have e3:x=z:=beq_iff_eq.1 e2
       subst e3
       omega
      |false=>rw[e2] at hz';exact hz'
     |true=>
      obtain ⟨g1,g2,g3⟩:=g.1 rfl
      have g1:oo rd ns s':=g1
      have g3:∀y∈rd x,lk s'.st y=2:=g3
      refine ⟨fun _=>?_,fun h=>by simp at h⟩
      have hx1:lk s'.st x=1:=(g2.one x).1 (by simp only[fE,BEq.rfl,cond_true])
      have hx':x ∉ s'.out:=fun c=>by
       have:=(g1.two x).2 c
       rw[hx1] at this;exact absurd this (by decide)
      refine ⟨⟨?_,?_,fun y=>?_,fun y=>?_,?_⟩,⟨fun y=>?_,fun y hy=>?_,fun y hy=>?_⟩,?_⟩
      ·show (s'.out++[x]).Nodup
       rw[List.nodup_append]
       refine ⟨g1.nd,by simp,?_⟩
       intro a ha b hb e
       rw[List.mem_singleton] at hb
       exact hx' (hb▸e▸ha)
      ·intro y hy
       rcases List.mem_append.1 hy with hy|hy
       ·exact g1.sub y hy
       ·rw[List.mem_singleton] at hy;exact hy▸hx
      ·simp only[fE]
       cases x==y
       ·exact g1.val y
       ·exact .inr (.inr rfl)
      ·simp only[fE,List.mem_append,List.mem_singleton]
       cases e2:x==y with
       |true=>
        have e3:x=y:=beq_iff_eq.1 e2
        exact ⟨fun _=> .inr e3.symm,fun _=>rfl⟩
       |false=>
        have e3:x≠y:=fun c=>by rw[c] at e2;simp at e2
        exact (g1.two y).trans ⟨.inl,fun c=>c.resolve_right (fun c=>e3 c.symm)⟩
      ·intro u hu y hy
       rcases List.mem_append.1 hu with hu|hu
       ·have q1:=g1.beh u hu y hy
        have q2:s'.out.idxOf u<s'.out.length:=List.idxOf_lt_length_of_mem hu
        have hy':y∈s'.out:=List.idxOf_lt_length_iff.1 (by omega)
        rw[gZ hu,gZ hy'];exact q1
       ·rw[List.mem_singleton] at hu
        subst hu
        have hy':=(g1.two y).1 (g3 y hy)
        rw[gZ hy',List.idxOf_append,if_neg hx']
        have:=List.idxOf_lt_length_of_mem hy'
        omega
      ·simp only[fE]
       cases e2:x==y with
       |true=>
        have e3:x=y:=beq_iff_eq.1 e2
        subst e3
        rw[h0]
        exact ⟨fun c=>by simp at c,fun c=>by simp at c⟩
       |false=>
        have:=g2.one y
        simp only[fE,e2,cond_false] at this
        exact this
      ·simp only[fE]
       cases e2:x==y with
       |true=>rfl
       |false=>
        have:=g2.two y
        simp only[fE,e2,cond_false] at this
        exact this hy
      ·simp only[fE] at hy
       cases e2:x==y with
       |true=>rw[e2] at hy;simp at hy
       |false=>
        rw[e2] at hy
        have:=g2.white y hy
        simp only[fE,e2,cond_false] at this
        exact this
      ·simp only[fE,BEq.rfl,cond_true]
def BP:Wk:=⟨[],[]⟩
theorem zz (rd:Bs→List Bs) (ns:List Bs):oo rd ns BP:=⟨List.nodup_nil,fun x h=>absurd h List.not_mem_nil,fun _=> .inl rfl,fun x=>⟨fun h=>absurd (show (0:Int)=2 from h) (by decide),fun h=>absurd h List.not_mem_nil⟩,fun x h=>absurd h List.not_mem_nil⟩
theorem la (ns:List Bs) (s:Wk):white ns s≤ns.length:=List.length_filter_le _ _
theorem ut {w:Bs→Wk→Bool×Wk} (hw:∀y s,∃t,(w y s).2.out=s.out++t):∀(ys:List Bs) (s:Wk),∃t,(bN w ys s).2.out=s.out++t
 |[],s=>⟨[],by simp[bN]⟩
 |y::ys,s=>by
  obtain ⟨t,ht⟩:=hw y s
  unfold bN
  cases e:w y s with
  |mk b s'=>
   rw[e] at ht
   cases b with
   |false=>exact ⟨t,ht⟩
   |true=>
    obtain ⟨t2,ht2⟩:=ut hw ys s'
    exact ⟨t++t2,by rw[←List.append_assoc,←ht];exact ht2⟩
theorem hM (rd:Bs→List Bs):∀(k:Nat) (x:Bs) (s:Wk),∃t,(cg rd k x s).2.out=s.out++t
 |0,_,s=>⟨[],by simp[cg]⟩
 |k+1,x,s=>by
  unfold cg
  cases lk s.st x==1 with
  |true=>exact ⟨[],by simp⟩
  |false=>cases lk s.st x==2 with
   |true=>exact ⟨[],by simp⟩
   |false=>
    obtain ⟨t,ht⟩:=ut (w:=cg rd k) (hM rd k) (rd x) ⟨pt s.st x 1,s.out⟩
    simp only[cond_false]
    cases e:bN (cg rd k) (rd x) ⟨pt s.st x 1,s.out⟩ with
    |mk b s'=>
     rw[e] at ht
     cases b with
     |false=>exact ⟨t,ht⟩
     |true=>exact ⟨t++[x],by rw[←List.append_assoc,←ht]⟩
theorem mT {rd:Bs→List Bs} {k:Nat} {x:Bs} {s:Wk} (h:(lk s.st x==1)=true):cg rd (k+1) x s=(false,s):=by
 unfold cg;rw[h];rfl
theorem mS {rd:Bs→List Bs} {k:Nat} {x:Bs} {s:Wk} (h:(lk s.st x==1)=false) (h2:(lk s.st x==2)=true):cg rd (k+1) x s=(true,s):=by
 unfold cg;rw[h,h2];rfl
theorem ip {rd:Bs→List Bs} {k:Nat} {x:Bs} {s s':Wk} (h:(lk s.st x==1)=false) (h2:(lk s.st x==2)=false) (e:bN (cg rd k) (rd x) ⟨pt s.st x 1,s.out⟩=(false,s')):cg rd (k+1) x s=(false,s'):=by
 unfold cg;rw[h,h2,e];rfl
theorem iP {rd:Bs→List Bs} {k:Nat} {x:Bs} {s s':Wk} (h:(lk s.st x==1)=false) (h2:(lk s.st x==2)=false) (e:bN (cg rd k) (rd x) ⟨pt s.st x 1,s.out⟩=(true,s')):cg rd (k+1) x s=(true,⟨pt s'.st x 2,s'.out++[x]⟩):=by
 unfold cg;rw[h,h2,e];rfl
theorem ed {w:Bs→Wk→Bool×Wk} {ys:List Bs} {i:Nat} {s:Wk} (h:i<ys.length):bN w (ys.drop i) s=match w ys[i] s with
 |(false,s')=>(false,s')
 |(true,s')=>bN w (ys.drop (i+1)) s':=by
 rw[List.drop_eq_getElem_cons h];rfl
theorem fj {w:Bs→Wk→Bool×Wk} {ys:List Bs} {i:Nat} {s:Wk} (h:ys.length≤i):bN w (ys.drop i) s=(true,s):=by
 rw[List.drop_of_length_le h];rfl
structure zw (rd:Bs→List Bs) (ns:List Bs) (x:Bs) (s s1:Wk):Prop where
 ok:oo rd ns s1
 one:lk s1.st x=1
 white:white ns s1<white ns s
theorem mR {rd:Bs→List Bs} {ns:List Bs} {x:Bs} {s:Wk} (hx:x∈ns) (hs:oo rd ns s) (h1:(lk s.st x==1)=false) (h2:(lk s.st x==2)=false):zw rd ns x s ⟨pt s.st x 1,s.out⟩:=by
 have h0:lk s.st x=0:=by
  rcases hs.val x with c|c|c
  ·exact c
  ·rw[c] at h1;simp at h1
  ·rw[c] at h2;simp at h2
 have hout:x ∉ s.out:=fun c=>by
  have:=(hs.two x).2 c
  rw[h0] at this;exact absurd this (by decide)
 refine ⟨⟨hs.nd,hs.sub,fun y=>?_,fun y=>?_,hs.beh⟩,by simp only[fE,BEq.rfl,cond_true],xu hx h0 _⟩
 ·simp only[fE]
  cases x==y
  ·exact hs.val y
  ·exact .inr (.inl rfl)
 ·simp only[fE]
  cases e:x==y with
  |true=>
   have e':x=y:=beq_iff_eq.1 e
   subst e'
   exact ⟨fun c=>by simp at c,fun c=>absurd c hout⟩
  |false=>exact hs.two y
theorem im {rd:Bs→List Bs} {ns:List Bs} (hin:∀n∈ns,∀y∈rd n,y∈ns) {k:Nat} {x y:Bs} {s s1 s2:Wk} (h:zw rd ns x s s1) (hk:white ns s<k+1) (hy:y∈ns) (e:cg rd k y s1=(true,s2)):zw rd ns x s s2:=by
 have hw:=h.white
 have g:=gV hin k y s1 hy h.ok (by omega)
 rw[e] at g
 obtain ⟨g1,g2,_⟩:=g.1 rfl
 exact ⟨g1,(g2.one x).1 h.one,Nat.lt_of_le_of_lt (xv g2) h.white⟩
theorem k9 {rd:Bs→List Bs} {ns:List Bs} {x:Bs} {s s1:Wk} (hx:x∈ns) (h:zw rd ns x s s1):s1.out.length+1≤ns.length:=by
 have:(x::s1.out).length≤ns.length:=fb (List.nodup_cons.2 ⟨fun c=>by
  have:=(h.ok.two x).2 c
  rw[h.one] at this;exact absurd this (by decide),h.ok.nd⟩) (fun y hy=>by
  rcases List.mem_cons.1 hy with e|e
  ·exact e▸hx
  ·exact h.ok.sub y e)
 exact this
theorem CV {rd:Bs→List Bs} {ns:List Bs} (hin:∀n∈ns,∀y∈rd n,y∈ns):(bN (cg rd (ns.length+1)) ns BP).1=true↔G3 rd ns:=by
 have g:=ji (rd:=rd) (ns:=ns) (w:=cg rd (ns.length+1)) (n:=ns.length) ns BP
  (fun y hy s hs hl=>gV hin _ y s hy hs (by omega)) (zz rd ns) (la _ _)
 constructor
 ·intro h
  obtain ⟨g1,g2,g3⟩:=g.1 h
  exact ⟨(bN (cg rd (ns.length+1)) ns BP).2.out.idxOf,fun n hn y hy=>g1.beh n ((g1.two n).1 (g3 n hn)) y hy⟩
 ·rintro ⟨rk,hrk⟩
  cases e:(bN (cg rd (ns.length+1)) ns BP).1 with
  |true=>rfl
  |false=>
   obtain ⟨z,y,hy,hz,_⟩:=g.2 e rk hrk
   exact absurd hz (by show ¬((0:Int)=1);decide)
theorem xw {rd:Bs→List Bs} {ns:List Bs} (hn:ns.Nodup) (hin:∀n∈ns,∀y∈rd n,y∈ns):
 (bN (cg rd (ns.length+1)) ns BP).1=decide ((f9 rd ns ns.length).length=ns.length):=by
 rw[Bool.eq_iff_iff,decide_eq_true_eq,CV hin]
 exact ⟨fun h=>pO hn hin h _ (Nat.le_refl _),Az hn⟩
end Go.Vc
end
section
namespace Go.Vc
theorem BM {α:Type} {key:α→Bs}:∀{xs:List α} {p:Option Bs},ec key p xs=true→∀a∈xs,∀b∈xs,key a=key b→a=b
 |[],_,_,a,ha,_,_,_=>by cases ha
 |x::xs,p,h,a,ha,b,hb,e=>by
  simp only[ec,Bool.and_eq_true] at h
  rcases List.mem_cons.1 ha with rfl|ha'
  ·rcases List.mem_cons.1 hb with rfl|hb'
   ·rfl
   ·have:=od h.2 b hb'
    rw[←e,ii] at this;cases this
  ·rcases List.mem_cons.1 hb with rfl|hb'
   ·have:=od h.2 a ha'
    rw[e,ii] at this;cases this
   ·exact BM h.2 a ha' b hb' e
def j9 (s:Bs):List Bs:=bif s==[] then [] else [s]
def Bb (k n:Bs) (m:GateMend):List Bs:=bif m.kind==k&&m.field==n then j9 m.when_++j9 m.from_ else []
def O (k:Bs) (ms:List GateMend) (n:Bs):List Bs:=(ms.map (Bb k n)).flatten
def F7 (k f:Bs) (row:List Bs) (m:GateMend):Bool:=
 !((m.kind==k&&m.field==f)&&((!(m.when_==[])&& !row.any (·==m.when_))||(!(m.from_==[])&& !row.any (·==m.from_))))
def rL (k f:Bs) (row:List Bs) (ms:List GateMend):Bool:=ms.all (F7 k f row)
theorem jT {row:List Bs} {s:Bs}:row.any (·==s)=row.contains s:=by
 rw[Bool.eq_iff_iff,List.any_eq_true,List.contains_iff_mem]
 constructor
 ·rintro ⟨x,hx,e⟩;rw[beq_iff_eq] at e;exact e▸hx
 ·intro h;exact ⟨s,h,BEq.rfl⟩
theorem DE {s:Bs} {p:Bs→Bool}:(j9 s).all p= !(!(s==[])&& !p s):=by
 unfold j9
 cases s==[]<;>simp
theorem EQ {k f:Bs} {row:List Bs} {m:GateMend}:F7 k f row m=(Bb k f m).all row.contains:=by
 unfold F7 Bb
 cases (m.kind==k&&m.field==f) with
 |false=>rfl
 |true=>
  simp only[cond_true,List.all_append,DE,jT,Bool.true_and,Bool.not_or]
theorem pT {p:Bs→Bool}:∀{l:List (List Bs)},l.flatten.all p=l.all (·.all p)
 |[]=>rfl
 |x::l=>by simp only[List.flatten_cons,List.all_append,List.all_cons,pT]
theorem zY {k f:Bs} {row:List Bs} {ms:List GateMend}:rL k f row ms=(O k ms f).all row.contains:=by
 unfold rL O
 rw[pT,List.all_map]
 congr 1
 funext m
 exact EQ
def bt (s:GateShape):List Bs:=s.fields.map (·.name)
def iC (s:GateShape) (ms:List GateMend) (row:List Bs) (f:Bs):Bool:= !row.any (·==f)&&rL s.kind f row ms
def gr (s:GateShape) (ms:List GateMend) (n:Nat):List Bs:=f9 (O s.kind ms) (bt s) n
def nk (s:GateShape) (ms:List GateMend):List Bs:=gr s ms s.fields.length
theorem BH {s:GateShape} {ms:List GateMend} {row:List Bs}:iC s ms row=fun f=> !row.contains f&&(O s.kind ms f).all row.contains:=by
 funext f
 unfold iC
 rw[jT,zY]
theorem By {s:GateShape} {ms:List GateMend} {n:Nat} {f:Bs} (h:(bt s).find? (iC s ms (gr s ms n))=some f):gr s ms (n+1)=gr s ms n++[f]:=by
 rw[BH] at h
 show stepG _ _ _=_
 unfold stepG
 unfold gr at h ⊢
 rw[h]
theorem Bz {s:GateShape} {ms:List GateMend} {n:Nat} (h:(bt s).find? (iC s ms (gr s ms n))=none):gr s ms (n+1)=gr s ms n:=by
 rw[BH] at h
 show stepG _ _ _=_
 unfold stepG
 unfold gr at h ⊢
 rw[h]
theorem FS (s:GateShape) (ms:List GateMend) (n:Nat):(gr s ms n).length≤s.fields.length:=by
 have g:=gy (O s.kind ms) (bt s) n
 have:=fb g.nd g.sub
 rw[bt,List.length_map] at this
 exact this
theorem Ft (s:GateShape) (ms:List GateMend):∀n,(gr s ms n).length≤n
 |0=>Nat.le_refl _
 |n+1=>by
  have ih:=Ft s ms n
  cases h:(bt s).find? (iC s ms (gr s ms n)) with
  |none=>rw[Bz h];omega
  |some f=>rw[By h,List.length_append,List.length_singleton];omega
def pI (s:GateShape) (ms:List GateMend) (row:List Bs) (l:List GateField):Option Bs:=(l.map (·.name)).find? (iC s ms row)
theorem mw {s:GateShape} {ms:List GateMend} {row:List Bs} {xs:List GateField} {i:Nat} (h:i<xs.length):pI s ms row (xs.drop i)=bif iC s ms row xs[i].name then some xs[i].name else pI s ms row (xs.drop (i+1)):=by
 unfold pI
 rw[List.drop_eq_getElem_cons h,List.map_cons,List.find?_cons]
 cases iC s ms row xs[i].name<;>rfl
theorem Cs {s:GateShape} {ms:List GateMend} {row:List Bs} {xs:List GateField} {i:Nat} (h:xs.length≤i):pI s ms row (xs.drop i)=none:=by
 rw[List.drop_of_length_le h];rfl
def bE (shapes:List GateShape) (ms:List GateMend):Bool:=
 aQ shapes&&(!decide ((ms.length:Int)>12)&&(ms.all (bL shapes)&&shapes.all fun s=>((nk s ms).length:Int)==(s.fields.length:Int)))
theorem sK {kinds:List Bs}:∀{fs:List GateField} {pre:List Bs},lH kinds pre fs=true→(fs.map (·.name)).Nodup∧∀x∈pre,x ∉ fs.map (·.name)
 |[],_,_=>⟨List.nodup_nil,fun _ _ h=>by cases h⟩
 |f::fs,pre,h=>by
  simp only[lH,Bool.and_eq_true,Bool.not_eq_true'] at h
  obtain ⟨h1,_,h3⟩:=h
  obtain ⟨g1,g2⟩:=sK h3
  rw[jT] at h1
  refine ⟨?_,fun x hx c=>?_⟩
  ·rw[List.map_cons,List.nodup_cons]
   exact ⟨g2 f.name (List.mem_append.2 (.inr List.mem_cons_self)),g1⟩
  ·rw[List.map_cons] at c
   rcases List.mem_cons.1 c with c|c
   ·have:pre.contains f.name=true:=List.contains_iff_mem.2 (c▸hx)
    rw[h1] at this;cases this
   ·exact g2 x (List.mem_append.2 (.inl hx)) c
theorem nf {xs:List GateShape} (h:aQ xs=true) {s:GateShape} (hs:s∈xs):(bt s).Nodup:=by
 unfold aQ at h
 simp only[Bool.and_eq_true] at h
 have:=List.all_eq_true.1 h.2.2 s hs
 unfold bB at this
 simp only[Bool.and_eq_true] at this
 exact (sK this.2).1
theorem zL {xs:List GateShape} (h:aQ xs=true) {a b:GateShape} (ha:a∈xs) (hb:b∈xs) (e:a.kind=b.kind):a=b:=by
 unfold aQ at h
 simp only[Bool.and_eq_true] at h
 exact BM h.2.1 a ha b hb e
theorem nu {fs:List GateField} {n:Bs} (h:fD fs n=true):n∈fs.map (·.name):=by
 unfold fD at h
 rw[Bool.and_eq_true,iB] at h
 obtain ⟨f,hf,e⟩:=List.any_eq_true.1 h.1
 rw[beq_iff_eq] at e
 exact List.mem_map.2 ⟨f,hf,e⟩
theorem yp {s y:Bs} (h:y∈j9 s):y=s∧(s==[])=false:=by
 unfold j9 at h
 cases e:s==[] with
 |true=>rw[e] at h;cases h
 |false=>rw[e] at h;exact ⟨List.mem_singleton.1 h,rfl⟩
theorem Bo {xs:List GateShape} (h:aQ xs=true) {s:GateShape} (hs:s∈xs) {m:GateMend} (hm:bL xs m=true) (e:m.kind=s.kind):i6 s.fields m=true:=by
 unfold bL at hm
 split at hm
 ·rename_i s' hq
  rw[Bool.and_eq_true] at hm
  obtain ⟨j,hj,h1,h2,_⟩:=cx hm.1
  rw[h1,Int.toNat_natCast,List.getElem?_eq_getElem hj] at hq
  have e1:s'=xs[j]:=(Option.some.inj hq).symm
  have e2:xs[j].kind=m.kind:=by simpa using h2
  have:s'=s:=zL h (e1▸List.getElem_mem hj) hs (by rw[e1,e2,e])
  exact this▸hm.2
 ·cases hm
theorem kB {xs:List GateShape} {ms:List GateMend} (h:aQ xs=true) (hm:ms.all (bL xs)=true) {s:GateShape} (hs:s∈xs):∀n,∀y∈O s.kind ms n,y∈bt s:=by
 intro n y hy
 unfold O at hy
 obtain ⟨l,hl,hy⟩:=List.mem_flatten.1 hy
 obtain ⟨m,hm1,rfl⟩:=List.mem_map.1 hl
 unfold Bb at hy
 cases e:(m.kind==s.kind&&m.field==n) with
 |false=>rw[e] at hy;cases hy
 |true=>
  rw[e] at hy
  rw[Bool.and_eq_true,beq_iff_eq] at e
  have hf:=Bo h hs (List.all_eq_true.1 hm m hm1) e.1
  unfold i6 at hf
  simp only[Bool.and_eq_true,Bool.or_eq_true] at hf
  rcases List.mem_append.1 hy with hy|hy
  ·obtain ⟨rfl,hne⟩:=yp hy
   rcases hf.1.2.1 with c|c
   ·rw[hne] at c;cases c
   ·exact nu c
  ·obtain ⟨rfl,hne⟩:=yp hy
   rcases hf.1.2.2 with c|c
   ·rw[hne] at c;cases c
   ·exact nu c
end Go.Vc
end
section
namespace Go.Vc
open Go.Proofs
set_option maxRecDepth 100000
theorem B8 (ms:List GateMend) (k f:Bs) (row:List Bs):Spec P 223 [.d (ag ms),.d (.str k),.d (.str f),.d (lS row)] (.d (.bool (rL k f row ms))):=by
 refine Spec.of_vc aP av [.tmp 8] Tryz.func223 rfl rfl rfl rfl (fun hok=>?_)
 have hs:ms.length≤al:=au hok.1.1
 repeat refine ai ?_
 refine eb (ms) (fun i=>rL k f row ms=(ms.drop i).all (F7 k f row)) (fun i=>[(0,.d (ag ms)),(1,.d (.str k)),(2,.d (.str f)),(3,.d (lS row)),(9,.d (.int .i64 i))]) (fun i=>hp0) (rfl) ?_
 intro i hi hr
 repeat refine ai ?_
 refine aj ?_ ?_<;>intro h1
 ·have hlt:i<ms.length:=Y h1
  rw[aK hlt] at hr
  repeat refine ai ?_
  refine U (e:=GateMend.e) (xs:=ms) (hlt) rfl ?_
  repeat refine ai ?_
  repeat' first
   |refine ai ?_
   |(refine aj ?_ ?_<;>intro h)
   |refine oc (wo _ _) ?_
  all_goals first
   |(refine bd ?_;(try simp only[Bool.not_eq_true',Bool.not_eq_false'] at*);rw[hr];simp only[F7, *,bl];done)
   |exact ⟨_,_,_,⟨i+1,rfl,hlt,(by (try simp only[Bool.not_eq_true',Bool.not_eq_false'] at*);rw[hr];simp only[F7, *,bl]),rfl,rfl⟩,by omega,rfl,rfl,⟨rfl,rfl,rfl,rfl,nd (V hlt hs),trivial⟩,trivial,trivial⟩
 ·refine bd ?_
  rw[hr,cy (Z h1)]
theorem fg (s:GateShape):(st s.e)= .agg [.d (.str s.kind),.d (ab s.fields)]:=rfl
theorem A3 (s:GateShape) (ms:List GateMend):Spec P 203 [st s.e,.d (ag ms)] (.d (lS (nk s ms))):=by
 refine Spec.of_vc aP av [.tmp 4] Tryz.func203 rfl rfl rfl rfl (fun hok=>?_)
 have hs:s.fields.length≤al:=by
  have:=hok.1
  simp only[st,AV.ok,GateShape.e,List.map,ex] at this
  exact au this.2.1.1
 repeat refine ai ?_
 refine eb (s.fields) (fun n=>True) (fun n=>[(1,.d (ag ms)),(2,.ptr 0 0),(5,.own 1),(6,.d (.int .i64 n))]) (fun n=>⟨[(1,.row 9 1 ((gr s ms n).map eB)),(0,.cells 164 (s.e.map .d))],2,0⟩) (trivial) ?_
 intro n hn hr
 repeat refine ai ?_
 refine aj ?_ ?_<;>intro h1
 ·have hlt0:n<s.fields.length:=Y h1
  repeat refine ai ?_
  refine eb (s.fields) (fun i=>pI s ms (gr s ms n) s.fields=pI s ms (gr s ms n) (s.fields.drop i)) (fun i=>[(1,.d (ag ms)),(2,.ptr 0 0),(5,.own 1),(6,.d (.int .i64 n)),(7,.d (.int .i64 i))]) (fun i=>⟨[(1,.row 9 1 ((gr s ms n).map eB)),(0,.cells 164 (s.e.map .d))],2,0⟩) (rfl) ?_
  intro i hi hr
  repeat refine ai ?_
  refine aj ?_ ?_<;>intro h2
  ·have hlt:i<s.fields.length:=Y h2
   repeat refine ai ?_
   refine U (e:=GateField.e) (xs:=s.fields) (hlt) rfl ?_
   repeat refine ai ?_
   refine oc (wo _ _) ?_
   repeat refine ai ?_
   refine aj ?_ ?_<;>intro h3
   ·simp only[Bool.not_eq_true',Bool.not_eq_false'] at h3
    repeat refine ai ?_
    refine oc (B8 _ _ _ _) ?_
    repeat refine ai ?_
    refine aj ?_ ?_<;>intro h4
    ·repeat refine ai ?_
     refine aj (fun r hr=>by rw[List.mem_singleton.1 hr];rfl) ?_
     repeat refine ai ?_
     refine aj (by have:=Ft s ms n;simp only[List.length_map,List.length_cons,List.length_nil];unfold al at*;omega) ?_
     have hc:iC s ms (gr s ms n) s.fields[i].name=true:=by unfold iC;rw[h3,h4];rfl
     have hg:gr s ms (n+1)=gr s ms n++[s.fields[i].name]:=By (by
      show pI s ms (gr s ms n) s.fields=_
      rw[hr,mw hlt,hc];rfl)
     repeat refine ai ?_
     exact bU hlt0 hs trivial fun hw=>⟨rfl,rfl,⟨rfl,rfl,rfl,nd hw,trivial⟩,⟨rfl,rfl,trivial⟩,⟨dN (by rw[hg,List.map_append];rfl),rfl,trivial⟩⟩
    ·repeat refine ai ?_
     exact bU hlt hs (by rw[hr,mw hlt,show iC s ms (gr s ms n) s.fields[i].name=false from by unfold iC;rw[h4,Bool.and_false]];rfl)
   ·simp only[Bool.not_eq_true',Bool.not_eq_false'] at h3
    repeat refine ai ?_
    exact bU hlt hs (by rw[hr,mw hlt,show iC s ms (gr s ms n) s.fields[i].name=false from by unfold iC;rw[h3];rfl];rfl)
  ·have hg:gr s ms (n+1)=gr s ms n:=Bz (by
    show pI s ms (gr s ms n) s.fields=_
    rw[hr,Cs (Z h2)])
   repeat refine ai ?_
   exact bU hlt0 hs trivial fun hw=>⟨rfl,rfl,⟨rfl,rfl,rfl,nd hw,trivial⟩,⟨rfl,rfl,trivial⟩,⟨dN (by rw[hg]),rfl,trivial⟩⟩
 ·refine ld ?_
  rw[show n=s.fields.length from by have:=Z h1;omega];rfl
theorem tV (xs:List GateShape) (ms:List GateMend):Spec P 170 [.d (aa xs),.d (ag ms)] (.d (.bool (bE xs ms))):=by
 refine Spec.of_vc aP av [.tmp 4] Tryz.func170 rfl rfl rfl rfl (fun hok=>?_)
 have hs:xs.length≤al:=au hok.1.1
 have hsm:ms.length≤al:=au hok.2.1.1
 repeat refine ai ?_
 refine oc (rB _) ?_
 repeat refine ai ?_
 refine aj ?_ ?_<;>intro h0
 ·simp only[Bool.not_eq_true',Bool.not_eq_false'] at h0
  repeat refine ai ?_
  refine aj ?_ ?_<;>intro h1
  ·rw[List.length_map] at h1
   refine bd ?_
   simp only[bE,h1,bl]
  ·rw[List.length_map] at h1
   have e:bE xs ms=(ms.all (bL xs)&&xs.all fun s=>((nk s ms).length:Int)==(s.fields.length:Int)):=by simp only[bE,h0,h1,bl]
   rw[e]
   repeat refine ai ?_
   refine eb (ms) (fun i=>ms.all (bL xs)=(ms.drop i).all (bL xs)) (fun i=>[(0,.d (aa xs)),(1,.d (ag ms)),(5,.d (.int .i64 i))]) (fun i=>hp0) (rfl) ?_
   intro i hi hr
   repeat refine ai ?_
   refine aj ?_ ?_<;>intro h2
   ·have hlt:i<ms.length:=Y h2
    rw[aK hlt] at hr
    repeat refine ai ?_
    refine U (e:=GateMend.e) (xs:=ms) (hlt) rfl ?_
    repeat refine ai ?_
    refine oc (zQ _ _) ?_
    repeat refine ai ?_
    refine aj ?_ ?_<;>intro h3
    ·simp only[Bool.not_eq_true',Bool.not_eq_false'] at h3
     refine bd ?_
     rw[hr,h3];rfl
    ·simp only[Bool.not_eq_true',Bool.not_eq_false'] at h3
     repeat refine ai ?_
     exact bU hlt hsm (by rw[hr,h3];rfl)
   ·rw[cy (Z h2)] at hr
    rw[hr,Bool.true_and]
    repeat refine ai ?_
    refine eb (xs) (fun i=>(xs.all fun s=>((nk s ms).length:Int)==(s.fields.length:Int))=((xs.drop i).all fun s=>((nk s ms).length:Int)==(s.fields.length:Int))) (fun i=>[(0,.d (aa xs)),(1,.d (ag ms)),(6,.d (.int .i64 i))]) (fun i=>hp0) (rfl) ?_
    intro i hi hr
    repeat refine ai ?_
    refine aj ?_ ?_<;>intro h4
    ·have hlt:i<xs.length:=Y h4
     rw[aK hlt] at hr
     repeat refine ai ?_
     refine ak ?_
     repeat refine ai ?_
     refine U (e:=GateShape.e) (xs:=xs) (hlt) rfl ?_
     repeat refine ai ?_
     refine oc (A3 _ _) ?_
     repeat refine ai ?_
     refine U (e:=GateShape.e) (xs:=xs) (hlt) rfl ?_
     repeat refine ai ?_
     refine aj ?_ ?_<;>intro h5
     ·simp only[bne,Bool.not_eq_true',Bool.not_eq_false',List.length_map] at h5
      refine bd ?_
      rw[hr,h5];rfl
     ·simp only[bne,Bool.not_eq_true',Bool.not_eq_false',List.length_map] at h5
      repeat refine ai ?_
      exact bU hlt hs (by rw[hr,h5];rfl)
    ·refine bd ?_
     rw[hr,cy (Z h4)]
 ·simp only[Bool.not_eq_true',Bool.not_eq_false'] at h0
  refine bd ?_
  simp only[bE,h0,Bool.false_and]
end Go.Vc
end
section
namespace Go.Vc
open Go.Proofs
set_option maxRecDepth 100000
def Dl (id:Nat):List Bs→AV
 |[]=> .nils
 |_::_=> .own id
def A9 (objs:List (Nat×AO)) (nx id:Nat):List Bs→Heap
 |[]=>⟨objs,nx,nx⟩
 |x::xs=>⟨(id,.row 9 1 ((x::xs).map eB))::objs,id+1,nx⟩
def iM (p:Bs×Int):List D×AV:=([.str p.1],.d (.int .i64 p.2))
def w8:AV:= .fn 231 [.ptr 1 0,.ptr 0 0]
def FT:AV:= .fn 236 [.ptr 6 0,.ptr 4 0,.ptr 8 0,.ptr 7 0]
def oS (s:GateShape):AO:= .cells 164 (s.e.map .d)
def oM (ms:List GateMend):AO:= .cells 38 [.d (ag ms)]
def oA (all:List Bs):AO:= .row 9 1 (all.map eB)
def oR:AO:= .cells 263 [w8]
def oT (w:Wk):AO:= .map 271 .str (w.st.map iM)
def oP:AO:= .cells 271 [.mapr 5]
def oW:AO:= .cells 115 [FT]
def hWo (s:GateShape) (ms:List GateMend) (all:List Bs) (es:List (List D×AV)):List Bs→List (Nat×AO)
 |[]=>[(8,oW),(7,.cells 101 [.nils]),(6,oP),(5,.map 271 .str es),(4,oR),(1,oM ms),(0,oS s)]
 |x::xs=>[(9,.row 9 1 ((x::xs).map eB)),(8,oW),(7,.cells 101 [.own 9]),(6,oP),(5,.map 271 .str es),(4,oR),(1,oM ms),(0,oS s)]
def Hd:List Bs→Nat
 |[]=>9
 |_::_=>10
def GW (lo:Nat) (s:GateShape) (ms:List GateMend) (all:List Bs) (es:List (List D×AV)) (out:List Bs):Heap:=⟨hWo s ms all es out,Hd out,lo⟩
def hW (lo:Nat) (s:GateShape) (ms:List GateMend) (all:List Bs) (w:Wk):Heap:=GW lo s ms all (w.st.map iM) w.out
theorem cr {k n:Bs} {ms:List GateMend} {i:Nat} (h:i<ms.length):O k (ms.take (i+1)) n=O k (ms.take i) n++Bb k n ms[i]:=by
 unfold O
 rw[List.take_succ_eq_append_getElem h,List.map_append,List.flatten_append]
 simp
theorem yq (s:Bs):(j9 s).length≤1:=by unfold j9;cases s==[]<;>simp
theorem fS {k n:Bs}:∀{ms:List GateMend},(O k ms n).length≤2*ms.length
 |[]=>Nat.le_refl _
 |m::ms=>by
  have ih:=fS (k:=k) (n:=n) (ms:=ms)
  unfold O at ih ⊢
  simp only[List.map_cons,List.flatten_cons,List.length_append,List.length_cons]
  have:(Bb k n m).length≤2:=by
   have h1:=yq m.when_
   have h2:=yq m.from_
   unfold Bb
   cases (m.kind==k&&m.field==n)
   ·simp
   ·simp only[cond_true,List.length_append];omega
  omega
theorem ar {n:Nat}:∀{st:List (Bs×Int)},E0 n (st.map iM)
 |[]=>trivial
 |_::_=>⟨rfl,ar⟩
theorem qu {k n:Bs} {m:GateMend} (h:(m.kind==k)=false):Bb k n m=[]:=by unfold Bb;rw[h];rfl
theorem nq {k n:Bs} {m:GateMend} (h:(m.field==n)=false):Bb k n m=[]:=by unfold Bb;rw[h,Bool.and_false];rfl
theorem ww {k n:Bs} {m:GateMend} (h:(m.kind==k)=true) (h2:(m.field==n)=true):Bb k n m=j9 m.when_++j9 m.from_:=by unfold Bb;rw[h,h2];rfl
theorem eY {s:Bs} (h:(s==[])=true):j9 s=[]:=by unfold j9;rw[h];rfl
theorem dV {s:Bs} (h:(s==[])=false):j9 s=[s]:=by unfold j9;rw[h];rfl
theorem bJ (t n:Nat) (a:Bs) (r:List Bs) (w:Bs):some (AO.row t n ((a::r).map eB++[[.str w]]))=some (AO.row t n ((a::(r++[w])).map eB)):=by simp[eB]
theorem dU (t n:Nat) (a:Bs) (r:List Bs) (w f:Bs):some (AO.row t n (((a::r).map eB++[[.str w]])++[[.str f]]))=some (AO.row t n ((a::(r++[w,f])).map eB)):=by simp[eB]
theorem qz (lo:Nat) (s:GateShape) (ms:List GateMend) (hm:ms.length≤12) (all:List Bs) (es:List (List D×AV)) (hes:∀n,E0 n es) (hsub:∀i b,zH i b es=es) (out:List Bs) (n:Bs):
 HSpec P 231 [.d (.str n),.ptr 1 0,.ptr 0 0] (GW lo s ms all es out) (.d (lS (O s.kind ms n))) (GW lo s ms all es out):=by
 have hs:ms.length≤al:=by unfold al;omega
 cases out with
 |nil=>
  refine HSpec.of_vc aP av [.tmp 4] Tryz.func231 rfl rfl rfl rfl rfl (fun hok=>?_)
  repeat refine ai ?_
  refine pK (ms) (fun i (A:List Bs)=>A=O s.kind (ms.take i) n) (fun i (A:List Bs)=>[(0,.d (.str n)),(1,.ptr 1 0),(2,.ptr 0 0),(5,Dl 10 A),(8,.d (ag ms)),(9,.d (.int .i64 (ms.map GateMend.e).length)),(10,.d (.int .i64 i))]) (fun i (A:List Bs)=>A9 [(8,oW),(7,.cells 101 [.nils]),(6,oP),(5,.map 271 .str es),(4,oR),(1,oM ms),(0,oS s)] 9 10 A) (rfl) ?_ ⟨rfl,rfl,⟨rfl,rfl,rfl,rfl,rfl,rfl,rfl,trivial⟩,⟨rfl,rfl,rfl,⟨rfl,hes _⟩,rfl,rfl,rfl,trivial⟩,⟨rfl,rfl,rfl,rfl,rfl,rfl,rfl,trivial⟩⟩
  intro i A hi hr
  have hAl:A.length≤24:=by
   have:=fS (k:=s.kind) (n:=n) (ms:=ms.take i)
   rw[←hr,List.length_take] at this
   omega
  repeat refine ai ?_
  refine aj ?_ ?_<;>intro h1
  ·have hlt:i<ms.length:=Y h1
   repeat refine ai ?_
   refine U (e:=GateMend.e) (xs:=ms) (hlt) rfl ?_
   repeat refine ai ?_
   cases A with
   |nil=>
    repeat refine ai ?_
    refine aj ?_ ?_<;>intro h2
    ·simp only[bne,Bool.not_eq_true',Bool.not_eq_false'] at h2
     repeat refine ai ?_
     refine aj ?_ ?_<;>intro h3
     ·simp only[bne,Bool.not_eq_true',Bool.not_eq_false'] at h3
      repeat refine ai ?_
      exact d6 ([]) hlt hs (by rw[cr hlt,←hr,nq h3,List.append_nil]) fun hw=>by repeat' first|exact rfl|exact trivial|exact nd hw|exact hes _|refine aj ?_ ?_
     ·simp only[bne,Bool.not_eq_true',Bool.not_eq_false'] at h3
      have hstep:=cr (k:=s.kind) (n:=n) hlt
      rw[ww h2 h3,←hr] at hstep
      repeat refine ai ?_
      refine aj ?_ ?_<;>intro h4
      ·simp only[bne,Bool.not_eq_true',Bool.not_eq_false'] at h4
       rw[dV h4] at hstep
       repeat refine ai ?_
       refine aj (fun r hr=>by rw[List.mem_singleton.1 hr];rfl) ?_
       repeat refine ai ?_
       refine aj (by simp only[List.length_nil,List.length_cons,List.length_map] at*;unfold al;omega) ?_
       repeat refine ai ?_
       refine aj ?_ ?_<;>intro h5
       ·simp only[bne,Bool.not_eq_true',Bool.not_eq_false'] at h5
        rw[dV h5] at hstep
        repeat refine ai ?_
        refine aj (fun r hr=>by rw[List.mem_singleton.1 hr];rfl) ?_
        repeat refine ai ?_
        refine aj (by simp only[List.length_append,List.length_nil,List.length_cons,List.length_map] at*;unfold al;omega) ?_
        repeat refine ai ?_
        exact d6 ([ms[i].when_,ms[i].from_]) hlt hs (by rw[hstep];rfl) fun hw=>by repeat' first|exact rfl|exact trivial|exact nd hw|exact hes _|exact aR (hsub _ _)|exact aR (by rw[hsub,hsub])|exact dN rfl|exact bJ _ _ _ _ _|exact dU _ _ _ _ _ _|refine aj ?_ ?_
       ·simp only[bne,Bool.not_eq_true',Bool.not_eq_false'] at h5
        rw[eY h5] at hstep
        repeat refine ai ?_
        exact d6 ([ms[i].when_]) hlt hs (by rw[hstep];rfl) fun hw=>by repeat' first|exact rfl|exact trivial|exact nd hw|exact hes _|exact aR (hsub _ _)|exact aR (by rw[hsub,hsub])|exact dN rfl|exact bJ _ _ _ _ _|exact dU _ _ _ _ _ _|refine aj ?_ ?_
      ·simp only[bne,Bool.not_eq_true',Bool.not_eq_false'] at h4
       rw[eY h4] at hstep
       repeat refine ai ?_
       refine aj ?_ ?_<;>intro h5
       ·simp only[bne,Bool.not_eq_true',Bool.not_eq_false'] at h5
        rw[dV h5] at hstep
        repeat refine ai ?_
        refine aj (fun r hr=>by rw[List.mem_singleton.1 hr];rfl) ?_
        repeat refine ai ?_
        refine aj (by simp only[List.length_nil,List.length_cons,List.length_map] at*;unfold al;omega) ?_
        repeat refine ai ?_
        exact d6 ([ms[i].from_]) hlt hs (by rw[hstep];rfl) fun hw=>by repeat' first|exact rfl|exact trivial|exact nd hw|exact hes _|exact aR (hsub _ _)|exact aR (by rw[hsub,hsub])|exact dN rfl|exact bJ _ _ _ _ _|exact dU _ _ _ _ _ _|refine aj ?_ ?_
       ·simp only[bne,Bool.not_eq_true',Bool.not_eq_false'] at h5
        rw[eY h5] at hstep
        repeat refine ai ?_
        exact d6 ([]) hlt hs (by rw[hstep];simp) fun hw=>by repeat' first|exact rfl|exact trivial|exact nd hw|exact hes _|refine aj ?_ ?_
    ·simp only[bne,Bool.not_eq_true',Bool.not_eq_false'] at h2
     repeat refine ai ?_
     exact d6 ([]) hlt hs (by rw[cr hlt,←hr,qu h2,List.append_nil]) fun hw=>by repeat' first|exact rfl|exact trivial|exact nd hw|exact hes _|refine aj ?_ ?_
   |cons a tl=>
    repeat refine ai ?_
    refine aj ?_ ?_<;>intro h2
    ·simp only[bne,Bool.not_eq_true',Bool.not_eq_false'] at h2
     repeat refine ai ?_
     refine aj ?_ ?_<;>intro h3
     ·simp only[bne,Bool.not_eq_true',Bool.not_eq_false'] at h3
      repeat refine ai ?_
      exact d6 (a::tl) hlt hs (by rw[cr hlt,←hr,nq h3,List.append_nil]) fun hw=>by repeat' first|exact rfl|exact trivial|exact nd hw|exact hes _|refine aj ?_ ?_
     ·simp only[bne,Bool.not_eq_true',Bool.not_eq_false'] at h3
      have hstep:=cr (k:=s.kind) (n:=n) hlt
      rw[ww h2 h3,←hr] at hstep
      repeat refine ai ?_
      refine aj ?_ ?_<;>intro h4
      ·simp only[bne,Bool.not_eq_true',Bool.not_eq_false'] at h4
       rw[dV h4] at hstep
       repeat refine ai ?_
       refine aj (fun r hr=>by rw[List.mem_singleton.1 hr];rfl) ?_
       repeat refine ai ?_
       refine aj (by simp only[List.length_append,List.length_nil,List.length_cons,List.length_map] at*;unfold al;omega) ?_
       repeat refine ai ?_
       refine aj ?_ ?_<;>intro h5
       ·simp only[bne,Bool.not_eq_true',Bool.not_eq_false'] at h5
        rw[dV h5] at hstep
        repeat refine ai ?_
        refine aj (fun r hr=>by rw[List.mem_singleton.1 hr];rfl) ?_
        repeat refine ai ?_
        refine aj (by simp only[List.length_append,List.length_nil,List.length_cons,List.length_map] at*;unfold al;omega) ?_
        repeat refine ai ?_
        exact d6 (a::(tl++[ms[i].when_,ms[i].from_])) hlt hs (by rw[hstep];rfl) fun hw=>by repeat' first|exact rfl|exact trivial|exact nd hw|exact hes _|exact aR (hsub _ _)|exact aR (by rw[hsub,hsub])|exact dN rfl|exact bJ _ _ _ _ _|exact dU _ _ _ _ _ _|refine aj ?_ ?_
       ·simp only[bne,Bool.not_eq_true',Bool.not_eq_false'] at h5
        rw[eY h5] at hstep
        repeat refine ai ?_
        exact d6 (a::(tl++[ms[i].when_])) hlt hs (by rw[hstep];rfl) fun hw=>by repeat' first|exact rfl|exact trivial|exact nd hw|exact hes _|exact aR (hsub _ _)|exact aR (by rw[hsub,hsub])|exact dN rfl|exact bJ _ _ _ _ _|exact dU _ _ _ _ _ _|refine aj ?_ ?_
      ·simp only[bne,Bool.not_eq_true',Bool.not_eq_false'] at h4
       rw[eY h4] at hstep
       repeat refine ai ?_
       refine aj ?_ ?_<;>intro h5
       ·simp only[bne,Bool.not_eq_true',Bool.not_eq_false'] at h5
        rw[dV h5] at hstep
        repeat refine ai ?_
        refine aj (fun r hr=>by rw[List.mem_singleton.1 hr];rfl) ?_
        repeat refine ai ?_
        refine aj (by simp only[List.length_append,List.length_nil,List.length_cons,List.length_map] at*;unfold al;omega) ?_
        repeat refine ai ?_
        exact d6 (a::(tl++[ms[i].from_])) hlt hs (by rw[hstep];rfl) fun hw=>by repeat' first|exact rfl|exact trivial|exact nd hw|exact hes _|exact aR (hsub _ _)|exact aR (by rw[hsub,hsub])|exact dN rfl|exact bJ _ _ _ _ _|exact dU _ _ _ _ _ _|refine aj ?_ ?_
       ·simp only[bne,Bool.not_eq_true',Bool.not_eq_false'] at h5
        rw[eY h5] at hstep
        repeat refine ai ?_
        exact d6 (a::tl) hlt hs (by rw[hstep];simp) fun hw=>by repeat' first|exact rfl|exact trivial|exact nd hw|exact hes _|refine aj ?_ ?_
    ·simp only[bne,Bool.not_eq_true',Bool.not_eq_false'] at h2
     repeat refine ai ?_
     exact d6 (a::tl) hlt hs (by rw[cr hlt,←hr,qu h2,List.append_nil]) fun hw=>by repeat' first|exact rfl|exact trivial|exact nd hw|exact hes _|refine aj ?_ ?_
  ·have ha:A=O s.kind ms n:=by rw[hr,List.take_of_length_le (Z h1)]
   rw[←ha]
   cases A with
   |nil=>
    refine aj rfl (aj rfl ⟨rfl,rfl,?_,?_,?_⟩)
    all_goals (repeat' first|exact rfl|exact trivial|exact hes _|exact aR (hsub _ _)|refine aj ?_ ?_)
   |cons a tl=>
    refine aj rfl (aj rfl ⟨rfl,rfl,?_,?_,?_⟩)
    all_goals (repeat' first|exact rfl|exact trivial|exact hes _|exact aR (hsub _ _)|refine aj ?_ ?_)
 |cons x xs=>
  refine HSpec.of_vc aP av [.tmp 4] Tryz.func231 rfl rfl rfl rfl rfl (fun hok=>?_)
  repeat refine ai ?_
  refine pK (ms) (fun i (A:List Bs)=>A=O s.kind (ms.take i) n) (fun i (A:List Bs)=>[(0,.d (.str n)),(1,.ptr 1 0),(2,.ptr 0 0),(5,Dl 11 A),(8,.d (ag ms)),(9,.d (.int .i64 (ms.map GateMend.e).length)),(10,.d (.int .i64 i))]) (fun i (A:List Bs)=>A9 [(9,.row 9 1 ((x::xs).map eB)),(8,oW),(7,.cells 101 [.own 9]),(6,oP),(5,.map 271 .str es),(4,oR),(1,oM ms),(0,oS s)] 10 11 A) (rfl) ?_ ⟨rfl,rfl,⟨rfl,rfl,rfl,rfl,rfl,rfl,rfl,trivial⟩,⟨rfl,rfl,rfl,rfl,⟨rfl,hes _⟩,rfl,rfl,rfl,trivial⟩,⟨rfl,rfl,rfl,rfl,rfl,rfl,rfl,rfl,trivial⟩⟩
  intro i A hi hr
  have hAl:A.length≤24:=by
   have:=fS (k:=s.kind) (n:=n) (ms:=ms.take i)
   rw[←hr,List.length_take] at this
   omega
  repeat refine ai ?_
  refine aj ?_ ?_<;>intro h1
  ·have hlt:i<ms.length:=Y h1
   repeat refine ai ?_
   refine U (e:=GateMend.e) (xs:=ms) (hlt) rfl ?_
   repeat refine ai ?_
   cases A with
   |nil=>
    repeat refine ai ?_
    refine aj ?_ ?_<;>intro h2
    ·simp only[bne,Bool.not_eq_true',Bool.not_eq_false'] at h2
     repeat refine ai ?_
     refine aj ?_ ?_<;>intro h3
     ·simp only[bne,Bool.not_eq_true',Bool.not_eq_false'] at h3
      repeat refine ai ?_
      exact d6 ([]) hlt hs (by rw[cr hlt,←hr,nq h3,List.append_nil]) fun hw=>by repeat' first|exact rfl|exact trivial|exact nd hw|exact hes _|refine aj ?_ ?_
     ·simp only[bne,Bool.not_eq_true',Bool.not_eq_false'] at h3
      have hstep:=cr (k:=s.kind) (n:=n) hlt
      rw[ww h2 h3,←hr] at hstep
      repeat refine ai ?_
      refine aj ?_ ?_<;>intro h4
      ·simp only[bne,Bool.not_eq_true',Bool.not_eq_false'] at h4
       rw[dV h4] at hstep
       repeat refine ai ?_
       refine aj (fun r hr=>by rw[List.mem_singleton.1 hr];rfl) ?_
       repeat refine ai ?_
       refine aj (by simp only[List.length_nil,List.length_cons,List.length_map] at*;unfold al;omega) ?_
       repeat refine ai ?_
       refine aj ?_ ?_<;>intro h5
       ·simp only[bne,Bool.not_eq_true',Bool.not_eq_false'] at h5
        rw[dV h5] at hstep
        repeat refine ai ?_
        refine aj (fun r hr=>by rw[List.mem_singleton.1 hr];rfl) ?_
        repeat refine ai ?_
        refine aj (by simp only[List.length_append,List.length_nil,List.length_cons,List.length_map] at*;unfold al;omega) ?_
        repeat refine ai ?_
        exact d6 ([ms[i].when_,ms[i].from_]) hlt hs (by rw[hstep];rfl) fun hw=>by repeat' first|exact rfl|exact trivial|exact nd hw|exact hes _|exact aR (hsub _ _)|exact aR (by rw[hsub,hsub])|exact dN rfl|exact bJ _ _ _ _ _|exact dU _ _ _ _ _ _|refine aj ?_ ?_
       ·simp only[bne,Bool.not_eq_true',Bool.not_eq_false'] at h5
        rw[eY h5] at hstep
        repeat refine ai ?_
        exact d6 ([ms[i].when_]) hlt hs (by rw[hstep];rfl) fun hw=>by repeat' first|exact rfl|exact trivial|exact nd hw|exact hes _|exact aR (hsub _ _)|exact aR (by rw[hsub,hsub])|exact dN rfl|exact bJ _ _ _ _ _|exact dU _ _ _ _ _ _|refine aj ?_ ?_
      ·simp only[bne,Bool.not_eq_true',Bool.not_eq_false'] at h4
       rw[eY h4] at hstep
       repeat refine ai ?_
       refine aj ?_ ?_<;>intro h5
       ·simp only[bne,Bool.not_eq_true',Bool.not_eq_false'] at h5
        rw[dV h5] at hstep
        repeat refine ai ?_
        refine aj (fun r hr=>by rw[List.mem_singleton.1 hr];rfl) ?_
        repeat refine ai ?_
        refine aj (by simp only[List.length_nil,List.length_cons,List.length_map] at*;unfold al;omega) ?_
        repeat refine ai ?_
        exact d6 ([ms[i].from_]) hlt hs (by rw[hstep];rfl) fun hw=>by repeat' first|exact rfl|exact trivial|exact nd hw|exact hes _|exact aR (hsub _ _)|exact aR (by rw[hsub,hsub])|exact dN rfl|exact bJ _ _ _ _ _|exact dU _ _ _ _ _ _|refine aj ?_ ?_
       ·simp only[bne,Bool.not_eq_true',Bool.not_eq_false'] at h5
        rw[eY h5] at hstep
        repeat refine ai ?_
        exact d6 ([]) hlt hs (by rw[hstep];simp) fun hw=>by repeat' first|exact rfl|exact trivial|exact nd hw|exact hes _|refine aj ?_ ?_
    ·simp only[bne,Bool.not_eq_true',Bool.not_eq_false'] at h2
     repeat refine ai ?_
     exact d6 ([]) hlt hs (by rw[cr hlt,←hr,qu h2,List.append_nil]) fun hw=>by repeat' first|exact rfl|exact trivial|exact nd hw|exact hes _|refine aj ?_ ?_
   |cons a tl=>
    repeat refine ai ?_
    refine aj ?_ ?_<;>intro h2
    ·simp only[bne,Bool.not_eq_true',Bool.not_eq_false'] at h2
     repeat refine ai ?_
     refine aj ?_ ?_<;>intro h3
     ·simp only[bne,Bool.not_eq_true',Bool.not_eq_false'] at h3
      repeat refine ai ?_
      exact d6 (a::tl) hlt hs (by rw[cr hlt,←hr,nq h3,List.append_nil]) fun hw=>by repeat' first|exact rfl|exact trivial|exact nd hw|exact hes _|refine aj ?_ ?_
     ·simp only[bne,Bool.not_eq_true',Bool.not_eq_false'] at h3
      have hstep:=cr (k:=s.kind) (n:=n) hlt
      rw[ww h2 h3,←hr] at hstep
      repeat refine ai ?_
      refine aj ?_ ?_<;>intro h4
      ·simp only[bne,Bool.not_eq_true',Bool.not_eq_false'] at h4
       rw[dV h4] at hstep
       repeat refine ai ?_
       refine aj (fun r hr=>by rw[List.mem_singleton.1 hr];rfl) ?_
       repeat refine ai ?_
       refine aj (by simp only[List.length_append,List.length_nil,List.length_cons,List.length_map] at*;unfold al;omega) ?_
       repeat refine ai ?_
       refine aj ?_ ?_<;>intro h5
       ·simp only[bne,Bool.not_eq_true',Bool.not_eq_false'] at h5
        rw[dV h5] at hstep
        repeat refine ai ?_
        refine aj (fun r hr=>by rw[List.mem_singleton.1 hr];rfl) ?_
        repeat refine ai ?_
        refine aj (by simp only[List.length_append,List.length_nil,List.length_cons,List.length_map] at*;unfold al;omega) ?_
        repeat refine ai ?_
        exact d6 (a::(tl++[ms[i].when_,ms[i].from_])) hlt hs (by rw[hstep];rfl) fun hw=>by repeat' first|exact rfl|exact trivial|exact nd hw|exact hes _|exact aR (hsub _ _)|exact aR (by rw[hsub,hsub])|exact dN rfl|exact bJ _ _ _ _ _|exact dU _ _ _ _ _ _|refine aj ?_ ?_
       ·simp only[bne,Bool.not_eq_true',Bool.not_eq_false'] at h5
        rw[eY h5] at hstep
        repeat refine ai ?_
        exact d6 (a::(tl++[ms[i].when_])) hlt hs (by rw[hstep];rfl) fun hw=>by repeat' first|exact rfl|exact trivial|exact nd hw|exact hes _|exact aR (hsub _ _)|exact aR (by rw[hsub,hsub])|exact dN rfl|exact bJ _ _ _ _ _|exact dU _ _ _ _ _ _|refine aj ?_ ?_
      ·simp only[bne,Bool.not_eq_true',Bool.not_eq_false'] at h4
       rw[eY h4] at hstep
       repeat refine ai ?_
       refine aj ?_ ?_<;>intro h5
       ·simp only[bne,Bool.not_eq_true',Bool.not_eq_false'] at h5
        rw[dV h5] at hstep
        repeat refine ai ?_
        refine aj (fun r hr=>by rw[List.mem_singleton.1 hr];rfl) ?_
        repeat refine ai ?_
        refine aj (by simp only[List.length_append,List.length_nil,List.length_cons,List.length_map] at*;unfold al;omega) ?_
        repeat refine ai ?_
        exact d6 (a::(tl++[ms[i].from_])) hlt hs (by rw[hstep];rfl) fun hw=>by repeat' first|exact rfl|exact trivial|exact nd hw|exact hes _|exact aR (hsub _ _)|exact aR (by rw[hsub,hsub])|exact dN rfl|exact bJ _ _ _ _ _|exact dU _ _ _ _ _ _|refine aj ?_ ?_
       ·simp only[bne,Bool.not_eq_true',Bool.not_eq_false'] at h5
        rw[eY h5] at hstep
        repeat refine ai ?_
        exact d6 (a::tl) hlt hs (by rw[hstep];simp) fun hw=>by repeat' first|exact rfl|exact trivial|exact nd hw|exact hes _|refine aj ?_ ?_
    ·simp only[bne,Bool.not_eq_true',Bool.not_eq_false'] at h2
     repeat refine ai ?_
     exact d6 (a::tl) hlt hs (by rw[cr hlt,←hr,qu h2,List.append_nil]) fun hw=>by repeat' first|exact rfl|exact trivial|exact nd hw|exact hes _|refine aj ?_ ?_
  ·have ha:A=O s.kind ms n:=by rw[hr,List.take_of_length_le (Z h1)]
   rw[←ha]
   cases A with
   |nil=>
    refine aj rfl (aj rfl ⟨rfl,rfl,?_,?_,?_⟩)
    all_goals (repeat' first|exact rfl|exact trivial|exact hes _|exact aR (hsub _ _)|refine aj ?_ ?_)
   |cons a tl=>
    refine aj rfl (aj rfl ⟨rfl,rfl,?_,?_,?_⟩)
    all_goals (repeat' first|exact rfl|exact trivial|exact hes _|exact aR (hsub _ _)|refine aj ?_ ?_)
end Go.Vc
end
section
namespace Go.Vc
open Go.Proofs
set_option maxRecDepth 100000
theorem iR {i:Nat} {b:AV}:∀{st:List (Bs×Int)},zH i b (st.map iM)=st.map iM
 |[]=>rfl
 |p::st=>by
  have ih:=iR (i:=i) (b:=b) (st:=st)
  simp only[List.map_cons,zH,iM,ih,AV.sub]
theorem fC {x:Bs} {v:Int}:∀{st:List (Bs×Int)},bQ (st.map iM) [.str x] (.d (.int .i64 v))=(pt st x v).map iM
 |[]=>rfl
 |(k,u)::st=>by
  have ih:=fC (x:=x) (v:=v) (st:=st)
  simp only[List.map_cons,iM,bQ,dp,pt,nY x k]
  cases k==x with
  |true=>rfl
  |false=>simp only[cond_false,List.map_cons,iM];exact congrArg _ ih
theorem si {x:Bs}:∀(st:List (Bs×Int)),(aH (st.map iM) [.str x]=none∧lk st x=0)∨aH (st.map iM) [.str x]=some (.d (.int .i64 (lk st x)))
 |[]=> .inl ⟨rfl,rfl⟩
 |(k,u)::st=>by
  simp only[List.map_cons,iM,aH,dp,lk,nY x k]
  cases k==x with
  |true=>exact .inr rfl
  |false=>exact si st
theorem gg {t:Nat} {tk:TK} {x:Bs} {v:Int} {st:List (Bs×Int)}:some (AO.map t tk (bQ (st.map iM) [.str x] (.d (.int .i64 v))))=some (AO.map t tk ((pt st x v).map iM)):=by rw[fC]
theorem iW {t:Nat} {tk:TK} {x:Bs} {v:Int} {st:List (Bs×Int)} {i:Nat} {b:AV}:some (AO.map t tk (zH i b (bQ (st.map iM) [.str x] (.d (.int .i64 v)))))=some (AO.map t tk ((pt st x v).map iM)):=by rw[fC,iR]
theorem kP (s:GateShape) (ms:List GateMend) (hm:ms.length≤12) (all N:List Bs) (hN:N.length≤al) (hin:∀n∈N,∀y∈O s.kind ms n,y∈N):
 ∀(k lo:Nat) (x:Bs) (w:Wk),x∈N→oo (O s.kind ms) N w→white N w<k→
 HSpec P 236 [.d (.str x),.ptr 6 0,.ptr 4 0,.ptr 8 0,.ptr 7 0] (hW lo s ms all w) (.d (.bool (cg (O s.kind ms) k x w).1)) (hW lo s ms all (cg (O s.kind ms) k x w).2)
 |0,_,_,_,_,_,h=>by omega
 |k+1,lo,x,w,hx,hwk,hk=>by
  obtain ⟨st,out⟩:=w
  generalize hq:cg (O s.kind ms) (k+1) x ⟨st,out⟩=q
  obtain ⟨b,w2⟩:=q
  show HSpec P _ _ _ (.d (.bool b)) (hW lo s ms all w2)
  cases out with
  |nil=>
   refine HSpec.of_vc aP av [.tmp 6] Tryz.func236 rfl rfl rfl rfl rfl (fun hok=>?_)
   repeat refine ai ?_
   rcases si (x:=x) st with ⟨e0,e1⟩|e1
   ·refine ⟨_,e0,?_⟩
    repeat refine ai ?_
    refine aj ?_ ?_<;>intro g1
    ·have g1':(lk st x==1)=true:=by first|exact g1|(rw[e1];exact g1)
     rw[mT g1'] at hq
     obtain ⟨rfl,rfl⟩:=Prod.mk.inj hq
     refine aj rfl (aj rfl ⟨rfl,rfl,?_,?_,?_⟩)
     all_goals (repeat' first|exact rfl|exact trivial|exact ar|refine aj ?_ ?_)
    ·have g1':(lk st x==1)=false:=by first|exact g1|(rw[e1];exact g1)
     repeat refine ai ?_
     refine aj ?_ ?_<;>intro g2
     ·have g2':(lk st x==2)=true:=by first|exact g2|(rw[e1];exact g2)
      rw[mS g1' g2'] at hq
      obtain ⟨rfl,rfl⟩:=Prod.mk.inj hq
      refine aj rfl (aj rfl ⟨rfl,rfl,?_,?_,?_⟩)
      all_goals (repeat' first|exact rfl|exact trivial|exact ar|refine aj ?_ ?_)
     ·have g2':(lk st x==2)=false:=by first|exact g2|(rw[e1];exact g2)
      repeat refine ai ?_
      refine oh (qz _ s ms hm all (bQ (st.map iM) [.str x] (.d (.int .i64 1))) (fun n=>by rw[fC];exact ar) (fun i b=>by rw[fC];exact iR) [] x) ?_
      have hs:(O s.kind ms x).length≤al:=by
       have:=fS (k:=s.kind) (n:=x) (ms:=ms)
       unfold al;omega
      repeat refine ai ?_
      refine pK ((O s.kind ms x)) (fun i (u:Wk)=>bN (cg (O s.kind ms) k) (O s.kind ms x) ⟨pt st x 1,[]⟩=bN (cg (O s.kind ms) k) ((O s.kind ms x).drop i) u∧zw (O s.kind ms) N x ⟨st,[]⟩ u∧∃t,u.out=[]++t) (fun i (u:Wk)=>[(0,.d (.str x)),(1,.ptr 6 0),(2,.ptr 4 0),(3,.ptr 8 0),(4,.ptr 7 0),(20,.d (lS (O s.kind ms x))),(21,.d (.int .i64 ((O s.kind ms x).map eB).length)),(22,.d (.int .i64 i))]) (fun i (u:Wk)=>hW 9 s ms all u) (⟨rfl,mR hx hwk g1' g2',[],by simp⟩) ?_ ⟨rfl,rfl,⟨rfl,rfl,rfl,rfl,rfl,rfl,rfl,rfl,trivial⟩,(by repeat' first|exact rfl|exact trivial|exact ar|refine aj ?_ ?_),(by repeat' first|exact rfl|exact trivial|exact gg|refine aj ?_ ?_)⟩
      intro i u hi hr
      obtain ⟨hE,hI,hT⟩:=hr
      obtain ⟨st1,out1⟩:=u
      cases out1 with
      |nil=>
       repeat refine ai ?_
       refine aj ?_ ?_<;>intro h1
       ·have hlt:i<(O s.kind ms x).length:=Y h1
        have hy:(O s.kind ms x)[i]∈N:=hin x hx _ (List.getElem_mem hlt)
        have hc:=kP s ms hm all N hN hin k 9 (O s.kind ms x)[i] ⟨st1,[]⟩ hy hI.ok (by have:=hI.white;omega)
        rw[ed hlt] at hE
        generalize hv:cg (O s.kind ms) k (O s.kind ms x)[i] ⟨st1,[]⟩=v at hc hE
        obtain ⟨b3,st3,out3⟩:=v
        have hO:∃t,out3=[]++t:=by
             have:=hM (O s.kind ms) k (O s.kind ms x)[i] ⟨st1,[]⟩
             rw[hv] at this;exact this
        have hT3:∃t,out3=[]++t:=by
             obtain ⟨t,ht⟩:=hT
             obtain ⟨t2,ht2⟩:=hO
             exact ⟨t++t2,by rw[ht2,←List.append_assoc];exact congrArg (·++t2) ht⟩
        repeat refine ai ?_
        refine aI (e:=eB) (xs:=(O s.kind ms x)) (hlt) (rfl) rfl ?_
        repeat refine ai ?_
        cases out3 with
        |nil=>
         cases b3 with
         |false=>
          refine Or.inr (Or.inl (Exists.intro _ (Exists.intro _ (aj (aj rfl hc) ?_))))
          repeat refine ai ?_
          refine ay ?_
          rw[ip g1' g2' hE] at hq
          obtain ⟨rfl,rfl⟩:=Prod.mk.inj hq
          refine aj rfl (aj rfl ⟨rfl,rfl,?_,?_,?_⟩)
          all_goals (repeat' first|exact rfl|exact trivial|exact ar|refine aj ?_ ?_)
         |true=>
          refine Or.inr (Or.inl (Exists.intro _ (Exists.intro _ (aj (aj rfl hc) ?_))))
          repeat refine ai ?_
          refine an ?_
          repeat refine ai ?_
          exact d6 ⟨st3,[]⟩ hlt hs ⟨hE,im hin hI hk hy hv,hT3⟩ fun hw=>by repeat' first|exact rfl|exact trivial|exact nd hw|exact ar|refine aj ?_ ?_
        |cons z zs=>
         cases b3 with
         |false=>
          refine Or.inr (Or.inl (Exists.intro _ (Exists.intro _ (aj (aj rfl hc) ?_))))
          repeat refine ai ?_
          refine ay ?_
          rw[ip g1' g2' hE] at hq
          obtain ⟨rfl,rfl⟩:=Prod.mk.inj hq
          refine aj rfl (aj rfl ⟨rfl,rfl,?_,?_,?_⟩)
          all_goals (repeat' first|exact rfl|exact trivial|exact ar|refine aj ?_ ?_)
         |true=>
          refine Or.inr (Or.inl (Exists.intro _ (Exists.intro _ (aj (aj rfl hc) ?_))))
          repeat refine ai ?_
          refine an ?_
          repeat refine ai ?_
          exact d6 ⟨st3,(z::zs)⟩ hlt hs ⟨hE,im hin hI hk hy hv,hT3⟩ fun hw=>by repeat' first|exact rfl|exact trivial|exact nd hw|exact ar|refine aj ?_ ?_
       ·rw[fj (Z h1)] at hE
        rw[iP g1' g2' hE] at hq
        obtain ⟨rfl,rfl⟩:=Prod.mk.inj hq
        have hroom:=k9 hx hI
        repeat refine ai ?_
        refine aj (fun r hr=>by rw[List.mem_singleton.1 hr];rfl) ?_
        repeat refine ai ?_
        refine aj (by simp only[List.length_append,List.length_nil,List.length_cons,List.length_map] at*;unfold al at*;omega) ?_
        refine aj rfl (aj rfl ⟨rfl,rfl,?_,?_,?_⟩)
        all_goals (repeat' first|exact rfl|exact trivial|exact ar|exact gg|exact iW|exact bJ _ _ _ _ _|refine aj ?_ ?_)
      |cons y ys=>
       repeat refine ai ?_
       refine aj ?_ ?_<;>intro h1
       ·have hlt:i<(O s.kind ms x).length:=Y h1
        have hy:(O s.kind ms x)[i]∈N:=hin x hx _ (List.getElem_mem hlt)
        have hc:=kP s ms hm all N hN hin k 9 (O s.kind ms x)[i] ⟨st1,(y::ys)⟩ hy hI.ok (by have:=hI.white;omega)
        rw[ed hlt] at hE
        generalize hv:cg (O s.kind ms) k (O s.kind ms x)[i] ⟨st1,(y::ys)⟩=v at hc hE
        obtain ⟨b3,st3,out3⟩:=v
        have hO:∃t,out3=(y::ys)++t:=by
             have:=hM (O s.kind ms) k (O s.kind ms x)[i] ⟨st1,(y::ys)⟩
             rw[hv] at this;exact this
        have hT3:∃t,out3=[]++t:=by
             obtain ⟨t,ht⟩:=hT
             obtain ⟨t2,ht2⟩:=hO
             exact ⟨t++t2,by rw[ht2,←List.append_assoc];exact congrArg (·++t2) ht⟩
        repeat refine ai ?_
        refine aI (e:=eB) (xs:=(O s.kind ms x)) (hlt) (rfl) rfl ?_
        repeat refine ai ?_
        cases out3 with
        |nil=>
         obtain ⟨t,ht⟩:=hO
         cases ht
        |cons z zs=>
         cases b3 with
         |false=>
          refine Or.inr (Or.inl (Exists.intro _ (Exists.intro _ (aj (aj rfl hc) ?_))))
          repeat refine ai ?_
          refine ay ?_
          rw[ip g1' g2' hE] at hq
          obtain ⟨rfl,rfl⟩:=Prod.mk.inj hq
          refine aj rfl (aj rfl ⟨rfl,rfl,?_,?_,?_⟩)
          all_goals (repeat' first|exact rfl|exact trivial|exact ar|refine aj ?_ ?_)
         |true=>
          refine Or.inr (Or.inl (Exists.intro _ (Exists.intro _ (aj (aj rfl hc) ?_))))
          repeat refine ai ?_
          refine an ?_
          repeat refine ai ?_
          exact d6 ⟨st3,(z::zs)⟩ hlt hs ⟨hE,im hin hI hk hy hv,hT3⟩ fun hw=>by repeat' first|exact rfl|exact trivial|exact nd hw|exact ar|refine aj ?_ ?_
       ·rw[fj (Z h1)] at hE
        rw[iP g1' g2' hE] at hq
        obtain ⟨rfl,rfl⟩:=Prod.mk.inj hq
        have hroom:=k9 hx hI
        repeat refine ai ?_
        refine aj (fun r hr=>by rw[List.mem_singleton.1 hr];rfl) ?_
        repeat refine ai ?_
        refine aj (by simp only[List.length_append,List.length_nil,List.length_cons,List.length_map] at*;unfold al at*;omega) ?_
        refine aj rfl (aj rfl ⟨rfl,rfl,?_,?_,?_⟩)
        all_goals (repeat' first|exact rfl|exact trivial|exact ar|exact gg|exact iW|exact bJ _ _ _ _ _|refine aj ?_ ?_)
   ·refine ⟨_,e1,?_⟩
    repeat refine ai ?_
    refine aj ?_ ?_<;>intro g1
    ·have g1':(lk st x==1)=true:=by first|exact g1|(rw[e1];exact g1)
     rw[mT g1'] at hq
     obtain ⟨rfl,rfl⟩:=Prod.mk.inj hq
     refine aj rfl (aj rfl ⟨rfl,rfl,?_,?_,?_⟩)
     all_goals (repeat' first|exact rfl|exact trivial|exact ar|refine aj ?_ ?_)
    ·have g1':(lk st x==1)=false:=by first|exact g1|(rw[e1];exact g1)
     repeat refine ai ?_
     refine aj ?_ ?_<;>intro g2
     ·have g2':(lk st x==2)=true:=by first|exact g2|(rw[e1];exact g2)
      rw[mS g1' g2'] at hq
      obtain ⟨rfl,rfl⟩:=Prod.mk.inj hq
      refine aj rfl (aj rfl ⟨rfl,rfl,?_,?_,?_⟩)
      all_goals (repeat' first|exact rfl|exact trivial|exact ar|refine aj ?_ ?_)
     ·have g2':(lk st x==2)=false:=by first|exact g2|(rw[e1];exact g2)
      repeat refine ai ?_
      refine oh (qz _ s ms hm all (bQ (st.map iM) [.str x] (.d (.int .i64 1))) (fun n=>by rw[fC];exact ar) (fun i b=>by rw[fC];exact iR) [] x) ?_
      have hs:(O s.kind ms x).length≤al:=by
       have:=fS (k:=s.kind) (n:=x) (ms:=ms)
       unfold al;omega
      repeat refine ai ?_
      refine pK ((O s.kind ms x)) (fun i (u:Wk)=>bN (cg (O s.kind ms) k) (O s.kind ms x) ⟨pt st x 1,[]⟩=bN (cg (O s.kind ms) k) ((O s.kind ms x).drop i) u∧zw (O s.kind ms) N x ⟨st,[]⟩ u∧∃t,u.out=[]++t) (fun i (u:Wk)=>[(0,.d (.str x)),(1,.ptr 6 0),(2,.ptr 4 0),(3,.ptr 8 0),(4,.ptr 7 0),(20,.d (lS (O s.kind ms x))),(21,.d (.int .i64 ((O s.kind ms x).map eB).length)),(22,.d (.int .i64 i))]) (fun i (u:Wk)=>hW 9 s ms all u) (⟨rfl,mR hx hwk g1' g2',[],by simp⟩) ?_ ⟨rfl,rfl,⟨rfl,rfl,rfl,rfl,rfl,rfl,rfl,rfl,trivial⟩,(by repeat' first|exact rfl|exact trivial|exact ar|refine aj ?_ ?_),(by repeat' first|exact rfl|exact trivial|exact gg|refine aj ?_ ?_)⟩
      intro i u hi hr
      obtain ⟨hE,hI,hT⟩:=hr
      obtain ⟨st1,out1⟩:=u
      cases out1 with
      |nil=>
       repeat refine ai ?_
       refine aj ?_ ?_<;>intro h1
       ·have hlt:i<(O s.kind ms x).length:=Y h1
        have hy:(O s.kind ms x)[i]∈N:=hin x hx _ (List.getElem_mem hlt)
        have hc:=kP s ms hm all N hN hin k 9 (O s.kind ms x)[i] ⟨st1,[]⟩ hy hI.ok (by have:=hI.white;omega)
        rw[ed hlt] at hE
        generalize hv:cg (O s.kind ms) k (O s.kind ms x)[i] ⟨st1,[]⟩=v at hc hE
        obtain ⟨b3,st3,out3⟩:=v
        have hO:∃t,out3=[]++t:=by
             have:=hM (O s.kind ms) k (O s.kind ms x)[i] ⟨st1,[]⟩
             rw[hv] at this;exact this
        have hT3:∃t,out3=[]++t:=by
             obtain ⟨t,ht⟩:=hT
             obtain ⟨t2,ht2⟩:=hO
             exact ⟨t++t2,by rw[ht2,←List.append_assoc];exact congrArg (·++t2) ht⟩
        repeat refine ai ?_
        refine aI (e:=eB) (xs:=(O s.kind ms x)) (hlt) (rfl) rfl ?_
        repeat refine ai ?_
        cases out3 with
        |nil=>
         cases b3 with
         |false=>
          refine Or.inr (Or.inl (Exists.intro _ (Exists.intro _ (aj (aj rfl hc) ?_))))
          repeat refine ai ?_
          refine ay ?_
          rw[ip g1' g2' hE] at hq
          obtain ⟨rfl,rfl⟩:=Prod.mk.inj hq
          refine aj rfl (aj rfl ⟨rfl,rfl,?_,?_,?_⟩)
          all_goals (repeat' first|exact rfl|exact trivial|exact ar|refine aj ?_ ?_)
         |true=>
          refine Or.inr (Or.inl (Exists.intro _ (Exists.intro _ (aj (aj rfl hc) ?_))))
          repeat refine ai ?_
          refine an ?_
          repeat refine ai ?_
          exact d6 ⟨st3,[]⟩ hlt hs ⟨hE,im hin hI hk hy hv,hT3⟩ fun hw=>by repeat' first|exact rfl|exact trivial|exact nd hw|exact ar|refine aj ?_ ?_
        |cons z zs=>
         cases b3 with
         |false=>
          refine Or.inr (Or.inl (Exists.intro _ (Exists.intro _ (aj (aj rfl hc) ?_))))
          repeat refine ai ?_
          refine ay ?_
          rw[ip g1' g2' hE] at hq
          obtain ⟨rfl,rfl⟩:=Prod.mk.inj hq
          refine aj rfl (aj rfl ⟨rfl,rfl,?_,?_,?_⟩)
          all_goals (repeat' first|exact rfl|exact trivial|exact ar|refine aj ?_ ?_)
         |true=>
          refine Or.inr (Or.inl (Exists.intro _ (Exists.intro _ (aj (aj rfl hc) ?_))))
          repeat refine ai ?_
          refine an ?_
          repeat refine ai ?_
          exact d6 ⟨st3,(z::zs)⟩ hlt hs ⟨hE,im hin hI hk hy hv,hT3⟩ fun hw=>by repeat' first|exact rfl|exact trivial|exact nd hw|exact ar|refine aj ?_ ?_
       ·rw[fj (Z h1)] at hE
        rw[iP g1' g2' hE] at hq
        obtain ⟨rfl,rfl⟩:=Prod.mk.inj hq
        have hroom:=k9 hx hI
        repeat refine ai ?_
        refine aj (fun r hr=>by rw[List.mem_singleton.1 hr];rfl) ?_
        repeat refine ai ?_
        refine aj (by simp only[List.length_append,List.length_nil,List.length_cons,List.length_map] at*;unfold al at*;omega) ?_
        refine aj rfl (aj rfl ⟨rfl,rfl,?_,?_,?_⟩)
        all_goals (repeat' first|exact rfl|exact trivial|exact ar|exact gg|exact iW|exact bJ _ _ _ _ _|refine aj ?_ ?_)
      |cons y ys=>
       repeat refine ai ?_
       refine aj ?_ ?_<;>intro h1
       ·have hlt:i<(O s.kind ms x).length:=Y h1
        have hy:(O s.kind ms x)[i]∈N:=hin x hx _ (List.getElem_mem hlt)
        have hc:=kP s ms hm all N hN hin k 9 (O s.kind ms x)[i] ⟨st1,(y::ys)⟩ hy hI.ok (by have:=hI.white;omega)
        rw[ed hlt] at hE
        generalize hv:cg (O s.kind ms) k (O s.kind ms x)[i] ⟨st1,(y::ys)⟩=v at hc hE
        obtain ⟨b3,st3,out3⟩:=v
        have hO:∃t,out3=(y::ys)++t:=by
             have:=hM (O s.kind ms) k (O s.kind ms x)[i] ⟨st1,(y::ys)⟩
             rw[hv] at this;exact this
        have hT3:∃t,out3=[]++t:=by
             obtain ⟨t,ht⟩:=hT
             obtain ⟨t2,ht2⟩:=hO
             exact ⟨t++t2,by rw[ht2,←List.append_assoc];exact congrArg (·++t2) ht⟩
        repeat refine ai ?_
        refine aI (e:=eB) (xs:=(O s.kind ms x)) (hlt) (rfl) rfl ?_
        repeat refine ai ?_
        cases out3 with
        |nil=>
         obtain ⟨t,ht⟩:=hO
         cases ht
        |cons z zs=>
         cases b3 with
         |false=>
          refine Or.inr (Or.inl (Exists.intro _ (Exists.intro _ (aj (aj rfl hc) ?_))))
          repeat refine ai ?_
          refine ay ?_
          rw[ip g1' g2' hE] at hq
          obtain ⟨rfl,rfl⟩:=Prod.mk.inj hq
          refine aj rfl (aj rfl ⟨rfl,rfl,?_,?_,?_⟩)
          all_goals (repeat' first|exact rfl|exact trivial|exact ar|refine aj ?_ ?_)
         |true=>
          refine Or.inr (Or.inl (Exists.intro _ (Exists.intro _ (aj (aj rfl hc) ?_))))
          repeat refine ai ?_
          refine an ?_
          repeat refine ai ?_
          exact d6 ⟨st3,(z::zs)⟩ hlt hs ⟨hE,im hin hI hk hy hv,hT3⟩ fun hw=>by repeat' first|exact rfl|exact trivial|exact nd hw|exact ar|refine aj ?_ ?_
       ·rw[fj (Z h1)] at hE
        rw[iP g1' g2' hE] at hq
        obtain ⟨rfl,rfl⟩:=Prod.mk.inj hq
        have hroom:=k9 hx hI
        repeat refine ai ?_
        refine aj (fun r hr=>by rw[List.mem_singleton.1 hr];rfl) ?_
        repeat refine ai ?_
        refine aj (by simp only[List.length_append,List.length_nil,List.length_cons,List.length_map] at*;unfold al at*;omega) ?_
        refine aj rfl (aj rfl ⟨rfl,rfl,?_,?_,?_⟩)
        all_goals (repeat' first|exact rfl|exact trivial|exact ar|exact gg|exact iW|exact bJ _ _ _ _ _|refine aj ?_ ?_)
  |cons a tl=>
   refine HSpec.of_vc aP av [.tmp 6] Tryz.func236 rfl rfl rfl rfl rfl (fun hok=>?_)
   repeat refine ai ?_
   rcases si (x:=x) st with ⟨e0,e1⟩|e1
   ·refine ⟨_,e0,?_⟩
    repeat refine ai ?_
    refine aj ?_ ?_<;>intro g1
    ·have g1':(lk st x==1)=true:=by first|exact g1|(rw[e1];exact g1)
     rw[mT g1'] at hq
     obtain ⟨rfl,rfl⟩:=Prod.mk.inj hq
     refine aj rfl (aj rfl ⟨rfl,rfl,?_,?_,?_⟩)
     all_goals (repeat' first|exact rfl|exact trivial|exact ar|refine aj ?_ ?_)
    ·have g1':(lk st x==1)=false:=by first|exact g1|(rw[e1];exact g1)
     repeat refine ai ?_
     refine aj ?_ ?_<;>intro g2
     ·have g2':(lk st x==2)=true:=by first|exact g2|(rw[e1];exact g2)
      rw[mS g1' g2'] at hq
      obtain ⟨rfl,rfl⟩:=Prod.mk.inj hq
      refine aj rfl (aj rfl ⟨rfl,rfl,?_,?_,?_⟩)
      all_goals (repeat' first|exact rfl|exact trivial|exact ar|refine aj ?_ ?_)
     ·have g2':(lk st x==2)=false:=by first|exact g2|(rw[e1];exact g2)
      repeat refine ai ?_
      refine oh (qz _ s ms hm all (bQ (st.map iM) [.str x] (.d (.int .i64 1))) (fun n=>by rw[fC];exact ar) (fun i b=>by rw[fC];exact iR) (a::tl) x) ?_
      have hs:(O s.kind ms x).length≤al:=by
       have:=fS (k:=s.kind) (n:=x) (ms:=ms)
       unfold al;omega
      repeat refine ai ?_
      refine pK ((O s.kind ms x)) (fun i (u:Wk)=>bN (cg (O s.kind ms) k) (O s.kind ms x) ⟨pt st x 1,(a::tl)⟩=bN (cg (O s.kind ms) k) ((O s.kind ms x).drop i) u∧zw (O s.kind ms) N x ⟨st,(a::tl)⟩ u∧∃t,u.out=(a::tl)++t) (fun i (u:Wk)=>[(0,.d (.str x)),(1,.ptr 6 0),(2,.ptr 4 0),(3,.ptr 8 0),(4,.ptr 7 0),(20,.d (lS (O s.kind ms x))),(21,.d (.int .i64 ((O s.kind ms x).map eB).length)),(22,.d (.int .i64 i))]) (fun i (u:Wk)=>hW 10 s ms all u) (⟨rfl,mR hx hwk g1' g2',[],by simp⟩) ?_ ⟨rfl,rfl,⟨rfl,rfl,rfl,rfl,rfl,rfl,rfl,rfl,trivial⟩,(by repeat' first|exact rfl|exact trivial|exact ar|refine aj ?_ ?_),(by repeat' first|exact rfl|exact trivial|exact gg|refine aj ?_ ?_)⟩
      intro i u hi hr
      obtain ⟨hE,hI,hT⟩:=hr
      obtain ⟨st1,out1⟩:=u
      cases out1 with
      |nil=>
       obtain ⟨t,ht⟩:=hT
       cases ht
      |cons y ys=>
       repeat refine ai ?_
       refine aj ?_ ?_<;>intro h1
       ·have hlt:i<(O s.kind ms x).length:=Y h1
        have hy:(O s.kind ms x)[i]∈N:=hin x hx _ (List.getElem_mem hlt)
        have hc:=kP s ms hm all N hN hin k 10 (O s.kind ms x)[i] ⟨st1,(y::ys)⟩ hy hI.ok (by have:=hI.white;omega)
        rw[ed hlt] at hE
        generalize hv:cg (O s.kind ms) k (O s.kind ms x)[i] ⟨st1,(y::ys)⟩=v at hc hE
        obtain ⟨b3,st3,out3⟩:=v
        have hO:∃t,out3=(y::ys)++t:=by
             have:=hM (O s.kind ms) k (O s.kind ms x)[i] ⟨st1,(y::ys)⟩
             rw[hv] at this;exact this
        have hT3:∃t,out3=(a::tl)++t:=by
             obtain ⟨t,ht⟩:=hT
             obtain ⟨t2,ht2⟩:=hO
             exact ⟨t++t2,by rw[ht2,←List.append_assoc];exact congrArg (·++t2) ht⟩
        repeat refine ai ?_
        refine aI (e:=eB) (xs:=(O s.kind ms x)) (hlt) (rfl) rfl ?_
        repeat refine ai ?_
        cases out3 with
        |nil=>
         obtain ⟨t,ht⟩:=hO
         cases ht
        |cons z zs=>
         cases b3 with
         |false=>
          refine Or.inr (Or.inl (Exists.intro _ (Exists.intro _ (aj (aj rfl hc) ?_))))
          repeat refine ai ?_
          refine ay ?_
          rw[ip g1' g2' hE] at hq
          obtain ⟨rfl,rfl⟩:=Prod.mk.inj hq
          refine aj rfl (aj rfl ⟨rfl,rfl,?_,?_,?_⟩)
          all_goals (repeat' first|exact rfl|exact trivial|exact ar|refine aj ?_ ?_)
         |true=>
          refine Or.inr (Or.inl (Exists.intro _ (Exists.intro _ (aj (aj rfl hc) ?_))))
          repeat refine ai ?_
          refine an ?_
          repeat refine ai ?_
          exact d6 ⟨st3,(z::zs)⟩ hlt hs ⟨hE,im hin hI hk hy hv,hT3⟩ fun hw=>by repeat' first|exact rfl|exact trivial|exact nd hw|exact ar|refine aj ?_ ?_
       ·rw[fj (Z h1)] at hE
        rw[iP g1' g2' hE] at hq
        obtain ⟨rfl,rfl⟩:=Prod.mk.inj hq
        have hroom:=k9 hx hI
        repeat refine ai ?_
        refine aj (fun r hr=>by rw[List.mem_singleton.1 hr];rfl) ?_
        repeat refine ai ?_
        refine aj (by simp only[List.length_append,List.length_nil,List.length_cons,List.length_map] at*;unfold al at*;omega) ?_
        refine aj rfl (aj rfl ⟨rfl,rfl,?_,?_,?_⟩)
        all_goals (repeat' first|exact rfl|exact trivial|exact ar|exact gg|exact iW|exact bJ _ _ _ _ _|refine aj ?_ ?_)
   ·refine ⟨_,e1,?_⟩
    repeat refine ai ?_
    refine aj ?_ ?_<;>intro g1
    ·have g1':(lk st x==1)=true:=by first|exact g1|(rw[e1];exact g1)
     rw[mT g1'] at hq
     obtain ⟨rfl,rfl⟩:=Prod.mk.inj hq
     refine aj rfl (aj rfl ⟨rfl,rfl,?_,?_,?_⟩)
     all_goals (repeat' first|exact rfl|exact trivial|exact ar|refine aj ?_ ?_)
    ·have g1':(lk st x==1)=false:=by first|exact g1|(rw[e1];exact g1)
     repeat refine ai ?_
     refine aj ?_ ?_<;>intro g2
     ·have g2':(lk st x==2)=true:=by first|exact g2|(rw[e1];exact g2)
      rw[mS g1' g2'] at hq
      obtain ⟨rfl,rfl⟩:=Prod.mk.inj hq
      refine aj rfl (aj rfl ⟨rfl,rfl,?_,?_,?_⟩)
      all_goals (repeat' first|exact rfl|exact trivial|exact ar|refine aj ?_ ?_)
     ·have g2':(lk st x==2)=false:=by first|exact g2|(rw[e1];exact g2)
      repeat refine ai ?_
      refine oh (qz _ s ms hm all (bQ (st.map iM) [.str x] (.d (.int .i64 1))) (fun n=>by rw[fC];exact ar) (fun i b=>by rw[fC];exact iR) (a::tl) x) ?_
      have hs:(O s.kind ms x).length≤al:=by
       have:=fS (k:=s.kind) (n:=x) (ms:=ms)
       unfold al;omega
      repeat refine ai ?_
      refine pK ((O s.kind ms x)) (fun i (u:Wk)=>bN (cg (O s.kind ms) k) (O s.kind ms x) ⟨pt st x 1,(a::tl)⟩=bN (cg (O s.kind ms) k) ((O s.kind ms x).drop i) u∧zw (O s.kind ms) N x ⟨st,(a::tl)⟩ u∧∃t,u.out=(a::tl)++t) (fun i (u:Wk)=>[(0,.d (.str x)),(1,.ptr 6 0),(2,.ptr 4 0),(3,.ptr 8 0),(4,.ptr 7 0),(20,.d (lS (O s.kind ms x))),(21,.d (.int .i64 ((O s.kind ms x).map eB).length)),(22,.d (.int .i64 i))]) (fun i (u:Wk)=>hW 10 s ms all u) (⟨rfl,mR hx hwk g1' g2',[],by simp⟩) ?_ ⟨rfl,rfl,⟨rfl,rfl,rfl,rfl,rfl,rfl,rfl,rfl,trivial⟩,(by repeat' first|exact rfl|exact trivial|exact ar|refine aj ?_ ?_),(by repeat' first|exact rfl|exact trivial|exact gg|refine aj ?_ ?_)⟩
      intro i u hi hr
      obtain ⟨hE,hI,hT⟩:=hr
      obtain ⟨st1,out1⟩:=u
      cases out1 with
      |nil=>
       obtain ⟨t,ht⟩:=hT
       cases ht
      |cons y ys=>
       repeat refine ai ?_
       refine aj ?_ ?_<;>intro h1
       ·have hlt:i<(O s.kind ms x).length:=Y h1
        have hy:(O s.kind ms x)[i]∈N:=hin x hx _ (List.getElem_mem hlt)
        have hc:=kP s ms hm all N hN hin k 10 (O s.kind ms x)[i] ⟨st1,(y::ys)⟩ hy hI.ok (by have:=hI.white;omega)
        rw[ed hlt] at hE
        generalize hv:cg (O s.kind ms) k (O s.kind ms x)[i] ⟨st1,(y::ys)⟩=v at hc hE
        obtain ⟨b3,st3,out3⟩:=v
        have hO:∃t,out3=(y::ys)++t:=by
             have:=hM (O s.kind ms) k (O s.kind ms x)[i] ⟨st1,(y::ys)⟩
             rw[hv] at this;exact this
        have hT3:∃t,out3=(a::tl)++t:=by
             obtain ⟨t,ht⟩:=hT
             obtain ⟨t2,ht2⟩:=hO
             exact ⟨t++t2,by rw[ht2,←List.append_assoc];exact congrArg (·++t2) ht⟩
        repeat refine ai ?_
        refine aI (e:=eB) (xs:=(O s.kind ms x)) (hlt) (rfl) rfl ?_
        repeat refine ai ?_
        cases out3 with
        |nil=>
         obtain ⟨t,ht⟩:=hO
         cases ht
        |cons z zs=>
         cases b3 with
         |false=>
          refine Or.inr (Or.inl (Exists.intro _ (Exists.intro _ (aj (aj rfl hc) ?_))))
          repeat refine ai ?_
          refine ay ?_
          rw[ip g1' g2' hE] at hq
          obtain ⟨rfl,rfl⟩:=Prod.mk.inj hq
          refine aj rfl (aj rfl ⟨rfl,rfl,?_,?_,?_⟩)
          all_goals (repeat' first|exact rfl|exact trivial|exact ar|refine aj ?_ ?_)
         |true=>
          refine Or.inr (Or.inl (Exists.intro _ (Exists.intro _ (aj (aj rfl hc) ?_))))
          repeat refine ai ?_
          refine an ?_
          repeat refine ai ?_
          exact d6 ⟨st3,(z::zs)⟩ hlt hs ⟨hE,im hin hI hk hy hv,hT3⟩ fun hw=>by repeat' first|exact rfl|exact trivial|exact nd hw|exact ar|refine aj ?_ ?_
       ·rw[fj (Z h1)] at hE
        rw[iP g1' g2' hE] at hq
        obtain ⟨rfl,rfl⟩:=Prod.mk.inj hq
        have hroom:=k9 hx hI
        repeat refine ai ?_
        refine aj (fun r hr=>by rw[List.mem_singleton.1 hr];rfl) ?_
        repeat refine ai ?_
        refine aj (by simp only[List.length_append,List.length_nil,List.length_cons,List.length_map] at*;unfold al at*;omega) ?_
        refine aj rfl (aj rfl ⟨rfl,rfl,?_,?_,?_⟩)
        all_goals (repeat' first|exact rfl|exact trivial|exact ar|exact gg|exact iW|exact bJ _ _ _ _ _|refine aj ?_ ?_)
end Go.Vc
end
section
namespace Go.Vc
open Go.Proofs
set_option maxRecDepth 100000
def iV (rd:Bs→List Bs) (all:List Bs):List Bs×Bool:=match bN (cg rd (all.length+1)) all BP with
 |(true,u)=>(u.out,true)
 |(false,_)=>([],false)
theorem A8 {rd:Bs→List Bs} {all:List Bs}:(iV rd all).2=(bN (cg rd (all.length+1)) all BP).1:=by
 unfold iV
 split<;>(rename_i h;rw[h])
theorem qt {rd:Bs→List Bs} {all:List Bs} {u:Wk} (h:bN (cg rd (all.length+1)) all BP=(false,u)):iV rd all=([],false):=by
 unfold iV;rw[h]
theorem rG {rd:Bs→List Bs} {all:List Bs} {u:Wk} (h:bN (cg rd (all.length+1)) all BP=(true,u)):iV rd all=(u.out,true):=by
 unfold iV;rw[h]
def hA (lo nx:Nat) (s:GateShape) (ms:List GateMend):Heap:=⟨[(1,oM ms),(0,oS s)],nx,lo⟩
theorem Gv (s:GateShape) (ms:List GateMend) (hm:ms.length≤12) (all:List Bs) (hN:all.length≤al) (hin:∀n∈all,∀y∈O s.kind ms n,y∈all) (lo:Nat):
 HSpec P 230 [.d (lS all),w8] (hA lo 4 s ms) (.tup [.d (lS (iV (O s.kind ms) all).1),.d (.bool (iV (O s.kind ms) all).2)]) (hA lo 4 s ms):=by
 refine HSpec.of_vc aP av [.tmp 4,.tmp 5] Tryz.func230 rfl rfl rfl rfl rfl (fun hok=>?_)
 have hs:=hN
 repeat refine ai ?_
 refine pK (all) (fun i (u:Wk)=>bN (cg (O s.kind ms) (all.length+1)) all BP=bN (cg (O s.kind ms) (all.length+1)) (all.drop i) u∧oo (O s.kind ms) all u) (fun i (u:Wk)=>[(7,.ptr 7 0),(8,.ptr 8 0),(13,.d (lS all)),(14,.d (.int .i64 (all.map eB).length)),(15,.d (.int .i64 i))]) (fun i (u:Wk)=>hW 4 s ms all u) (⟨rfl,zz _ _⟩) ?_ ⟨rfl,rfl,⟨rfl,rfl,rfl,rfl,rfl,trivial⟩,(by repeat' first|exact rfl|exact trivial|exact ar|refine aj ?_ ?_),(by repeat' first|exact rfl|exact trivial|refine aj ?_ ?_)⟩
 intro i u hi hr
 obtain ⟨hE,hI⟩:=hr
 obtain ⟨st1,out1⟩:=u
 cases out1 with
 |nil=>
  repeat refine ai ?_
  refine aj ?_ ?_<;>intro h1
  ·have hlt:i<all.length:=Y h1
   have hy:all[i]∈all:=List.getElem_mem hlt
   have hwl:white all ⟨st1,[]⟩<all.length+1:=Nat.lt_succ_of_le (la _ _)
   have hc:=kP s ms hm all all hN hin (all.length+1) 4 all[i] ⟨st1,[]⟩ hy hI hwl
   have hg:=gV hin (all.length+1) all[i] ⟨st1,[]⟩ hy hI hwl
   rw[ed hlt] at hE
   generalize hv:cg (O s.kind ms) (all.length+1) all[i] ⟨st1,[]⟩=v at hc hE hg
   obtain ⟨b3,st3,out3⟩:=v
   repeat refine ai ?_
   refine U (e:=eB) (xs:=all) (hlt) rfl ?_
   repeat refine ai ?_
   cases b3 with
   |false=>
    cases out3 with
    |nil=>
     rw[qt hE]
     refine Or.inr (Or.inl (Exists.intro _ (Exists.intro _ (aj (aj rfl hc) ?_))))
     repeat refine ai ?_
     refine ay ?_
     refine aj rfl (aj rfl ⟨rfl,rfl,?_,?_,?_⟩)
     all_goals (repeat' first|exact rfl|exact trivial|exact ar|refine aj ?_ ?_)
    |cons z zs=>
     rw[qt hE]
     refine Or.inr (Or.inl (Exists.intro _ (Exists.intro _ (aj (aj rfl hc) ?_))))
     repeat refine ai ?_
     refine ay ?_
     refine aj rfl (aj rfl ⟨rfl,rfl,?_,?_,?_⟩)
     all_goals (repeat' first|exact rfl|exact trivial|exact ar|refine aj ?_ ?_)
   |true=>
    have hok3:oo (O s.kind ms) all ⟨st3,out3⟩:=(hg.1 rfl).1
    cases out3 with
    |nil=>
     refine Or.inr (Or.inl (Exists.intro _ (Exists.intro _ (aj (aj rfl hc) ?_))))
     repeat refine ai ?_
     refine an ?_
     repeat refine ai ?_
     exact d6 ⟨st3,[]⟩ hlt hs ⟨hE,hok3⟩ fun hw=>by repeat' first|exact rfl|exact trivial|exact nd hw|exact ar|refine aj ?_ ?_
    |cons z zs=>
     refine Or.inr (Or.inl (Exists.intro _ (Exists.intro _ (aj (aj rfl hc) ?_))))
     repeat refine ai ?_
     refine an ?_
     repeat refine ai ?_
     exact d6 ⟨st3,(z::zs)⟩ hlt hs ⟨hE,hok3⟩ fun hw=>by repeat' first|exact rfl|exact trivial|exact nd hw|exact ar|refine aj ?_ ?_
  ·rw[fj (Z h1)] at hE
   rw[rG hE]
   refine aj rfl (aj rfl ⟨rfl,rfl,?_,?_,?_⟩)
   all_goals (repeat' first|exact rfl|exact trivial|exact ar|refine aj ?_ ?_)
 |cons y ys=>
  repeat refine ai ?_
  refine aj ?_ ?_<;>intro h1
  ·have hlt:i<all.length:=Y h1
   have hy:all[i]∈all:=List.getElem_mem hlt
   have hwl:white all ⟨st1,(y::ys)⟩<all.length+1:=Nat.lt_succ_of_le (la _ _)
   have hc:=kP s ms hm all all hN hin (all.length+1) 4 all[i] ⟨st1,(y::ys)⟩ hy hI hwl
   have hg:=gV hin (all.length+1) all[i] ⟨st1,(y::ys)⟩ hy hI hwl
   rw[ed hlt] at hE
   generalize hv:cg (O s.kind ms) (all.length+1) all[i] ⟨st1,(y::ys)⟩=v at hc hE hg
   obtain ⟨b3,st3,out3⟩:=v
   repeat refine ai ?_
   refine U (e:=eB) (xs:=all) (hlt) rfl ?_
   repeat refine ai ?_
   cases b3 with
   |false=>
    cases out3 with
    |nil=>
     rw[qt hE]
     refine Or.inr (Or.inl (Exists.intro _ (Exists.intro _ (aj (aj rfl hc) ?_))))
     repeat refine ai ?_
     refine ay ?_
     refine aj rfl (aj rfl ⟨rfl,rfl,?_,?_,?_⟩)
     all_goals (repeat' first|exact rfl|exact trivial|exact ar|refine aj ?_ ?_)
    |cons z zs=>
     rw[qt hE]
     refine Or.inr (Or.inl (Exists.intro _ (Exists.intro _ (aj (aj rfl hc) ?_))))
     repeat refine ai ?_
     refine ay ?_
     refine aj rfl (aj rfl ⟨rfl,rfl,?_,?_,?_⟩)
     all_goals (repeat' first|exact rfl|exact trivial|exact ar|refine aj ?_ ?_)
   |true=>
    have hok3:oo (O s.kind ms) all ⟨st3,out3⟩:=(hg.1 rfl).1
    cases out3 with
    |nil=>
     refine Or.inr (Or.inl (Exists.intro _ (Exists.intro _ (aj (aj rfl hc) ?_))))
     repeat refine ai ?_
     refine an ?_
     repeat refine ai ?_
     exact d6 ⟨st3,[]⟩ hlt hs ⟨hE,hok3⟩ fun hw=>by repeat' first|exact rfl|exact trivial|exact nd hw|exact ar|refine aj ?_ ?_
    |cons z zs=>
     refine Or.inr (Or.inl (Exists.intro _ (Exists.intro _ (aj (aj rfl hc) ?_))))
     repeat refine ai ?_
     refine an ?_
     repeat refine ai ?_
     exact d6 ⟨st3,(z::zs)⟩ hlt hs ⟨hE,hok3⟩ fun hw=>by repeat' first|exact rfl|exact trivial|exact nd hw|exact ar|refine aj ?_ ?_
  ·rw[fj (Z h1)] at hE
   rw[rG hE]
   refine aj rfl (aj rfl ⟨rfl,rfl,?_,?_,?_⟩)
   all_goals (repeat' first|exact rfl|exact trivial|exact ar|refine aj ?_ ?_)
theorem FR (s:GateShape) (ms:List GateMend) (lo:Nat):HSpec P 230 [.nils,w8] (hA lo 2 s ms) (.tup [.d (lS []),.d (.bool true)]) (hA lo 2 s ms):=by
 refine HSpec.of_vc aP av [.tmp 4,.tmp 5] Tryz.func230 rfl rfl rfl rfl rfl (fun hok=>?_)
 have hs:([]:List Bs).length≤al:=Nat.zero_le _
 repeat refine ai ?_
 refine eb (([]:List Bs)) (fun i=>True) (fun i=>[(7,.ptr 5 0),(13,.nils),(14,.d (.int .i64 0)),(15,.d (.int .i64 i))]) (fun i=>⟨[(5,.cells 101 [.nils]),(1,oM ms),(0,oS s)],7,2⟩) (trivial) ?_
 intro i hi hr
 repeat refine ai ?_
 refine aj ?_ ?_<;>intro h1
 ·exact absurd (of_decide_eq_true h1) (by omega)
 ·refine aj rfl (aj rfl ⟨rfl,rfl,?_,?_,?_⟩)
  all_goals (repeat' first|exact rfl|exact trivial|refine aj ?_ ?_)
theorem wV (s:GateShape) (ms:List GateMend) (hm:ms.length≤12) (hin:∀n∈bt s,∀y∈O s.kind ms n,y∈bt s):
 Spec P 212 [st s.e,.d (ag ms)] (.tup [.d (lS (iV (O s.kind ms) (bt s)).1),.d (.bool (iV (O s.kind ms) (bt s)).2)]):=by
 refine Spec.of_vc aP av [.tmp 4,.tmp 5] Tryz.func212 rfl rfl rfl rfl (fun hok=>?_)
 have hs:s.fields.length≤al:=by
  have:=hok.1
  simp only[st,AV.ok,GateShape.e,List.map,ex] at this
  exact au this.2.1.1
 repeat refine ai ?_
 refine pK (s.fields) (fun i (A:List Bs)=>A=(s.fields.take i).map (·.name)) (fun i (A:List Bs)=>[(2,.ptr 0 0),(3,.ptr 1 0),(6,Dl 3 A),(10,.d (ab s.fields)),(11,.d (.int .i64 (s.fields.map GateField.e).length)),(12,.d (.int .i64 i))]) (fun i (A:List Bs)=>⟨(A9 [(1,oM ms),(0,oS s)] 2 3 A).objs,(A9 [(1,oM ms),(0,oS s)] 2 3 A).nx,0⟩) (rfl) ?_
 intro i A hi hr
 have hA:A.length≤s.fields.length:=by rw[hr,List.length_map,List.length_take];omega
 have hA2:A.length≤i:=by rw[hr,List.length_map,List.length_take];omega
 repeat refine ai ?_
 refine aj ?_ ?_<;>intro h1
 ·have hlt:i<s.fields.length:=Y h1
  have hstep:(s.fields.take (i+1)).map (·.name)=A++[s.fields[i].name]:=by
   rw[List.take_succ_eq_append_getElem hlt,List.map_append,←hr];rfl
  repeat refine ai ?_
  refine U (e:=GateField.e) (xs:=s.fields) (hlt) rfl ?_
  repeat refine ai ?_
  cases A with
  |nil=>
   repeat refine ai ?_
   refine aj (fun r hr=>by rw[List.mem_singleton.1 hr];rfl) ?_
   repeat refine ai ?_
   refine aj (by simp only[List.length_nil,List.length_cons,List.length_map] at*;unfold al;omega) ?_
   repeat refine ai ?_
   exact d6 ([s.fields[i].name]) hlt hs (by rw[hstep];rfl)
  |cons a tl=>
   repeat refine ai ?_
   refine aj (fun r hr=>by rw[List.mem_singleton.1 hr];rfl) ?_
   repeat refine ai ?_
   refine aj (by simp only[List.length_append,List.length_nil,List.length_cons,List.length_map] at*;unfold al at*;omega) ?_
   repeat refine ai ?_
   exact d6 (a::(tl++[s.fields[i].name])) hlt hs (by rw[hstep];rfl) fun hw=>by repeat' first|exact rfl|exact trivial|exact nd hw|exact bJ _ _ _ _ _|refine aj ?_ ?_
 ·have ha:A=bt s:=by rw[hr,List.take_of_length_le (Z h1)];rfl
  rw[←ha] at hin ⊢
  cases A with
  |nil=>
   repeat refine ai ?_
   refine oh (FR s ms _) ?_
   rfl
  |cons a tl=>
   repeat refine ai ?_
   refine op (Gv s ms hm (a::tl) (Nat.le_trans hA hs) hin _) ?_
   rfl
def rH (s:GateShape) (ms:List GateMend):Bool:=((nk s ms).length:Int)==(s.fields.length:Int)
theorem mq {xs:List GateShape} {ms:List GateMend} (h:aQ xs=true) (hm:ms.all (bL xs)=true) {s:GateShape} (hs:s∈xs):(iV (O s.kind ms) (bt s)).2=rH s ms:=by
 rw[A8,xw (nf h hs) (fun n _=>kB h hm hs n)]
 have e:(bt s).length=s.fields.length:=by rw[bt,List.length_map]
 unfold rH nk gr
 rw[e,Bool.eq_iff_iff,decide_eq_true_eq,beq_iff_eq]
 omega
theorem Cv {xs:List GateShape} {m:GateMend} {j:Nat} (hj:j<xs.length) (e:dW (·.kind==m.kind) xs=(j:Int)):bL xs m=i6 xs[j].fields m:=by
 unfold bL
 rw[e,Int.toNat_natCast,List.getElem?_eq_getElem hj]
 have:decide ((j:Int)≥0)=true:=decide_eq_true (by omega)
 simp only[this,Bool.true_and]
theorem yI {xs:List GateShape} {m:GateMend} (h:decide (dW (·.kind==m.kind) xs<0)=true):bL xs m=false:=by
 have h':decide (dW (·.kind==m.kind) xs≥0)=false:=decide_eq_false (by have:=of_decide_eq_true h;omega)
 unfold bL
 split<;>simp only[h',Bool.false_and]
theorem gm (xs:List GateShape) (ms:List GateMend):Spec P 181 [.d (aa xs),.d (ag ms)] (.d (.bool (bE xs ms))):=by
 refine Spec.of_vc aP av [.tmp 4] Tryz.func181 rfl rfl rfl rfl (fun hok=>?_)
 have hs:xs.length≤al:=au hok.1.1
 have hsm:ms.length≤al:=au hok.2.1.1
 repeat refine ai ?_
 refine oc (fG _) ?_
 repeat refine ai ?_
 refine aj ?_ ?_<;>intro h0
 ·simp only[Bool.not_eq_true',Bool.not_eq_false'] at h0
  repeat refine ai ?_
  refine aj ?_ ?_<;>intro h1
  ·rw[List.length_map] at h1
   refine bd ?_
   simp only[bE,h1,bl]
  ·rw[List.length_map] at h1
   have hm12:ms.length≤12:=by have:=of_decide_eq_false h1;omega
   have e:bE xs ms=(ms.all (bL xs)&&xs.all fun s=>rH s ms):=by simp only[bE,h0,h1,bl];rfl
   rw[e]
   repeat refine ai ?_
   refine eb (ms) (fun i=>ms.all (bL xs)=(ms.drop i).all (bL xs)) (fun i=>[(0,.d (aa xs)),(1,.d (ag ms)),(20,.d (ag ms)),(21,.d (.int .i64 (ms.map GateMend.e).length)),(22,.d (.int .i64 i))]) (fun i=>hp0) (rfl) ?_
   intro i hi hr
   repeat refine ai ?_
   refine aj ?_ ?_<;>intro h2
   ·have hlt:i<ms.length:=Y h2
    rw[aK hlt] at hr
    repeat refine ai ?_
    refine U (e:=GateMend.e) (xs:=ms) (hlt) rfl ?_
    repeat refine ai ?_
    refine oc (ja _ _) ?_
    repeat refine ai ?_
    refine ak ?_
    repeat refine ai ?_
    refine aj ?_ ?_<;>intro h3
    ·obtain ⟨j,hj,ej,_⟩:=cx (p:=fun s:GateShape=>s.kind==ms[i].kind) (xs:=xs) (decide_eq_true (by have:=of_decide_eq_false h3;omega))
     repeat refine ai ?_
     refine aI (e:=GateShape.e) (xs:=xs) (hj) (ej) rfl ?_
     repeat refine ai ?_
     refine oc (DZ _ _) ?_
     rw[Cv hj ej] at hr
     repeat refine ai ?_
     refine aj ?_ ?_<;>intro h4
     ·change (!i6 xs[j].fields ms[i])=true at h4
      simp only[Bool.not_eq_true',Bool.not_eq_false'] at h4
      refine bd ?_
      rw[hr,h4];rfl
     ·change (!i6 xs[j].fields ms[i])=false at h4
      simp only[Bool.not_eq_true',Bool.not_eq_false'] at h4
      repeat refine ai ?_
      exact bU hlt hsm (by rw[hr,h4];rfl)
    ·repeat refine ai ?_
     refine ay ?_
     refine bd ?_
     rw[hr,yI h3];rfl
   ·rw[cy (Z h2)] at hr
    rw[hr,Bool.true_and]
    repeat refine ai ?_
    refine eb (xs) (fun i=>(xs.all fun s=>rH s ms)=((xs.drop i).all fun s=>rH s ms)) (fun i=>[(0,.d (aa xs)),(1,.d (ag ms)),(43,.d (aa xs)),(44,.d (.int .i64 (xs.map GateShape.e).length)),(45,.d (.int .i64 i))]) (fun i=>hp0) (rfl) ?_
    intro i hi hr
    repeat refine ai ?_
    refine aj ?_ ?_<;>intro h5
    ·have hlt:i<xs.length:=Y h5
     rw[aK hlt] at hr
     repeat refine ai ?_
     refine U (e:=GateShape.e) (xs:=xs) (hlt) rfl ?_
     repeat refine ai ?_
     refine oc (wV xs[i] ms hm12 (fun n _=>kB h0 (by assumption) (List.getElem_mem hlt) n)) ?_
     rw[mq h0 (by assumption) (List.getElem_mem hlt)]
     repeat refine ai ?_
     refine aj ?_ ?_<;>intro h6
     ·simp only[Bool.not_eq_true',Bool.not_eq_false'] at h6
      refine bd ?_
      rw[hr,h6];rfl
     ·simp only[Bool.not_eq_true',Bool.not_eq_false'] at h6
      repeat refine ai ?_
      exact bU hlt hs (by rw[hr,h6];rfl)
    ·refine bd ?_
     rw[hr,cy (Z h5)]
 ·simp only[Bool.not_eq_true',Bool.not_eq_false'] at h0
  refine bd ?_
  simp only[bE,h0,Bool.false_and]
end Go.Vc
end
section
namespace Go.Vc
def cO (fs:List GateField) (vals:List Bs) (n:Bs):Bs:=match vals[(dW (·.name==n) fs).toNat]? with|some v=>v|none=>[]
def kX (e:Bs→Bs) (k n:Bs) (m:GateMend):Bool:=(m.kind==k&&m.field==n)&&((m.when_==[]||e m.when_==m.is_)&&(m.from_==[]|| !(e m.from_==[])))
def lP (e:Bs→Bs) (m:GateMend):Bs:=bif m.from_==[] then m.put else e m.from_
def pk (e:Bs→Bs) (k n d:Bs):List GateMend→Bs
 |[]=>d
 |m::ms=>bif kX e k n m then lP e m else pk e k n d ms
def sW (fs:List GateField) (ms:List GateMend) (k:Bs) (vals:List Bs) (n:Bs):Bs:=pk (cO fs vals) k n (cO fs vals n) ms
def bD (fs:List GateField) (ms:List GateMend) (k:Bs) (vals:List Bs) (n:Bs):List Bs:=vals.set (dW (·.name==n) fs).toNat (sW fs ms k vals n)
def bY (fs:List GateField) (ms:List GateMend) (k:Bs) (row:List Bs) (vals:List Bs):List Bs:=row.foldl (bD fs ms k) vals
theorem mM {e1 e2:Bs→Bs} {k n d:Bs}:∀{ms:List GateMend},(∀y∈O k ms n,e1 y=e2 y)→pk e1 k n d ms=pk e2 k n d ms
 |[],_=>rfl
 |m::ms,h=>by
  have ih:=mM (e1:=e1) (e2:=e2) (k:=k) (n:=n) (d:=d) (ms:=ms) (fun y hy=>h y (by simp only[O,List.map_cons,List.flatten_cons,List.mem_append];exact .inr hy))
  simp only[pk,ih]
  cases hkf:(m.kind==k&&m.field==n) with
  |false=>simp only[kX,hkf,Bool.false_and,cond_false]
  |true=>
   have hr:∀y∈j9 m.when_++j9 m.from_,e1 y=e2 y:=fun y hy=>h y (by simp only[O,List.map_cons,List.flatten_cons,List.mem_append,Bb,hkf,cond_true];exact .inl (List.mem_append.1 hy))
   have hw:(m.when_==[])=true∨e1 m.when_=e2 m.when_:=by
    cases hq:m.when_==[] with
    |true=>exact .inl rfl
    |false=>exact .inr (hr _ (List.mem_append.2 (.inl (by simp[j9,hq]))))
   have hf:(m.from_==[])=true∨e1 m.from_=e2 m.from_:=by
    cases hq:m.from_==[] with
    |true=>exact .inl rfl
    |false=>exact .inr (hr _ (List.mem_append.2 (.inr (by simp[j9,hq]))))
   have hc:kX e1 k n m=kX e2 k n m:=by
    simp only[kX]
    rcases hw with hw|hw<;>rcases hf with hf|hf<;>simp only[hw,hf,Bool.true_or]
   have hg:lP e1 m=lP e2 m:=by
    simp only[lP]
    rcases hf with hf|hf<;>simp only[hf,cond_true]
   rw[hc,hg]
theorem gw {fs:List GateField} {n:Bs} (h:n∈fs.map (·.name)):∃j:Nat,∃h:j<fs.length,dW (·.name==n) fs=(j:Int)∧fs[j].name=n:=by
 rcases ig (p:=fun f:GateField=>f.name==n) fs 0 with ⟨h1,h2⟩|⟨j,hj,h1,h2,_⟩
 ·obtain ⟨f,hf,rfl⟩:=List.mem_map.1 h
  have:=List.any_eq_false.1 h2 f hf
  simp at this
 ·exact ⟨j,hj,by unfold dW;rw[h1,Nat.zero_add],beq_iff_eq.1 h2⟩
theorem DF {fs:List GateField} (hn:(fs.map (·.name)).Nodup) {i j:Nat} (hi:i<fs.length) (hj:j<fs.length) (h:fs[i].name=fs[j].name):i=j:=by
 have e:(fs.map GateField.name)[i]'(by simpa using hi)=(fs.map GateField.name)[j]'(by simpa using hj):=by simpa using h
 exact (List.getElem_inj hn).1 e
section
variable {fs:List GateField} {ms:List GateMend} {k:Bs}
theorem gq {vals:List Bs} {n:Bs} {j:Nat} (e:dW (·.name==n) fs=(j:Int)) (h:j<vals.length):cO fs vals n=vals[j]:=by
 unfold cO
 rw[e,Int.toNat_natCast,List.getElem?_eq_getElem h]
theorem oB {vals:List Bs} (hl:vals.length=fs.length) {n y v:Bs} (hn:n∈fs.map (·.name)) (hy:y∈fs.map (·.name)):cO fs (vals.set (dW (·.name==n) fs).toNat v) y=if y=n then v else cO fs vals y:=by
 obtain ⟨i,hi,e1,e2⟩:=gw hn
 obtain ⟨j,hj,e3,e4⟩:=gw hy
 rw[e1,Int.toNat_natCast,gq e3 (by rw[List.length_set];omega),List.getElem_set]
 by_cases h:i=j
 ·subst h
  rw[if_pos rfl,if_pos (by rw[←e4,←e2])]
 ·rw[if_neg h,gq e3 (by omega),if_neg]
  intro e
  subst e
  rw[e1] at e3
  exact h (by omega)
theorem jG (vals:List Bs) (n:Bs):(bD fs ms k vals n).length=vals.length:=List.length_set ..
theorem gX:∀(row:List Bs) (vals:List Bs),(bY fs ms k row vals).length=vals.length
 |[],_=>rfl
 |n::row,vals=>by
  show (bY fs ms k row (bD fs ms k vals n)).length=_
  rw[gX row,jG]
theorem iy:∀{row:List Bs} {vals:List Bs},vals.length=fs.length→(∀x∈row,x∈fs.map (·.name))→∀{y:Bs},y∈fs.map (·.name)→y ∉ row→cO fs (bY fs ms k row vals) y=cO fs vals y
 |[],_,_,_,_,_,_=>rfl
 |n::row,vals,hl,hr,y,hy,hne=>by
  show cO fs (bY fs ms k row (bD fs ms k vals n)) y=_
  rw[iy (by rw[jG];exact hl) (fun x hx=>hr x (List.mem_cons_of_mem _ hx)) hy (fun h=>hne (List.mem_cons_of_mem _ h))]
  unfold bD
  rw[oB hl (hr n List.mem_cons_self) hy,if_neg (fun e:y=n=>hne (e▸List.mem_cons_self))]
theorem uU (a b:List Bs) (vals:List Bs):bY fs ms k (a++b) vals=bY fs ms k b (bY fs ms k a vals):=by
 unfold bY;exact List.foldl_append
theorem yH {row:List Bs} (g:uo (O k ms) (fs.map (·.name)) row) {vals:List Bs} (hl:vals.length=fs.length) {n:Bs} (hn:n∈row):
 cO fs (bY fs ms k row vals) n=pk (cO fs (bY fs ms k row vals)) k n (cO fs vals n) ms:=by
 obtain ⟨pre,post,rfl⟩:=List.append_of_mem hn
 have hnd:=g.nd
 rw[List.nodup_append] at hnd
 obtain ⟨_,hpost,hdis⟩:=hnd
 rw[List.nodup_cons] at hpost
 have hpre:n ∉ pre:=fun h=>hdis n h n List.mem_cons_self rfl
 have hsub:∀x∈pre++n::post,x∈fs.map (·.name):=g.sub
 have hl1:(bY fs ms k pre vals).length=fs.length:=by rw[gX,hl]
 have hn':=hsub n (by simp)
 have e0:bY fs ms k (pre++n::post) vals=bY fs ms k post (bD fs ms k (bY fs ms k pre vals) n):=by rw[uU];rfl
 have hl2:(bD fs ms k (bY fs ms k pre vals) n).length=fs.length:=by rw[jG,hl1]
 have hps:∀x∈post,x∈fs.map (·.name):=fun x hx=>hsub x (by simp[hx])
 have e1:cO fs (bY fs ms k (pre++n::post) vals) n=sW fs ms k (bY fs ms k pre vals) n:=by
  rw[e0,iy hl2 hps hn' hpost.1]
  unfold bD
  rw[oB hl1 hn' hn',if_pos rfl]
 rw[e1]
 unfold sW
 have e2:cO fs (bY fs ms k pre vals) n=cO fs vals n:=iy hl (fun x hx=>hsub x (by simp[hx])) hn' hpre
 rw[e2]
 refine mM fun y hy=>?_
 have hb:=g.beh n (by simp) y hy
 have hni:(pre++n::post).idxOf n=pre.length:=by rw[List.idxOf_append,if_neg hpre];simp
 have hyp:y∈pre:=by
  rw[hni] at hb
  rw[List.idxOf_append] at hb
  split at hb
  ·assumption
  ·omega
 have hy':=hsub y (by simp[hyp])
 rw[e0,iy hl2 hps hy' (fun h=>hdis y hyp y (List.mem_cons_of_mem _ h) rfl)]
 unfold bD
 rw[oB hl1 hn' hy',if_neg (fun e:y=n=>hpre (e▸hyp))]
theorem yG (hnd:(fs.map (·.name)).Nodup) {r1 r2:List Bs} (g1:uo (O k ms) (fs.map (·.name)) r1) (g2:uo (O k ms) (fs.map (·.name)) r2) (h1:∀n∈fs.map (·.name),n∈r1) (h2:∀n∈fs.map (·.name),n∈r2)
 {vals:List Bs} (hl:vals.length=fs.length):bY fs ms k r1 vals=bY fs ms k r2 vals:=by
 have key:∀(i:Nat) (n:Bs),n∈fs.map (·.name)→r1.idxOf n=i→cO fs (bY fs ms k r1 vals) n=cO fs (bY fs ms k r2 vals) n:=by
  intro i
  induction i using Nat.strongRecOn with
  |_ i ih=>
   intro n hn hi
   rw[yH g1 hl (h1 n hn),yH g2 hl (h2 n hn)]
   refine mM fun y hy=>?_
   have hb:=g1.beh n (h1 n hn) y hy
   have hyr:y∈r1:=List.idxOf_lt_length_iff.1 (by have:=List.idxOf_lt_length_of_mem (h1 n hn);omega)
   exact ih _ (hi▸hb) y (g1.sub y hyr) rfl
 have l1:(bY fs ms k r1 vals).length=fs.length:=by rw[gX,hl]
 have l2:(bY fs ms k r2 vals).length=fs.length:=by rw[gX,hl]
 apply List.ext_getElem (by rw[l1,l2])
 intro j hj1 hj2
 have hj:j<fs.length:=by omega
 have hm:fs[j].name∈fs.map (·.name):=List.mem_map.2 ⟨_,List.getElem_mem hj,rfl⟩
 obtain ⟨j',hj',e1,e2⟩:=gw hm
 have:=DF hnd hj' hj e2
 subst this
 have hk:=key _ _ hm rfl
 rw[gq e1 hj1,gq e1 hj2] at hk
 exact hk
end
theorem uJ (s:GateShape) (ms:List GateMend):uo (O s.kind ms) (bt s) (nk s ms):=gy _ _ _
theorem D4:∀{ns row:List Bs},ns.Nodup→row.Nodup→(∀x∈row,x∈ns)→row.length=ns.length→∀n∈ns,n∈row:=by
 intro ns row hn hr hs hl n hm
 refine Classical.byContradiction fun h=>?_
 have:(n::row).length≤ns.length:=fb (List.nodup_cons.2 ⟨h,hr⟩) (fun x hx=>by
  rcases List.mem_cons.1 hx with e|e
  ·exact e▸hm
  ·exact hs x e)
 simp only[List.length_cons] at this
 omega
theorem uI {rd:Bs→List Bs} {ns:List Bs} (hin:∀n∈ns,∀y∈rd n,y∈ns) (h:(iV rd ns).2=true):uo rd ns (iV rd ns).1∧∀n∈ns,n∈(iV rd ns).1:=by
 have g:=ji (rd:=rd) (ns:=ns) (w:=cg rd (ns.length+1)) (n:=ns.length) ns BP
  (fun y hy s hs hl=>gV hin _ y s hy hs (by omega)) (zz rd ns) (la _ _)
 rw[A8] at h
 obtain ⟨g1,g2,g3⟩:=g.1 h
 cases e:bN (cg rd (ns.length+1)) ns BP with
 |mk b u=>
  rw[e] at h g1 g2 g3
  simp only at h
  subst h
  rw[rG e]
  exact ⟨⟨g1.nd,g1.sub,g1.beh⟩,fun n hn=>(g1.two n).1 (g3 n hn)⟩
end Go.Vc
end
section
namespace Go.Vc
open Go.Proofs
set_option maxRecDepth 100000
theorem Dv {fs:List GateField} {vals:List Bs} (hl:vals.length=fs.length) (h0:0<fs.length) (y:Bs) (c:Prop) (hc:c→y∈fs.map (·.name)):∃j,∃hj:j<vals.length,c→(dW (·.name==y) fs=(j:Int)∧cO fs vals y=vals[j]):=by
 by_cases h:c
 ·obtain ⟨j,hj,e,_⟩:=gw (hc h)
  exact ⟨j,by omega,fun _=>⟨e,gq e (by omega)⟩⟩
 ·exact ⟨0,by omega,fun g=>absurd g h⟩
def EB (fs:List GateField) (k:Bs) (m:GateMend):Prop:=(m.kind==k)=true→((m.when_==[])=false→m.when_∈fs.map (·.name))∧((m.from_==[])=false→m.from_∈fs.map (·.name))
theorem vq {e:Bs→Bs} {k n d:Bs} {ms:List GateMend} {i:Nat} (h:i<ms.length):pk e k n d (ms.drop i)=bif kX e k n ms[i] then lP e ms[i] else pk e k n d (ms.drop (i+1)):=by
 rw[List.drop_eq_getElem_cons h];rfl
theorem zn {e:Bs→Bs} {k n d:Bs} {ms:List GateMend} {i:Nat} (h:ms.length≤i):pk e k n d (ms.drop i)=d:=by
 rw[List.drop_of_length_le h];rfl
set_option maxHeartbeats 4000000 in
theorem xU (fs:List GateField) (ms:List GateMend) (o:GateObject) (n:Bs) (hl:o.values.length=fs.length) (hn:n∈fs.map (·.name)) (hm:∀m∈ms,EB fs o.kind m):
 Spec P 224 [.d (ab fs),.d (ag ms),st o.e,.d (.str n)] (.d (.str (sW fs ms o.kind o.values n))):=by
 refine Spec.of_vc aP av [.tmp 8] Tryz.func224 rfl rfl rfl rfl (fun hok=>?_)
 have hs:ms.length≤al:=au hok.2.1.1
 obtain ⟨jn,hjn,en,_⟩:=gw hn
 repeat refine ai ?_
 refine eb (ms) (fun i=>sW fs ms o.kind o.values n=pk (cO fs o.values) o.kind n (cO fs o.values n) (ms.drop i)) (fun i=>[(0,.d (ab fs)),(1,.d (ag ms)),(3,.d (.str n)),(6,.ptr 0 0),(9,.d (.int .i64 i))]) (fun i=>⟨[(0,.cells 103 (o.e.map .d))],1,0⟩) (rfl) ?_
 intro i hi hr
 repeat refine ai ?_
 refine aj ?_ ?_<;>intro h1
 ·have hlt:i<ms.length:=Y h1
  rw[vq hlt] at hr
  have hmi:=hm ms[i] (List.getElem_mem hlt)
  obtain ⟨jw,hjw,ew⟩:=Dv hl (by omega) ms[i].when_ ((ms[i].kind==o.kind)=true∧(ms[i].when_==[])=false) (fun h=>(hmi h.1).1 h.2)
  obtain ⟨jf,hjf,ef⟩:=Dv hl (by omega) ms[i].from_ ((ms[i].kind==o.kind)=true∧(ms[i].from_==[])=false) (fun h=>(hmi h.1).2 h.2)
  generalize hd:pk (cO fs o.values) o.kind n (cO fs o.values n) (ms.drop (i+1))=rest at hr
  repeat refine ai ?_
  refine U (e:=GateMend.e) (xs:=ms) (hlt) rfl ?_
  repeat refine ai ?_
  refine ak ?_
  repeat refine ai ?_
  repeat' first
   |refine ai ?_
   |(refine aj ?_ ?_<;>intro h)
   |refine oc (iT _ _) ?_
   |refine ak ?_
   |refine aI (e:=eB) (xs:=o.values) hjw (ew (by simp_all)).1 rfl ?_
   |refine aI (e:=eB) (xs:=o.values) hjf (ef (by simp_all)).1 rfl ?_
  all_goals (simp only[cond_false,cond_true,Bool.not_eq_true',Bool.not_eq_false',reduceCtorEq] at*)
  all_goals (try have ew':=(ew ⟨by assumption,by assumption⟩).2)
  all_goals (try have ef':=(ef ⟨by assumption,by assumption⟩).2)
  all_goals first
   |(refine sd ?_;rw[hr];simp only[kX,lP, *,cond_true,cond_false,bl];done)
   |(have hq:sW fs ms o.kind o.values n=rest:=(by rw[hr];simp only[kX,lP, *,cond_true,cond_false,bl]);exact bU hlt hs (hq.trans hd.symm))
 ·repeat refine ai ?_
  refine ak ?_
  repeat refine ai ?_
  refine oc (iT _ _) ?_
  repeat refine ai ?_
  refine aI (e:=eB) (xs:=o.values) ((show jn<o.values.length by omega)) (en) rfl ?_
  repeat refine ai ?_
  refine sd ?_
  rw[hr,zn (Z h1),gq en (by omega)]
theorem uV {xs:List GateShape} {ms:List GateMend} (h:aQ xs=true) (hm:ms.all (bL xs)=true) {s:GateShape} (hs:s∈xs):∀m∈ms,EB s.fields s.kind m:=by
 intro m hmm hk
 have hf:=Bo h hs (List.all_eq_true.1 hm m hmm) (beq_iff_eq.1 hk)
 unfold i6 at hf
 simp only[Bool.and_eq_true,Bool.or_eq_true] at hf
 obtain ⟨⟨_,h2,h3⟩,_⟩:=hf
 refine ⟨fun g=>?_,fun g=>?_⟩
 ·rcases h2 with h2|h2
  ·rw[g] at h2;cases h2
  ·exact nu h2
 ·rcases h3 with h3|h3
  ·rw[g] at h3;cases h3
  ·exact nu h3
def eI (xs:List GateShape) (ms:List GateMend) (o:GateObject):GateObject:=match xs[(dW (·.kind==o.kind) xs).toNat]? with
 |some s=>bif (am xs o.kind o.values.length).2 then {o with values:=bY s.fields ms o.kind (nk s ms) o.values} else o
 |none=>o
theorem r7 {xs:List GateShape} {ms:List GateMend} {o:GateObject} (h:(am xs o.kind o.values.length).2=false):eI xs ms o=o:=by
 unfold eI
 split
 ·rw[h];rfl
 ·rfl
theorem r8 {xs:List GateShape} {ms:List GateMend} {o:GateObject} {j:Nat} (hj:j<xs.length) (e:dW (·.kind==o.kind) xs=(j:Int)) (h:(am xs o.kind o.values.length).2=true):eI xs ms o={o with values:=bY xs[j].fields ms o.kind (nk xs[j] ms) o.values}:=by
 unfold eI
 rw[e,Int.toNat_natCast,List.getElem?_eq_getElem hj,h]
 rfl
theorem r9 {fs:List GateField} {ms:List GateMend} {k:Bs} {row:List Bs} {vals:List Bs} {i:Nat} (h:i<row.length):bY fs ms k (row.take (i+1)) vals=bD fs ms k (bY fs ms k (row.take i) vals) row[i]:=by
 rw[List.take_succ_eq_append_getElem h,uU];rfl
set_option maxHeartbeats 1000000 in
theorem zP (xs:List GateShape) (ms:List GateMend) (o:GateObject) (hx:aQ xs=true) (hm:ms.all (bL xs)=true):
 Spec P 206 [.d (aa xs),.d (ag ms),st o.e] (st (eI xs ms o).e):=by
 refine Spec.of_vc aP av [.cell 6 103] Tryz.func206 rfl rfl rfl rfl (fun hok=>?_)
 have hb:=iH (o:=o) ⟨hok.2.2.1,trivial⟩
 repeat refine ai ?_
 refine ow (uF o hb.1 hb.2) ?_
 repeat refine ai ?_
 refine oc (fQ _ _) ?_
 repeat refine ai ?_
 refine aj ?_ ?_<;>intro h0
 ·simp only[Bool.not_eq_true'] at h0
  rw[r7 h0]
  repeat refine ai ?_
  exact rfl
 ·simp only[Bool.not_eq_false'] at h0
  rcases dQ (xs:=xs) (k:=o.kind) (n:=o.values.length) with ⟨h1,_⟩|⟨j,hj,ej,ef,hl,hk⟩
  ·rw[h1] at h0;cases h0
  rw[r8 hj ej h0]
  repeat refine ai ?_
  refine oc (iU _ _) ?_
  repeat refine ai ?_
  refine aI (e:=GateShape.e) (xs:=xs) (hj) (ej) rfl ?_
  repeat refine ai ?_
  refine oc (A3 xs[j] ms) ?_
  have g:=uJ xs[j] ms
  have hmi:=uV hx hm (List.getElem_mem hj)
  rw[hk] at hmi
  have hfs:(am xs o.kind o.values.length).1=xs[j].fields:=by rw[ef]
  rw[hfs]
  have hrl:(nk xs[j] ms).length≤xs[j].fields.length:=FS _ _ _
  have hsub:∀x∈nk xs[j] ms,x∈xs[j].fields.map (·.name):=g.sub
  generalize hfe:xs[j].fields=fs at*
  generalize nk xs[j] ms=row at*
  repeat refine ai ?_
  refine pK (row) (fun i (W:List Bs)=>W=bY fs ms o.kind (row.take i) o.values) (fun i (W:List Bs)=>[(1,.d (ag ms)),(6,.ptr 1 0),(7,.ptr 6 0),(8,.d (ab fs)),(10,.d (lS row)),(11,.d (.int .i64 i))]) (fun i (W:List Bs)=>⟨[(6,.cells 103 [.d (.str o.kind),.d (.str o.name),.d (.str o.team),.own 4,.d (.bool o.ending),.own 5,.d (.int .i64 o.version)]),(4,.row 9 1 (W.map eB)),(5,.row 9 1 (o.holds.map eB)),(1,.cells 103 [.d (.str []),.d (.str []),.d (.str []),.nils,.d (.bool false),.nils,.d (.int .i64 0)])],7,0⟩) (rfl) ?_
  intro i W hi hr
  have hs:row.length≤al:=by omega
  have hW:W.length=fs.length:=by rw[hr,gX,hl]
  repeat refine ai ?_
  refine aj ?_ ?_<;>intro h1
  ·have hlt:i<row.length:=Y h1
   have hin:=hsub _ (List.getElem_mem hlt)
   obtain ⟨p,hp,ep,_⟩:=gw hin
   have hst:bY fs ms o.kind (row.take (i+1)) o.values=bD fs ms o.kind W row[i]:=by rw[r9 hlt,←hr]
   repeat refine ai ?_
   refine GB ?_
   repeat refine ai ?_
   refine U (e:=eB) (xs:=row) (hlt) rfl ?_
   repeat refine ai ?_
   refine oc (iT _ _) ?_
   repeat refine ai ?_
   refine U (e:=eB) (xs:=row) (hlt) rfl ?_
   repeat refine ai ?_
   refine oc (xU fs ms {o with values:=W} row[i] hW hin hmi) ?_
   repeat refine ai ?_
   refine aj (by rw[ep];exact Int.natCast_nonneg _) (aj (by rw[ep,List.length_map];omega) ?_)
   repeat refine ai ?_
   have hpt:(dW (·.name==row[i]) fs).toNat<W.length:=by rw[ep];omega
   refine ⟨eB W[(dW (·.name==row[i]) fs).toNat],by rw[List.getElem?_map,List.getElem?_eq_getElem hpt];rfl,Nat.le_refl _,?_⟩
   repeat refine ai ?_
   exact d6 (bD fs ms o.kind W row[i]) hlt hs (by rw[hst]) fun hw=>by repeat' first|exact rfl|exact trivial|exact nd hw|exact rF hpt|refine aj ?_ ?_
  ·rw[List.take_of_length_le (Z h1)] at hr
   rw[←hr]
   repeat refine ai ?_
   exact rfl
end Go.Vc
end
section
namespace Go.Vc
open Go.Proofs
set_option maxRecDepth 100000
theorem rz (xs:List GateShape) (ms:List GateMend) (o:GateObject) (hx:aQ xs=true) (hm:ms.all (bL xs)=true):
 Spec P 174 [.d (aa xs),.d (ag ms),st o.e] (st (eI xs ms (gc xs o)).e):=by
 refine Spec.of_vc aP av [.cell 6 103] Tryz.func174 rfl rfl rfl rfl (fun hok=>?_)
 repeat refine ai ?_
 refine oc (Df _ _) ?_
 repeat refine ai ?_
 refine oc (zP xs ms (gc xs o) hx hm) ?_
 repeat refine ai ?_
 exact rfl
theorem vl (fs:List GateField) (o:GateObject) (n:Bs) (hl:o.values.length=fs.length) (hn:n∈fs.map (·.name)):Spec P 233 [.d (.str n),.at_ o.e,.at_ [ab fs]] (.d (.str (cO fs o.values n))):=by
 refine Spec.of_vc aP av [.tmp 4] Tryz.func233 rfl rfl rfl rfl (fun hok=>?_)
 obtain ⟨j,hj,e,_⟩:=gw hn
 repeat refine ai ?_
 refine ak ?_
 repeat refine ai ?_
 refine oc (lu _ _) ?_
 repeat refine ai ?_
 refine aI (e:=eB) (xs:=o.values) ((show j<o.values.length by omega)) (e) rfl ?_
 repeat refine ai ?_
 refine sd ?_
 rw[gq e (by omega)]
theorem ot {b:Bool} (h:(!b)=false):b=true:=by simpa using h
theorem rV {b:Bool} (h:(!b)=true):b=false:=by simpa using h
theorem fq {xs:List GateShape} {ms:List GateMend} (h:bE xs ms=true):aQ xs=true∧ms.all (bL xs)=true∧ms.length≤12∧∀s∈xs,rH s ms=true:=by
 unfold bE at h
 simp only[Bool.and_eq_true,Bool.not_eq_true',decide_eq_false_iff_not] at h
 obtain ⟨h1,h2,h3,h4⟩:=h
 exact ⟨h1,h3,by omega,fun s hs=>List.all_eq_true.1 h4 s hs⟩
theorem Dj {xs:List GateShape} {ms:List GateMend} (h:bE xs ms=true) {s:GateShape} (hs:s∈xs) {vals:List Bs} (hl:vals.length=s.fields.length):
 bY s.fields ms s.kind (iV (O s.kind ms) (bt s)).1 vals=bY s.fields ms s.kind (nk s ms) vals:=by
 obtain ⟨h1,h2,h3,h4⟩:=fq h
 have hr:=h4 s hs
 have hnd:=nf h1 hs
 have hin:∀n∈bt s,∀y∈O s.kind ms n,y∈bt s:=fun n _=>kB h1 h2 hs n
 obtain ⟨g1,g2⟩:=uI hin (by rw[mq h1 h2 hs];exact hr)
 have g:=uJ s ms
 refine yG hnd g1 g g2 (D4 hnd g.nd g.sub ?_) hl
 unfold rH at hr
 have:=beq_iff_eq.1 hr
 show _=(s.fields.map (·.name)).length
 rw[List.length_map]
 omega
theorem uT (fs:List GateField) (ms:List GateMend) (k:Bs):∀row:List Bs,bY fs ms k row []=[]
 |[]=>rfl
 |n::row=>by
  show bY fs ms k row (bD fs ms k [] n)=[]
  have:bD fs ms k [] n=[]:=by unfold bD;rfl
  rw[this];exact uT fs ms k row
theorem yF {xs:List GateShape} {ms:List GateMend} {o:GateObject} (h:o.values=[]):eI xs ms o=o:=by
 unfold eI
 split
 ·cases (am xs o.kind o.values.length).2
  ·rfl
  ·rw[cond_true]
   cases o
   simp only at h
   subst h
   simp only[uT]
 ·rfl
set_option maxHeartbeats 1000000 in
theorem uf (xs:List GateShape) (ms:List GateMend) (o:GateObject) (hv:o.values=[]):Spec P 216 [.d (aa xs),.d (ag ms),st o.e] (st o.e):=by
 refine Spec.of_vc aP av [.cell 6 103] Tryz.func216 rfl rfl rfl rfl (fun hok=>?_)
 have hsm:ms.length≤al:=au hok.2.1.1
 repeat refine ai ?_
 refine oc (Aq _) ?_
 repeat refine ai ?_
 refine oc (fY _ _) ?_
 repeat refine ai ?_
 refine aj ?_ ?_<;>intro h0
 ·repeat refine ai ?_
  refine oc (gm _ _) ?_
  repeat refine ai ?_
  refine aj ?_ ?_<;>intro h1
  ·repeat refine ai ?_
   exact rfl
  ·simp only[Bool.not_eq_false'] at h0 h1
   obtain ⟨hx,hm,hm12,hro⟩:=fq h1
   rcases dQ (xs:=xs) (k:=o.kind) (n:=o.values.length) with ⟨h2,_⟩|⟨j,hj,ej,ef,hl,hk⟩
   ·rw[h2] at h0;cases h0
   have hjm:=List.getElem_mem hj
   have hin:∀n∈bt xs[j],∀y∈O xs[j].kind ms n,y∈bt xs[j]:=fun n _=>kB hx hm hjm n
   have hn0:bt xs[j]=[]:=by
    have:(bt xs[j]).length=xs[j].fields.length:=List.length_map ..
    rw[hl,hv] at this
    exact List.eq_nil_of_length_eq_zero this
   repeat refine ai ?_
   refine oc (ja _ _) ?_
   repeat refine ai ?_
   refine aI (e:=GateShape.e) (xs:=xs) (hj) (ej) rfl ?_
   repeat refine ai ?_
   refine oc (wV xs[j] ms hm12 hin) ?_
   rw[hn0]
   generalize am xs o.kind o.values.length=ff at*
   repeat refine ai ?_
   refine eb (([]:List Bs)) (fun i=>True) (fun i=>[(5,.ptr 0 0),(6,.ptr 1 0),(47,.d (lS [])),(48,.d (.int .i64 0)),(49,.d (.int .i64 i))]) (fun i=>⟨[(0,.cells 103 [.d (.str o.kind),.d (.str o.name),.d (.str o.team),.d (lS o.values),.d (.bool o.ending),.d (lS o.holds),.d (.int .i64 o.version)]),(1,.cells 103 [.d (.str []),.d (.str []),.d (.str []),.nils,.d (.bool false),.nils,.d (.int .i64 0)])],2,0⟩) (trivial) ?_
   intro i hi hr
   repeat refine ai ?_
   refine aj ?_ ?_<;>intro g1
   ·exact absurd (of_decide_eq_true g1) (by omega)
   ·repeat refine ai ?_
    exact rfl
 ·repeat refine ai ?_
  exact rfl
set_option maxHeartbeats 4000000 in
theorem ue (xs:List GateShape) (ms:List GateMend) (o:GateObject) (hpos:0<o.values.length):Spec P 216 [.d (aa xs),.d (ag ms),st o.e] (st (bif bE xs ms then eI xs ms o else o).e):=by
 refine Spec.of_vc aP av [.cell 6 103] Tryz.func216 rfl rfl rfl rfl (fun hok=>?_)
 have hb:=iH (o:=o) ⟨hok.2.2.1,trivial⟩
 have hsm:ms.length≤al:=au hok.2.1.1
 repeat refine ai ?_
 refine ow (Bx o hpos) ?_
 repeat refine ai ?_
 refine oe (fun g=>pN xs o g 4) ?_
 repeat refine ai ?_
 refine aj ?_ ?_<;>intro h0
 ·repeat refine ai ?_
  refine oc (gm _ _) ?_
  repeat refine ai ?_
  refine aj ?_ ?_<;>intro h1
  ·simp only[Bool.not_eq_true',Bool.not_eq_false'] at h0 h1
   rw[h1]
   repeat refine ai ?_
   exact rfl
  ·simp only[Bool.not_eq_false'] at h0 h1
   obtain ⟨hx,hm,hm12,hro⟩:=fq h1
   rcases dQ (xs:=xs) (k:=o.kind) (n:=o.values.length) with ⟨h2,_⟩|⟨j,hj,ej,ef,hl,hk⟩
   ·rw[h2] at h0;cases h0
   have hjm:=List.getElem_mem hj
   have hres:(bif bE xs ms then eI xs ms o else o)={o with values:=bY xs[j].fields ms o.kind (iV (O o.kind ms) (bt xs[j])).1 o.values}:=by
    have:=Dj h1 hjm (vals:=o.values) hl.symm
    rw[hk] at this
    rw[h1,cond_true,r8 hj ej h0,this]
   rw[hres]
   have hin:∀n∈bt xs[j],∀y∈O xs[j].kind ms n,y∈bt xs[j]:=fun n _=>kB hx hm hjm n
   obtain ⟨g,_⟩:=uI hin (by rw[mq hx hm hjm];exact hro _ hjm)
   have hmi:=uV hx hm hjm
   rw[hk] at hmi
   have hfs:(am xs o.kind o.values.length).1=xs[j].fields:=by rw[ef]
   rw[hfs]
   repeat refine ai ?_
   refine oc (ja _ _) ?_
   repeat refine ai ?_
   refine aI (e:=GateShape.e) (xs:=xs) (hj) (ej) rfl ?_
   repeat refine ai ?_
   refine oc (wV xs[j] ms hm12 hin) ?_
   rw[hk]
   rw[hk] at g
   have hsub:∀x∈(iV (O o.kind ms) (bt xs[j])).1,x∈xs[j].fields.map (·.name):=g.sub
   have hrl:(iV (O o.kind ms) (bt xs[j])).1.length≤xs[j].fields.length:=by
    have:=fb g.nd g.sub
    have e:(bt xs[j]).length=xs[j].fields.length:=List.length_map ..
    rw[e] at this
    exact this
   generalize (iV (O o.kind ms) (bt xs[j])).2=rb at*
   generalize (iV (O o.kind ms) (bt xs[j])).1=row at*
   generalize xs[j].fields=fs at*
   repeat refine ai ?_
   refine pK (row) (fun i (W:List Bs)=>W=bY fs ms o.kind (row.take i) o.values) (fun i (W:List Bs)=>[(1,.d (ag ms)),(5,.ptr 0 0),(6,.ptr 1 0),(7,.ptr 5 0),(11,.fn 233 [.ptr 0 0,.ptr 5 0]),(47,.d (lS row)),(48,.d (.int .i64 (row.map eB).length)),(49,.d (.int .i64 i))]) (fun i (W:List Bs)=>⟨[(5,.cells 162 [.d (ab fs)]),(4,.row 9 1 (W.map eB)),(1,.cells 103 [.d (.str []),.d (.str []),.d (.str []),.nils,.d (.bool false),.nils,.d (.int .i64 0)]),(0,.cells 103 [.d (.str o.kind),.d (.str o.name),.d (.str o.team),.own 4,.d (.bool o.ending),.d (lS o.holds),.d (.int .i64 o.version)])],6,0⟩) (rfl) ?_
   intro i W hi hr
   have hs:row.length≤al:=by omega
   have hW:W.length=fs.length:=by rw[hr,gX,hl]
   repeat refine ai ?_
   refine aj ?_ ?_<;>intro g1
   ·have hlt:i<row.length:=Y g1
    have hnin:=hsub _ (List.getElem_mem hlt)
    obtain ⟨p,hp,ep,_⟩:=gw hnin
    have hst:bY fs ms o.kind (row.take (i+1)) o.values=bD fs ms o.kind W row[i]:=by rw[r9 hlt,←hr]
    have hpt:(dW (·.name==row[i]) fs).toNat<W.length:=by rw[ep];omega
    repeat refine ai ?_
    refine U (e:=eB) (xs:=row) (hlt) rfl ?_
    repeat refine ai ?_
    generalize row[i]=nm at*
    have hrW:=hr
    clear hr
    repeat refine ai ?_
    refine eb (ms) (fun q=>sW fs ms o.kind W nm=pk (cO fs W) o.kind nm (cO fs W nm) (ms.drop q)) (fun q=>[(1,.d (ag ms)),(5,.ptr 0 0),(6,.ptr 1 0),(7,.ptr 5 0),(11,.fn 233 [.ptr 0 0,.ptr 5 0]),(13,.d (.str nm)),(47,.d (lS row)),(48,.d (.int .i64 (row.map eB).length)),(49,.d (.int .i64 i)),(53,.d (ag ms)),(54,.d (.int .i64 (ms.map GateMend.e).length)),(55,.d (.int .i64 q))]) (fun q=>⟨[(5,.cells 162 [.d (ab fs)]),(4,.row 9 1 (W.map eB)),(1,.cells 103 [.d (.str []),.d (.str []),.d (.str []),.nils,.d (.bool false),.nils,.d (.int .i64 0)]),(0,.cells 103 [.d (.str o.kind),.d (.str o.name),.d (.str o.team),.own 4,.d (.bool o.ending),.d (lS o.holds),.d (.int .i64 o.version)])],6,0⟩) (rfl) ?_
    intro q hq hr
    have hsq:ms.length≤al:=hsm
    repeat refine ai ?_
    refine aj ?_ ?_<;>intro g2
    ·have hlq:q<ms.length:=Y g2
     rw[vq hlq] at hr
     have hmq:=hmi ms[q] (List.getElem_mem hlq)
     generalize hd:pk (cO fs W) o.kind nm (cO fs W nm) (ms.drop (q+1))=rest at hr
     repeat refine ai ?_
     refine U (e:=GateMend.e) (xs:=ms) (hlq) rfl ?_
     repeat refine ai ?_
     have hpi:(0:Int)≤dW (·.name==nm) fs:=by rw[ep];exact Int.natCast_nonneg _
     have hpl:dW (·.name==nm) fs<((W.map eB).length:Int):=by rw[ep,List.length_map];omega
     have hget:(W.map eB)[(dW (·.name==nm) fs).toNat]? =some (eB W[(dW (·.name==nm) fs).toNat]):=by rw[List.getElem?_map,List.getElem?_eq_getElem hpt];rfl
     repeat' first
      |refine ai ?_
      |(refine aj ?_ ?_<;>intro h)
      |refine Or.inr (Or.inr (Or.inr (Or.inl (Exists.intro _ (aj rfl (aj (vl fs {o with values:=W} ms[q].when_ hW ((hmq (ot (by assumption))).1 (rV (by assumption)))) ?_))))))
      |refine Or.inr (Or.inr (Or.inr (Or.inl (Exists.intro _ (aj rfl (aj (vl fs {o with values:=W} ms[q].from_ hW ((hmq (ot (by assumption))).2 (rV (by assumption)))) ?_))))))
      |refine oc (lu _ _) ?_
      |refine aj (by kernel_rfl) (aj (by kernel_rfl) ?_)
      |refine ak ?_
      |refine aj hpi (aj hpl ?_)
      |refine ⟨_,hget,Nat.le_refl _,?_⟩
     all_goals clear hok hmi hin hres g hro hpl hpi hget hsub
     all_goals first
      |(exfalso;clear hrW hr hst hd hmq hpt ep hnin g1 g2 hW hrl hfs hl ef hk hjm ej hm hx h1 h0 hsm hb;simp only[cond_false,cond_true,Bool.not_eq_true',Bool.not_eq_false',reduceCtorEq,Bool.true_eq_false,Bool.false_eq_true] at*;done)
      |(exfalso;clear hrW hr hst hd hmq hpt ep hnin g1 g2 hW hrl hfs hl ef hk hjm ej hm hx h1 h0 hsm hb;simp only[cond_false,cond_true,Bool.not_eq_true',Bool.not_eq_false',reduceCtorEq] at*;simp only[*,reduceCtorEq,Bool.true_eq_false,Bool.false_eq_true] at*;done)
      |(refine (fun hq:sW fs ms o.kind W nm=rest=>?_) ?_
        rotate_left
        ·(rw[hr];clear hrW hr hst hd hmq hpt ep hnin g1 g2 hW hrl hfs hl ef hk hjm ej hm hx h1 h0 hsm hb;simp only[cond_false,cond_true,Bool.not_eq_true',Bool.not_eq_false',reduceCtorEq] at*;simp only[kX,lP, *,cond_true,cond_false,bl];done)
        repeat refine ai ?_
        exact bU hlq hsq (hq.trans hd.symm))
      |(refine (fun hq:sW fs ms o.kind W nm=ms[q].put=>?_) ?_
        rotate_left
        ·(rw[hr];clear hrW hr hst hd hmq hpt ep hnin g1 g2 hW hrl hfs hl ef hk hjm ej hm hx h1 h0 hsm hb;simp only[cond_false,cond_true,Bool.not_eq_true',Bool.not_eq_false',reduceCtorEq] at*;simp only[kX,lP, *,cond_true,cond_false,bl];done)
        repeat refine ai ?_
        exact d6 (W.set (dW (·.name==nm) fs).toNat ms[q].put) hlt hs (by rw[hst];unfold bD;rw[hq]) fun hw=>by repeat' first|exact rfl|exact trivial|exact nd hw|exact rF hpt|refine aj ?_ ?_)
      |(refine (fun hq:sW fs ms o.kind W nm=cO fs W ms[q].from_=>?_) ?_
        rotate_left
        ·(rw[hr];clear hrW hr hst hd hmq hpt ep hnin g1 g2 hW hrl hfs hl ef hk hjm ej hm hx h1 h0 hsm hb;simp only[cond_false,cond_true,Bool.not_eq_true',Bool.not_eq_false',reduceCtorEq] at*;simp only[kX,lP, *,cond_true,cond_false,bl];done)
        repeat refine ai ?_
        exact d6 (W.set (dW (·.name==nm) fs).toNat (cO fs W ms[q].from_)) hlt hs (by rw[hst];unfold bD;rw[hq]) fun hw=>by repeat' first|exact rfl|exact trivial|exact nd hw|exact rF hpt|refine aj ?_ ?_)
    ·have hq:sW fs ms o.kind W nm=cO fs W nm:=by rw[hr,zn (Z g2)]
     have hW2:bD fs ms o.kind W nm=W:=by
      unfold bD
      refine rx hpt ?_
      rw[hq,gq ep (by omega)]
      congr 1
      rw[ep];rfl
     repeat refine ai ?_
     exact d6 W hlt hs (by rw[hst,hW2])
   ·rw[List.take_of_length_le (Z g1)] at hr
    rw[←hr]
    repeat refine ai ?_
    exact rfl
 ·simp only[Bool.not_eq_true'] at h0
  rw[r7 h0]
  repeat refine ai ?_
  cases bE xs ms<;>exact rfl
theorem wZ (xs:List GateShape) (ms:List GateMend) (o:GateObject):Spec P 216 [.d (aa xs),.d (ag ms),st o.e] (st (bif bE xs ms then eI xs ms o else o).e):=by
 by_cases h:0<o.values.length
 ·exact ue xs ms o h
 ·have hv:o.values=[]:=List.eq_nil_of_length_eq_zero (by omega)
  have:(bif bE xs ms then eI xs ms o else o)=o:=by
   rw[yF hv];cases bE xs ms<;>rfl
  rw[this]
  exact uf xs ms o hv
def eX (xs:List GateShape) (ms:List GateMend) (o:GateObject):GateObject:=eI xs ms (gc xs o)
theorem jK (xs:List GateShape) (ms:List GateMend) (o:GateObject):Spec P 185 [.d (aa xs),.d (ag ms),st o.e] (st (bif bE xs ms then eX xs ms o else o).e):=by
 refine Spec.of_vc aP av [.cell 6 103] Tryz.func185 rfl rfl rfl rfl (fun hok=>?_)
 repeat refine ai ?_
 refine oc (gm _ _) ?_
 repeat refine ai ?_
 refine aj ?_ ?_<;>intro h
 ·simp only[Bool.not_eq_true'] at h
  rw[h,cond_false]
  repeat refine ai ?_
  refine oc (Aq _) ?_
  repeat refine ai ?_
  exact rfl
 ·simp only[Bool.not_eq_false'] at h
  obtain ⟨hx,_⟩:=fq h
  repeat refine ai ?_
  refine oc (Aw _ _) ?_
  repeat refine ai ?_
  refine oc (wZ _ _ _) ?_
  rw[h,hx]
  repeat refine ai ?_
  exact rfl
end Go.Vc
end
section
namespace Go.Vc
open Go.Proofs
set_option maxRecDepth 100000
def dA:List GateField→List Bs→Nat→List (Nat×GateField)
 |f::fs,v::vs,i=>bif f.kind==4&& !(v==[]) then (i,f)::dA fs vs (i+1) else dA fs vs (i+1)
 |_,_,_=>[]
def gP (p:Nat×GateField):List AV→Prop:=thinL [.d (.int .i64 p.1),st p.2.e]
def dv (xs:List GateShape) (o:GateObject):List (Nat×GateField):=dA (am xs o.kind o.values.length).1 o.values 0
theorem mC {fs:List GateField} {vs:List Bs} {i:Nat} (h:fs=[]):dA fs vs i=[]:=by subst h;rfl
theorem kL {fs:List GateField} {vs:List Bs} {i:Nat} (h:i<fs.length) (h2:i<vs.length):dA (fs.drop i) (vs.drop i) i=bif fs[i].kind==4&& !(vs[i]==[]) then (i,fs[i])::dA (fs.drop (i+1)) (vs.drop (i+1)) (i+1) else dA (fs.drop (i+1)) (vs.drop (i+1)) (i+1):=by
 rw[List.drop_eq_getElem_cons h,List.drop_eq_getElem_cons h2];rfl
theorem yu {o:GateObject} (h:AV.ok (.at_ o.e)):o.values.length≤al∧o.holds.length≤al:=by
 simp only[AV.ok,GateObject.e,bq,D.ok] at h
 exact ⟨au h.2.2.2.1.1,au h.2.2.2.2.2.1.1⟩
theorem wW (l:GateLaw) (o:GateObject):Spec P 106 [st l.e,st o.e] (.fn 165 [.at_ l.e,.at_ o.e]):=by
 refine Spec.of_vc aP av [.tmp 4] Tryz.func106 rfl rfl rfl rfl (fun hok=>?_)
 repeat refine ai ?_
 exact rfl
set_option maxHeartbeats 1000000 in
theorem sC (l:GateLaw) (o:GateObject) (hc:Heap):(dT P).iter 165 [.at_ l.e,.at_ o.e] hc ((dv l.shapes o).map gP):=by
 refine Am aP av Tryz.func165 rfl rfl rfl rfl rfl (fun y hok=>?_)
 have hfs:(am l.shapes o.kind o.values.length).2=false→(am l.shapes o.kind o.values.length).1=[]:=by
  rcases dQ (xs:=l.shapes) (k:=o.kind) (n:=o.values.length) with ⟨h1,h2⟩|⟨j,hj,_,h,_⟩
  ·exact fun _=>h2
  ·rw[h];exact fun h=>by cases h
 obtain ⟨hl,hl2⟩:=db (xs:=l.shapes) (k:=o.kind) (n:=o.values.length)
 repeat refine ai ?_
 refine oc (fY _ _) ?_
 unfold dv
 repeat refine ai ?_
 refine aj ?_ ?_<;>intro h0
 ·simp only[Bool.not_eq_true'] at h0
  rw[hfs h0]
  repeat refine ai ?_
  exact .inr rfl
 ·simp only[Bool.not_eq_false'] at h0
  have hl:=hl2 h0
  generalize (am l.shapes o.kind o.values.length).1=fs at*
  repeat refine ai ?_
  refine ⟨fun m j l' h=>∃(i:Nat) (pre:List (Nat×GateField)),m=fs.length - i∧i≤fs.length∧dA fs o.values 0=pre++dA (fs.drop i) (o.values.drop i) i∧j=pre.length∧l'=[(0,.val (.func (.yield y) #[] #[])),(1,.at_ l.e),(2,.at_ o.e),(17,.d (ab fs)),(18,.d (.int .i64 (fs.map GateField.e).length)),(19,.d (.int .i64 i))]∧h=hp0,
   ⟨0,_,_,_,rfl,⟨0,[],rfl,Nat.zero_le _,rfl,rfl,rfl,rfl⟩,rfl,rfl,⟨rfl,rfl,rfl,rfl,rfl,rfl,trivial⟩,trivial,trivial⟩,?_⟩
  rintro m j l' hh ⟨i,pre,rfl,hi,hr,rfl,rfl,rfl⟩
  have hb:=yu hok.2.1
  have hs:fs.length≤al:=by omega
  repeat refine ai ?_
  refine aj ?_ ?_<;>intro g1
  ·have hlt:i<fs.length:=Y g1
   have hlt2:i<o.values.length:=by omega
   rw[kL hlt hlt2] at hr
   repeat refine ai ?_
   refine U (e:=GateField.e) (xs:=fs) (hlt) rfl ?_
   repeat refine ai ?_
   refine aj ?_ ?_<;>intro h1
   ·repeat refine ai ?_
    refine U (e:=eB) (xs:=o.values) (hlt2) rfl ?_
    repeat refine ai ?_
    refine aj ?_ ?_<;>intro h2
    ·have hc:(fs[i].kind==4&& !(o.values[i]==[]))=true:=by rw[h1,h2];rfl
     rw[hc,cond_true] at hr
     repeat refine ai ?_
     refine ⟨⟨gP (i,fs[i]),?_,fun x h=>h⟩,?_,?_⟩
     ·rw[hr,List.getElem?_map,List.getElem?_append_right (Nat.le_refl _),Nat.sub_self];rfl
     ·repeat refine ai ?_
      refine ⟨_,_,_,_,rfl,⟨i+1,pre++[(i,fs[i])],rfl,hlt,(by rw[hr,List.append_assoc];rfl),(by simp),rfl,rfl⟩,by omega,rfl,rfl,⟨rfl,rfl,rfl,rfl,rfl,nd (V hlt hs),trivial⟩,trivial,trivial⟩
     ·repeat refine ai ?_
      exact .inl rfl
    ·have hc:(fs[i].kind==4&& !(o.values[i]==[]))=false:=by rw[h1,h2];rfl
     rw[hc,cond_false] at hr
     repeat refine ai ?_
     refine ⟨_,_,_,_,rfl,⟨i+1,pre,rfl,hlt,hr,rfl,rfl,rfl⟩,by omega,rfl,rfl,⟨rfl,rfl,rfl,rfl,rfl,nd (V hlt hs),trivial⟩,trivial,trivial⟩
   ·have hc:(fs[i].kind==4&& !(o.values[i]==[]))=false:=by rw[h1];rfl
    rw[hc,cond_false] at hr
    repeat refine ai ?_
    refine ⟨_,_,_,_,rfl,⟨i+1,pre,rfl,hlt,hr,rfl,rfl,rfl⟩,by omega,rfl,rfl,⟨rfl,rfl,rfl,rfl,rfl,nd (V hlt hs),trivial⟩,trivial,trivial⟩
  ·have hi':=Z g1
   rw[List.drop_of_length_le hi',mC rfl,List.append_nil] at hr
   repeat refine ai ?_
   refine .inr ?_
   rw[List.length_map,hr]
end Go.Vc
end
section
namespace Go.Vc
open Go.Proofs
set_option maxRecDepth 100000
def az {α:Type} (r:Option α→α→Bool):Option α→List α→Bool
 |_,[]=>true
 |p,x::xs=>r p x&&az r (some x) xs
def cQ {α:Type} (xs:List α):Nat→Option α
 |0=>none
 |j+1=>xs[j]?
section
variable {α:Type} {r:Option α→α→Bool} {xs:List α} {i:Nat}
theorem eD (h:i<xs.length):az r (cQ xs i) (xs.drop i)=(r (cQ xs i) xs[i]&&az r (cQ xs (i+1)) (xs.drop (i+1))):=by
 rw[List.drop_eq_getElem_cons h]
 simp only[az,cQ,List.getElem?_eq_getElem h]
theorem ft {p:Option α} (h:xs.length≤i):az r p (xs.drop i)=true:=by
 rw[List.drop_of_length_le h];rfl
theorem ct (h0:0<i) (h:i<xs.length):cQ xs i=some (xs[i - 1]'(by omega)):=by
 obtain ⟨j,rfl⟩:∃j,i=j+1:=⟨i - 1,by omega⟩
 simp only[cQ,Nat.add_sub_cancel]
 exact List.getElem?_eq_getElem _
theorem cu (h:i=0):cQ xs i=none:=by
 subst h
 rfl
end
theorem uY (a b c d:Bs):(!(Op.bytesLess a c||a==c)||(a==c&& !Op.bytesLess b d))= !cL a b c d:=by
 unfold cL
 cases e:(a==c) with
 |true=>rw[beq_iff_eq.1 e,ii];simp
 |false=>simp
theorem o7 {n a b:Int} (h:decide (n<a)=true):d9 n a b=false:=by
 have:=of_decide_eq_true h
 unfold d9;rw[decide_eq_false (by omega)];rfl
theorem o8 {n a b:Int} (h:decide (n>b)=true):d9 n a b=false:=by
 have:=of_decide_eq_true h
 unfold d9;rw[decide_eq_false (p:=n≤b) (by omega),Bool.and_false]
theorem mF {n a b:Int} (h:decide (n<a)=false) (h2:decide (n>b)=false):d9 n a b=true:=by
 have:=of_decide_eq_false h
 have:=of_decide_eq_false h2
 unfold d9;rw[decide_eq_true (by omega),decide_eq_true (by omega)];rfl
def xp (vs:List Bs) (i:Nat):Bs:=match vs[i]? with|some v=>v|none=>[]
theorem iE {vs:List Bs} {i:Nat} (h:i<vs.length):xp vs i=vs[i]:=by unfold xp;rw[List.getElem?_eq_getElem h]
theorem so:∀{fs:List GateField} {vs:List Bs} {i:Nat} {p:Nat×GateField},p∈dA fs vs i→i≤p.1∧p.1<i+vs.length∧p.2∈fs∧(p.2.kind==4)=true
 |[],vs,i,p,h=>by simp[dA] at h
 |f::fs,[],i,p,h=>by simp[dA] at h
 |f::fs,v::vs,i,p,h=>by
  have tail:p∈dA fs vs (i+1)→i≤p.1∧p.1<i+(v::vs).length∧p.2∈f::fs∧(p.2.kind==4)=true:=fun h=>by
   obtain ⟨h1,h2,h3,h4⟩:=so h
   exact ⟨by omega,by simp only[List.length_cons];omega,List.mem_cons_of_mem _ h3,h4⟩
  simp only[dA] at h
  cases hc:f.kind==4&& !(v==[]) with
  |false=>rw[hc] at h;exact tail h
  |true=>
   rw[hc,cond_true] at h
   rcases List.mem_cons.1 h with e|h
   ·subst e
    rw[Bool.and_eq_true] at hc
    exact ⟨Nat.le_refl _,by simp,List.mem_cons_self,hc.1⟩
   ·exact tail h
theorem mB {xs:List GateShape} {o:GateObject} {p:Nat×GateField} (h:p∈dv xs o):p.1<o.values.length:=by
 have:=(so h).2.1
 omega
theorem fr {p:Nat×GateField} {x:List AV} (h:gP p x):∃A c,x=[.d (.int .i64 p.1),.agg [.d (.str p.2.name),.d (.int .i64 p.2.kind),.d (.int .i64 p.2.least),.d (.int .i64 p.2.most),.d (.raw (.slice A (p.2.words.map eB).length c)),.d (.str p.2.to_),.d (.int .i64 p.2.role),.d (.bool p.2.must),.d (.bool p.2.fixed),.d (.str p.2.default_),.d (.str p.2.weighs)]]:=by
 unfold gP st GateField.e at h
 simp only[thinL,thinC,List.map] at h
 obtain ⟨y0,ys,rfl,⟨y1,rfl,rfl⟩,cs,y2,rfl,⟨z1,rfl,z2,rfl,z3,rfl,z4,rfl,A,c,z5,rfl,z6,rfl,z7,rfl,z8,rfl,z9,rfl,z10,rfl,z11,rfl,rfl⟩,rfl⟩:=h
 exact ⟨A,c,rfl⟩
theorem o6 {xs:List (Nat×GateField)} {k:Nat} {X:List AV→Prop} (h:(xs.map gP)[k]? =some X):∃p,xs[k]? =some p∧p∈xs∧X=gP p:=by
 rw[List.getElem?_map] at h
 cases hp:xs[k]? with
 |none=>rw[hp] at h;cases h
 |some p=>rw[hp] at h;cases h;exact ⟨p,rfl,List.mem_of_getElem? hp,rfl⟩
def fL (b:GateBook) (k n:Bs):Bool:=decide (dW (fun x=>x.kind==k&&x.name==n) b.objects≥0)
theorem kU {b:GateBook} {k n:Bs} (h:decide (dW (fun x:GateObject=>x.kind==k&&x.name==n) b.objects<0)=true):fL b k n=false:=by
 have:=of_decide_eq_true h
 exact decide_eq_false (by omega)
theorem jb {b:GateBook} {k n:Bs} (h:decide (dW (fun x:GateObject=>x.kind==k&&x.name==n) b.objects<0)=false):fL b k n=true:=by
 have:=of_decide_eq_false h
 exact decide_eq_true (by omega)
theorem AS {α:Type} {p:α→Bool} {xs:List α} {x:α} (h:x∈xs) (hp:p x=false):xs.all p=false:=by
 rw[List.all_eq_false]
 exact ⟨x,h,by rw[hp];simp⟩
def aG (L:GateLaw) (b:GateBook) (o:GateObject):Bool:=
 (Bt L.shapes o).1==0&&(L.teams.any (·.name==o.team)&&(d9 o.version 1 b.now&&((eX L.shapes L.mends o).values==o.values&&(dv L.shapes o).all (fun p=>fL b p.2.to_ (xp o.values p.1)))))
def lF (L:GateLaw) (b:GateBook) (p:Option GateObject) (o:GateObject):Bool:=(match p with|some q=>cL q.kind q.name o.kind o.name|none=>true)&&aG L b o
def nB (L:GateLaw) (b:GateBook):Bool:= !decide ((b.objects.length:Int)>40)&&az (lF L b) none b.objects
set_option maxHeartbeats 2000000 in
theorem yU (L:GateLaw) (b:GateBook) (hm:bE L.shapes L.mends=true):Spec P 126 [st b.e,st L.e] (.d (.bool (nB L b))):=by
 refine Spec.of_vc aP av [.cell 4 4] Tryz.func126 rfl rfl rfl rfl (fun hok=>?_)
 have hs:=(bT (cV hok)).1
 obtain ⟨hx,hmm,hm12,hro⟩:=fq hm
 repeat refine ai ?_
 refine aj ?_ ?_<;>intro h0
 ·repeat refine ai ?_
  refine bd ?_
  rw[List.length_map] at h0
  rw[nB,h0];rfl
 rw[List.length_map] at h0
 have hob:nB L b=az (lF L b) none b.objects:=by rw[nB,h0];rfl
 rw[hob]
 repeat refine ai ?_
 refine eb (b.objects) (fun i=>az (lF L b) none b.objects=az (lF L b) (cQ b.objects i) (b.objects.drop i)) (fun i=>[(2,.ptr 0 0),(3,.ptr 1 0),(4,.ptr 2 0),(17,.d (aE b.objects)),(18,.d (.int .i64 (b.objects.map GateObject.e).length)),(19,.d (.int .i64 i))]) (fun i=>⟨[(2,.cells 4 [.d (.bool false)]),(1,.cells 41 (L.e.map .d)),(0,.cells 48 (b.e.map .d))],3,0⟩) (rfl) ?_
 intro i hi hr
 repeat refine ai ?_
 refine aj ?_ ?_<;>intro h1
 ·have hlt:i<b.objects.length:=Y h1
  rw[eD hlt] at hr
  repeat refine ai ?_
  refine U (e:=GateObject.e) (xs:=b.objects) (hlt) rfl ?_
  repeat refine ai ?_
  refine aj ?_ ?_<;>intro h2
  ·have h3:=mG h2
   repeat refine ai ?_
   refine aI (e:=GateObject.e) (xs:=b.objects) ((show i - 1<b.objects.length by omega)) (ba h3 hlt hs) rfl ?_
   repeat refine ai ?_
   have hpv:cQ b.objects i=some (b.objects[i - 1]'(by omega)):=ct h3 hlt
   rw[hpv] at hr
   generalize hq:b.objects[i - 1]'(by omega)=q at*
   have hno:∀c,(!(Op.bytesLess q.kind b.objects[i].kind||q.kind==b.objects[i].kind)||(q.kind==b.objects[i].kind&& !Op.bytesLess q.name b.objects[i].name))=c→lF L b (some q) b.objects[i]=(!c&&aG L b b.objects[i]):=fun c h=>by
    rw[uY] at h
    rw[←h,Bool.not_not];rfl
   repeat refine ai ?_
   refine aj ?_ ?_<;>intro a1
   ·repeat refine ai ?_
    refine aj ?_ ?_<;>intro a2
    ·repeat refine ai ?_
     refine aj ?_ ?_<;>intro a3
     ·repeat refine ai ?_
      refine bd ?_
      rw[hr,hno true (by rw[a1,a2];exact a3)];rfl
     ·rw[hno false (by rw[a1,a2];exact a3),Bool.not_false,Bool.true_and] at hr
      repeat refine ai ?_
      refine oc (kR _ _) ?_
      rw[show jQ L.shapes b.objects[i]=Bt L.shapes b.objects[i] from by unfold jQ;rw[hx];rfl]
      generalize ho:b.objects[i]=o at*
      repeat refine ai ?_
      refine aj ?_ ?_<;>intro c1
      ·have c1:=rV c1
       repeat refine ai ?_
       refine bd ?_
       rw[hr,show aG L b o=false from by simp only[aG,c1,bl]]
       rfl
      ·have c1:=ot c1
       repeat refine ai ?_
       refine ak ?_
       repeat refine ai ?_
       refine oc (fF _ _) ?_
       repeat refine ai ?_
       refine aj ?_ ?_<;>intro c2
       ·have c2:=ot (idx_lt.symm.trans c2)
        repeat refine ai ?_
        refine aj ?_ ?_<;>intro c3
        ·repeat refine ai ?_
         refine aj ?_ ?_<;>intro c4
         ·have c4':=mF c3 c4
          repeat refine ai ?_
          refine oc (jK _ _ _) ?_
          rw[hm,cond_true]
          repeat refine ai ?_
          refine oc (jI _ _) ?_
          repeat refine ai ?_
          refine aj ?_ ?_<;>intro c5
          ·have c5:((eX L.shapes L.mends o).values==o.values)=false:=rV c5
           repeat refine ai ?_
           refine bd ?_
           rw[hr,show aG L b o=false from by simp only[aG,c1,c2,c4',c5,bl]]
           rfl
          ·have c5:((eX L.shapes L.mends o).values==o.values)=true:=ot c5
           have hrest:aG L b o=(dv L.shapes o).all (fun p=>fL b p.2.to_ (xp o.values p.1)):=by simp only[aG,c1,c2,c4',c5,Bool.true_and]
           rw[hrest] at hr
           repeat refine ai ?_
           refine oc (wW _ _) ?_
           repeat refine ai ?_
           refine ⟨(dv L.shapes o).map gP,fun k=>∀p,(dv L.shapes o)[k]? =some p→fL b p.2.to_ (xp o.values p.1)=true,sC L o _,?_,?_,?_⟩
           ·intro X hX x hx
            obtain ⟨p,_,rfl⟩:=List.mem_map.1 hX
            obtain ⟨A,c,rfl⟩:=fr hx
            rfl
           ·intro k X hX x hx
            obtain ⟨p,hp,hpm,rfl⟩:=o6 hX
            obtain ⟨A,c,rfl⟩:=fr hx
            have hpl:=mB hpm
            repeat refine ai ?_
            refine ⟨[(2,.ptr 0 0),(4,.ptr 2 0),(6,.ptr 3 0),(10,.d (.int .i64 p.1)),(11,.at_ [.str p.2.name,.int .i64 p.2.kind,.int .i64 p.2.least,.int .i64 p.2.most,.raw (.slice A (p.2.words.map eB).length c),.str p.2.to_,.int .i64 p.2.role,.bool p.2.must,.bool p.2.fixed,.str p.2.default_,.str p.2.weighs])],⟨rfl,rfl,⟨rfl,rfl,rfl,rfl,.inr ⟨_,_,_,_,rfl,Nat.le_of_ble_eq_true rfl,rfl,rfl,rfl⟩,trivial⟩,?_,?_⟩,?_⟩
            ·repeat' first|exact rfl|exact trivial|refine aj ?_ ?_
            ·repeat' first|exact rfl|exact trivial|refine aj ?_ ?_
            repeat refine ai ?_
            refine ak ?_
            repeat refine ai ?_
            refine U (e:=eB) (xs:=o.values) (hpl) rfl ?_
            repeat refine ai ?_
            refine oc (Au _ _ _) ?_
            repeat refine ai ?_
            refine aj ?_ ?_<;>intro d1
            ·repeat refine ai ?_
             refine bd ?_
             rw[hr,AS hpm (by rw[iE hpl];exact kU d1)];rfl
            ·repeat refine ai ?_
             refine ⟨fun p' hp'=>?_,rfl,rfl,trivial,?_,?_⟩
             ·rw[hp] at hp'
              cases hp'
              rw[iE hpl];exact jb d1
             ·repeat' first|exact rfl|exact trivial|refine aj ?_ ?_
             ·repeat' first|exact rfl|exact trivial|refine aj ?_ ?_
           ·intro hall
            have hal:(dv L.shapes o).all (fun p=>fL b p.2.to_ (xp o.values p.1))=true:=by
                 rw[List.all_eq_true]
                 intro p hp
                 obtain ⟨k,hk,rfl⟩:=List.getElem_of_mem hp
                 exact hall k (by rw[List.length_map];exact hk) _ (List.getElem?_eq_getElem hk)
            rw[hal,Bool.true_and] at hr
            repeat refine ai ?_
            exact bU hlt hs hr
         ·have c4':=o8 (a:=1) c4
          repeat refine ai ?_
          refine ay ?_
          repeat refine ai ?_
          refine bd ?_
          rw[hr,show aG L b o=false from by simp only[aG,c1,c2,c4',bl]]
          rfl
        ·have c3':=o7 (b:=b.now) c3
         repeat refine ai ?_
         refine an ?_
         repeat refine ai ?_
         refine ay ?_
         repeat refine ai ?_
         refine bd ?_
         rw[hr,show aG L b o=false from by simp only[aG,c1,c2,c3',bl]]
         rfl
       ·have c2:=rV (idx_lt.symm.trans c2)
        repeat refine ai ?_
        refine an ?_
        repeat refine ai ?_
        refine an ?_
        repeat refine ai ?_
        refine ay ?_
        repeat refine ai ?_
        refine bd ?_
        rw[hr,show aG L b o=false from by simp only[aG,c1,c2,bl]]
        rfl
    ·rw[hno false (by rw[a1,a2];rfl),Bool.not_false,Bool.true_and] at hr
     repeat refine ai ?_
     refine oc (kR _ _) ?_
     rw[show jQ L.shapes b.objects[i]=Bt L.shapes b.objects[i] from by unfold jQ;rw[hx];rfl]
     generalize ho:b.objects[i]=o at*
     repeat refine ai ?_
     refine aj ?_ ?_<;>intro c1
     ·have c1:=rV c1
      repeat refine ai ?_
      refine bd ?_
      rw[hr,show aG L b o=false from by simp only[aG,c1,bl]]
      rfl
     ·have c1:=ot c1
      repeat refine ai ?_
      refine ak ?_
      repeat refine ai ?_
      refine oc (fF _ _) ?_
      repeat refine ai ?_
      refine aj ?_ ?_<;>intro c2
      ·have c2:=ot (idx_lt.symm.trans c2)
       repeat refine ai ?_
       refine aj ?_ ?_<;>intro c3
       ·repeat refine ai ?_
        refine aj ?_ ?_<;>intro c4
        ·have c4':=mF c3 c4
         repeat refine ai ?_
         refine oc (jK _ _ _) ?_
         rw[hm,cond_true]
         repeat refine ai ?_
         refine oc (jI _ _) ?_
         repeat refine ai ?_
         refine aj ?_ ?_<;>intro c5
         ·have c5:((eX L.shapes L.mends o).values==o.values)=false:=rV c5
          repeat refine ai ?_
          refine bd ?_
          rw[hr,show aG L b o=false from by simp only[aG,c1,c2,c4',c5,bl]]
          rfl
         ·have c5:((eX L.shapes L.mends o).values==o.values)=true:=ot c5
          have hrest:aG L b o=(dv L.shapes o).all (fun p=>fL b p.2.to_ (xp o.values p.1)):=by simp only[aG,c1,c2,c4',c5,Bool.true_and]
          rw[hrest] at hr
          repeat refine ai ?_
          refine oc (wW _ _) ?_
          repeat refine ai ?_
          refine ⟨(dv L.shapes o).map gP,fun k=>∀p,(dv L.shapes o)[k]? =some p→fL b p.2.to_ (xp o.values p.1)=true,sC L o _,?_,?_,?_⟩
          ·intro X hX x hx
           obtain ⟨p,_,rfl⟩:=List.mem_map.1 hX
           obtain ⟨A,c,rfl⟩:=fr hx
           rfl
          ·intro k X hX x hx
           obtain ⟨p,hp,hpm,rfl⟩:=o6 hX
           obtain ⟨A,c,rfl⟩:=fr hx
           have hpl:=mB hpm
           repeat refine ai ?_
           refine ⟨[(2,.ptr 0 0),(4,.ptr 2 0),(6,.ptr 3 0),(10,.d (.int .i64 p.1)),(11,.at_ [.str p.2.name,.int .i64 p.2.kind,.int .i64 p.2.least,.int .i64 p.2.most,.raw (.slice A (p.2.words.map eB).length c),.str p.2.to_,.int .i64 p.2.role,.bool p.2.must,.bool p.2.fixed,.str p.2.default_,.str p.2.weighs])],⟨rfl,rfl,⟨rfl,rfl,rfl,rfl,.inr ⟨_,_,_,_,rfl,Nat.le_of_ble_eq_true rfl,rfl,rfl,rfl⟩,trivial⟩,?_,?_⟩,?_⟩
           ·repeat' first|exact rfl|exact trivial|refine aj ?_ ?_
           ·repeat' first|exact rfl|exact trivial|refine aj ?_ ?_
           repeat refine ai ?_
           refine ak ?_
           repeat refine ai ?_
           refine U (e:=eB) (xs:=o.values) (hpl) rfl ?_
           repeat refine ai ?_
           refine oc (Au _ _ _) ?_
           repeat refine ai ?_
           refine aj ?_ ?_<;>intro d1
           ·repeat refine ai ?_
            refine bd ?_
            rw[hr,AS hpm (by rw[iE hpl];exact kU d1)];rfl
           ·repeat refine ai ?_
            refine ⟨fun p' hp'=>?_,rfl,rfl,trivial,?_,?_⟩
            ·rw[hp] at hp'
             cases hp'
             rw[iE hpl];exact jb d1
            ·repeat' first|exact rfl|exact trivial|refine aj ?_ ?_
            ·repeat' first|exact rfl|exact trivial|refine aj ?_ ?_
          ·intro hall
           have hal:(dv L.shapes o).all (fun p=>fL b p.2.to_ (xp o.values p.1))=true:=by
                rw[List.all_eq_true]
                intro p hp
                obtain ⟨k,hk,rfl⟩:=List.getElem_of_mem hp
                exact hall k (by rw[List.length_map];exact hk) _ (List.getElem?_eq_getElem hk)
           rw[hal,Bool.true_and] at hr
           repeat refine ai ?_
           exact bU hlt hs hr
        ·have c4':=o8 (a:=1) c4
         repeat refine ai ?_
         refine ay ?_
         repeat refine ai ?_
         refine bd ?_
         rw[hr,show aG L b o=false from by simp only[aG,c1,c2,c4',bl]]
         rfl
       ·have c3':=o7 (b:=b.now) c3
        repeat refine ai ?_
        refine an ?_
        repeat refine ai ?_
        refine ay ?_
        repeat refine ai ?_
        refine bd ?_
        rw[hr,show aG L b o=false from by simp only[aG,c1,c2,c3',bl]]
        rfl
      ·have c2:=rV (idx_lt.symm.trans c2)
       repeat refine ai ?_
       refine an ?_
       repeat refine ai ?_
       refine an ?_
       repeat refine ai ?_
       refine ay ?_
       repeat refine ai ?_
       refine bd ?_
       rw[hr,show aG L b o=false from by simp only[aG,c1,c2,bl]]
       rfl
   ·repeat refine ai ?_
    refine bd ?_
    rw[hr,hno true (by rw[a1];rfl)];rfl
  ·have hpv:cQ b.objects i=none:=cu (qg h2)
   rw[hpv] at hr
   replace hr:az (lF L b) none b.objects=(aG L b b.objects[i]&&az (lF L b) (cQ b.objects (i+1)) (b.objects.drop (i+1))):=by rw[hr];rfl
   repeat refine ai ?_
   refine oc (kR _ _) ?_
   rw[show jQ L.shapes b.objects[i]=Bt L.shapes b.objects[i] from by unfold jQ;rw[hx];rfl]
   generalize ho:b.objects[i]=o at*
   repeat refine ai ?_
   refine aj ?_ ?_<;>intro c1
   ·have c1:=rV c1
    repeat refine ai ?_
    refine bd ?_
    rw[hr,show aG L b o=false from by simp only[aG,c1,bl]]
    rfl
   ·have c1:=ot c1
    repeat refine ai ?_
    refine ak ?_
    repeat refine ai ?_
    refine oc (fF _ _) ?_
    repeat refine ai ?_
    refine aj ?_ ?_<;>intro c2
    ·have c2:=ot (idx_lt.symm.trans c2)
     repeat refine ai ?_
     refine aj ?_ ?_<;>intro c3
     ·repeat refine ai ?_
      refine aj ?_ ?_<;>intro c4
      ·have c4':=mF c3 c4
       repeat refine ai ?_
       refine oc (jK _ _ _) ?_
       rw[hm,cond_true]
       repeat refine ai ?_
       refine oc (jI _ _) ?_
       repeat refine ai ?_
       refine aj ?_ ?_<;>intro c5
       ·have c5:((eX L.shapes L.mends o).values==o.values)=false:=rV c5
        repeat refine ai ?_
        refine bd ?_
        rw[hr,show aG L b o=false from by simp only[aG,c1,c2,c4',c5,bl]]
        rfl
       ·have c5:((eX L.shapes L.mends o).values==o.values)=true:=ot c5
        have hrest:aG L b o=(dv L.shapes o).all (fun p=>fL b p.2.to_ (xp o.values p.1)):=by simp only[aG,c1,c2,c4',c5,Bool.true_and]
        rw[hrest] at hr
        repeat refine ai ?_
        refine oc (wW _ _) ?_
        repeat refine ai ?_
        refine ⟨(dv L.shapes o).map gP,fun k=>∀p,(dv L.shapes o)[k]? =some p→fL b p.2.to_ (xp o.values p.1)=true,sC L o _,?_,?_,?_⟩
        ·intro X hX x hx
         obtain ⟨p,_,rfl⟩:=List.mem_map.1 hX
         obtain ⟨A,c,rfl⟩:=fr hx
         rfl
        ·intro k X hX x hx
         obtain ⟨p,hp,hpm,rfl⟩:=o6 hX
         obtain ⟨A,c,rfl⟩:=fr hx
         have hpl:=mB hpm
         repeat refine ai ?_
         refine ⟨[(2,.ptr 0 0),(4,.ptr 2 0),(6,.ptr 3 0),(10,.d (.int .i64 p.1)),(11,.at_ [.str p.2.name,.int .i64 p.2.kind,.int .i64 p.2.least,.int .i64 p.2.most,.raw (.slice A (p.2.words.map eB).length c),.str p.2.to_,.int .i64 p.2.role,.bool p.2.must,.bool p.2.fixed,.str p.2.default_,.str p.2.weighs])],⟨rfl,rfl,⟨rfl,rfl,rfl,rfl,.inr ⟨_,_,_,_,rfl,Nat.le_of_ble_eq_true rfl,rfl,rfl,rfl⟩,trivial⟩,?_,?_⟩,?_⟩
         ·repeat' first|exact rfl|exact trivial|refine aj ?_ ?_
         ·repeat' first|exact rfl|exact trivial|refine aj ?_ ?_
         repeat refine ai ?_
         refine ak ?_
         repeat refine ai ?_
         refine U (e:=eB) (xs:=o.values) (hpl) rfl ?_
         repeat refine ai ?_
         refine oc (Au _ _ _) ?_
         repeat refine ai ?_
         refine aj ?_ ?_<;>intro d1
         ·repeat refine ai ?_
          refine bd ?_
          rw[hr,AS hpm (by rw[iE hpl];exact kU d1)];rfl
         ·repeat refine ai ?_
          refine ⟨fun p' hp'=>?_,rfl,rfl,trivial,?_,?_⟩
          ·rw[hp] at hp'
           cases hp'
           rw[iE hpl];exact jb d1
          ·repeat' first|exact rfl|exact trivial|refine aj ?_ ?_
          ·repeat' first|exact rfl|exact trivial|refine aj ?_ ?_
        ·intro hall
         have hal:(dv L.shapes o).all (fun p=>fL b p.2.to_ (xp o.values p.1))=true:=by
              rw[List.all_eq_true]
              intro p hp
              obtain ⟨k,hk,rfl⟩:=List.getElem_of_mem hp
              exact hall k (by rw[List.length_map];exact hk) _ (List.getElem?_eq_getElem hk)
         rw[hal,Bool.true_and] at hr
         repeat refine ai ?_
         exact bU hlt hs hr
      ·have c4':=o8 (a:=1) c4
       repeat refine ai ?_
       refine ay ?_
       repeat refine ai ?_
       refine bd ?_
       rw[hr,show aG L b o=false from by simp only[aG,c1,c2,c4',bl]]
       rfl
     ·have c3':=o7 (b:=b.now) c3
      repeat refine ai ?_
      refine an ?_
      repeat refine ai ?_
      refine ay ?_
      repeat refine ai ?_
      refine bd ?_
      rw[hr,show aG L b o=false from by simp only[aG,c1,c2,c3',bl]]
      rfl
    ·have c2:=rV (idx_lt.symm.trans c2)
     repeat refine ai ?_
     refine an ?_
     repeat refine ai ?_
     refine an ?_
     repeat refine ai ?_
     refine ay ?_
     repeat refine ai ?_
     refine bd ?_
     rw[hr,show aG L b o=false from by simp only[aG,c1,c2,bl]]
     rfl
 ·repeat refine ai ?_
  refine bd ?_
  rw[hr,ft (Z h1)]
end Go.Vc
end
section
namespace Go.Vc
open Go.Proofs
set_option maxRecDepth 100000
theorem lM (xs ys:List Bs):Spec P 173 [.d (lS xs),.d (lS ys)] (.d (.bool (xs==ys))):=by
 refine Spec.of_vc aP av [.tmp 4] Tryz.func173 rfl rfl rfl rfl (fun hok=>?_)
 have hs:xs.length≤al:=au hok.1.1
 repeat refine ai ?_
 refine aj ?_ ?_<;>intro h0
 ·refine bd ?_
  rw[List.length_map,List.length_map] at h0
  cases e:xs==ys with
  |false=>rfl
  |true=>rw[beq_iff_eq.1 e] at h0;simp at h0
 ·rw[List.length_map,List.length_map] at h0
  have hl:xs.length=ys.length:=by simp at h0;omega
  repeat refine ai ?_
  refine eb (xs) (fun i=>(xs==ys)=(xs.drop i==ys.drop i)) (fun i=>[(0,.d (lS xs)),(1,.d (lS ys)),(5,.d (.int .i64 i))]) (fun i=>hp0) (rfl) ?_
  intro i hi hr
  repeat refine ai ?_
  refine aj ?_ ?_<;>intro h1
  ·have hlt:i<xs.length:=Y h1
   have hlt':i<ys.length:=by omega
   rw[List.drop_eq_getElem_cons hlt,List.drop_eq_getElem_cons hlt',List.cons_beq_cons] at hr
   repeat refine ai ?_
   refine ak ?_
   repeat refine ai ?_
   refine U (e:=eB) (xs:=xs) (hlt) rfl ?_
   repeat refine ai ?_
   refine U (e:=eB) (xs:=ys) (hlt') rfl ?_
   repeat refine ai ?_
   refine aj ?_ ?_<;>intro h2
   ·refine bd ?_
    simp only[Bool.not_eq_true',Bool.not_eq_false'] at h2
    rw[hr,h2];rfl
   ·simp only[Bool.not_eq_true',Bool.not_eq_false'] at h2
    repeat refine ai ?_
    exact bU hlt hs (by rw[hr,h2];rfl)
  ·refine bd ?_
   have hge:=Z h1
   rw[hr,List.drop_of_length_le hge,List.drop_of_length_le (by omega)];rfl
theorem yR {xs:List GateShape} {o:GateObject} (h:((Bt xs o).1==0)=true):(am xs o.kind o.values.length).2=true:=by
 unfold Bt kT at h
 cases hf:(am xs o.kind o.values.length).2 with
 |true=>rfl
 |false=>rw[hf] at h;cases h
theorem EW {b:GateBook} (h:ex [st b.e]) {o:GateObject} (ho:o∈b.objects):o.values.length≤al∧o.holds.length≤al:=by
 have:=h.1
 simp only[st,AV.ok,GateBook.e,List.map,ex] at this
 refine yu ?_
 simp only[AV.ok]
 exact okRows_iff.1 this.2.2.2.1.2 _ (List.mem_map.2 ⟨o,ho,rfl⟩)
set_option maxHeartbeats 2000000 in
theorem tT (L:GateLaw) (b:GateBook) (hm:bE L.shapes L.mends=true):Spec P 115 [st L.e,st b.e] (.d (.bool (nB L b))):=by
 refine Spec.of_vc aP av [.tmp 4] Tryz.func115 rfl rfl rfl rfl (fun hok=>?_)
 have hs:=(bT hok.2).1
 obtain ⟨hx,hmm,hm12,hro⟩:=fq hm
 repeat refine ai ?_
 refine aj ?_ ?_<;>intro h0
 ·refine bd ?_
  rw[List.length_map] at h0
  rw[nB,h0];rfl
 rw[List.length_map] at h0
 have hob:nB L b=az (lF L b) none b.objects:=by rw[nB,h0];rfl
 rw[hob]
 repeat refine ai ?_
 refine eb (b.objects) (fun i=>az (lF L b) none b.objects=az (lF L b) (cQ b.objects i) (b.objects.drop i)) (fun i=>[(2,.ptr 0 0),(3,.ptr 1 0),(5,.d (.int .i64 i))]) (fun i=>⟨[(1,.cells 48 (b.e.map .d)),(0,.cells 41 (L.e.map .d))],2,0⟩) (rfl) ?_
 intro i hi hr
 repeat refine ai ?_
 refine aj ?_ ?_<;>intro h1
 ·have hlt:i<b.objects.length:=Y h1
  rw[eD hlt] at hr
  repeat refine ai ?_
  refine U (e:=GateObject.e) (xs:=b.objects) (hlt) rfl ?_
  repeat refine ai ?_
  have hvb:=(EW hok.2 (List.getElem_mem hlt)).1
  generalize ho:b.objects[i]=o at*
  have hob0:∀c,(match cQ b.objects i with|some q=>cL q.kind q.name o.kind o.name|none=>true)=c→lF L b (cQ b.objects i) o=(c&&aG L b o):=fun c h=>by rw[←h];rfl
  repeat refine ai ?_
  refine oc (Ca _ _) ?_
  repeat refine ai ?_
  refine aj ?_ ?_<;>intro c1
  ·have c1:((Bt L.shapes o).1==0)=true:=ot c1
   repeat refine ai ?_
   refine oc (kw _ _) ?_
   repeat refine ai ?_
   refine aj ?_ ?_<;>intro c2
   ·have c2:(L.teams.any (·.name==o.team))=true:=ot c2
    repeat refine ai ?_
    refine oc (eu _ _ _) ?_
    repeat refine ai ?_
    refine aj ?_ ?_<;>intro c3
    ·have c3:d9 o.version 1 b.now=false:=rV c3
     repeat refine ai ?_
     refine bd ?_
     rw[hr,show lF L b (cQ b.objects i) o=false from by rw[hob0 _ rfl];simp only[aG,c1,c2,c3,bl]]
     rfl
    ·have c3:d9 o.version 1 b.now=true:=ot c3
     repeat refine ai ?_
     refine ak ?_
     repeat refine ai ?_
     refine aj ?_ ?_<;>intro p1
     ·have h3:=mG p1
      have hpv:cQ b.objects i=some (b.objects[i - 1]'(by omega)):=ct h3 hlt
      repeat refine ai ?_
      refine aI (e:=GateObject.e) (xs:=b.objects) ((show i - 1<b.objects.length by omega)) (ba h3 hlt hs) rfl ?_
      repeat refine ai ?_
      refine aI (e:=GateObject.e) (xs:=b.objects) ((show i - 1<b.objects.length by omega)) (ba h3 hlt hs) rfl ?_
      repeat refine ai ?_
      rw[hpv] at hob0
      repeat refine ai ?_
      refine oc (qs _ _ _ _) ?_
      repeat refine ai ?_
      refine aj ?_ ?_<;>intro p2
      ·have hp:=(qp _ _ _ _).symm.trans p2
       rw[Bool.not_eq_true'] at hp
       repeat refine ai ?_
       refine bd ?_
       rw[hr,hpv,hob0 false hp];rfl
      ·have hp:=(qp _ _ _ _).symm.trans p2
       rw[Bool.not_eq_false'] at hp
       rw[hpv,hob0 true hp,Bool.true_and] at hr
       repeat refine ai ?_
       refine ak ?_
       repeat refine ai ?_
       refine oc (rz L.shapes L.mends o hx hmm) ?_
       repeat refine ai ?_
       refine oc (lM _ _) ?_
       repeat refine ai ?_
       refine aj ?_ ?_<;>intro c5
       ·have c5:((eX L.shapes L.mends o).values==o.values)=false:=rV c5
        repeat refine ai ?_
        refine bd ?_
        rw[hr,show aG L b o=false from by simp only[aG,c1,c2,c3,c5,bl]]
        rfl
       ·have c5:((eX L.shapes L.mends o).values==o.values)=true:=ot c5
        have hrest:aG L b o=(dA (am L.shapes o.kind o.values.length).1 o.values 0).all (fun p=>fL b p.2.to_ (xp o.values p.1)):=by simp only[aG,c1,c2,c3,c5,Bool.true_and];rfl
        rw[hrest] at hr
        repeat refine ai ?_
        refine oc (fQ _ _) ?_
        have hfl:=(db (xs:=L.shapes) (k:=o.kind) (n:=o.values.length)).2 (yR c1)
        generalize (am L.shapes o.kind o.values.length).1=fs at*
        have hfs:fs.length≤al:=by omega
        generalize hlk:(dA fs o.values 0).all (fun p=>fL b p.2.to_ (xp o.values p.1))=lk at*
        generalize hck:az (lF L b) none b.objects=ck at*
        have hrO:=hr
        clear hr
        repeat refine ai ?_
        refine eb (fs) (fun k=>lk=(dA (fs.drop k) (o.values.drop k) k).all (fun p=>fL b p.2.to_ (xp o.values p.1))) (fun k=>[(2,.ptr 0 0),(3,.ptr 1 0),(5,.d (.int .i64 i)),(6,.ptr 2 0),(9,.d (ab fs)),(11,.d (.int .i64 k))]) (fun k=>⟨[(2,.cells 103 (o.e.map .d)),(1,.cells 48 (b.e.map .d)),(0,.cells 41 (L.e.map .d))],3,0⟩) (hlk.symm) ?_
        intro k hk hr
        repeat refine ai ?_
        refine aj ?_ ?_<;>intro g1
        ·have hlk1:k<fs.length:=Y g1
         have hlk2:k<o.values.length:=by omega
         rw[kL hlk1 hlk2] at hr
         repeat refine ai ?_
         refine ak ?_
         repeat refine ai ?_
         refine U (e:=GateField.e) (xs:=fs) (hlk1) rfl ?_
         repeat refine ai ?_
         refine aj ?_ ?_<;>intro g2
         ·repeat refine ai ?_
          refine U (e:=eB) (xs:=o.values) (hlk2) rfl ?_
          repeat refine ai ?_
          refine aj ?_ ?_<;>intro g3
          ·have hc:(fs[k].kind==4&& !(o.values[k]==[]))=true:=by rw[g2];exact g3
           rw[hc,cond_true,List.all_cons] at hr
           repeat refine ai ?_
           refine U (e:=GateField.e) (xs:=fs) (hlk1) rfl ?_
           repeat refine ai ?_
           refine U (e:=eB) (xs:=o.values) (hlk2) rfl ?_
           repeat refine ai ?_
           refine oc (De _ _ _) ?_
           repeat refine ai ?_
           refine aj ?_ ?_<;>intro g4
           ·refine bd ?_
            rw[iE hlk2,kU g4,Bool.false_and] at hr
            rw[hrO,hr];rfl
           ·rw[iE hlk2,jb g4,Bool.true_and] at hr
            repeat refine ai ?_
            exact ⟨_,_,_,⟨k+1,rfl,hlk1,hr,rfl,rfl⟩,by omega,rfl,rfl,⟨rfl,rfl,rfl,rfl,rfl,nd (V hlk1 hfs),trivial⟩,(by repeat' first|exact rfl|exact trivial|refine aj ?_ ?_),(by repeat' first|exact rfl|exact trivial|refine aj ?_ ?_)⟩
          ·have hc:(fs[k].kind==4&& !(o.values[k]==[]))=false:=by rw[g2];exact g3
           rw[hc,cond_false] at hr
           repeat refine ai ?_
           refine an ?_
           repeat refine ai ?_
           exact ⟨_,_,_,⟨k+1,rfl,hlk1,hr,rfl,rfl⟩,by omega,rfl,rfl,⟨rfl,rfl,rfl,rfl,rfl,nd (V hlk1 hfs),trivial⟩,(by repeat' first|exact rfl|exact trivial|refine aj ?_ ?_),(by repeat' first|exact rfl|exact trivial|refine aj ?_ ?_)⟩
         ·have hc:(fs[k].kind==4&& !(o.values[k]==[]))=false:=by rw[g2];rfl
          rw[hc,cond_false] at hr
          repeat refine ai ?_
          refine an ?_
          repeat refine ai ?_
          refine an ?_
          repeat refine ai ?_
          exact ⟨_,_,_,⟨k+1,rfl,hlk1,hr,rfl,rfl⟩,by omega,rfl,rfl,⟨rfl,rfl,rfl,rfl,rfl,nd (V hlk1 hfs),trivial⟩,(by repeat' first|exact rfl|exact trivial|refine aj ?_ ?_),(by repeat' first|exact rfl|exact trivial|refine aj ?_ ?_)⟩
        ·rw[List.drop_of_length_le (Z g1),mC rfl] at hr
         have hl:lk=true:=hr
         rw[hl,Bool.true_and] at hrO
         repeat refine ai ?_
         exact bU hlt hs hrO
     ·have hpv:=cu (xs:=b.objects) (qg p1)
      rw[hpv] at hr
      rw[hpv] at hob0
      rw[hob0 true rfl,Bool.true_and] at hr
      repeat refine ai ?_
      refine an ?_
      repeat refine ai ?_
      refine ak ?_
      repeat refine ai ?_
      refine oc (rz L.shapes L.mends o hx hmm) ?_
      repeat refine ai ?_
      refine oc (lM _ _) ?_
      repeat refine ai ?_
      refine aj ?_ ?_<;>intro c5
      ·have c5:((eX L.shapes L.mends o).values==o.values)=false:=rV c5
       repeat refine ai ?_
       refine bd ?_
       rw[hr,show aG L b o=false from by simp only[aG,c1,c2,c3,c5,bl]]
       rfl
      ·have c5:((eX L.shapes L.mends o).values==o.values)=true:=ot c5
       have hrest:aG L b o=(dA (am L.shapes o.kind o.values.length).1 o.values 0).all (fun p=>fL b p.2.to_ (xp o.values p.1)):=by simp only[aG,c1,c2,c3,c5,Bool.true_and];rfl
       rw[hrest] at hr
       repeat refine ai ?_
       refine oc (fQ _ _) ?_
       have hfl:=(db (xs:=L.shapes) (k:=o.kind) (n:=o.values.length)).2 (yR c1)
       generalize (am L.shapes o.kind o.values.length).1=fs at*
       have hfs:fs.length≤al:=by omega
       generalize hlk:(dA fs o.values 0).all (fun p=>fL b p.2.to_ (xp o.values p.1))=lk at*
       generalize hck:az (lF L b) none b.objects=ck at*
       have hrO:=hr
       clear hr
       repeat refine ai ?_
       refine eb (fs) (fun k=>lk=(dA (fs.drop k) (o.values.drop k) k).all (fun p=>fL b p.2.to_ (xp o.values p.1))) (fun k=>[(2,.ptr 0 0),(3,.ptr 1 0),(5,.d (.int .i64 i)),(6,.ptr 2 0),(9,.d (ab fs)),(11,.d (.int .i64 k))]) (fun k=>⟨[(2,.cells 103 (o.e.map .d)),(1,.cells 48 (b.e.map .d)),(0,.cells 41 (L.e.map .d))],3,0⟩) (hlk.symm) ?_
       intro k hk hr
       repeat refine ai ?_
       refine aj ?_ ?_<;>intro g1
       ·have hlk1:k<fs.length:=Y g1
        have hlk2:k<o.values.length:=by omega
        rw[kL hlk1 hlk2] at hr
        repeat refine ai ?_
        refine ak ?_
        repeat refine ai ?_
        refine U (e:=GateField.e) (xs:=fs) (hlk1) rfl ?_
        repeat refine ai ?_
        refine aj ?_ ?_<;>intro g2
        ·repeat refine ai ?_
         refine U (e:=eB) (xs:=o.values) (hlk2) rfl ?_
         repeat refine ai ?_
         refine aj ?_ ?_<;>intro g3
         ·have hc:(fs[k].kind==4&& !(o.values[k]==[]))=true:=by rw[g2];exact g3
          rw[hc,cond_true,List.all_cons] at hr
          repeat refine ai ?_
          refine U (e:=GateField.e) (xs:=fs) (hlk1) rfl ?_
          repeat refine ai ?_
          refine U (e:=eB) (xs:=o.values) (hlk2) rfl ?_
          repeat refine ai ?_
          refine oc (De _ _ _) ?_
          repeat refine ai ?_
          refine aj ?_ ?_<;>intro g4
          ·refine bd ?_
           rw[iE hlk2,kU g4,Bool.false_and] at hr
           rw[hrO,hr];rfl
          ·rw[iE hlk2,jb g4,Bool.true_and] at hr
           repeat refine ai ?_
           exact ⟨_,_,_,⟨k+1,rfl,hlk1,hr,rfl,rfl⟩,by omega,rfl,rfl,⟨rfl,rfl,rfl,rfl,rfl,nd (V hlk1 hfs),trivial⟩,(by repeat' first|exact rfl|exact trivial|refine aj ?_ ?_),(by repeat' first|exact rfl|exact trivial|refine aj ?_ ?_)⟩
         ·have hc:(fs[k].kind==4&& !(o.values[k]==[]))=false:=by rw[g2];exact g3
          rw[hc,cond_false] at hr
          repeat refine ai ?_
          refine an ?_
          repeat refine ai ?_
          exact ⟨_,_,_,⟨k+1,rfl,hlk1,hr,rfl,rfl⟩,by omega,rfl,rfl,⟨rfl,rfl,rfl,rfl,rfl,nd (V hlk1 hfs),trivial⟩,(by repeat' first|exact rfl|exact trivial|refine aj ?_ ?_),(by repeat' first|exact rfl|exact trivial|refine aj ?_ ?_)⟩
        ·have hc:(fs[k].kind==4&& !(o.values[k]==[]))=false:=by rw[g2];rfl
         rw[hc,cond_false] at hr
         repeat refine ai ?_
         refine an ?_
         repeat refine ai ?_
         refine an ?_
         repeat refine ai ?_
         exact ⟨_,_,_,⟨k+1,rfl,hlk1,hr,rfl,rfl⟩,by omega,rfl,rfl,⟨rfl,rfl,rfl,rfl,rfl,nd (V hlk1 hfs),trivial⟩,(by repeat' first|exact rfl|exact trivial|refine aj ?_ ?_),(by repeat' first|exact rfl|exact trivial|refine aj ?_ ?_)⟩
       ·rw[List.drop_of_length_le (Z g1),mC rfl] at hr
        have hl:lk=true:=hr
        rw[hl,Bool.true_and] at hrO
        repeat refine ai ?_
        exact bU hlt hs hrO
   ·have c2:(L.teams.any (·.name==o.team))=false:=rV c2
    repeat refine ai ?_
    refine bd ?_
    rw[hr,show lF L b (cQ b.objects i) o=false from by rw[hob0 _ rfl];simp only[aG,c1,c2,bl]]
    rfl
  ·have c1:((Bt L.shapes o).1==0)=false:=rV c1
   repeat refine ai ?_
   refine bd ?_
   rw[hr,show lF L b (cQ b.objects i) o=false from by rw[hob0 _ rfl];simp only[aG,c1,bl]]
   rfl
 ·refine bd ?_
  rw[hr,ft (Z h1)]
end Go.Vc
end
section
namespace Go.Vc
open Go.Proofs
set_option maxRecDepth 100000
def yj (p:Option GateGrant) (n:Int):Bool:=match p with|some q=> !decide (q.number≥n)|none=>true
def fe (b:GateBook) (p:Option GateGrant) (g:GateGrant):Bool:=d9 g.number 1 b.given&&(yj p g.number&&(aD g.to_&&((g.by_==[]||aD g.by_)&&be g.rule)))
def gQ (b:GateBook):Bool:= !decide ((b.grants.length:Int)>24)&&az (fe b) none b.grants
theorem nP (n a b:Int):d9 n a b=(!decide (n<a)&& !decide (n>b)):=by
 unfold d9
 congr 1
 ·by_cases h:n<a
  ·rw[decide_eq_true h,decide_eq_false (by omega)];rfl
  ·rw[decide_eq_false h,decide_eq_true (by omega)];rfl
 ·by_cases h:n>b
  ·rw[decide_eq_true h,decide_eq_false (by omega)];rfl
  ·rw[decide_eq_false h,decide_eq_true (by omega)];rfl
set_option maxHeartbeats 2000000 in
theorem At (b:GateBook):Spec P 127 [st b.e] (.d (.bool (gQ b))):=by
 refine Spec.of_vc aP av [.tmp 2] Tryz.func127 rfl rfl rfl rfl (fun hok=>?_)
 have hs:=(bT hok).2.1
 repeat refine ai ?_
 refine aj ?_ ?_<;>intro h0
 ·refine bd ?_
  rw[List.length_map] at h0
  rw[gQ,h0];rfl
 rw[List.length_map] at h0
 have hob:gQ b=az (fe b) none b.grants:=by rw[gQ,h0];rfl
 rw[hob]
 repeat refine ai ?_
 refine eb (b.grants) (fun i=>az (fe b) none b.grants=az (fe b) (cQ b.grants i) (b.grants.drop i)) (fun i=>[(1,.ptr 0 0),(10,.d (aU b.grants)),(11,.d (.int .i64 (b.grants.map GateGrant.e).length)),(12,.d (.int .i64 i))]) (fun i=>⟨[(0,.cells 48 (b.e.map .d))],1,0⟩) (rfl) ?_
 intro i hi hr
 repeat refine ai ?_
 refine aj ?_ ?_<;>intro h1
 ·have hlt:i<b.grants.length:=Y h1
  rw[eD hlt] at hr
  repeat refine ai ?_
  refine U (e:=GateGrant.e) (xs:=b.grants) (hlt) rfl ?_
  repeat refine ai ?_
  refine ak ?_
  repeat refine ai ?_
  repeat' first
   |refine ai ?_
   |(refine n1 ?_;intro h)
   |(refine n2 ?_;intro h)
   |(refine n3 ?_;intro h)
   |(refine n4 ?_;intro h)
   |(refine aj ?_ ?_<;>intro h)
   |refine oc (c9 _) ?_
   |refine oc (DV _) ?_
   |refine ak ?_
   |refine aI (e:=GateGrant.e) (xs:=b.grants) (k:=i - 1) (by omega) (ba (mG (by assumption)) hlt hs) rfl ?_
  all_goals (first|rw[ct (mG (by assumption)) hlt] at hr|rw[cu (qg (by assumption))] at hr|skip)
  all_goals (simp only[cond_false,cond_true,Bool.not_eq_true',Bool.not_eq_false',reduceCtorEq] at*)
  all_goals first
   |(refine bd ?_
     rw[hr]
     clear hr
     simp only[fe,yj,nP, *,bl]
     done)
   |(refine (fun hq:az (fe b) none b.grants=az (fe b) (cQ b.grants (i+1)) (b.grants.drop (i+1))=>?_) ?_
     rotate_left
     ·rw[hr]
      clear hr
      simp only[fe,yj,nP, *,bl]
      done
     ·repeat refine ai ?_
      exact bU hlt hs hq)
 ·refine bd ?_
  rw[hr,ft (Z h1)]
set_option maxHeartbeats 2000000 in
theorem wn (b:GateBook):Spec P 116 [st b.e] (.d (.bool (gQ b))):=by
 refine Spec.of_vc aP av [.tmp 2] Tryz.func116 rfl rfl rfl rfl (fun hok=>?_)
 have hs:=(bT hok).2.1
 repeat refine ai ?_
 refine aj ?_ ?_<;>intro h0
 ·refine bd ?_
  rw[List.length_map] at h0
  rw[gQ,h0];rfl
 rw[List.length_map] at h0
 have hob:gQ b=az (fe b) none b.grants:=by rw[gQ,h0];rfl
 rw[hob]
 repeat refine ai ?_
 refine eb (b.grants) (fun i=>az (fe b) none b.grants=az (fe b) (cQ b.grants i) (b.grants.drop i)) (fun i=>[(1,.ptr 0 0),(3,.d (.int .i64 i))]) (fun i=>⟨[(0,.cells 48 (b.e.map .d))],1,0⟩) (rfl) ?_
 intro i hi hr
 repeat refine ai ?_
 refine aj ?_ ?_<;>intro h1
 ·have hlt:i<b.grants.length:=Y h1
  rw[eD hlt] at hr
  repeat refine ai ?_
  refine U (e:=GateGrant.e) (xs:=b.grants) (hlt) rfl ?_
  repeat refine ai ?_
  refine ak ?_
  repeat refine ai ?_
  repeat' first
   |refine ai ?_
   |(refine n1 ?_;intro h)
   |(refine n2 ?_;intro h)
   |(refine n3 ?_;intro h)
   |(refine n4 ?_;intro h)
   |(refine aj ?_ ?_<;>intro h)
   |refine oc (eu _ _ _) ?_
   |refine oc (bx _) ?_
   |refine oc (zO _) ?_
   |refine ak ?_
   |refine aI (e:=GateGrant.e) (xs:=b.grants) (k:=i - 1) (by omega) (ba (mG (by assumption)) hlt hs) rfl ?_
  all_goals (first|rw[ct (mG (by assumption)) hlt] at hr|rw[cu (qg (by assumption))] at hr|skip)
  all_goals (simp only[cond_false,cond_true,Bool.not_eq_true',Bool.not_eq_false',reduceCtorEq] at*)
  all_goals first
   |(refine bd ?_
     rw[hr]
     clear hr
     simp only[fe,yj, *,bl]
     done)
   |(refine (fun hq:az (fe b) none b.grants=az (fe b) (cQ b.grants (i+1)) (b.grants.drop (i+1))=>?_) ?_
     rotate_left
     ·rw[hr]
      clear hr
      simp only[fe,yj, *,bl]
      done
     ·repeat refine ai ?_
      exact bU hlt hs hq)
 ·refine bd ?_
  rw[hr,ft (Z h1)]
end Go.Vc
end
section
namespace Go.Vc
open Go.Proofs
set_option maxRecDepth 100000
def gC (xs:List GateTeam):Nat→Bs→Bs→Bool
 |0,a,b=>a==b
 |k+1,a,b=>a==b||(!(dE a xs==[])&&gC xs k (dE a xs) b)
def px (xs:List GateTeam) (a b:Bs):Bool:=gC xs 4 a b
theorem rQ:∀{xs:List GateTeam} {n:Bs},xs.any (·.name==n)=false→dE n xs=[]
 |[],_,_=>rfl
 |x::xs,n,h=>by
  rw[List.any_cons,Bool.or_eq_false_iff] at h
  simp only[dE,h.1,cond_false]
  exact rQ h.2
theorem AW {k n:Nat} (h:k<n) (hn:n≤100):IntKind.i64.wrap ((k:Int)+1)=((k+1:Nat):Int):=by
 rw[IntKind.wrap_i64];omega
theorem xV (xs:List GateTeam) (a b:Bs):Spec P 155 [.d (ao xs),.d (.str a),.d (.str b)] (.d (.bool (px xs a b))):=by
 refine Spec.of_vc aP av [.tmp 6] Tryz.func155 rfl rfl rfl rfl (fun hok=>?_)
 repeat refine ai ?_
 refine aj ?_ ?_<;>intro h0
 ·refine bd ?_
  simp only[px,gC,h0,Bool.true_or]
 have hu:px xs a b=(!(dE a xs==[])&&gC xs 3 (dE a xs) b):=by simp only[px,gC,h0,Bool.false_or]
 rw[hu]
 repeat refine ai ?_
 refine ⟨fun m l h=>∃(s:Nat) (x:Bs),m=4 - s∧s≤4∧(!(dE a xs==[])&&gC xs 3 (dE a xs) b)=(bif Nat.ble 4 s then false else (!(dE x xs==[])&&gC xs (3 - s) (dE x xs) b))∧l=[(0,.d (ao xs)),(1,.d (.str x)),(2,.d (.str b)),(7,.d (.int .i64 s))]∧h=hp0,
  ⟨_,_,_,⟨0,a,rfl,by decide,rfl,rfl,rfl⟩,rfl,rfl,⟨rfl,rfl,rfl,rfl,trivial⟩,trivial,trivial⟩,?_⟩
 rintro m l hh ⟨s,x,rfl,hs,hr,rfl,rfl⟩
 repeat refine ai ?_
 refine aj ?_ ?_<;>intro h1
 ·have hs4:s<4:=by have:=of_decide_eq_true h1;omega
  rw[show Nat.ble 4 s=false from by cases e:Nat.ble 4 s;rfl;have:=Nat.le_of_ble_eq_true e;omega,cond_false] at hr
  repeat refine ai ?_
  refine oc (kx _ _) ?_
  repeat refine ai ?_
  refine aj ?_ ?_<;>intro h2
  ·refine bd ?_
   rw[hr,h2];rfl
  ·rw[h2,Bool.not_false,Bool.true_and] at hr
   generalize dE x xs=y at*
   repeat refine ai ?_
   refine aj ?_ ?_<;>intro h3
   ·refine bd ?_
    rw[hr]
    cases (3 - s)<;>simp only[gC,h3,Bool.true_or]
   ·repeat refine ai ?_
    refine ⟨_,_,_,⟨s+1,y,rfl,hs4,?_,rfl,rfl⟩,by omega,rfl,rfl,⟨rfl,rfl,rfl,nd (AW hs4 (by decide)),trivial⟩,trivial,trivial⟩
    rw[hr]
    rcases (show s=0∨s=1∨s=2∨s=3 by omega) with rfl|rfl|rfl|rfl
    ·show (y==b||_)=_
     rw[h3];rfl
    ·show (y==b||_)=_
     rw[h3];rfl
    ·show (y==b||_)=_
     rw[h3];rfl
    ·exact h3
 ·have hs4:s=4:=by have:=of_decide_eq_false h1;omega
  subst hs4
  refine bd ?_
  rw[hr];rfl
theorem yX (xs:List GateTeam) (a b:Bs):Spec P 159 [.d (ao xs),.d (.str a),.d (.str b)] (.d (.bool (px xs a b))):=by
 refine Spec.of_vc aP av [.tmp 6] Tryz.func159 rfl rfl rfl rfl (fun hok=>?_)
 refine ⟨fun m l h=>∃(s:Nat) (x:Bs),m=4 - s∧s≤4∧px xs a b=gC xs (4 - s) x b∧l=[(0,.d (ao xs)),(1,.d (.str x)),(2,.d (.str b)),(7,.d (.int .i64 s))]∧h=hp0,
  ⟨_,_,_,⟨0,a,rfl,by decide,rfl,rfl,rfl⟩,rfl,rfl,⟨rfl,rfl,rfl,rfl,trivial⟩,trivial,trivial⟩,?_⟩
 rintro m l hh ⟨s,x,rfl,hs,hr,rfl,rfl⟩
 repeat refine ai ?_
 refine aj ?_ ?_<;>intro h1
 ·have h1:(x==b)=false:=rV h1
  repeat refine ai ?_
  refine oc (fF _ _) ?_
  repeat refine ai ?_
  refine aj ?_ ?_<;>intro h2
  ·have hs4:s<4:=by
    have:=beq_eq_false_iff_ne.1 h2
    omega
   have hu:gC xs (4 - s) x b=(!(dE x xs==[])&&gC xs (4 - (s+1)) (dE x xs) b):=by
    rw[show 4 - s=(4 - (s+1))+1 from by omega]
    show (x==b||_)=_
    rw[h1];rfl
   rw[hu] at hr
   repeat refine ai ?_
   refine aj ?_ ?_<;>intro h3
   ·obtain ⟨j,hj,ej,_⟩:=cx (p:=fun t:GateTeam=>t.name==x) (xs:=xs) (decide_eq_true (by have:=of_decide_eq_false h3;omega))
    obtain ⟨_,eo⟩:=oZ (n:=x) (xs:=xs) (k:=0) (j:=j) (by rw[Nat.zero_add];exact ej)
    repeat refine ai ?_
    refine aI (e:=GateTeam.e) (xs:=xs) (hj) (ej) rfl ?_
    repeat refine ai ?_
    refine aj ?_ ?_<;>intro h4
    ·refine bd ?_
     rw[hr,eo,h4];rfl
    ·repeat refine ai ?_
     refine aI (e:=GateTeam.e) (xs:=xs) (hj) (ej) rfl ?_
     repeat refine ai ?_
     rw[eo,h4,Bool.not_false,Bool.true_and] at hr
     repeat refine ai ?_
     exact ⟨_,_,_,⟨s+1,_,rfl,hs4,hr,rfl,rfl⟩,by omega,rfl,rfl,⟨rfl,rfl,rfl,nd (AW hs4 (by decide)),trivial⟩,trivial,trivial⟩
   ·have hn:=rV (idx_lt.symm.trans h3)
    rw[rQ hn] at hr
    refine bd ?_
    rw[hr];rfl
  ·have hs4:s=4:=by
    have:=beq_iff_eq.1 h2
    omega
   subst hs4
   refine bd ?_
   rw[hr]
   exact h1.symm
 ·have h1:(x==b)=true:=ot h1
  refine bd ?_
  rw[hr]
  cases (4 - s)<;>simp only[gC,h1,Bool.true_or]
def cq (a b:Int):Int:=IntKind.i64.wrap (a+b)
theorem uu {a:Int} (h:IntKind.i64.wrap a=a):cq a 0=a:=by unfold cq;rw[Int.add_zero,h]
theorem BO (a:Int):IntKind.i64.wrap (IntKind.i64.wrap a)=IntKind.i64.wrap a:=by simp only[IntKind.wrap_i64];omega
theorem qo (a b:Int):IntKind.i64.wrap (cq a b)=cq a b:=BO _
theorem GQ (c:Bool):IntKind.i64.wrap (bif c then 1 else 0)=bif c then 1 else 0:=by cases c<;>rfl
def e6 (r:Bs):List GateField→List Bs→Int→Int
 |f::fs,v::vs,n=>e6 r fs vs (bif f.kind==1&&f.weighs==r then cq n (iZ v) else n)
 |_,_,n=>n
theorem io {r:Bs} {fs:List GateField} {vs:List Bs} {i:Nat} {n:Int} (h:i<fs.length) (h2:i<vs.length):e6 r (fs.drop i) (vs.drop i) n=e6 r (fs.drop (i+1)) (vs.drop (i+1)) (bif fs[i].kind==1&&fs[i].weighs==r then cq n (iZ vs[i]) else n):=by
 rw[List.drop_eq_getElem_cons h,List.drop_eq_getElem_cons h2];rfl
theorem jg {r:Bs} {fs:List GateField} {vs:List Bs} {i:Nat} {n:Int} (h:fs.length≤i):e6 r (fs.drop i) (vs.drop i) n=n:=by
 rw[List.drop_of_length_le h];rfl
def fy (L:GateLaw) (o:GateObject) (r:Bs):Int:=bif !(am L.shapes o.kind o.values.length).2||r==[] then 0 else e6 r (am L.shapes o.kind o.values.length).1 o.values (bif r==o.kind then 1 else 0)
theorem wY (L:GateLaw) (o:GateObject) (r:Bs):Spec P 160 [st L.e,st o.e,.d (.str r)] (.d (.int .i64 (fy L o r))):=by
 refine Spec.of_vc aP av [.tmp 6] Tryz.func160 rfl rfl rfl rfl (fun hok=>?_)
 have hvb:=(iH (o:=o) ⟨hok.2.1,trivial⟩).1
 repeat refine ai ?_
 refine oc (fY _ _) ?_
 repeat refine ai ?_
 refine aj ?_ ?_<;>intro h0
 ·have h0:=ot h0
  repeat refine ai ?_
  refine aj ?_ ?_<;>intro h1
  ·refine nd ?_
   simp only[fy,h0,h1,cond_true,bl]
  ·have hw:fy L o r=e6 r (am L.shapes o.kind o.values.length).1 o.values (bif r==o.kind then 1 else 0):=by simp only[fy,h0,h1,cond_false,bl]
   have hfl:=(db (xs:=L.shapes) (k:=o.kind) (n:=o.values.length)).2 h0
   rw[hw]
   generalize (am L.shapes o.kind o.values.length).1=fs at*
   repeat refine ai ?_
   refine aj ?_ ?_<;>intro h2
   ·rw[h2,cond_true]
    repeat refine ai ?_
    refine pK (fs) (fun i (n:Int)=>e6 r fs o.values 1=e6 r (fs.drop i) (o.values.drop i) n) (fun i (n:Int)=>[(2,.d (.str r)),(4,.ptr 1 0),(9,.d (.int .i64 n)),(31,.d (ab fs)),(32,.d (.int .i64 (fs.map GateField.e).length)),(33,.d (.int .i64 i))]) (fun i (n:Int)=>⟨[(1,.cells 103 (o.e.map .d)),(0,.cells 41 (L.e.map .d))],2,0⟩) (rfl) ?_
    intro i n hi hr
    have hs:fs.length≤al:=by omega
    repeat refine ai ?_
    refine aj ?_ ?_<;>intro g1
    ·have hlt:i<fs.length:=Y g1
     have hlt2:i<o.values.length:=by omega
     rw[io hlt hlt2] at hr
     repeat refine ai ?_
     refine U (e:=GateField.e) (xs:=fs) (hlt) rfl ?_
     repeat refine ai ?_
     refine aj ?_ ?_<;>intro g2
     ·repeat refine ai ?_
      refine aj ?_ ?_<;>intro g3
      ·have hc:(fs[i].kind==1&&fs[i].weighs==r)=false:=by rw[ot g2,rV g3];rfl
       rw[hc,cond_false] at hr
       repeat refine ai ?_
       exact d6 n hlt hs hr
      ·have hc:(fs[i].kind==1&&fs[i].weighs==r)=true:=by rw[ot g2,ot g3];rfl
       rw[hc,cond_true] at hr
       repeat refine ai ?_
       refine U (e:=eB) (xs:=o.values) (hlt2) rfl ?_
       repeat refine ai ?_
       refine oc (pc _) ?_
       repeat refine ai ?_
       exact d6 (cq n (iZ o.values[i])) hlt hs hr
     ·have hc:(fs[i].kind==1&&fs[i].weighs==r)=false:=by rw[rV g2];rfl
      rw[hc,cond_false] at hr
      repeat refine ai ?_
      exact d6 n hlt hs hr
    ·refine nd ?_
     rw[hr,jg (Z g1)]
   ·rw[h2,cond_false]
    repeat refine ai ?_
    refine pK (fs) (fun i (n:Int)=>e6 r fs o.values 0=e6 r (fs.drop i) (o.values.drop i) n) (fun i (n:Int)=>[(2,.d (.str r)),(4,.ptr 1 0),(9,.d (.int .i64 n)),(31,.d (ab fs)),(32,.d (.int .i64 (fs.map GateField.e).length)),(33,.d (.int .i64 i))]) (fun i (n:Int)=>⟨[(1,.cells 103 (o.e.map .d)),(0,.cells 41 (L.e.map .d))],2,0⟩) (rfl) ?_
    intro i n hi hr
    have hs:fs.length≤al:=by omega
    repeat refine ai ?_
    refine aj ?_ ?_<;>intro g1
    ·have hlt:i<fs.length:=Y g1
     have hlt2:i<o.values.length:=by omega
     rw[io hlt hlt2] at hr
     repeat refine ai ?_
     refine U (e:=GateField.e) (xs:=fs) (hlt) rfl ?_
     repeat refine ai ?_
     refine aj ?_ ?_<;>intro g2
     ·repeat refine ai ?_
      refine aj ?_ ?_<;>intro g3
      ·have hc:(fs[i].kind==1&&fs[i].weighs==r)=false:=by rw[ot g2,rV g3];rfl
       rw[hc,cond_false] at hr
       repeat refine ai ?_
       exact d6 n hlt hs hr
      ·have hc:(fs[i].kind==1&&fs[i].weighs==r)=true:=by rw[ot g2,ot g3];rfl
       rw[hc,cond_true] at hr
       repeat refine ai ?_
       refine U (e:=eB) (xs:=o.values) (hlt2) rfl ?_
       repeat refine ai ?_
       refine oc (pc _) ?_
       repeat refine ai ?_
       exact d6 (cq n (iZ o.values[i])) hlt hs hr
     ·have hc:(fs[i].kind==1&&fs[i].weighs==r)=false:=by rw[rV g2];rfl
      rw[hc,cond_false] at hr
      repeat refine ai ?_
      exact d6 n hlt hs hr
    ·refine nd ?_
     rw[hr,jg (Z g1)]
 ·refine nd ?_
  simp only[fy,h0,Bool.true_or,cond_true]
end Go.Vc
end
section
namespace Go.Vc
open Go.Proofs
set_option maxRecDepth 100000
theorem Bk {v:Bs} (h:decide (jD v>0)=true):iZ v=jD v:=by
 have:=of_decide_eq_true h
 unfold jD iZ at*
 cases e:ey v with
 |none=>rw[e] at this;simp at this
 |some n=>rfl
theorem Bl {v:Bs} (h:decide (jD v>0)=false):iZ v=0:=by
 have:=of_decide_eq_false h
 unfold jD iZ at*
 cases e:ey v with
 |none=>rfl
 |some n=>
  rw[e] at this
  simp only at this ⊢
  have:=nD e
  omega
theorem wq (L:GateLaw) (o:GateObject) (r:Bs):Spec P 156 [st L.e,st o.e,.d (.str r)] (.d (.int .i64 (fy L o r))):=by
 refine Spec.of_vc aP av [.tmp 6] Tryz.func156 rfl rfl rfl rfl (fun hok=>?_)
 have hvb:=(iH (o:=o) ⟨hok.2.1,trivial⟩).1
 repeat refine ai ?_
 refine oc (fQ _ _) ?_
 repeat refine ai ?_
 refine aj ?_ ?_<;>intro h0
 ·have h0:=ot h0
  repeat refine ai ?_
  refine aj ?_ ?_<;>intro h1
  ·refine nd ?_
   simp only[fy,h0,h1,cond_true,bl]
  ·have hw:fy L o r=e6 r (am L.shapes o.kind o.values.length).1 o.values (bif r==o.kind then 1 else 0):=by simp only[fy,h0,h1,cond_false,bl]
   have hfl:=(db (xs:=L.shapes) (k:=o.kind) (n:=o.values.length)).2 h0
   rw[hw]
   generalize (am L.shapes o.kind o.values.length).1=fs at*
   repeat refine ai ?_
   refine aj ?_ ?_<;>intro h2
   ·rw[h2,cond_true]
    repeat refine ai ?_
    refine pK (fs) (fun i (n:Int)=>e6 r fs o.values 1=e6 r (fs.drop i) (o.values.drop i) n∧IntKind.i64.wrap n=n) (fun i (n:Int)=>[(2,.d (.str r)),(4,.ptr 1 0),(7,.d (ab fs)),(9,.d (.int .i64 n)),(10,.d (.int .i64 i))]) (fun i (n:Int)=>⟨[(1,.cells 103 (o.e.map .d)),(0,.cells 41 (L.e.map .d))],2,0⟩) (⟨rfl,rfl⟩) ?_
    intro i n hi hr
    obtain ⟨hr,hwn⟩:=hr
    have hs:fs.length≤al:=by omega
    repeat refine ai ?_
    refine aj ?_ ?_<;>intro g1
    ·have hlt:i<fs.length:=Y g1
     have hlt2:i<o.values.length:=by omega
     rw[io hlt hlt2] at hr
     repeat refine ai ?_
     refine U (e:=eB) (xs:=o.values) (hlt2) rfl ?_
     repeat refine ai ?_
     refine oc (ml _) ?_
     repeat refine ai ?_
     refine U (e:=GateField.e) (xs:=fs) (hlt) rfl ?_
     repeat refine ai ?_
     refine aj ?_ ?_<;>intro g2
     ·repeat refine ai ?_
      refine U (e:=GateField.e) (xs:=fs) (hlt) rfl ?_
      repeat refine ai ?_
      refine aj ?_ ?_<;>intro g3
      ·have hc:(fs[i].kind==1&&fs[i].weighs==r)=true:=by rw[g2];exact g3
       rw[hc,cond_true] at hr
       repeat refine ai ?_
       refine aj ?_ ?_<;>intro g4
       ·rw[Bk g4] at hr
        repeat refine ai ?_
        exact d6 (cq n (jD o.values[i])) hlt hs ⟨hr,qo _ _⟩
       ·rw[Bl g4,uu hwn] at hr
        repeat refine ai ?_
        exact d6 n hlt hs ⟨hr,hwn⟩
      ·have hc:(fs[i].kind==1&&fs[i].weighs==r)=false:=by rw[g2];exact g3
       rw[hc,cond_false] at hr
       repeat refine ai ?_
       exact d6 n hlt hs ⟨hr,hwn⟩
     ·have hc:(fs[i].kind==1&&fs[i].weighs==r)=false:=by rw[g2];rfl
      rw[hc,cond_false] at hr
      repeat refine ai ?_
      exact d6 n hlt hs ⟨hr,hwn⟩
    ·refine nd ?_
     rw[hr,jg (Z g1)]
   ·rw[h2,cond_false]
    repeat refine ai ?_
    refine pK (fs) (fun i (n:Int)=>e6 r fs o.values 0=e6 r (fs.drop i) (o.values.drop i) n∧IntKind.i64.wrap n=n) (fun i (n:Int)=>[(2,.d (.str r)),(4,.ptr 1 0),(7,.d (ab fs)),(9,.d (.int .i64 n)),(10,.d (.int .i64 i))]) (fun i (n:Int)=>⟨[(1,.cells 103 (o.e.map .d)),(0,.cells 41 (L.e.map .d))],2,0⟩) (⟨rfl,rfl⟩) ?_
    intro i n hi hr
    obtain ⟨hr,hwn⟩:=hr
    have hs:fs.length≤al:=by omega
    repeat refine ai ?_
    refine aj ?_ ?_<;>intro g1
    ·have hlt:i<fs.length:=Y g1
     have hlt2:i<o.values.length:=by omega
     rw[io hlt hlt2] at hr
     repeat refine ai ?_
     refine U (e:=eB) (xs:=o.values) (hlt2) rfl ?_
     repeat refine ai ?_
     refine oc (ml _) ?_
     repeat refine ai ?_
     refine U (e:=GateField.e) (xs:=fs) (hlt) rfl ?_
     repeat refine ai ?_
     refine aj ?_ ?_<;>intro g2
     ·repeat refine ai ?_
      refine U (e:=GateField.e) (xs:=fs) (hlt) rfl ?_
      repeat refine ai ?_
      refine aj ?_ ?_<;>intro g3
      ·have hc:(fs[i].kind==1&&fs[i].weighs==r)=true:=by rw[g2];exact g3
       rw[hc,cond_true] at hr
       repeat refine ai ?_
       refine aj ?_ ?_<;>intro g4
       ·rw[Bk g4] at hr
        repeat refine ai ?_
        exact d6 (cq n (jD o.values[i])) hlt hs ⟨hr,qo _ _⟩
       ·rw[Bl g4,uu hwn] at hr
        repeat refine ai ?_
        exact d6 n hlt hs ⟨hr,hwn⟩
      ·have hc:(fs[i].kind==1&&fs[i].weighs==r)=false:=by rw[g2];exact g3
       rw[hc,cond_false] at hr
       repeat refine ai ?_
       exact d6 n hlt hs ⟨hr,hwn⟩
     ·have hc:(fs[i].kind==1&&fs[i].weighs==r)=false:=by rw[g2];rfl
      rw[hc,cond_false] at hr
      repeat refine ai ?_
      exact d6 n hlt hs ⟨hr,hwn⟩
    ·refine nd ?_
     rw[hr,jg (Z g1)]
 ·refine nd ?_
  simp only[fy,h0,Bool.true_or,cond_true]
def qQ (L:GateLaw) (t r:Bs):List GateObject→Int→Int
 |[],n=>n
 |o::os,n=>qQ L t r os (bif px L.teams o.team t then cq n (fy L o r) else n)
def cz (L:GateLaw) (b:GateBook) (t r:Bs):Int:=qQ L t r b.objects 0
theorem qP {L:GateLaw} {t r:Bs} {os:List GateObject} {i:Nat} {n:Int} (h:i<os.length):qQ L t r (os.drop i) n=qQ L t r (os.drop (i+1)) (bif px L.teams os[i].team t then cq n (fy L os[i] r) else n):=by
 rw[List.drop_eq_getElem_cons h];rfl
theorem uA {L:GateLaw} {t r:Bs} {os:List GateObject} {i:Nat} {n:Int} (h:os.length≤i):qQ L t r (os.drop i) n=n:=by
 rw[List.drop_of_length_le h];rfl
theorem sE (L:GateLaw) (b:GateBook) (t r:Bs):Spec P 99 [st L.e,st b.e,.d (.str t),.d (.str r)] (.d (.int .i64 (cz L b t r))):=by
 refine Spec.of_vc aP av [.tmp 8] Tryz.func99 rfl rfl rfl rfl (fun hok=>?_)
 have hs:=(bT (cV hok.2)).1
 repeat refine ai ?_
 refine pK (b.objects) (fun i (n:Int)=>cz L b t r=qQ L t r (b.objects.drop i) n) (fun i (n:Int)=>[(2,.d (.str t)),(3,.d (.str r)),(4,.ptr 0 0),(5,.ptr 1 0),(9,.d (.int .i64 n)),(13,.d (aE b.objects)),(14,.d (.int .i64 (b.objects.map GateObject.e).length)),(15,.d (.int .i64 i))]) (fun i (n:Int)=>⟨[(1,.cells 48 (b.e.map .d)),(0,.cells 41 (L.e.map .d))],2,0⟩) (rfl) ?_
 intro i n hi hr
 repeat refine ai ?_
 refine aj ?_ ?_<;>intro g1
 ·have hlt:i<b.objects.length:=Y g1
  rw[qP hlt] at hr
  skip
  repeat refine ai ?_
  refine U (e:=GateObject.e) (xs:=b.objects) (hlt) rfl ?_
  repeat refine ai ?_
  refine oc (yX _ _ _) ?_
  repeat refine ai ?_
  refine aj ?_ ?_<;>intro g2
  ·rw[g2,cond_true] at hr
   skip
   skip
   repeat refine ai ?_
   refine oc (wY _ _ _) ?_
   repeat refine ai ?_
   exact d6 (cq n (fy L b.objects[i] r)) hlt hs hr
  ·rw[g2,cond_false] at hr
   repeat refine ai ?_
   exact d6 n hlt hs hr
 ·refine nd ?_
  rw[hr,uA (Z g1)]
theorem rA (L:GateLaw) (b:GateBook) (t r:Bs):Spec P 94 [st L.e,st b.e,.d (.str t),.d (.str r)] (.d (.int .i64 (cz L b t r))):=by
 refine Spec.of_vc aP av [.tmp 8] Tryz.func94 rfl rfl rfl rfl (fun hok=>?_)
 have hs:=(bT (cV hok.2)).1
 repeat refine ai ?_
 refine pK (b.objects) (fun i (n:Int)=>cz L b t r=qQ L t r (b.objects.drop i) n) (fun i (n:Int)=>[(2,.d (.str t)),(3,.d (.str r)),(4,.ptr 0 0),(5,.ptr 1 0),(9,.d (.int .i64 n)),(10,.d (.int .i64 i))]) (fun i (n:Int)=>⟨[(1,.cells 48 (b.e.map .d)),(0,.cells 41 (L.e.map .d))],2,0⟩) (rfl) ?_
 intro i n hi hr
 repeat refine ai ?_
 refine aj ?_ ?_<;>intro g1
 ·have hlt:i<b.objects.length:=Y g1
  rw[qP hlt] at hr
  repeat refine ai ?_
  refine ak ?_
  repeat refine ai ?_
  refine U (e:=GateObject.e) (xs:=b.objects) (hlt) rfl ?_
  repeat refine ai ?_
  refine oc (xV _ _ _) ?_
  repeat refine ai ?_
  refine aj ?_ ?_<;>intro g2
  ·rw[g2,cond_true] at hr
   repeat refine ai ?_
   refine ak ?_
   repeat refine ai ?_
   refine U (e:=GateObject.e) (xs:=b.objects) (hlt) rfl ?_
   repeat refine ai ?_
   refine oc (wq _ _ _) ?_
   repeat refine ai ?_
   exact d6 (cq n (fy L b.objects[i] r)) hlt hs hr
  ·rw[g2,cond_false] at hr
   repeat refine ai ?_
   exact d6 n hlt hs hr
 ·refine nd ?_
  rw[hr,uA (Z g1)]
def nA (t r:Bs):List GatePurse→Int→Int
 |[],n=>n
 |p::ps,n=>nA t r ps (bif p.team==t&&p.resource==r then cq n p.amount else n)
def EU (b:GateBook) (t r:Bs):Int:=nA t r b.purses 0
theorem Cq {t r:Bs} {os:List GatePurse} {i:Nat} {n:Int} (h:i<os.length):nA t r (os.drop i) n=nA t r (os.drop (i+1)) (bif os[i].team==t&&os[i].resource==r then cq n os[i].amount else n):=by
 rw[List.drop_eq_getElem_cons h];rfl
theorem DC {t r:Bs} {os:List GatePurse} {i:Nat} {n:Int} (h:os.length≤i):nA t r (os.drop i) n=n:=by
 rw[List.drop_of_length_le h];rfl
theorem EN (b:GateBook) (t r:Bs):Spec P 177 [st b.e,.d (.str t),.d (.str r)] (.d (.int .i64 (EU b t r))):=by
 refine Spec.of_vc aP av [.tmp 6] Tryz.func177 rfl rfl rfl rfl (fun hok=>?_)
 have hs:=(bT (cV hok)).2.2.2
 repeat refine ai ?_
 refine pK (b.purses) (fun i (n:Int)=>EU b t r=nA t r (b.purses.drop i) n) (fun i (n:Int)=>[(1,.d (.str t)),(2,.d (.str r)),(3,.ptr 0 0),(7,.d (.int .i64 n)),(8,.d (.int .i64 i))]) (fun i (n:Int)=>⟨[(0,.cells 48 (b.e.map .d))],1,0⟩) (rfl) ?_
 intro i n hi hr
 repeat refine ai ?_
 refine aj ?_ ?_<;>intro g1
 ·have hlt:i<b.purses.length:=Y g1
  rw[Cq hlt] at hr
  repeat refine ai ?_
  refine U (e:=GatePurse.e) (xs:=b.purses) (hlt) rfl ?_
  repeat refine ai ?_
  refine aj ?_ ?_<;>intro g2
  ·repeat refine ai ?_
   refine U (e:=GatePurse.e) (xs:=b.purses) (hlt) rfl ?_
   repeat refine ai ?_
   refine aj ?_ ?_<;>intro g3
   ·rw[g2,show (b.purses[i].resource==r)=true from g3,Bool.and_true,cond_true] at hr
    repeat refine ai ?_
    refine U (e:=GatePurse.e) (xs:=b.purses) (hlt) rfl ?_
    repeat refine ai ?_
    exact d6 (cq n b.purses[i].amount) hlt hs hr
   ·rw[g2,show (b.purses[i].resource==r)=false from g3,Bool.and_false,cond_false] at hr
    repeat refine ai ?_
    exact d6 n hlt hs hr
  ·rw[g2,Bool.false_and,cond_false] at hr
   repeat refine ai ?_
   exact d6 n hlt hs hr
 ·refine nd ?_
  rw[hr,DC (Z g1)]
end Go.Vc
end
section
namespace Go.Vc
open Go.Proofs
abbrev gA:=Bs×Bs
def ua (k:gA):List D:=[.str k.1,.str k.2]
def jO (e:gA×Int):List D×AV:=(ua e.1,.d (.int .i64 e.2))
def pR (k k':gA):Bool:=k.1==k'.1&&k.2==k'.2
def qe:List (gA×Int)→gA→Int→List (gA×Int)
 |[],k,v=>[(k,v)]
 |(k',a)::r,k,v=>bif pR k k' then (k',v)::r else (k',a)::qe r k v
def c8:List (gA×Int)→gA→Option Int
 |[],_=>none
 |(k',a)::r,k=>bif pR k k' then some a else c8 r k
def sZ:List (gA×Int)→gA→Int→List (gA×Int)
 |[],_,_=>[]
 |(k',a)::r,k,v=>bif pR k k' then (k',cq a v)::r else (k',a)::sZ r k v
theorem wP (k k':gA):dp (ua k) (ua k')=pR k k':=rfl
theorem yK (k:gA) (v:Int):∀en:List (gA×Int),bQ (en.map jO) (ua k) (.d (.int .i64 v))=(qe en k v).map jO
 |[]=>rfl
 |(k',a)::r=>by
  simp only[List.map_cons,jO,bQ,wP,qe]
  cases pR k k' with
  |true=>rfl
  |false=>
   simp only[cond_false,List.map_cons,jO,List.cons.injEq,true_and]
   exact yK k v r
theorem uX (k:gA):∀en:List (gA×Int),aH (en.map jO) (ua k)=(c8 en k).map fun v=> .d (.int .i64 v)
 |[]=>rfl
 |(k',a)::r=>by
  simp only[List.map_cons,jO,aH,wP,c8]
  cases pR k k' with
  |true=>rfl
  |false=>exact uX k r
theorem Bp {k:gA} {v:Int}:∀{en:List (gA×Int)} {i:Nat},c8 en k=some v→∃j,∃k':gA,eU (en.map jO) (ua k) i=some (i+j,.d (.int .i64 v))∧en[j]? =some (k',v)∧∀x,sZ en k x=en.set j (k',cq v x)
 |[],i,h=>by cases h
 |(k',a)::r,i,h=>by
  simp only[List.map_cons,jO,eU,wP]
  simp only[c8] at h
  cases he:pR k k' with
  |true=>
   rw[he,cond_true] at h
   cases h
   exact ⟨0,k',rfl,rfl,fun x=>by simp only[sZ,he,cond_true,List.set_cons_zero]⟩
  |false=>
   rw[he,cond_false] at h
   obtain ⟨j,k2,h1,h2,h3⟩:=Bp (i:=i+1) h
   exact ⟨j+1,k2,by rw[h1,show i+1+j=i+(j+1) from by omega],h2,fun x=>by simp only[sZ,he,cond_false,h3,List.set_cons_succ]⟩
theorem sc (n:Nat):∀en:List (gA×Int),E0 n (en.map jO)
 |[]=>trivial
 |e::r=>⟨rfl,sc n r⟩
theorem eqA_iff {k k':gA}:pR k k'=true↔k=k':=by
 obtain ⟨a,b⟩:=k
 obtain ⟨c,d⟩:=k'
 simp[pR]
theorem sS (k:gA):pR k k=true:=eqA_iff.2 rfl
theorem FX {k k':gA} (h:k≠k'):pR k k'=false:=by
 cases e:pR k k' with
 |false=>rfl
 |true=>exact absurd (eqA_iff.1 e) h
theorem se (k:gA) (v:Int):∀(en:List (gA×Int)) (k':gA),c8 (qe en k v) k'=bif pR k' k then some v else c8 en k'
 |[],k'=>by simp only[qe,c8]
 |(k2,a)::r,k'=>by
  simp only[qe]
  cases he:pR k k2 with
  |true=>
   rw[cond_true]
   simp only[c8]
   rw[eqA_iff.1 he]
   cases pR k' k2<;>rfl
  |false=>
   rw[cond_false]
   simp only[c8]
   cases h2:pR k' k2 with
   |true=>
    rw[cond_true,cond_true]
    rw[eqA_iff.1 h2]
    have:pR k2 k=false:=by
     cases e:pR k2 k with
     |false=>rfl
     |true=>rw[eqA_iff.1 e,sS] at he;cases he
    rw[this];rfl
   |false=>rw[cond_false,cond_false];exact se k v r k'
theorem yP (k:gA) (x:Int):∀(en:List (gA×Int)) (k':gA),c8 (sZ en k x) k'=(c8 en k').map fun v=>bif pR k' k then cq v x else v
 |[],k'=>rfl
 |(k2,a)::r,k'=>by
  simp only[sZ]
  cases he:pR k k2 with
  |true=>
   rw[cond_true]
   simp only[c8]
   have e:=eqA_iff.1 he
   subst e
   cases h2:pR k' k with
   |true=>rfl
   |false=>
    simp only[cond_false]
    cases c8 r k'<;>rfl
  |false=>
   rw[cond_false]
   simp only[c8]
   cases h2:pR k' k2 with
   |true=>
    have e:=eqA_iff.1 h2
    subst e
    have:pR k' k=false:=by
     cases e:pR k' k with
     |false=>rfl
     |true=>rw[eqA_iff.1 e,sS] at he;cases he
    simp[this]
   |false=>rw[cond_false,cond_false];exact yP k x r k'
def qn (g:GateLedger):gA:=(g.team,g.resource)
def Ez (p:GatePurse):gA:=(p.team,p.resource)
def Ff (f:GateLedger→Int) (gs:List GateLedger):List (gA×Int):=gs.foldl (fun en g=>qe en (qn g) (f g)) []
def EE (en:List (gA×Int)) (ps:List GatePurse):List (gA×Int):=ps.foldl (fun en p=>sZ en (Ez p) p.amount) en
theorem Ed (f:GateLedger→Int) (gs:List GateLedger) (g:GateLedger):Ff f (gs++[g])=qe (Ff f gs) (qn g) (f g):=by simp[Ff]
theorem Eb (en:List (gA×Int)) (ps:List GatePurse) (p:GatePurse):EE en (ps++[p])=sZ (EE en ps) (Ez p) p.amount:=by simp[EE]
theorem sj (k:gA):∀(ps:List GatePurse) (en:List (gA×Int)),c8 (EE en ps) k=(c8 en k).map fun v=>nA k.1 k.2 ps v
 |[],en=>by simp[EE,nA]
 |p::ps,en=>by
  show c8 (EE (sZ en (Ez p) p.amount) ps) k=_
  rw[sj k ps,yP]
  cases c8 en k with
  |none=>rfl
  |some v=>
   simp only[Option.map_some,nA]
   congr 2
   have:pR k (Ez p)=(p.team==k.1&&p.resource==k.2):=by
    simp only[pR,Ez]
    rw[BEq.comm (a:=k.1),BEq.comm (a:=k.2)]
   rw[this]
def EJ (t r:Bs):List GatePurse→Int
 |[]=>0
 |p::ps=>(bif p.team==t&&p.resource==r then p.amount else 0)+EJ t r ps
theorem nz (t r:Bs):∀(ps:List GatePurse) (n:Int),IntKind.i64.wrap n=n→nA t r ps n=IntKind.i64.wrap (n+EJ t r ps)
 |[],n,h=>by simp only[nA,EJ,Int.add_zero,h]
 |p::ps,n,h=>by
  simp only[nA,EJ]
  cases p.team==t&&p.resource==r with
  |false=>rw[cond_false,cond_false,nz t r ps n h,Int.zero_add]
  |true=>
   rw[cond_true,cond_true,nz t r ps _ (qo _ _)]
   unfold cq
   simp only[IntKind.wrap_i64]
   omega
theorem Cp (t r:Bs) (ps:List GatePurse) (a b:Int):nA t r ps (cq a b)=cq (cq b (nA t r ps 0)) a:=by
 rw[nz t r ps _ (qo _ _),nz t r ps 0 rfl]
 unfold cq
 simp only[IntKind.wrap_i64]
 omega
theorem Cw (a b:Bs):cL a b a b=false:=by simp[cL,ii]
theorem yN {a b c d e f:Bs} (h:cL a b c d=true) (k:cL c d e f=true):cL a b e f=true:=by
 simp only[cL,Bool.or_eq_true,Bool.and_eq_true,beq_iff_eq] at h k ⊢
 rcases h with h|⟨rfl,h⟩
 ·rcases k with k|⟨rfl,k⟩
  ·exact .inl (nZ h k)
  ·exact .inl h
 ·rcases k with k|⟨rfl,k⟩
  ·exact .inl k
  ·exact .inr ⟨rfl,nZ h k⟩
def nt (p:Option GateLedger) (g:GateLedger):Bool:=match p with|some q=>cL q.team q.resource g.team g.resource|none=>true
theorem vE:∀{gs:List GateLedger} {q:GateLedger},az nt (some q) gs=true→∀g∈gs,cL q.team q.resource g.team g.resource=true
 |[],_,_,g,h=>by cases h
 |x::gs,q,hc,g,h=>by
  simp only[az,nt,Bool.and_eq_true] at hc
  rcases List.mem_cons.1 h with rfl|h
  ·exact hc.1
  ·exact yN hc.1 (vE hc.2 g h)
theorem zl (f:GateLedger→Int) (k:gA):∀(gs:List GateLedger) (en:List (gA×Int)),(∀g∈gs,qn g≠k)→c8 (gs.foldl (fun en g=>qe en (qn g) (f g)) en) k=c8 en k
 |[],en,_=>rfl
 |g::gs,en,h=>by
  rw[List.foldl_cons,zl f k gs _ (fun x hx=>h x (List.mem_cons_of_mem _ hx)),se,FX (fun e=>h g List.mem_cons_self e.symm)]
  rfl
theorem sT (f:GateLedger→Int):∀{gs:List GateLedger} {p:Option GateLedger} (en:List (gA×Int)),az nt p gs=true→∀g∈gs,c8 (gs.foldl (fun en g=>qe en (qn g) (f g)) en) (qn g)=some (f g)
 |[],_,_,_,g,h=>by cases h
 |x::gs,p,en,hc,g,h=>by
  simp only[az,Bool.and_eq_true] at hc
  rw[List.foldl_cons]
  rcases List.mem_cons.1 h with rfl|h
  ·rw[zl f (qn g) gs _ (fun y hy e=>?_),se,sS]
   ·rfl
   ·have:=vE hc.2 y hy
    simp only[qn,Prod.mk.injEq] at e
    rw[e.1,e.2,Cw] at this
    cases this
  ·exact sT f _ hc.2 g h
theorem jR {α:Type} {r r':Option α→α→Bool} (h:∀p x,r p x=true→r' p x=true):∀{xs:List α} {p:Option α},az r p xs=true→az r' p xs=true
 |[],_,_=>rfl
 |x::xs,p,hc=>by
  simp only[az,Bool.and_eq_true] at hc ⊢
  exact ⟨h _ _ hc.1,jR h hc.2⟩
theorem vx {α:Type} {r:Option α→α→Bool} {q:α→Bool}:∀{xs:List α} {p:Option α},az (fun p x=>r p x&&q x) p xs=(az r p xs&&xs.all q)
 |[],_=>rfl
 |x::xs,p=>by
  simp only[az,List.all_cons,vx (xs:=xs)]
  cases r p x<;>cases q x<;>simp
end Go.Vc
end
section
namespace Go.Vc
open Go.Proofs
set_option maxRecDepth 100000
def gJ (L:GateLaw) (p:Option GateLedger) (g:GateLedger):Bool:=nt p g&&(L.teams.any (·.name==g.team)&&(aD g.resource&&(!decide (g.free<0)&&(!decide (g.free>g.most)&& !decide (g.most>1000000)))))
def yi (p:Option GatePurse) (x:GatePurse):Bool:=match p with|some q=>nr q x|none=>true
def kD (b:GateBook) (p:Option GatePurse) (x:GatePurse):Bool:=yi p x&&(b.ledgers.any (fun g=>g.team==x.team&&g.resource==x.resource)&&(aD x.door&&(d9 x.amount 1 1000000&&d9 x.until_ b.tick (cq b.tick 10))))
def tQ (L:GateLaw) (b:GateBook) (g:GateLedger):Bool:=cq (cq (cz L b g.team g.resource) (EU b g.team g.resource)) g.free==g.most
def ia (L:GateLaw) (b:GateBook):Bool:= !decide ((b.ledgers.length:Int)>10)&&(!decide ((b.purses.length:Int)>24)&&(az (gJ L) none b.ledgers&&(az (kD b) none b.purses&&b.ledgers.all (tQ L b))))
def xF (L:GateLaw) (b:GateBook) (g:GateLedger):Int:=cq g.free (cz L b g.team g.resource)
theorem u7 {L:GateLaw}:∀(p:Option GateLedger) (g:GateLedger),gJ L p g=true→nt p g=true:=fun p g h=>by
 simp only[gJ,Bool.and_eq_true] at h;exact h.1
theorem C7 {L:GateLaw} {b:GateBook} (h:az (gJ L) none b.ledgers=true) {g:GateLedger} (hg:g∈b.ledgers):∃v,c8 (EE (Ff (xF L b) b.ledgers) b.purses) (qn g)=some v∧(v==g.most)=tQ L b g:=by
 have h1:=sT (xF L b) [] (jR u7 h) g hg
 refine ⟨_,by rw[sj];unfold Ff;rw[h1];rfl,?_⟩
 unfold tQ xF EU
 simp only[qn]
 rw[Cp]
theorem Ec {E:List (gA×Int)} {k:gA} (h:(c8 E k).isSome) (ps:List GatePurse):∃v,c8 (EE E ps) k=some v:=by
 obtain ⟨v,e⟩:=Option.isSome_iff_exists.1 h
 exact ⟨_,by rw[sj,e];rfl⟩
theorem FN {t:Nat} {tk:TK} {E:List (gA×Int)} {a c:Bs} {v:Int}:some (AO.map t tk (bQ (E.map jO) [.str a,.str c] (.d (.int .i64 v))))=some (AO.map t tk ((qe E (a,c) v).map jO)):=by
 rw[show ([D.str a,D.str c]:List D)=ua (a,c) from rfl,yK]
theorem yO (a b c d:Bs):cL a b c d= !(!(Op.bytesLess a c||a==c)||(a==c&& !Op.bytesLess b d)):=by rw[uY,Bool.not_not]
theorem Br {E:List (gA×Int)} {a c:Bs} {v:Int} (h:c8 E (a,c)=some v):aH (E.map jO) [.str a,.str c]=some (.d (.int .i64 v)):=by
 rw[show ([D.str a,D.str c]:List D)=ua (a,c) from rfl,uX,h];rfl
theorem D9 {E:List (gA×Int)} {a c:Bs} {v:Int} (h:c8 E (a,c)=some v):∃j,∃k':gA,eU (E.map jO) [.str a,.str c] 0=some (j,.d (.int .i64 v))∧(E.map jO)[(((j:Nat):Int)).toNat]? =some (ua k',.d (.int .i64 v))∧
 ∀t tk x,some (AO.map t tk ((E.map jO).set (((j:Nat):Int)).toNat (ua k',.d (.int .i64 (IntKind.i64.wrap (v+x))))))=some (AO.map t tk ((sZ E (a,c) x).map jO)):=by
 obtain ⟨j,k',h1,h2,h3⟩:=Bp (i:=0) h
 rw[Nat.zero_add] at h1
 refine ⟨j,k',h1,?_,fun t tk x=>?_⟩
 ·rw[Int.toNat_natCast,List.getElem?_map,h2];rfl
 ·rw[h3,List.map_set,Int.toNat_natCast];rfl
theorem Dr {L:GateLaw} {b:GateBook} (h:az (gJ L) none b.ledgers=true) {p:Option GatePurse} {x:GatePurse} (hx:kD b p x=true) (ps:List GatePurse):∃v,c8 (EE (Ff (xF L b) b.ledgers) ps) (x.team,x.resource)=some v:=by
 simp only[kD,Bool.and_eq_true] at hx
 obtain ⟨g,hg,hk⟩:=List.any_eq_true.1 hx.2.1
 simp only[Bool.and_eq_true,beq_iff_eq] at hk
 have h1:=sT (xF L b) [] (jR u7 h) g hg
 refine Ec ?_ ps
 rw[←hk.1,←hk.2]
 show (c8 (Ff (xF L b) b.ledgers) (qn g)).isSome
 unfold Ff;rw[h1];rfl
set_option maxHeartbeats 4000000 in
theorem DU (L:GateLaw) (b:GateBook):Spec P 128 [st b.e,st L.e] (.d (.bool (ia L b))):=by
 refine Spec.of_vc aP av [.tmp 4] Tryz.func128 rfl rfl rfl rfl (fun hok=>?_)
 have hsl:=(bT (cV hok)).2.2.1
 have hsp:=(bT (cV hok)).2.2.2
 repeat refine ai ?_
 refine aj ?_ ?_<;>intro h0
 ·have h0':decide ((b.ledgers.length:Int)>10)=false:=by rw[List.length_map] at h0;exact h0
  repeat refine ai ?_
  refine aj ?_ ?_<;>intro h00
  ·have h00:decide ((b.purses.length:Int)>24)=true:=by simp only[cond_false,List.length_map] at h00;exact h00
   refine bd ?_
   rw[ia,h0',h00];rfl
  have h00:decide ((b.purses.length:Int)>24)=false:=by simp only[cond_false,List.length_map] at h00;exact h00
  have hob:ia L b=(az (gJ L) none b.ledgers&&(az (kD b) none b.purses&&b.ledgers.all (tQ L b))):=by rw[ia,h0',h00];rfl
  rw[hob]
  repeat refine ai ?_
  refine pK (b.ledgers) (fun i (E:List (gA×Int))=>E=Ff (xF L b) (b.ledgers.take i)∧az (gJ L) none b.ledgers=az (gJ L) (cQ b.ledgers i) (b.ledgers.drop i)) (fun i (E:List (gA×Int))=>[(2,.ptr 0 0),(3,.ptr 1 0),(5,.mapr 2),(26,.d (aJ b.ledgers)),(27,.d (.int .i64 (b.ledgers.map GateLedger.e).length)),(28,.d (.int .i64 i))]) (fun i (E:List (gA×Int))=>⟨[(2,.map 224 .pair (E.map jO)),(1,.cells 41 (L.e.map .d)),(0,.cells 48 (b.e.map .d))],3,0⟩) (⟨rfl,rfl⟩) ?_ ⟨rfl,rfl,⟨rfl,rfl,rfl,rfl,rfl,rfl,trivial⟩,(by repeat' first|exact rfl|exact trivial|exact sc _ _|refine aj ?_ ?_),(by repeat' first|exact rfl|exact trivial|refine aj ?_ ?_)⟩
  intro i E hi hr
  obtain ⟨hE,hr⟩:=hr
  repeat refine ai ?_
  refine aj ?_ ?_<;>intro h1
  ·have hlt:i<b.ledgers.length:=Y h1
   rw[eD hlt] at hr
   repeat refine ai ?_
   refine U (e:=GateLedger.e) (xs:=b.ledgers) (hlt) rfl ?_
   repeat refine ai ?_
   repeat' first
    |refine ai ?_
    |(refine n1 ?_;intro h)
    |(refine n2 ?_;intro h)
    |(refine n3 ?_;intro h)
    |(refine n4 ?_;intro h)
    |(refine aj ?_ ?_<;>intro h)
    |refine oc (fF _ _) ?_
    |refine oc (c9 _) ?_
    |refine aI (e:=GateLedger.e) (xs:=b.ledgers) (k:=i - 1) (by omega) (ba (mG (by assumption)) hlt hsl) rfl ?_
   all_goals (simp only[cond_false,cond_true,Bool.not_eq_true',Bool.not_eq_false',reduceCtorEq,idx_lt] at*)
   all_goals first
    |(refine bd ?_
      rw[hr]
      clear hr hE hob h0 h0' h00
      first|rw[ct (mG (by assumption)) hlt]|rw[cu (qg (by assumption))]
      simp_all only[gJ,nt,yO,Bool.true_and,Bool.and_true,Bool.false_and,Bool.and_false,Bool.true_or,Bool.or_true,Bool.false_or,Bool.or_false,Bool.not_true,Bool.not_false]
      done)
    |(refine (fun hq:gJ L (cQ b.ledgers i) b.ledgers[i]=true=>?_) ?_
      rotate_left
      ·clear hr hE hob h0 h0' h00
       first|rw[ct (mG (by assumption)) hlt]|rw[cu (qg (by assumption))]
       simp_all only[gJ,nt,yO,Bool.true_and,Bool.and_true,Bool.false_and,Bool.and_false,Bool.true_or,Bool.or_true,Bool.false_or,Bool.or_false,Bool.not_true,Bool.not_false]
       done
      ·rw[hq,Bool.true_and] at hr
       repeat refine ai ?_
       refine GB ?_
       repeat refine ai ?_
       refine oc (sE _ _ _ _) ?_
       repeat refine ai ?_
       exact d6 (qe E (qn b.ledgers[i]) (xF L b b.ledgers[i])) hlt hsl ⟨by rw[hE,List.take_succ_eq_append_getElem hlt,Ed],hr⟩ fun hw=>by repeat' first|exact rfl|exact trivial|exact nd hw|exact FN|exact sc _ _|refine aj ?_ ?_
     )
  ·rw[ft (Z h1)] at hr
   rw[List.take_of_length_le (Z h1)] at hE
   rw[hr,Bool.true_and]
   have hC:=hr
   clear hr
   repeat refine ai ?_
   refine pK (b.purses) (fun i (F:List (gA×Int))=>F=EE E (b.purses.take i)∧az (kD b) none b.purses=az (kD b) (cQ b.purses i) (b.purses.drop i)) (fun i (F:List (gA×Int))=>[(2,.ptr 0 0),(5,.mapr 2),(107,.d (aN b.purses)),(108,.d (.int .i64 (b.purses.map GatePurse.e).length)),(109,.d (.int .i64 i))]) (fun i (F:List (gA×Int))=>⟨[(2,.map 224 .pair (F.map jO)),(0,.cells 48 (b.e.map .d))],3,0⟩) (⟨rfl,rfl⟩) ?_ ⟨rfl,rfl,⟨rfl,rfl,rfl,rfl,rfl,trivial⟩,(by repeat' first|exact rfl|exact trivial|exact sc _ _|refine aj ?_ ?_),(by repeat' first|exact rfl|exact trivial|refine aj ?_ ?_)⟩
   intro i F hi hr
   obtain ⟨hF,hr⟩:=hr
   repeat refine ai ?_
   refine aj ?_ ?_<;>intro h2
   ·have hlt:i<b.purses.length:=Y h2
    rw[eD hlt] at hr
    repeat refine ai ?_
    refine U (e:=GatePurse.e) (xs:=b.purses) (hlt) rfl ?_
    repeat refine ai ?_
    repeat' first
      |refine ai ?_
      |(refine n1 ?_;intro h)
      |(refine n2 ?_;intro h)
      |(refine n3 ?_;intro h)
      |(refine n4 ?_;intro h)
      |(refine aj ?_ ?_<;>intro h)
      |refine oc (ub _ _) ?_
      |refine oc (sD _ _ _) ?_
      |refine oc (c9 _) ?_
      |refine ak ?_
      |refine aI (e:=GatePurse.e) (xs:=b.purses) (k:=i - 1) (by omega) (ba (mG (by assumption)) hlt hsp) rfl ?_
    all_goals (simp only[cond_false,cond_true,Bool.not_eq_true',Bool.not_eq_false',reduceCtorEq,idx_lt] at*)
    all_goals first
      |(refine bd ?_
        rw[hr]
        clear hr hE hob h0 h0' h00 hF hC
        first|rw[ct (mG (by assumption)) hlt]|rw[cu (qg (by assumption))]
        simp_all only[kD,yi,nP,cq,Bool.true_and,Bool.and_true,Bool.false_and,Bool.and_false,Bool.true_or,Bool.or_true,Bool.false_or,Bool.or_false,Bool.not_true,Bool.not_false]
        done)
      |(refine (fun hq:kD b (cQ b.purses i) b.purses[i]=true=>?_) ?_
        rotate_left
        ·clear hr hE hob h0 h0' h00 hF hC
         first|rw[ct (mG (by assumption)) hlt]|rw[cu (qg (by assumption))]
         simp_all only[kD,yi,nP,cq,Bool.true_and,Bool.and_true,Bool.false_and,Bool.and_false,Bool.true_or,Bool.or_true,Bool.false_or,Bool.or_false,Bool.not_true,Bool.not_false]
         done
        ·rw[hq,Bool.true_and] at hr
         obtain ⟨v,hv⟩:=Dr hC hq (b.purses.take i)
         rw[←hE,←hF] at hv
         obtain ⟨j,k',g1,g2,g3⟩:=D9 hv
         refine ⟨_,Br hv,?_⟩
         repeat first|refine ai ?_|refine aj trivial ?_
         refine ⟨_,g1,?_⟩
         repeat first|refine ai ?_|refine aj trivial ?_
         refine ⟨Int.natCast_nonneg _,_,g2,?_⟩
         repeat refine ai ?_
         exact d6 (sZ F (b.purses[i].team,b.purses[i].resource) b.purses[i].amount) hlt hsp ⟨by rw[hF,List.take_succ_eq_append_getElem hlt,Eb];rfl,hr⟩ fun hw=>by repeat' first|exact rfl|exact trivial|exact nd hw|exact g3 _ _ _|exact sc _ _|refine aj ?_ ?_
       )
   ·rw[ft (Z h2)] at hr
    rw[List.take_of_length_le (Z h2)] at hF
    rw[hr,Bool.true_and]
    clear hr
    repeat refine ai ?_
    refine eb (b.ledgers) (fun i=>b.ledgers.all (tQ L b)=(b.ledgers.drop i).all (tQ L b)) (fun i=>[(5,.mapr 2),(180,.d (aJ b.ledgers)),(181,.d (.int .i64 (b.ledgers.map GateLedger.e).length)),(182,.d (.int .i64 i))]) (fun i=>⟨[(2,.map 224 .pair (F.map jO))],3,0⟩) (rfl) ?_ ⟨rfl,rfl,⟨rfl,rfl,rfl,rfl,trivial⟩,(by repeat' first|exact rfl|exact trivial|exact sc _ _|refine aj ?_ ?_),(by repeat' first|exact rfl|exact trivial|refine aj ?_ ?_)⟩
    intro i hi hr
    repeat refine ai ?_
    refine aj ?_ ?_<;>intro h3
    ·have hlt:i<b.ledgers.length:=Y h3
     rw[aK hlt] at hr
     obtain ⟨v,hv,hs⟩:=C7 hC (List.getElem_mem hlt)
     rw[←hE,←hF] at hv
     repeat refine ai ?_
     refine U (e:=GateLedger.e) (xs:=b.ledgers) (hlt) rfl ?_
     repeat refine ai ?_
     refine ak ?_
     repeat refine ai ?_
     refine ⟨_,Br hv,?_⟩
     repeat refine ai ?_
     refine aj ?_ ?_<;>intro h4
     ·refine bd ?_
      rw[hr,←hs,rV h4];rfl
     ·rw[←hs,ot h4,Bool.true_and] at hr
      repeat refine ai ?_
      exact bU hlt hsl hr fun hw=>⟨rfl,rfl,⟨rfl,rfl,rfl,nd hw,trivial⟩,(by repeat' first|exact rfl|exact trivial|exact sc _ _|refine aj ?_ ?_),(by repeat' first|exact rfl|exact trivial|refine aj ?_ ?_)⟩
    ·refine bd ?_
     rw[hr,cy (Z h3)]
 ·refine bd ?_
  rw[List.length_map] at h0
  rw[ia,h0];rfl
end Go.Vc
end
section
namespace Go.Vc
open Go.Proofs
set_option maxRecDepth 100000
def sv (L:GateLaw) (b:GateBook) (p:Option GateLedger) (g:GateLedger):Bool:=gJ L p g&&tQ L b g
set_option maxHeartbeats 4000000 in
theorem zN (L:GateLaw) (b:GateBook):Spec P 117 [st L.e,st b.e] (.d (.bool (ia L b))):=by
 refine Spec.of_vc aP av [.tmp 4] Tryz.func117 rfl rfl rfl rfl (fun hok=>?_)
 have hsl:=(bT hok.2).2.2.1
 have hsp:=(bT hok.2).2.2.2
 repeat refine ai ?_
 refine aj ?_ ?_<;>intro h0
 ·have h0':decide ((b.ledgers.length:Int)>10)=false:=by rw[List.length_map] at h0;exact h0
  repeat refine ai ?_
  refine aj ?_ ?_<;>intro h00
  ·have h00:decide ((b.purses.length:Int)>24)=true:=by simp only[cond_false,List.length_map] at h00;exact h00
   refine bd ?_
   rw[ia,h0',h00];rfl
  have h00:decide ((b.purses.length:Int)>24)=false:=by simp only[cond_false,List.length_map] at h00;exact h00
  have hob:ia L b=(az (kD b) none b.purses&&az (sv L b) none b.ledgers):=by
   rw[ia,h0',h00]
   rw[show az (sv L b) none b.ledgers=(az (gJ L) none b.ledgers&&b.ledgers.all (tQ L b)) from vx]
   cases az (gJ L) none b.ledgers<;>cases az (kD b) none b.purses<;>rfl
  rw[hob]
  repeat refine ai ?_
  refine eb (b.purses) (fun i=>az (kD b) none b.purses=az (kD b) (cQ b.purses i) (b.purses.drop i)) (fun i=>[(2,.ptr 0 0),(3,.ptr 1 0),(5,.d (.int .i64 i))]) (fun i=>⟨[(1,.cells 48 (b.e.map .d)),(0,.cells 41 (L.e.map .d))],2,0⟩) (rfl) ?_
  intro i hi hr
  repeat refine ai ?_
  refine aj ?_ ?_<;>intro h1
  ·have hlt:i<b.purses.length:=Y h1
   rw[eD hlt] at hr
   repeat refine ai ?_
   refine U (e:=GatePurse.e) (xs:=b.purses) (hlt) rfl ?_
   repeat refine ai ?_
   refine ak ?_
   repeat refine ai ?_
   repeat' first
    |refine ai ?_
    |(refine n1 ?_;intro h)
    |(refine n2 ?_;intro h)
    |(refine n3 ?_;intro h)
    |(refine n4 ?_;intro h)
    |(refine aj ?_ ?_<;>intro h)
    |refine oc (bx _) ?_
    |refine oc (mj _ _ _) ?_
    |refine oc (eu _ _ _) ?_
    |refine oc (wm _ _) ?_
    |refine ak ?_
    |refine aI (e:=GatePurse.e) (xs:=b.purses) (k:=i - 1) (by omega) (ba (mG (by assumption)) hlt hsp) rfl ?_
   all_goals (simp only[cond_false,cond_true,Bool.not_eq_true',Bool.not_eq_false',reduceCtorEq,idx_lt,Cl] at*)
   all_goals first
    |(refine bd ?_
      rw[hr]
      clear hr hob h0 h0' h00
      first|rw[ct (mG (by assumption)) hlt]|rw[cu (qg (by assumption))]|skip
      simp_all only[kD,yi,cq,Bool.true_and,Bool.and_true,Bool.false_and,Bool.and_false,Bool.true_or,Bool.or_true,Bool.false_or,Bool.or_false,Bool.not_true,Bool.not_false]
      done)
    |(refine (fun hq:kD b (cQ b.purses i) b.purses[i]=true=>?_) ?_
      rotate_left
      ·clear hr hob h0 h0' h00
       first|rw[ct (mG (by assumption)) hlt]|rw[cu (qg (by assumption))]
       simp_all only[kD,yi,cq,Bool.true_and,Bool.and_true,Bool.false_and,Bool.and_false,Bool.true_or,Bool.or_true,Bool.false_or,Bool.or_false,Bool.not_true,Bool.not_false]
       done
      ·rw[hq,Bool.true_and] at hr
       repeat first|refine ai ?_|refine aj trivial ?_
       exact ⟨_,_,_,⟨i+1,rfl,hlt,hr,rfl,rfl⟩,by omega,rfl,rfl,⟨rfl,rfl,nd (V hlt hsp),trivial⟩,(by repeat' first|exact rfl|exact trivial|refine aj ?_ ?_),(by repeat' first|exact rfl|exact trivial|refine aj ?_ ?_)⟩
     )
  ·rw[ft (Z h1)] at hr
   rw[hr,Bool.true_and]
   clear hr
   repeat refine ai ?_
   refine eb (b.ledgers) (fun i=>az (sv L b) none b.ledgers=az (sv L b) (cQ b.ledgers i) (b.ledgers.drop i)) (fun i=>[(2,.ptr 0 0),(3,.ptr 1 0),(7,.d (.int .i64 i))]) (fun i=>⟨[(1,.cells 48 (b.e.map .d)),(0,.cells 41 (L.e.map .d))],2,0⟩) (rfl) ?_
   intro i hi hr
   repeat refine ai ?_
   refine aj ?_ ?_<;>intro h2
   ·have hlt:i<b.ledgers.length:=Y h2
    rw[eD hlt] at hr
    repeat refine ai ?_
    refine U (e:=GateLedger.e) (xs:=b.ledgers) (hlt) rfl ?_
    repeat refine ai ?_
    repeat' first
      |refine ai ?_
      |(refine n1 ?_;intro h)
      |(refine n2 ?_;intro h)
      |(refine n3 ?_;intro h)
      |(refine n4 ?_;intro h)
      |(refine aj ?_ ?_<;>intro h)
      |refine oc (bx _) ?_
      |refine oc (kw _ _) ?_
      |refine oc (qs _ _ _ _) ?_
      |refine oc (rA _ _ _ _) ?_
      |refine oc (EN _ _ _) ?_
      |refine ak ?_
      |refine aI (e:=GateLedger.e) (xs:=b.ledgers) (k:=i - 1) (by omega) (ba (mG (by assumption)) hlt hsl) rfl ?_
    all_goals (simp only[cond_false,cond_true,Bool.not_eq_true',Bool.not_eq_false',reduceCtorEq,idx_lt,qp] at*)
    all_goals (try simp only[bne,Bool.not_eq_true',Bool.not_eq_false'] at*)
    all_goals first
      |(refine bd ?_
        rw[hr]
        clear hr hob h0 h0' h00
        first|rw[ct (mG (by assumption)) hlt]|rw[cu (qg (by assumption))]|skip
        simp_all only[sv,gJ,tQ,nt,cq,Bool.true_and,Bool.and_true,Bool.false_and,Bool.and_false,Bool.true_or,Bool.or_true,Bool.false_or,Bool.or_false,Bool.not_true,Bool.not_false]
        done)
      |(refine (fun hq:sv L b (cQ b.ledgers i) b.ledgers[i]=true=>?_) ?_
        rotate_left
        ·clear hr hob h0 h0' h00
         first|rw[ct (mG (by assumption)) hlt]|rw[cu (qg (by assumption))]
         simp_all only[sv,gJ,tQ,nt,cq,Bool.true_and,Bool.and_true,Bool.false_and,Bool.and_false,Bool.true_or,Bool.or_true,Bool.false_or,Bool.or_false,Bool.not_true,Bool.not_false]
         done
        ·rw[hq,Bool.true_and] at hr
         repeat first|refine ai ?_|refine aj trivial ?_
         exact ⟨_,_,_,⟨i+1,rfl,hlt,hr,rfl,rfl⟩,by omega,rfl,rfl,⟨rfl,rfl,nd (V hlt hsl),trivial⟩,(by repeat' first|exact rfl|exact trivial|refine aj ?_ ?_),(by repeat' first|exact rfl|exact trivial|refine aj ?_ ?_)⟩
       )
   ·refine bd ?_
    rw[hr,ft (Z h2)]
 ·refine bd ?_
  rw[List.length_map] at h0
  rw[ia,h0];rfl
end Go.Vc
end
section
namespace Go.Vc
open Go.Proofs
set_option maxRecDepth 100000
def nO (l:GateLaw):Bool:=bE l.shapes l.mends&&gf l.teams
theorem xW (l:GateLaw):Spec P 114 [st l.e] (.d (.bool (nO l))):=by
 refine Spec.of_vc aP av [.tmp 2] Tryz.func114 rfl rfl rfl rfl (fun hok=>?_)
 repeat refine ai ?_
 refine oc (tV _ _) ?_
 repeat refine ai ?_
 refine aj ?_ ?_<;>intro h
 ·repeat refine ai ?_
  refine oc (tU _) ?_
  refine bd ?_
  simp only[nO,h,Bool.true_and]
 ·refine bd ?_
  simp only[nO,h,Bool.false_and]
theorem yY (l:GateLaw):Spec P 125 [st l.e] (.d (.bool (nO l))):=by
 refine Spec.of_vc aP av [.tmp 2] Tryz.func125 rfl rfl rfl rfl (fun hok=>?_)
 repeat refine ai ?_
 refine oc (gm _ _) ?_
 repeat refine ai ?_
 refine aj ?_ ?_<;>intro h
 ·repeat refine ai ?_
  refine oc (ud _) ?_
  refine bd ?_
  simp only[nO,h,Bool.true_and]
 ·refine bd ?_
  simp only[nO,h,Bool.false_and]
end Go.Vc
end
section
namespace Go.Vc
open Go.Proofs
set_option maxRecDepth 100000
def cb (L:GateLaw) (b:GateBook):Bool:=nO L&&(d9 b.now 0 1000000&&(d9 b.tick 0 1000000&&(d9 b.given 0 b.now&&(nB L b&&(gQ b&&ia L b)))))
theorem u9 {L:GateLaw} (h:nO L=true):bE L.shapes L.mends=true:=by
 unfold nO at h;rw[Bool.and_eq_true] at h;exact h.1
theorem dP (L:GateLaw) (b:GateBook):Spec P 55 [st L.e,st b.e] (.d (.bool (cb L b))):=by
 refine Spec.of_vc aP av [.tmp 4] Tryz.func55 rfl rfl rfl rfl (fun hok=>?_)
 repeat refine ai ?_
 refine oc (yY _) ?_
 repeat' first
  |refine ai ?_
  |(refine n1 ?_;intro h)
  |(refine n2 ?_;intro h)
  |(refine n3 ?_;intro h)
  |(refine n4 ?_;intro h)
  |(refine aj ?_ ?_<;>intro h)
  |refine oc (yU L b (u9 (ot (by assumption)))) ?_
  |refine oc (At b) ?_
  |refine oc (DU L b) ?_
 all_goals (refine bd ?_;simp only[cond_false,cond_true,Bool.not_eq_true',Bool.not_eq_false',reduceCtorEq] at*;simp only[cb,nP, *,bl])
theorem dL (L:GateLaw) (b:GateBook):Spec P 46 [st L.e,st b.e] (.d (.bool (cb L b))):=by
 refine Spec.of_vc aP av [.tmp 4] Tryz.func46 rfl rfl rfl rfl (fun hok=>?_)
 repeat refine ai ?_
 refine oc (xW _) ?_
 repeat' first
  |refine ai ?_
  |(refine n1 ?_;intro h)
  |(refine n2 ?_;intro h)
  |(refine n3 ?_;intro h)
  |(refine n4 ?_;intro h)
  |(refine aj ?_ ?_<;>intro h)
  |refine oc (eu _ _ _) ?_
  |refine oc (tT L b (u9 (ot (by assumption)))) ?_
  |refine oc (wn b) ?_
  |refine oc (zN L b) ?_
 all_goals (refine bd ?_;simp only[cond_false,cond_true,Bool.not_eq_true',Bool.not_eq_false',reduceCtorEq] at*;simp only[cb, *,bl])
end Go.Vc
end
