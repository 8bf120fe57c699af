/- Part 5 of a proof: Contracts: values that are not set. Rows in which each stands behind what it reads: one by one (greedy) and depth first come to the same. Plain Lean, no program. What a field's mends read; rows of fields: pure facts. Contracts: mends of the specification. Contracts: what a field's mends read (a closure), depth first (a closure that calls itself), rows of fields. Contracts: the walk depth first, a closure that calls itself. Contracts: rows of fields. Mended values: the order of the fields does not count, as long as each stands behind what it reads. No program, no memory. Contracts: mended objec -/
import Derived.Test.YteongcjplmbkgaaGreatDoorDwa
import Derived.Test.YteongcjplmbkgaaGreatDoorDwb
import Derived.Test.YteongcjplmbkgaaGreatDoorDwc
import Derived.Test.YteongcjplmbkgaaGreatDoorDwd
set_option linter.unusedVariables false
set_option linter.unusedSimpArgs false
section
namespace Go.Vc
open Go.Proofs
set_option maxRecDepth 100000
def jP (f:GateField) (v:Bs):Bs:=bif v==[] then f.default_ else v
def fA:List GateField→List Bs→List Bs
 |f::fs,v::vs=>jP f v::fA fs vs
 |_,vs=>vs
theorem F6 (vs:List Bs):fA [] vs=vs:=rfl
theorem oZ:∀(fs:List GateField) (vs:List Bs),(fA fs vs).length=vs.length
 |[],vs=>rfl
 |f::fs,[]=>rfl
 |f::fs,v::vs=>by simp[fA,oZ fs vs]
theorem yO:∀{fs:List GateField} {vs:List Bs} {i:Nat},i<fs.length→(fA (fs.take i) vs)[i]? =vs[i]?
 |[],_,_,h=>by simp at h
 |f::fs,[],i,h=>by cases i<;>simp[fA]
 |f::fs,v::vs,0,h=>rfl
 |f::fs,v::vs,i+1,h=>by simpa [fA] using yO (fs:=fs) (vs:=vs) (i:=i) (by simpa using h)
theorem sv:∀{fs:List GateField} {vs:List Bs} {i:Nat} (h:i<fs.length) (h2:i<vs.length),fA (fs.take (i+1)) vs=(fA (fs.take i) vs).set i (jP fs[i] vs[i])
 |[],_,_,h,_=>by simp at h
 |f::fs,[],i,h,h2=>by simp at h2
 |f::fs,v::vs,0,h,h2=>by simp[fA]
 |f::fs,v::vs,i+1,h,h2=>by simpa [fA] using sv (fs:=fs) (vs:=vs) (i:=i) (by simpa using h) (by simpa using h2)
theorem Bq {fs:List GateField} {vs:List Bs} {i:Nat} (h:i<fs.length) (h2:i<vs.length) (h3:i<(fA (fs.take i) vs).length):(fA (fs.take i) vs)[i]=vs[i]:=by
 have:=yO (vs:=vs) h
 rw[List.getElem?_eq_getElem h3,List.getElem?_eq_getElem h2] at this
 exact Option.some.inj this
theorem rc {α:Type} {l:List α} {i:Nat} (h:i<l.length) {x:α} (e:l[i]=x):l.set i x=l:=by
 subst e;simp
theorem rm {t n:Nat} {W:List Bs} {i:Nat} {v:Bs} (h:i<W.length):some (AO.row t n ((W.map eB).set i (dP (eB W[i]) 0 (eB v))))=some (AO.row t n ((W.set i v).map eB)):=by
 congr 2
 simp only[List.map_set]
 rfl
def fR (xs:List GateShape) (o:GateObject):GateObject:={o with values:=fA (am xs o.kind o.values.length).1 o.values}
theorem C8 (xs:List GateShape) (o:GateObject):Spec P 207 [.d (ab xs),st o.e] (st (fR xs o).e):=by
 refine Spec.of_vc aQ az [.cell 4 103] Tryz.func207 rfl rfl rfl rfl (fun hok=>?_)
 have hb:=iA (o:=o) ⟨hok.2.1,trivial⟩
 repeat refine ai ?_
 refine ow (uq o hb.1 hb.2) ?_
 repeat refine ai ?_
 refine oc (fE _ _) ?_
 obtain ⟨hl,hl2⟩:=cV (xs:=xs) (k:=o.kind) (n:=o.values.length)
 have hfs:(am xs o.kind o.values.length).2=false→(am xs o.kind o.values.length).1=[]:=by
  rcases dD (xs:=xs) (k:=o.kind) (n:=o.values.length) with ⟨h1,h2⟩|⟨j,hj,_,h,_⟩
  ·exact fun _=>h2
  ·rw[h];exact fun h=>by cases h
 repeat refine ai ?_
 refine aj ?_ ?_<;>intro h0
 ·simp only[Bool.not_eq_true'] at h0
  have e:fR xs o=o:=by unfold fR;rw[hfs h0];rfl
  rw[e]
  repeat refine ai ?_
  exact rfl
 ·simp only[Bool.not_eq_false'] at h0
  have hl:=hl2 h0
  unfold fR
  generalize (am xs o.kind o.values.length).1=fs at*
  repeat refine ai ?_
  refine px (fs) (fun i (W:List Bs)=>W=fA (fs.take i) o.values) (fun i (W:List Bs)=>[(4,.ptr 1 0),(5,.ptr 6 0),(6,.d (ac fs)),(8,.d (.int .i64 i))]) (fun i (W:List Bs)=>⟨[(6,.cells 103 [.d (.str o.kind),.d (.str o.name),.d (.str o.team),.own 4,.d (.bool o.ending),.own 5,.d (.int .i64 o.version)]),(4,.row 9 1 (W.map eB)),(5,.row 9 1 (o.holds.map eB)),(1,.cells 103 [.d (.str []),.d (.str []),.d (.str []),.nils,.d (.bool false),.nils,.d (.int .i64 0)])],7,0⟩) (rfl) ?_
  intro i W hi hr
  have hs:fs.length≤ap:=by omega
  have hW:W.length=o.values.length:=by rw[hr,oZ]
  repeat refine ai ?_
  refine aj ?_ ?_<;>intro h1
  ·have hlt:i<fs.length:=Y h1
   have hlt2:i<o.values.length:=by omega
   have hlt3:i<W.length:=by omega
   have hv:W[i]=o.values[i]:=by simp only[hr];exact Bq hlt hlt2 _
   have hst:fA (fs.take (i+1)) o.values=W.set i (jP fs[i] o.values[i]):=by rw[hr,←sv hlt hlt2]
   repeat refine ai ?_
   refine aj (Int.natCast_nonneg _) (aj (by rw[List.length_map];omega) ?_)
   repeat refine ai ?_
   refine ⟨_,wJ hlt3,?_⟩
   repeat refine ai ?_
   refine aj ?_ ?_<;>intro h2
   ·have hf:jP fs[i] o.values[i]=fs[i].default_:=by unfold jP;rw[←hv,show (W[i]==[])=true from h2];rfl
    repeat refine ai ?_
    refine Ey ?_
    repeat refine ai ?_
    refine O (e:=GateField.e) (xs:=fs) (hlt) rfl ?_
    repeat refine ai ?_
    refine aj (Int.natCast_nonneg _) (aj (by rw[List.length_map];omega) ?_)
    repeat refine ai ?_
    refine ⟨_,wJ hlt3,Nat.le_refl _,?_⟩
    repeat refine ai ?_
    exact dN (W.set i fs[i].default_) hlt hs (by rw[hst,hf]) fun hw=>by repeat' first|exact rfl|exact trivial|exact nd hw|exact rm hlt3|refine aj ?_ ?_
   ·have hf:jP fs[i] o.values[i]=W[i]:=by unfold jP;rw[←hv,show (W[i]==[])=false from h2];rfl
    repeat refine ai ?_
    exact dN W hlt hs (by rw[hst,hf,rc hlt3 rfl])
  ·have hi':fs.length≤i:=Z h1
   rw[List.take_of_length_le hi'] at hr
   rw[←hr]
   repeat refine ai ?_
   exact rfl
theorem Cx {xs:List GateShape} {o:GateObject} (h0:(am xs o.kind o.values.length).2=false):fR xs o=o:=by
 unfold fR
 rcases dD (xs:=xs) (k:=o.kind) (n:=o.values.length) with ⟨h1,h2⟩|⟨j,hj,_,h,_⟩
 ·rw[h2];rfl
 ·rw[h] at h0;cases h0
theorem Ap {xs:List GateShape} {o:GateObject} (h0:o.values=[]):fR xs o=o:=by
 unfold fR
 rw[h0]
 cases o
 simp only at h0
 subst h0
 generalize (am xs _ _).1=fs
 cases fs<;>rfl
theorem Ag (xs:List GateShape) (o:GateObject):Spec P 217 [.d (ab xs),st o.e] (st (bif aS xs then fR xs o else o).e):=by
 refine Spec.of_vc aQ az [.cell 4 103] Tryz.func217 rfl rfl rfl rfl (fun hok=>?_)
 have hb:=iA (o:=o) ⟨hok.2.1,trivial⟩
 obtain ⟨hl,hl2⟩:=cV (xs:=xs) (k:=o.kind) (n:=o.values.length)
 cases hv:o.values with
 |nil=>
  repeat refine ai ?_
  refine oc (zZ _) ?_
  repeat refine ai ?_
  refine oc (fM _ _) ?_
  rw[Ap hv]
  repeat refine ai ?_
  refine aj ?_ ?_<;>intro h0
  ·repeat refine ai ?_
   refine oc (fr _) ?_
   repeat refine ai ?_
   refine aj ?_ ?_<;>intro h1
   ·repeat refine ai ?_
    cases aS xs<;>exact rfl
   ·simp only[Bool.not_eq_false'] at h0 h1
    have hl:=hl2 h0
    rw[hv] at hl
    simp only[hv] at hl ⊢
    generalize (am xs o.kind ([]:List Bs).length).1=fs at*
    have:fs=[]:=List.eq_nil_of_length_eq_zero hl
    subst this
    repeat refine ai ?_
    refine ⟨I0 ([]:List GateField) (fun _=>True) (fun i=>[(3,.ptr 0 0),(4,.ptr 1 0),(25,.d (ac [])),(26,.d (.int .i64 0)),(27,.d (.int .i64 i))]) (fun i=>⟨[(0,.cells 103 [.d (.str o.kind),.d (.str o.name),.d (.str o.team),.d (lS []),.d (.bool o.ending),.d (lS o.holds),.d (.int .i64 o.version)]),(1,.cells 103 [.d (.str []),.d (.str []),.d (.str []),.nils,.d (.bool false),.nils,.d (.int .i64 0)])],2,0⟩),⟨_,_,_,⟨0,rfl,Nat.zero_le _,trivial,rfl,rfl⟩,by repeat' first|exact rfl|exact trivial|refine aj ?_ ?_⟩,?_⟩
    rintro m l hh ⟨i,rfl,hi,hr,rfl,rfl⟩
    repeat refine ai ?_
    refine aj ?_ ?_<;>intro g1
    ·exact absurd (of_decide_eq_true g1) (by omega)
    ·have ho:st o.e=zL o (.d (lS [])) (.d (lS o.holds)):=by rw[Fn,hv]
     repeat refine ai ?_
     cases aS xs<;>exact ho.symm
  ·repeat refine ai ?_
   cases aS xs<;>exact rfl
 |cons v0 vr=>
  have hpos:0<o.values.length:=by rw[hv];simp
  clear hv
  repeat refine ai ?_
  refine ow (Bk o hpos) ?_
  repeat refine ai ?_
  refine oe (fun g=>pA xs o g 4) ?_
  repeat refine ai ?_
  refine aj ?_ ?_<;>intro h0
  ·repeat refine ai ?_
   refine oc (fr _) ?_
   repeat refine ai ?_
   refine aj ?_ ?_<;>intro h1
   ·simp only[Bool.not_eq_true',Bool.not_eq_false'] at h0 h1
    rw[h1]
    repeat refine ai ?_
    exact rfl
   ·simp only[Bool.not_eq_false'] at h0 h1
    have hl:=hl2 h0
    rw[h1]
    unfold fR
    generalize (am xs o.kind o.values.length).1=fs at*
    repeat refine ai ?_
    refine px (fs) (fun i (W:List Bs)=>W=fA (fs.take i) o.values) (fun i (W:List Bs)=>[(3,.ptr 0 0),(4,.ptr 1 0),(25,.d (ac fs)),(26,.d (.int .i64 (fs.map GateField.e).length)),(27,.d (.int .i64 i))]) (fun i (W:List Bs)=>⟨[(0,.cells 103 [.d (.str o.kind),.d (.str o.name),.d (.str o.team),.own 4,.d (.bool o.ending),.d (lS o.holds),.d (.int .i64 o.version)]),(4,.row 9 1 (W.map eB)),(1,.cells 103 [.d (.str []),.d (.str []),.d (.str []),.nils,.d (.bool false),.nils,.d (.int .i64 0)])],5,0⟩) (rfl) ?_
    intro i W hi hr
    have hs:fs.length≤ap:=by omega
    have hW:W.length=o.values.length:=by rw[hr,oZ]
    repeat refine ai ?_
    refine aj ?_ ?_<;>intro g1
    ·have hlt:i<fs.length:=Y g1
     have hlt2:i<o.values.length:=by omega
     have hlt3:i<W.length:=by omega
     have hv:W[i]=o.values[i]:=by simp only[hr];exact Bq hlt hlt2 _
     have hst:fA (fs.take (i+1)) o.values=W.set i (jP fs[i] o.values[i]):=by rw[hr,←sv hlt hlt2]
     repeat refine ai ?_
     refine O (e:=GateField.e) (xs:=fs) (hlt) rfl ?_
     repeat refine ai ?_
     refine aj (Int.natCast_nonneg _) (aj (by rw[List.length_map];omega) ?_)
     repeat refine ai ?_
     refine ⟨_,wJ hlt3,?_⟩
     repeat refine ai ?_
     refine aj ?_ ?_<;>intro h2
     ·have hf:jP fs[i] o.values[i]=fs[i].default_:=by unfold jP;rw[←hv,show (W[i]==[])=true from h2];rfl
      repeat refine ai ?_
      refine aj (Int.natCast_nonneg _) (aj (by rw[List.length_map];omega) ?_)
      repeat refine ai ?_
      refine ⟨_,wJ hlt3,Nat.le_refl _,?_⟩
      repeat refine ai ?_
      exact dN (W.set i fs[i].default_) hlt hs (by rw[hst,hf]) fun hw=>by repeat' first|exact rfl|exact trivial|exact nd hw|exact rm hlt3|refine aj ?_ ?_
     ·have hf:jP fs[i] o.values[i]=W[i]:=by unfold jP;rw[←hv,show (W[i]==[])=false from h2];rfl
      repeat refine ai ?_
      exact dN W hlt hs (by rw[hst,hf,rc hlt3 rfl])
    ·have hi':fs.length≤i:=Z g1
     rw[List.take_of_length_le hi'] at hr
     rw[←hr]
     repeat refine ai ?_
     exact rfl
  ·simp only[Bool.not_eq_true'] at h0
   rw[Cx h0]
   repeat refine ai ?_
   cases aS xs<;>exact rfl
end Go.Vc
end
section
namespace Go.Vc
def G9 (rd:Bs→List Bs) (ns:List Bs):Prop:=∃r:Bs→Nat,∀n∈ns,∀y∈rd n,r y<r n
def stepG (rd:Bs→List Bs) (ns row:List Bs):List Bs:=
 match ns.find? (fun f=> !row.contains f&&(rd f).all row.contains) with
 |some f=>row++[f]
 |none=>row
def fO (rd:Bs→List Bs) (ns:List Bs):Nat→List Bs
 |0=>[]
 |k+1=>stepG rd ns (fO rd ns k)
theorem eS:∀{xs ys:List Bs},xs.Nodup→(∀x∈xs,x∈ys)→xs.length≤ys.length
 |[],_,_,_=>Nat.zero_le _
 |x::xs,ys,hn,hs=>by
  have hn':=List.nodup_cons.1 hn
  have hx:x∈ys:=hs x List.mem_cons_self
  have h1:xs.length≤(ys.erase x).length:=eS hn'.2 (fun y hy=>by
   have hne:y≠x:=fun e=>hn'.1 (e▸hy)
   exact (List.mem_erase_of_ne hne).2 (hs y (List.mem_cons_of_mem _ hy)))
  have h2:=List.length_erase_of_mem hx
  have h3:=List.length_pos_of_mem hx
  simp only[List.length_cons];omega
theorem yN {α:Type} (p:α→Prop) (r:α→Nat):∀m:Nat,(∃x,p x∧r x≤m)→∃x,p x∧∀y,p y→r x≤r y
 |0,⟨x,hx,hr⟩=>⟨x,hx,fun y _=>by omega⟩
 |m+1,⟨x,hx,hr⟩=>by
  by_cases h:∃y,p y∧r y≤m
  ·exact yN p r m h
  ·exact ⟨x,hx,fun y hy=>by
    have:¬r y≤m:=fun c=>h ⟨y,hy,c⟩
    omega⟩
theorem Ar:∀{ns row:List Bs},ns.Nodup→row.length<ns.length→∃x,x∈ns∧x ∉ row:=by
 intro ns row hn hl
 refine Classical.byContradiction fun h=>?_
 have:ns.length≤row.length:=eS hn (fun x hx=>Classical.byContradiction fun hx'=>h ⟨x,hx,hx'⟩)
 omega
structure ua (rd:Bs→List Bs) (ns row:List Bs):Prop where
 nd:row.Nodup
 sub:∀x∈row,x∈ns
 beh:∀x∈row,∀y∈rd x,row.idxOf y<row.idxOf x
theorem gR {row:List Bs} {x f:Bs} (h:x∈row):(row++[f]).idxOf x=row.idxOf x:=by
 rw[List.idxOf_append,if_pos h]
theorem Cu {rd:Bs→List Bs} {ns row:List Bs} {f:Bs} (g:ua rd ns row) (hf:f∈ns) (h:f ∉ row) (hr:∀y∈rd f,y∈row):ua rd ns (row++[f]):=by
 refine ⟨?_,?_,?_⟩
 ·rw[List.nodup_append]
  refine ⟨g.nd,by simp,?_⟩
  intro a ha b hb e
  rw[List.mem_singleton] at hb
  exact h (hb▸e▸ha)
 ·intro x hx
  rcases List.mem_append.1 hx with hx|hx
  ·exact g.sub x hx
  ·rw[List.mem_singleton] at hx;exact hx▸hf
 ·intro x hx y hy
  rcases List.mem_append.1 hx with hx|hx
  ·have h1:=g.beh x hx y hy
   have h2:row.idxOf x<row.length:=List.idxOf_lt_length_of_mem hx
   have hy':y∈row:=List.idxOf_lt_length_iff.1 (by omega)
   rw[gR hx,gR hy'];exact h1
  ·rw[List.mem_singleton] at hx
   subst hx
   have hy':=hr y hy
   rw[gR hy',List.idxOf_append,if_neg h]
   have:=List.idxOf_lt_length_of_mem hy'
   omega
theorem zm {rd:Bs→List Bs} {ns row:List Bs} (g:ua rd ns row):ua rd ns (stepG rd ns row):=by
 unfold stepG
 split
 ·rename_i f hf
  have h1:=List.find?_some hf
  rw[Bool.and_eq_true,Bool.not_eq_true'] at h1
  refine Cu g (List.mem_of_find?_eq_some hf) ?_ ?_
  ·intro c
   have:=h1.1
   rw[←Bool.not_eq_true,List.contains_iff_mem] at this
   exact this c
  ·intro y hy
   have:=List.all_eq_true.1 h1.2 y hy
   exact List.contains_iff_mem.1 this
 ·exact g
theorem gq (rd:Bs→List Bs) (ns:List Bs):∀k,ua rd ns (fO rd ns k)
 |0=>⟨List.nodup_nil,(fun x hx=>absurd hx List.not_mem_nil),(fun x hx=>absurd hx List.not_mem_nil)⟩
 |k+1=>zm (gq rd ns k)
theorem pB {rd:Bs→List Bs} {ns:List Bs} (hn:ns.Nodup) (hin:∀n∈ns,∀y∈rd n,y∈ns) (ha:G9 rd ns):∀k,k≤ns.length→(fO rd ns k).length=k
 |0,_=>rfl
 |k+1,h=>by
  have ih:=pB hn hin ha k (by omega)
  have g:=gq rd ns k
  obtain ⟨r,hr⟩:=ha
  obtain ⟨x0,hx0,hx0'⟩:=Ar (row:=fO rd ns k) hn (by omega)
  obtain ⟨x,⟨hx,hxr⟩,hmin⟩:=yN (fun x=>x∈ns∧x ∉ fO rd ns k) r (r x0) ⟨x0,⟨hx0,hx0'⟩,Nat.le_refl _⟩
  have hready:(!(fO rd ns k).contains x&&(rd x).all (fO rd ns k).contains)=true:=by
   rw[Bool.and_eq_true,Bool.not_eq_true',List.all_eq_true]
   refine ⟨?_,fun y hy=>?_⟩
   ·rw[←Bool.not_eq_true,List.contains_iff_mem];exact hxr
   ·refine List.contains_iff_mem.2 (Classical.byContradiction fun c=>?_)
    have:=hmin y ⟨hin x hx y hy,c⟩
    have:=hr x hx y hy
    omega
  show (stepG rd ns (fO rd ns k)).length=k+1
  unfold stepG
  split
  ·rw[List.length_append,ih];rfl
  ·rename_i hf
   have:=List.find?_eq_none.1 hf x hx
   exact absurd hready this
theorem Aj {rd:Bs→List Bs} {ns:List Bs} (hn:ns.Nodup) (h:(fO rd ns ns.length).length=ns.length):G9 rd ns:=by
 have g:=gq rd ns ns.length
 refine ⟨(fO rd ns ns.length).idxOf,fun n hm y hy=>g.beh n ?_ y hy⟩
 refine Classical.byContradiction fun c=>?_
 have:(n::fO rd ns ns.length).length≤ns.length:=eS (List.nodup_cons.2 ⟨c,g.nd⟩) (fun x hx=>by
  rcases List.mem_cons.1 hx with e|e
  ·exact e▸hm
  ·exact g.sub x e)
 rw[List.length_cons] at this
 omega
structure Wk where
 st:List (Bs×Int)
 out:List Bs
def lk:List (Bs×Int)→Bs→Int
 |[],_=>0
 |(k,v)::r,x=>bif k==x then v else lk r x
def pt:List (Bs×Int)→Bs→Int→List (Bs×Int)
 |[],x,v=>[(x,v)]
 |(k,u)::r,x,v=>bif k==x then (k,v)::r else (k,u)::pt r x v
theorem fq {x y:Bs} {v:Int}:∀{s:List (Bs×Int)},lk (pt s x v) y=bif x==y then v else lk s y
 |[]=>by simp only[pt,lk]
 |(k,u)::r=>by
  cases h:k==x with
  |true=>
   have e:k=x:=beq_iff_eq.1 h
   subst e
   simp only[pt,h,cond_true,lk]
   cases k==y<;>rfl
  |false=>
   simp only[pt,h,cond_false,lk,fq (s:=r)]
   cases h2:k==y with
   |true=>
    have e:k=y:=beq_iff_eq.1 h2
    subst e
    have:(x==k)=false:=by rw[←Bool.not_eq_true,beq_iff_eq];rw[←Bool.not_eq_true,beq_iff_eq] at h;exact fun c=>h c.symm
    rw[this];rfl
   |false=>rfl
def bM (w:Bs→Wk→Bool×Wk):List Bs→Wk→Bool×Wk
 |[],s=>(true,s)
 |y::ys,s=>match w y s with
  |(false,s')=>(false,s')
  |(true,s')=>bM w ys s'
def cd (rd:Bs→List Bs):Nat→Bs→Wk→Bool×Wk
 |0,_,s=>(false,s)
 |k+1,x,s=>bif lk s.st x==1 then (false,s) else bif lk s.st x==2 then (true,s) else
  match bM (cd rd k) (rd x) ⟨pt s.st x 1,s.out⟩ with
  |(false,s')=>(false,s')
  |(true,s')=>(true,⟨pt s'.st x 2,s'.out++[x]⟩)
def white (ns:List Bs) (s:Wk):Nat:=(ns.filter fun n=>lk s.st n==0).length
structure nS (rd:Bs→List Bs) (ns:List Bs) (s:Wk):Prop where
 nd:s.out.Nodup
 sub:∀x∈s.out,x∈ns
 val:∀x,lk s.st x=0∨lk s.st x=1∨lk s.st x=2
 two:∀x,lk s.st x=2↔x∈s.out
 beh:∀x∈s.out,∀y∈rd x,s.out.idxOf y<s.out.idxOf x
structure WkLe (s s':Wk):Prop where
 one:∀x,lk s.st x=1↔lk s'.st x=1
 two:∀x,lk s.st x=2→lk s'.st x=2
 white:∀x,lk s'.st x=0→lk s.st x=0
theorem WkLe.refl (s:Wk):WkLe s s:=⟨fun _=>Iff.rfl,fun _ h=>h,fun _ h=>h⟩
theorem WkLe.trans {a b c:Wk} (h:WkLe a b) (k:WkLe b c):WkLe a c:=⟨fun x=>(h.one x).trans (k.one x),fun x e=>k.two x (h.two x e),fun x e=>h.white x (k.white x e)⟩
theorem iE {p q:Bs→Bool}:∀{ns:List Bs},(∀x,p x=true→q x=true)→(ns.filter p).length≤(ns.filter q).length
 |[],_=>Nat.le_refl _
 |n::ns,h=>by
  have ih:=iE (ns:=ns) h
  cases hp:p n with
  |true=>rw[List.filter_cons_of_pos hp,List.filter_cons_of_pos (h n hp)];simp only[List.length_cons];omega
  |false=>
   rw[List.filter_cons_of_neg (by rw[hp];simp)]
   cases hq:q n with
   |true=>rw[List.filter_cons_of_pos hq];simp only[List.length_cons];omega
   |false=>rw[List.filter_cons_of_neg (by rw[hq];simp)];exact ih
theorem lF {p q:Bs→Bool} {a:Bs}:∀{ns:List Bs},(∀x,p x=true→q x=true)→a∈ns→p a=false→q a=true→(ns.filter p).length<(ns.filter q).length
 |[],_,h,_,_=>absurd h List.not_mem_nil
 |n::ns,h,ha,h1,h2=>by
  by_cases e:n=a
  ·subst e
   rw[List.filter_cons_of_neg (by rw[h1];simp),List.filter_cons_of_pos h2]
   have:=iE (ns:=ns) h
   simp only[List.length_cons];omega
  ·have hm:a∈ns:=(List.mem_cons.1 ha).resolve_left (fun c=>e c.symm)
   have ih:=lF (ns:=ns) h hm h1 h2
   cases hp:p n with
   |true=>rw[List.filter_cons_of_pos hp,List.filter_cons_of_pos (h n hp)];simp only[List.length_cons];omega
   |false=>
    rw[List.filter_cons_of_neg (by rw[hp];simp)]
    cases hq:q n with
    |true=>rw[List.filter_cons_of_pos hq];simp only[List.length_cons];omega
    |false=>rw[List.filter_cons_of_neg (by rw[hq];simp)];exact ih
theorem xe {ns:List Bs} {s s':Wk} (h:WkLe s s'):white ns s'≤white ns s:=iE (fun x hx=>by
 rw[beq_iff_eq] at hx ⊢;exact h.white x hx)
theorem xd {ns:List Bs} {s:Wk} {x:Bs} (hx:x∈ns) (h:lk s.st x=0) (o:List Bs):white ns ⟨pt s.st x 1,o⟩<white ns s:=by
 refine lF (a:=x) (fun y hy=>?_) hx ?_ ?_
 ·simp only[fq] at hy
  cases e:x==y with
  |true=>rw[e] at hy;simp at hy
  |false=>rw[e] at hy;exact hy
 ·simp only[fq,BEq.rfl,cond_true];rfl
 ·rw[h];rfl
def y6 (rd:Bs→List Bs) (ns:List Bs) (x:Bs) (s:Wk) (r:Bool×Wk):Prop:=
 (r.1=true→nS rd ns r.2∧WkLe s r.2∧lk r.2.st x=2)∧
 (r.1=false→∀rk:Bs→Nat,(∀n∈ns,∀y∈rd n,rk y<rk n)→∃z,lk s.st z=1∧rk z≤rk x)
theorem ja {rd:Bs→List Bs} {ns:List Bs} {w:Bs→Wk→Bool×Wk} {n:Nat}:∀(ys:List Bs) (s:Wk),(∀y∈ys,∀s,nS rd ns s→white ns s≤n→y6 rd ns y s (w y s))→nS rd ns s→white ns s≤n→
 ((bM w ys s).1=true→nS rd ns (bM w ys s).2∧WkLe s (bM w ys s).2∧∀y∈ys,lk (bM w ys s).2.st y=2)∧
 ((bM w ys s).1=false→∀rk:Bs→Nat,(∀n∈ns,∀y∈rd n,rk y<rk n)→∃z y,y∈ys∧lk s.st z=1∧rk z≤rk y)
 |[],s,_,hs,_=>⟨fun _=>⟨hs,WkLe.refl _,fun y hy=>absurd hy List.not_mem_nil⟩,fun h=>by simp[bM] at h⟩
 |y::ys,s,hw,hs,hn=>by
  have g:=hw y List.mem_cons_self s hs hn
  unfold bM
  cases e:w y s with
  |mk b s'=>cases b with
   |false=>
    refine ⟨fun h=>by simp at h,fun _ rk hrk=>?_⟩
    rw[e] at g
    obtain ⟨z,h1,h2⟩:=g.2 rfl rk hrk
    exact ⟨z,y,List.mem_cons_self,h1,h2⟩
   |true=>
    rw[e] at g
    obtain ⟨g1,g2,g3⟩:=g.1 rfl
    have ih:=ja ys s' (fun y hy=>hw y (List.mem_cons_of_mem _ hy)) g1 (Nat.le_trans (xe g2) hn)
    refine ⟨fun h=>?_,fun h rk hrk=>?_⟩
    ·obtain ⟨i1,i2,i3⟩:=ih.1 h
     refine ⟨i1,g2.trans i2,fun u hu=>?_⟩
     rcases List.mem_cons.1 hu with c|c
     ·rw[c];exact i2.two y g3
     ·exact i3 u c
    ·obtain ⟨z,u,hu,h1,h2⟩:=ih.2 h rk hrk
     exact ⟨z,u,List.mem_cons_of_mem _ hu,(g2.one z).2 h1,h2⟩
theorem gN {rd:Bs→List Bs} {ns:List Bs} (hin:∀n∈ns,∀y∈rd n,y∈ns):∀(k:Nat) (x:Bs) (s:Wk),x∈ns→nS rd ns s→white ns s<k→y6 rd ns x s (cd rd k x s)
 |0,_,_,_,_,h=>by omega
 |k+1,x,s,hx,hs,hn=>by
  unfold cd
  cases h1:lk s.st x==1 with
  |true=>
   rw[beq_iff_eq] at h1
   exact ⟨fun h=>by simp at h,fun _ rk _=>⟨x,h1,Nat.le_refl _⟩⟩
  |false=>cases h2:lk s.st x==2 with
   |true=>
    rw[beq_iff_eq] at h2
    exact ⟨fun _=>⟨hs,WkLe.refl _,h2⟩,fun h=>by simp at h⟩
   |false=>
    have h0:lk s.st x=0:=by
     have e1:lk s.st x≠1:=fun c=>by rw[c] at h1;simp at h1
     have e2:lk s.st x≠2:=fun c=>by rw[c] at h2;simp at h2
     rcases hs.val x with c|c|c
     ·exact c
     ·exact absurd c e1
     ·exact absurd c e2
    have hout:x ∉ s.out:=fun c=>by
     have:=(hs.two x).2 c
     rw[h0] at this;exact absurd this (by decide)
    simp only[cond_false]
    have hs1:nS rd ns ⟨pt s.st x 1,s.out⟩:=by
     refine ⟨hs.nd,hs.sub,fun y=>?_,fun y=>?_,hs.beh⟩
     ·simp only[fq]
      cases x==y
      ·exact hs.val y
      ·exact .inr (.inl rfl)
     ·simp only[fq]
      cases e:x==y with
      |true=>
       have e':x=y:=beq_iff_eq.1 e
       subst e'
       exact ⟨fun c=>by simp at c,fun c=>absurd c hout⟩
      |false=>exact hs.two y
    have hw:=xd hx h0 s.out
    have g:=ja (rd:=rd) (ns:=ns) (w:=cd rd k) (n:=white ns ⟨pt s.st x 1,s.out⟩) (rd x) ⟨pt s.st x 1,s.out⟩
     (fun y hy s' hs' hl=>gN hin k y s' (hin x hx y hy) hs' (by omega)) hs1 (Nat.le_refl _)
    cases e:bM (cd rd k) (rd x) ⟨pt s.st x 1,s.out⟩ with
    |mk b s'=>
     rw[e] at g
     cases b with
     |false=>
      refine ⟨fun h=>by simp at h,fun _ rk hrk=>?_⟩
      obtain ⟨z,y,hy,hz,hle⟩:=g.2 rfl rk hrk
      have hlt:=hrk x hx y hy
      refine ⟨z,?_,by omega⟩
      have hz':lk (pt s.st x 1) z=1:=hz
      rw[fq] at hz'
      cases e2:x==z with
      |true=>
       have e3:x=z:=beq_iff_eq.1 e2
       subst e3
       omega
      |false=>rw[e2] at hz';exact hz'
     |true=>
      obtain ⟨g1,g2,g3⟩:=g.1 rfl
      have g1:nS rd ns s':=g1
      have g3:∀y∈rd x,lk s'.st y=2:=g3
      refine ⟨fun _=>?_,fun h=>by simp at h⟩
      have hx1:lk s'.st x=1:=(g2.one x).1 (by simp only[fq,BEq.rfl,cond_true])
      have hx':x ∉ s'.out:=fun c=>by
       have:=(g1.two x).2 c
       rw[hx1] at this;exact absurd this (by decide)
      refine ⟨⟨?_,?_,fun y=>?_,fun y=>?_,?_⟩,⟨fun y=>?_,fun y hy=>?_,fun y hy=>?_⟩,?_⟩
      ·show (s'.out++[x]).Nodup
       rw[List.nodup_append]
       refine ⟨g1.nd,by simp,?_⟩
       intro a ha b hb e
       rw[List.mem_singleton] at hb
       exact hx' (hb▸e▸ha)
      ·intro y hy
       rcases List.mem_append.1 hy with hy|hy
       ·exact g1.sub y hy
       ·rw[List.mem_singleton] at hy;exact hy▸hx
      ·simp only[fq]
       cases x==y
       ·exact g1.val y
       ·exact .inr (.inr rfl)
      ·simp only[fq,List.mem_append,List.mem_singleton]
       cases e2:x==y with
       |true=>
        have e3:x=y:=beq_iff_eq.1 e2
        exact ⟨fun _=> .inr e3.symm,fun _=>rfl⟩
       |false=>
        have e3:x≠y:=fun c=>by rw[c] at e2;simp at e2
        exact (g1.two y).trans ⟨.inl,fun c=>c.resolve_right (fun c=>e3 c.symm)⟩
      ·intro u hu y hy
       rcases List.mem_append.1 hu with hu|hu
       ·have q1:=g1.beh u hu y hy
        have q2:s'.out.idxOf u<s'.out.length:=List.idxOf_lt_length_of_mem hu
        have hy':y∈s'.out:=List.idxOf_lt_length_iff.1 (by omega)
        rw[gR hu,gR hy'];exact q1
       ·rw[List.mem_singleton] at hu
        subst hu
        have hy':=(g1.two y).1 (g3 y hy)
        rw[gR hy',List.idxOf_append,if_neg hx']
        have:=List.idxOf_lt_length_of_mem hy'
        omega
      ·simp only[fq]
       cases e2:x==y with
       |true=>
        have e3:x=y:=beq_iff_eq.1 e2
        subst e3
        rw[h0]
        exact ⟨fun c=>by simp at c,fun c=>by simp at c⟩
       |false=>
        have:=g2.one y
        simp only[fq,e2,cond_false] at this
        exact this
      ·simp only[fq]
       cases e2:x==y with
       |true=>rfl
       |false=>
        have:=g2.two y
        simp only[fq,e2,cond_false] at this
        exact this hy
      ·simp only[fq] at hy
       cases e2:x==y with
       |true=>rw[e2] at hy;simp at hy
       |false=>
        rw[e2] at hy
        have:=g2.white y hy
        simp only[fq,e2,cond_false] at this
        exact this
      ·simp only[fq,BEq.rfl,cond_true]
def BD:Wk:=⟨[],[]⟩
theorem za (rd:Bs→List Bs) (ns:List Bs):nS rd ns BD:=⟨List.nodup_nil,fun x h=>absurd h List.not_mem_nil,fun _=> .inl rfl,fun x=>⟨fun h=>absurd (show (0:Int)=2 from h) (by decide),fun h=>absurd h List.not_mem_nil⟩,fun x h=>absurd h List.not_mem_nil⟩
theorem kJ (ns:List Bs) (s:Wk):white ns s≤ns.length:=List.length_filter_le _ _
theorem ud {w:Bs→Wk→Bool×Wk} (hw:∀y s,∃t,(w y s).2.out=s.out++t):∀(ys:List Bs) (s:Wk),∃t,(bM w ys s).2.out=s.out++t
 |[],s=>⟨[],by simp[bM]⟩
 |y::ys,s=>by
  obtain ⟨t,ht⟩:=hw y s
  unfold bM
  cases e:w y s with
  |mk b s'=>
   rw[e] at ht
   cases b with
   |false=>exact ⟨t,ht⟩
   |true=>
    obtain ⟨t2,ht2⟩:=ud hw ys s'
    exact ⟨t++t2,by rw[←List.append_assoc,←ht];exact ht2⟩
theorem gV (rd:Bs→List Bs):∀(k:Nat) (x:Bs) (s:Wk),∃t,(cd rd k x s).2.out=s.out++t
 |0,_,s=>⟨[],by simp[cd]⟩
 |k+1,x,s=>by
  unfold cd
  cases lk s.st x==1 with
  |true=>exact ⟨[],by simp⟩
  |false=>cases lk s.st x==2 with
   |true=>exact ⟨[],by simp⟩
   |false=>
    obtain ⟨t,ht⟩:=ud (w:=cd rd k) (gV rd k) (rd x) ⟨pt s.st x 1,s.out⟩
    simp only[cond_false]
    cases e:bM (cd rd k) (rd x) ⟨pt s.st x 1,s.out⟩ with
    |mk b s'=>
     rw[e] at ht
     cases b with
     |false=>exact ⟨t,ht⟩
     |true=>exact ⟨t++[x],by rw[←List.append_assoc,←ht]⟩
theorem mB {rd:Bs→List Bs} {k:Nat} {x:Bs} {s:Wk} (h:(lk s.st x==1)=true):cd rd (k+1) x s=(false,s):=by
 unfold cd;rw[h];rfl
theorem mz {rd:Bs→List Bs} {k:Nat} {x:Bs} {s:Wk} (h:(lk s.st x==1)=false) (h2:(lk s.st x==2)=true):cd rd (k+1) x s=(true,s):=by
 unfold cd;rw[h,h2];rfl
theorem ic {rd:Bs→List Bs} {k:Nat} {x:Bs} {s s':Wk} (h:(lk s.st x==1)=false) (h2:(lk s.st x==2)=false) (e:bM (cd rd k) (rd x) ⟨pt s.st x 1,s.out⟩=(false,s')):cd rd (k+1) x s=(false,s'):=by
 unfold cd;rw[h,h2,e];rfl
theorem iI {rd:Bs→List Bs} {k:Nat} {x:Bs} {s s':Wk} (h:(lk s.st x==1)=false) (h2:(lk s.st x==2)=false) (e:bM (cd rd k) (rd x) ⟨pt s.st x 1,s.out⟩=(true,s')):cd rd (k+1) x s=(true,⟨pt s'.st x 2,s'.out++[x]⟩):=by
 unfold cd;rw[h,h2,e];rfl
theorem dV {w:Bs→Wk→Bool×Wk} {ys:List Bs} {i:Nat} {s:Wk} (h:i<ys.length):bM w (ys.drop i) s=match w ys[i] s with
 |(false,s')=>(false,s')
 |(true,s')=>bM w (ys.drop (i+1)) s':=by
 rw[List.drop_eq_getElem_cons h];rfl
theorem eX {w:Bs→Wk→Bool×Wk} {ys:List Bs} {i:Nat} {s:Wk} (h:ys.length≤i):bM w (ys.drop i) s=(true,s):=by
 rw[List.drop_of_length_le h];rfl
structure y5 (rd:Bs→List Bs) (ns:List Bs) (x:Bs) (s s1:Wk):Prop where
 ok:nS rd ns s1
 one:lk s1.st x=1
 white:white ns s1<white ns s
theorem my {rd:Bs→List Bs} {ns:List Bs} {x:Bs} {s:Wk} (hx:x∈ns) (hs:nS rd ns s) (h1:(lk s.st x==1)=false) (h2:(lk s.st x==2)=false):y5 rd ns x s ⟨pt s.st x 1,s.out⟩:=by
 have h0:lk s.st x=0:=by
  rcases hs.val x with c|c|c
  ·exact c
  ·rw[c] at h1;simp at h1
  ·rw[c] at h2;simp at h2
 have hout:x ∉ s.out:=fun c=>by
  have:=(hs.two x).2 c
  rw[h0] at this;exact absurd this (by decide)
 refine ⟨⟨hs.nd,hs.sub,fun y=>?_,fun y=>?_,hs.beh⟩,by simp only[fq,BEq.rfl,cond_true],xd hx h0 _⟩
 ·simp only[fq]
  cases x==y
  ·exact hs.val y
  ·exact .inr (.inl rfl)
 ·simp only[fq]
  cases e:x==y with
  |true=>
   have e':x=y:=beq_iff_eq.1 e
   subst e'
   exact ⟨fun c=>by simp at c,fun c=>absurd c hout⟩
  |false=>exact hs.two y
theorem ia {rd:Bs→List Bs} {ns:List Bs} (hin:∀n∈ns,∀y∈rd n,y∈ns) {k:Nat} {x y:Bs} {s s1 s2:Wk} (h:y5 rd ns x s s1) (hk:white ns s<k+1) (hy:y∈ns) (e:cd rd k y s1=(true,s2)):y5 rd ns x s s2:=by
 have hw:=h.white
 have g:=gN hin k y s1 hy h.ok (by omega)
 rw[e] at g
 obtain ⟨g1,g2,_⟩:=g.1 rfl
 exact ⟨g1,(g2.one x).1 h.one,Nat.lt_of_le_of_lt (xe g2) h.white⟩
theorem kI {rd:Bs→List Bs} {ns:List Bs} {x:Bs} {s s1:Wk} (hx:x∈ns) (h:y5 rd ns x s s1):s1.out.length+1≤ns.length:=by
 have:(x::s1.out).length≤ns.length:=eS (List.nodup_cons.2 ⟨fun c=>by
  have:=(h.ok.two x).2 c
  rw[h.one] at this;exact absurd this (by decide),h.ok.nd⟩) (fun y hy=>by
  rcases List.mem_cons.1 hy with e|e
  ·exact e▸hx
  ·exact h.ok.sub y e)
 exact this
theorem CP {rd:Bs→List Bs} {ns:List Bs} (hin:∀n∈ns,∀y∈rd n,y∈ns):(bM (cd rd (ns.length+1)) ns BD).1=true↔G9 rd ns:=by
 have g:=ja (rd:=rd) (ns:=ns) (w:=cd rd (ns.length+1)) (n:=ns.length) ns BD
  (fun y hy s hs hl=>gN hin _ y s hy hs (by omega)) (za rd ns) (kJ _ _)
 constructor
 ·intro h
  obtain ⟨g1,g2,g3⟩:=g.1 h
  exact ⟨(bM (cd rd (ns.length+1)) ns BD).2.out.idxOf,fun n hn y hy=>g1.beh n ((g1.two n).1 (g3 n hn)) y hy⟩
 ·rintro ⟨rk,hrk⟩
  cases e:(bM (cd rd (ns.length+1)) ns BD).1 with
  |true=>rfl
  |false=>
   obtain ⟨z,y,hy,hz,_⟩:=g.2 e rk hrk
   exact absurd hz (by show ¬((0:Int)=1);decide)
theorem xf {rd:Bs→List Bs} {ns:List Bs} (hn:ns.Nodup) (hin:∀n∈ns,∀y∈rd n,y∈ns):
 (bM (cd rd (ns.length+1)) ns BD).1=decide ((fO rd ns ns.length).length=ns.length):=by
 rw[Bool.eq_iff_iff,decide_eq_true_eq,CP hin]
 exact ⟨fun h=>pB hn hin h _ (Nat.le_refl _),Aj hn⟩
end Go.Vc
end
section
namespace Go.Vc
theorem BA {α:Type} {key:α→Bs}:∀{xs:List α} {p:Option Bs},dT key p xs=true→∀a∈xs,∀b∈xs,key a=key b→a=b
 |[],_,_,a,ha,_,_,_=>by cases ha
 |x::xs,p,h,a,ha,b,hb,e=>by
  simp only[dT,Bool.and_eq_true] at h
  rcases List.mem_cons.1 ha with rfl|ha'
  ·rcases List.mem_cons.1 hb with rfl|hb'
   ·rfl
   ·have:=nQ h.2 b hb'
    rw[←e,fT] at this;cases this
  ·rcases List.mem_cons.1 hb with rfl|hb'
   ·have:=nQ h.2 a ha'
    rw[e,fT] at this;cases this
   ·exact BA h.2 a ha' b hb' e
def jS (s:Bs):List Bs:=bif s==[] then [] else [s]
def AW (k n:Bs) (m:GateMend):List Bs:=bif m.kind==k&&m.field==n then jS m.when_++jS m.from_ else []
def U (k:Bs) (ms:List GateMend) (n:Bs):List Bs:=(ms.map (AW k n)).flatten
def F2 (k f:Bs) (row:List Bs) (m:GateMend):Bool:=
 !((m.kind==k&&m.field==f)&&((!(m.when_==[])&& !row.any (·==m.when_))||(!(m.from_==[])&& !row.any (·==m.from_))))
def rz (k f:Bs) (row:List Bs) (ms:List GateMend):Bool:=ms.all (F2 k f row)
theorem jH {row:List Bs} {s:Bs}:row.any (·==s)=row.contains s:=by
 rw[Bool.eq_iff_iff,List.any_eq_true,List.contains_iff_mem]
 constructor
 ·rintro ⟨x,hx,e⟩;rw[beq_iff_eq] at e;exact e▸hx
 ·intro h;exact ⟨s,h,BEq.rfl⟩
theorem Dx {s:Bs} {p:Bs→Bool}:(jS s).all p= !(!(s==[])&& !p s):=by
 unfold jS
 cases s==[]<;>simp
theorem EH {k f:Bs} {row:List Bs} {m:GateMend}:F2 k f row m=(AW k f m).all row.contains:=by
 unfold F2 AW
 cases (m.kind==k&&m.field==f) with
 |false=>rfl
 |true=>
  simp only[cond_true,List.all_append,Dx,jH,Bool.true_and,Bool.not_or]
theorem pF {p:Bs→Bool}:∀{l:List (List Bs)},l.flatten.all p=l.all (·.all p)
 |[]=>rfl
 |x::l=>by simp only[List.flatten_cons,List.all_append,List.all_cons,pF]
theorem zD {k f:Bs} {row:List Bs} {ms:List GateMend}:rz k f row ms=(U k ms f).all row.contains:=by
 unfold rz U
 rw[pF,List.all_map]
 congr 1
 funext m
 exact EH
def bt (s:GateShape):List Bs:=s.fields.map (·.name)
def iu (s:GateShape) (ms:List GateMend) (row:List Bs) (f:Bs):Bool:= !row.any (·==f)&&rz s.kind f row ms
def gr (s:GateShape) (ms:List GateMend) (n:Nat):List Bs:=fO (U s.kind ms) (bt s) n
def m5 (s:GateShape) (ms:List GateMend):List Bs:=gr s ms s.fields.length
theorem Bz {s:GateShape} {ms:List GateMend} {row:List Bs}:iu s ms row=fun f=> !row.contains f&&(U s.kind ms f).all row.contains:=by
 funext f
 unfold iu
 rw[jH,zD]
theorem Bl {s:GateShape} {ms:List GateMend} {n:Nat} {f:Bs} (h:(bt s).find? (iu s ms (gr s ms n))=some f):gr s ms (n+1)=gr s ms n++[f]:=by
 rw[Bz] at h
 show stepG _ _ _=_
 unfold stepG
 unfold gr at h ⊢
 rw[h]
theorem Bm {s:GateShape} {ms:List GateMend} {n:Nat} (h:(bt s).find? (iu s ms (gr s ms n))=none):gr s ms (n+1)=gr s ms n:=by
 rw[Bz] at h
 show stepG _ _ _=_
 unfold stepG
 unfold gr at h ⊢
 rw[h]
theorem FL (s:GateShape) (ms:List GateMend) (n:Nat):(gr s ms n).length≤s.fields.length:=by
 have g:=gq (U s.kind ms) (bt s) n
 have:=eS g.nd g.sub
 rw[bt,List.length_map] at this
 exact this
theorem Fh (s:GateShape) (ms:List GateMend):∀n,(gr s ms n).length≤n
 |0=>Nat.le_refl _
 |n+1=>by
  have ih:=Fh s ms n
  cases h:(bt s).find? (iu s ms (gr s ms n)) with
  |none=>rw[Bm h];omega
  |some f=>rw[Bl h,List.length_append,List.length_singleton];omega
def pu (s:GateShape) (ms:List GateMend) (row:List Bs) (l:List GateField):Option Bs:=(l.map (·.name)).find? (iu s ms row)
theorem ma {s:GateShape} {ms:List GateMend} {row:List Bs} {xs:List GateField} {i:Nat} (h:i<xs.length):pu s ms row (xs.drop i)=bif iu s ms row xs[i].name then some xs[i].name else pu s ms row (xs.drop (i+1)):=by
 unfold pu
 rw[List.drop_eq_getElem_cons h,List.map_cons,List.find?_cons]
 cases iu s ms row xs[i].name<;>rfl
theorem Ck {s:GateShape} {ms:List GateMend} {row:List Bs} {xs:List GateField} {i:Nat} (h:xs.length≤i):pu s ms row (xs.drop i)=none:=by
 rw[List.drop_of_length_le h];rfl
def bB (shapes:List GateShape) (ms:List GateMend):Bool:=
 aS shapes&&(!decide ((ms.length:Int)>12)&&(ms.all (bK shapes)&&shapes.all fun s=>((m5 s ms).length:Int)==(s.fields.length:Int)))
theorem sr {kinds:List Bs}:∀{fs:List GateField} {pre:List Bs},ll kinds pre fs=true→(fs.map (·.name)).Nodup∧∀x∈pre,x ∉ fs.map (·.name)
 |[],_,_=>⟨List.nodup_nil,fun _ _ h=>by cases h⟩
 |f::fs,pre,h=>by
  simp only[ll,Bool.and_eq_true,Bool.not_eq_true'] at h
  obtain ⟨h1,_,h3⟩:=h
  obtain ⟨g1,g2⟩:=sr h3
  rw[jH] at h1
  refine ⟨?_,fun x hx c=>?_⟩
  ·rw[List.map_cons,List.nodup_cons]
   exact ⟨g2 f.name (List.mem_append.2 (.inr List.mem_cons_self)),g1⟩
  ·rw[List.map_cons] at c
   rcases List.mem_cons.1 c with c|c
   ·have:pre.contains f.name=true:=List.contains_iff_mem.2 (c▸hx)
    rw[h1] at this;cases this
   ·exact g2 x (List.mem_append.2 (.inl hx)) c
theorem mU {xs:List GateShape} (h:aS xs=true) {s:GateShape} (hs:s∈xs):(bt s).Nodup:=by
 unfold aS at h
 simp only[Bool.and_eq_true] at h
 have:=List.all_eq_true.1 h.2.2 s hs
 unfold bx at this
 simp only[Bool.and_eq_true] at this
 exact (sr this.2).1
theorem zn {xs:List GateShape} (h:aS xs=true) {a b:GateShape} (ha:a∈xs) (hb:b∈xs) (e:a.kind=b.kind):a=b:=by
 unfold aS at h
 simp only[Bool.and_eq_true] at h
 exact BA h.2.1 a ha b hb e
theorem nc {fs:List GateField} {n:Bs} (h:fp fs n=true):n∈fs.map (·.name):=by
 unfold fp at h
 rw[Bool.and_eq_true,nG] at h
 obtain ⟨f,hf,e⟩:=List.any_eq_true.1 h.1
 rw[beq_iff_eq] at e
 exact List.mem_map.2 ⟨f,hf,e⟩
theorem xX {s y:Bs} (h:y∈jS s):y=s∧(s==[])=false:=by
 unfold jS at h
 cases e:s==[] with
 |true=>rw[e] at h;cases h
 |false=>rw[e] at h;exact ⟨List.mem_singleton.1 h,rfl⟩
theorem Bc {xs:List GateShape} (h:aS xs=true) {s:GateShape} (hs:s∈xs) {m:GateMend} (hm:bK xs m=true) (e:m.kind=s.kind):iW s.fields m=true:=by
 unfold bK at hm
 split at hm
 ·rename_i s' hq
  rw[Bool.and_eq_true] at hm
  obtain ⟨j,hj,h1,h2,_⟩:=cI hm.1
  rw[h1,Int.toNat_natCast,List.getElem?_eq_getElem hj] at hq
  have e1:s'=xs[j]:=(Option.some.inj hq).symm
  have e2:xs[j].kind=m.kind:=by simpa using h2
  have:s'=s:=zn h (e1▸List.getElem_mem hj) hs (by rw[e1,e2,e])
  exact this▸hm.2
 ·cases hm
theorem kc {xs:List GateShape} {ms:List GateMend} (h:aS xs=true) (hm:ms.all (bK xs)=true) {s:GateShape} (hs:s∈xs):∀n,∀y∈U s.kind ms n,y∈bt s:=by
 intro n y hy
 unfold U at hy
 obtain ⟨l,hl,hy⟩:=List.mem_flatten.1 hy
 obtain ⟨m,hm1,rfl⟩:=List.mem_map.1 hl
 unfold AW at hy
 cases e:(m.kind==s.kind&&m.field==n) with
 |false=>rw[e] at hy;cases hy
 |true=>
  rw[e] at hy
  rw[Bool.and_eq_true,beq_iff_eq] at e
  have hf:=Bc h hs (List.all_eq_true.1 hm m hm1) e.1
  unfold iW at hf
  simp only[Bool.and_eq_true,Bool.or_eq_true] at hf
  rcases List.mem_append.1 hy with hy|hy
  ·obtain ⟨rfl,hne⟩:=xX hy
   rcases hf.1.2.1 with c|c
   ·rw[hne] at c;cases c
   ·exact nc c
  ·obtain ⟨rfl,hne⟩:=xX hy
   rcases hf.1.2.2 with c|c
   ·rw[hne] at c;cases c
   ·exact nc c
end Go.Vc
end
section
namespace Go.Vc
open Go.Proofs
set_option maxRecDepth 100000
theorem BW (ms:List GateMend) (k f:Bs) (row:List Bs):Spec P 223 [.d (ah ms),.d (.str k),.d (.str f),.d (lS row)] (.d (.bool (rz k f row ms))):=by
 refine Spec.of_vc aQ az [.tmp 8] Tryz.func223 rfl rfl rfl rfl (fun hok=>?_)
 have hs:ms.length≤ap:=ax hok.1.1
 repeat refine ai ?_
 refine dU (ms) (fun i=>rz k f row ms=(ms.drop i).all (F2 k f row)) (fun i=>[(0,.d (ah ms)),(1,.d (.str k)),(2,.d (.str f)),(3,.d (lS row)),(9,.d (.int .i64 i))]) (fun i=>hp0) (rfl) ?_
 intro i hi hr
 repeat refine ai ?_
 refine aj ?_ ?_<;>intro h1
 ·have hlt:i<ms.length:=Y h1
  rw[aL hlt] at hr
  repeat refine ai ?_
  refine O (e:=GateMend.e) (xs:=ms) (hlt) rfl ?_
  repeat refine ai ?_
  repeat' first
   |refine ai ?_
   |(refine aj ?_ ?_<;>intro h)
   |refine oc (vZ _ _) ?_
  all_goals first
   |(refine bd ?_;(try simp only[Bool.not_eq_true',Bool.not_eq_false'] at*);rw[hr];simp only[F2, *,bl];done)
   |exact ⟨_,_,_,⟨i+1,rfl,hlt,(by (try simp only[Bool.not_eq_true',Bool.not_eq_false'] at*);rw[hr];simp only[F2, *,bl]),rfl,rfl⟩,by omega,rfl,rfl,⟨rfl,rfl,rfl,rfl,nd (V hlt hs),trivial⟩,trivial,trivial⟩
 ·refine bd ?_
  rw[hr,ct (Z h1)]
theorem fg (s:GateShape):(st s.e)= .agg [.d (.str s.kind),.d (ac s.fields)]:=rfl
theorem AM (s:GateShape) (ms:List GateMend):Spec P 203 [st s.e,.d (ah ms)] (.d (lS (m5 s ms))):=by
 refine Spec.of_vc aQ az [.tmp 4] Tryz.func203 rfl rfl rfl rfl (fun hok=>?_)
 have hs:s.fields.length≤ap:=by
  have:=hok.1
  simp only[st,AV.ok,GateShape.e,List.map,dS] at this
  exact ax this.2.1.1
 repeat refine ai ?_
 refine dU (s.fields) (fun n=>True) (fun n=>[(1,.d (ah ms)),(2,.ptr 0 0),(5,.own 1),(6,.d (.int .i64 n))]) (fun n=>⟨[(1,.row 9 1 ((gr s ms n).map eB)),(0,.cells 164 (s.e.map .d))],2,0⟩) (trivial) ?_
 intro n hn hr
 repeat refine ai ?_
 refine aj ?_ ?_<;>intro h1
 ·have hlt0:n<s.fields.length:=Y h1
  repeat refine ai ?_
  refine dU (s.fields) (fun i=>pu s ms (gr s ms n) s.fields=pu s ms (gr s ms n) (s.fields.drop i)) (fun i=>[(1,.d (ah ms)),(2,.ptr 0 0),(5,.own 1),(6,.d (.int .i64 n)),(7,.d (.int .i64 i))]) (fun i=>⟨[(1,.row 9 1 ((gr s ms n).map eB)),(0,.cells 164 (s.e.map .d))],2,0⟩) (rfl) ?_
  intro i hi hr
  repeat refine ai ?_
  refine aj ?_ ?_<;>intro h2
  ·have hlt:i<s.fields.length:=Y h2
   repeat refine ai ?_
   refine O (e:=GateField.e) (xs:=s.fields) (hlt) rfl ?_
   repeat refine ai ?_
   refine oc (vZ _ _) ?_
   repeat refine ai ?_
   refine aj ?_ ?_<;>intro h3
   ·simp only[Bool.not_eq_true',Bool.not_eq_false'] at h3
    repeat refine ai ?_
    refine oc (BW _ _ _ _) ?_
    repeat refine ai ?_
    refine aj ?_ ?_<;>intro h4
    ·repeat refine ai ?_
     refine aj (fun r hr=>by rw[List.mem_singleton.1 hr];rfl) ?_
     repeat refine ai ?_
     refine aj (by have:=Fh s ms n;simp only[List.length_map,List.length_cons,List.length_nil];unfold ap at*;omega) ?_
     have hc:iu s ms (gr s ms n) s.fields[i].name=true:=by unfold iu;rw[h3,h4];rfl
     have hg:gr s ms (n+1)=gr s ms n++[s.fields[i].name]:=Bl (by
      show pu s ms (gr s ms n) s.fields=_
      rw[hr,ma hlt,hc];rfl)
     repeat refine ai ?_
     exact bV hlt0 hs trivial fun hw=>⟨rfl,rfl,⟨rfl,rfl,rfl,nd hw,trivial⟩,⟨rfl,rfl,trivial⟩,⟨dA (by rw[hg,List.map_append];rfl),rfl,trivial⟩⟩
    ·repeat refine ai ?_
     exact bV hlt hs (by rw[hr,ma hlt,show iu s ms (gr s ms n) s.fields[i].name=false from by unfold iu;rw[h4,Bool.and_false]];rfl)
   ·simp only[Bool.not_eq_true',Bool.not_eq_false'] at h3
    repeat refine ai ?_
    exact bV hlt hs (by rw[hr,ma hlt,show iu s ms (gr s ms n) s.fields[i].name=false from by unfold iu;rw[h3];rfl];rfl)
  ·have hg:gr s ms (n+1)=gr s ms n:=Bm (by
    show pu s ms (gr s ms n) s.fields=_
    rw[hr,Ck (Z h2)])
   repeat refine ai ?_
   exact bV hlt0 hs trivial fun hw=>⟨rfl,rfl,⟨rfl,rfl,rfl,nd hw,trivial⟩,⟨rfl,rfl,trivial⟩,⟨dA (by rw[hg]),rfl,trivial⟩⟩
 ·refine ld ?_
  rw[show n=s.fields.length from by have:=Z h1;omega];rfl
theorem tF (xs:List GateShape) (ms:List GateMend):Spec P 170 [.d (ab xs),.d (ah ms)] (.d (.bool (bB xs ms))):=by
 refine Spec.of_vc aQ az [.tmp 4] Tryz.func170 rfl rfl rfl rfl (fun hok=>?_)
 have hs:xs.length≤ap:=ax hok.1.1
 have hsm:ms.length≤ap:=ax hok.2.1.1
 repeat refine ai ?_
 refine oc (rh _) ?_
 repeat refine ai ?_
 refine aj ?_ ?_<;>intro h0
 ·simp only[Bool.not_eq_true',Bool.not_eq_false'] at h0
  repeat refine ai ?_
  refine aj ?_ ?_<;>intro h1
  ·rw[List.length_map] at h1
   refine bd ?_
   simp only[bB,h1,bl]
  ·rw[List.length_map] at h1
   have e:bB xs ms=(ms.all (bK xs)&&xs.all fun s=>((m5 s ms).length:Int)==(s.fields.length:Int)):=by simp only[bB,h0,h1,bl]
   rw[e]
   repeat refine ai ?_
   refine dU (ms) (fun i=>ms.all (bK xs)=(ms.drop i).all (bK xs)) (fun i=>[(0,.d (ab xs)),(1,.d (ah ms)),(5,.d (.int .i64 i))]) (fun i=>hp0) (rfl) ?_
   intro i hi hr
   repeat refine ai ?_
   refine aj ?_ ?_<;>intro h2
   ·have hlt:i<ms.length:=Y h2
    rw[aL hlt] at hr
    repeat refine ai ?_
    refine O (e:=GateMend.e) (xs:=ms) (hlt) rfl ?_
    repeat refine ai ?_
    refine oc (zt _ _) ?_
    repeat refine ai ?_
    refine aj ?_ ?_<;>intro h3
    ·simp only[Bool.not_eq_true',Bool.not_eq_false'] at h3
     refine bd ?_
     rw[hr,h3];rfl
    ·simp only[Bool.not_eq_true',Bool.not_eq_false'] at h3
     repeat refine ai ?_
     exact bV hlt hsm (by rw[hr,h3];rfl)
   ·rw[ct (Z h2)] at hr
    rw[hr,Bool.true_and]
    repeat refine ai ?_
    refine dU (xs) (fun i=>(xs.all fun s=>((m5 s ms).length:Int)==(s.fields.length:Int))=((xs.drop i).all fun s=>((m5 s ms).length:Int)==(s.fields.length:Int))) (fun i=>[(0,.d (ab xs)),(1,.d (ah ms)),(6,.d (.int .i64 i))]) (fun i=>hp0) (rfl) ?_
    intro i hi hr
    repeat refine ai ?_
    refine aj ?_ ?_<;>intro h4
    ·have hlt:i<xs.length:=Y h4
     rw[aL hlt] at hr
     repeat refine ai ?_
     refine ak ?_
     repeat refine ai ?_
     refine O (e:=GateShape.e) (xs:=xs) (hlt) rfl ?_
     repeat refine ai ?_
     refine oc (AM _ _) ?_
     repeat refine ai ?_
     refine O (e:=GateShape.e) (xs:=xs) (hlt) rfl ?_
     repeat refine ai ?_
     refine aj ?_ ?_<;>intro h5
     ·simp only[bne,Bool.not_eq_true',Bool.not_eq_false',List.length_map] at h5
      refine bd ?_
      rw[hr,h5];rfl
     ·simp only[bne,Bool.not_eq_true',Bool.not_eq_false',List.length_map] at h5
      repeat refine ai ?_
      exact bV hlt hs (by rw[hr,h5];rfl)
    ·refine bd ?_
     rw[hr,ct (Z h4)]
 ·simp only[Bool.not_eq_true',Bool.not_eq_false'] at h0
  refine bd ?_
  simp only[bB,h0,Bool.false_and]
end Go.Vc
end
section
namespace Go.Vc
open Go.Proofs
set_option maxRecDepth 100000
def De (id:Nat):List Bs→AV
 |[]=> .nils
 |_::_=> .own id
def AT (objs:List (Nat×AO)) (nx id:Nat):List Bs→Heap
 |[]=>⟨objs,nx,nx⟩
 |x::xs=>⟨(id,.row 9 1 ((x::xs).map eB))::objs,id+1,nx⟩
def iF (p:Bs×Int):List D×AV:=([.str p.1],.d (.int .i64 p.2))
def wO:AV:= .fn 231 [.ptr 1 0,.ptr 0 0]
def FM:AV:= .fn 236 [.ptr 6 0,.ptr 4 0,.ptr 8 0,.ptr 7 0]
def oS (s:GateShape):AO:= .cells 164 (s.e.map .d)
def oM (ms:List GateMend):AO:= .cells 38 [.d (ah ms)]
def oA (all:List Bs):AO:= .row 9 1 (all.map eB)
def oR:AO:= .cells 263 [wO]
def oT (w:Wk):AO:= .map 271 .str (w.st.map iF)
def oP:AO:= .cells 271 [.mapr 5]
def oW:AO:= .cells 115 [FM]
def hWo (s:GateShape) (ms:List GateMend) (all:List Bs) (es:List (List D×AV)):List Bs→List (Nat×AO)
 |[]=>[(8,oW),(7,.cells 101 [.nils]),(6,oP),(5,.map 271 .str es),(4,oR),(1,oM ms),(0,oS s)]
 |x::xs=>[(9,.row 9 1 ((x::xs).map eB)),(8,oW),(7,.cells 101 [.own 9]),(6,oP),(5,.map 271 .str es),(4,oR),(1,oM ms),(0,oS s)]
def Hq:List Bs→Nat
 |[]=>9
 |_::_=>10
def G2 (lo:Nat) (s:GateShape) (ms:List GateMend) (all:List Bs) (es:List (List D×AV)) (out:List Bs):Heap:=⟨hWo s ms all es out,Hq out,lo⟩
def hW (lo:Nat) (s:GateShape) (ms:List GateMend) (all:List Bs) (w:Wk):Heap:=G2 lo s ms all (w.st.map iF) w.out
theorem cn {k n:Bs} {ms:List GateMend} {i:Nat} (h:i<ms.length):U k (ms.take (i+1)) n=U k (ms.take i) n++AW k n ms[i]:=by
 unfold U
 rw[List.take_succ_eq_append_getElem h,List.map_append,List.flatten_append]
 simp
theorem xY (s:Bs):(jS s).length≤1:=by unfold jS;cases s==[]<;>simp
theorem fG {k n:Bs}:∀{ms:List GateMend},(U k ms n).length≤2*ms.length
 |[]=>Nat.le_refl _
 |m::ms=>by
  have ih:=fG (k:=k) (n:=n) (ms:=ms)
  unfold U at ih ⊢
  simp only[List.map_cons,List.flatten_cons,List.length_append,List.length_cons]
  have:(AW k n m).length≤2:=by
   have h1:=xY m.when_
   have h2:=xY m.from_
   unfold AW
   cases (m.kind==k&&m.field==n)
   ·simp
   ·simp only[cond_true,List.length_append];omega
  omega
theorem aw {n:Nat}:∀{st:List (Bs×Int)},ER n (st.map iF)
 |[]=>trivial
 |_::_=>⟨rfl,aw⟩
theorem qf {k n:Bs} {m:GateMend} (h:(m.kind==k)=false):AW k n m=[]:=by unfold AW;rw[h];rfl
theorem m8 {k n:Bs} {m:GateMend} (h:(m.field==n)=false):AW k n m=[]:=by unfold AW;rw[h,Bool.and_false];rfl
theorem we {k n:Bs} {m:GateMend} (h:(m.kind==k)=true) (h2:(m.field==n)=true):AW k n m=jS m.when_++jS m.from_:=by unfold AW;rw[h,h2];rfl
theorem eK {s:Bs} (h:(s==[])=true):jS s=[]:=by unfold jS;rw[h];rfl
theorem dI {s:Bs} (h:(s==[])=false):jS s=[s]:=by unfold jS;rw[h];rfl
theorem bI (t n:Nat) (a:Bs) (r:List Bs) (w:Bs):some (AO.row t n ((a::r).map eB++[[.str w]]))=some (AO.row t n ((a::(r++[w])).map eB)):=by simp[eB]
theorem dH (t n:Nat) (a:Bs) (r:List Bs) (w f:Bs):some (AO.row t n (((a::r).map eB++[[.str w]])++[[.str f]]))=some (AO.row t n ((a::(r++[w,f])).map eB)):=by simp[eB]
theorem qj (lo:Nat) (s:GateShape) (ms:List GateMend) (hm:ms.length≤12) (all:List Bs) (es:List (List D×AV)) (hes:∀n,ER n es) (hsub:∀i b,zj i b es=es) (out:List Bs) (n:Bs):
 HSpec P 231 [.d (.str n),.ptr 1 0,.ptr 0 0] (G2 lo s ms all es out) (.d (lS (U s.kind ms n))) (G2 lo s ms all es out):=by
 have hs:ms.length≤ap:=by unfold ap;omega
 cases out with
 |nil=>
  refine HSpec.of_vc aQ az [.tmp 4] Tryz.func231 rfl rfl rfl rfl rfl (fun hok=>?_)
  repeat refine ai ?_
  refine px (ms) (fun i (A:List Bs)=>A=U s.kind (ms.take i) n) (fun i (A:List Bs)=>[(0,.d (.str n)),(1,.ptr 1 0),(2,.ptr 0 0),(5,De 10 A),(8,.d (ah ms)),(9,.d (.int .i64 (ms.map GateMend.e).length)),(10,.d (.int .i64 i))]) (fun i (A:List Bs)=>AT [(8,oW),(7,.cells 101 [.nils]),(6,oP),(5,.map 271 .str es),(4,oR),(1,oM ms),(0,oS s)] 9 10 A) (rfl) ?_ ⟨rfl,rfl,⟨rfl,rfl,rfl,rfl,rfl,rfl,rfl,trivial⟩,⟨rfl,rfl,rfl,⟨rfl,hes _⟩,rfl,rfl,rfl,trivial⟩,⟨rfl,rfl,rfl,rfl,rfl,rfl,rfl,trivial⟩⟩
  intro i A hi hr
  have hAl:A.length≤24:=by
   have:=fG (k:=s.kind) (n:=n) (ms:=ms.take i)
   rw[←hr,List.length_take] at this
   omega
  repeat refine ai ?_
  refine aj ?_ ?_<;>intro h1
  ·have hlt:i<ms.length:=Y h1
   repeat refine ai ?_
   refine O (e:=GateMend.e) (xs:=ms) (hlt) rfl ?_
   repeat refine ai ?_
   cases A with
   |nil=>
    repeat refine ai ?_
    refine aj ?_ ?_<;>intro h2
    ·simp only[bne,Bool.not_eq_true',Bool.not_eq_false'] at h2
     repeat refine ai ?_
     refine aj ?_ ?_<;>intro h3
     ·simp only[bne,Bool.not_eq_true',Bool.not_eq_false'] at h3
      repeat refine ai ?_
      exact dN ([]) hlt hs (by rw[cn hlt,←hr,m8 h3,List.append_nil]) fun hw=>by repeat' first|exact rfl|exact trivial|exact nd hw|exact hes _|refine aj ?_ ?_
     ·simp only[bne,Bool.not_eq_true',Bool.not_eq_false'] at h3
      have hstep:=cn (k:=s.kind) (n:=n) hlt
      rw[we h2 h3,←hr] at hstep
      repeat refine ai ?_
      refine aj ?_ ?_<;>intro h4
      ·simp only[bne,Bool.not_eq_true',Bool.not_eq_false'] at h4
       rw[dI h4] at hstep
       repeat refine ai ?_
       refine aj (fun r hr=>by rw[List.mem_singleton.1 hr];rfl) ?_
       repeat refine ai ?_
       refine aj (by simp only[List.length_nil,List.length_cons,List.length_map] at*;unfold ap;omega) ?_
       repeat refine ai ?_
       refine aj ?_ ?_<;>intro h5
       ·simp only[bne,Bool.not_eq_true',Bool.not_eq_false'] at h5
        rw[dI h5] at hstep
        repeat refine ai ?_
        refine aj (fun r hr=>by rw[List.mem_singleton.1 hr];rfl) ?_
        repeat refine ai ?_
        refine aj (by simp only[List.length_append,List.length_nil,List.length_cons,List.length_map] at*;unfold ap;omega) ?_
        repeat refine ai ?_
        exact dN ([ms[i].when_,ms[i].from_]) hlt hs (by rw[hstep];rfl) fun hw=>by repeat' first|exact rfl|exact trivial|exact nd hw|exact hes _|exact aT (hsub _ _)|exact aT (by rw[hsub,hsub])|exact dA rfl|exact bI _ _ _ _ _|exact dH _ _ _ _ _ _|refine aj ?_ ?_
       ·simp only[bne,Bool.not_eq_true',Bool.not_eq_false'] at h5
        rw[eK h5] at hstep
        repeat refine ai ?_
        exact dN ([ms[i].when_]) hlt hs (by rw[hstep];rfl) fun hw=>by repeat' first|exact rfl|exact trivial|exact nd hw|exact hes _|exact aT (hsub _ _)|exact aT (by rw[hsub,hsub])|exact dA rfl|exact bI _ _ _ _ _|exact dH _ _ _ _ _ _|refine aj ?_ ?_
      ·simp only[bne,Bool.not_eq_true',Bool.not_eq_false'] at h4
       rw[eK h4] at hstep
       repeat refine ai ?_
       refine aj ?_ ?_<;>intro h5
       ·simp only[bne,Bool.not_eq_true',Bool.not_eq_false'] at h5
        rw[dI h5] at hstep
        repeat refine ai ?_
        refine aj (fun r hr=>by rw[List.mem_singleton.1 hr];rfl) ?_
        repeat refine ai ?_
        refine aj (by simp only[List.length_nil,List.length_cons,List.length_map] at*;unfold ap;omega) ?_
        repeat refine ai ?_
        exact dN ([ms[i].from_]) hlt hs (by rw[hstep];rfl) fun hw=>by repeat' first|exact rfl|exact trivial|exact nd hw|exact hes _|exact aT (hsub _ _)|exact aT (by rw[hsub,hsub])|exact dA rfl|exact bI _ _ _ _ _|exact dH _ _ _ _ _ _|refine aj ?_ ?_
       ·simp only[bne,Bool.not_eq_true',Bool.not_eq_false'] at h5
        rw[eK h5] at hstep
        repeat refine ai ?_
        exact dN ([]) hlt hs (by rw[hstep];simp) fun hw=>by repeat' first|exact rfl|exact trivial|exact nd hw|exact hes _|refine aj ?_ ?_
    ·simp only[bne,Bool.not_eq_true',Bool.not_eq_false'] at h2
     repeat refine ai ?_
     exact dN ([]) hlt hs (by rw[cn hlt,←hr,qf h2,List.append_nil]) fun hw=>by repeat' first|exact rfl|exact trivial|exact nd hw|exact hes _|refine aj ?_ ?_
   |cons a tl=>
    repeat refine ai ?_
    refine aj ?_ ?_<;>intro h2
    ·simp only[bne,Bool.not_eq_true',Bool.not_eq_false'] at h2
     repeat refine ai ?_
     refine aj ?_ ?_<;>intro h3
     ·simp only[bne,Bool.not_eq_true',Bool.not_eq_false'] at h3
      repeat refine ai ?_
      exact dN (a::tl) hlt hs (by rw[cn hlt,←hr,m8 h3,List.append_nil]) fun hw=>by repeat' first|exact rfl|exact trivial|exact nd hw|exact hes _|refine aj ?_ ?_
     ·simp only[bne,Bool.not_eq_true',Bool.not_eq_false'] at h3
      have hstep:=cn (k:=s.kind) (n:=n) hlt
      rw[we h2 h3,←hr] at hstep
      repeat refine ai ?_
      refine aj ?_ ?_<;>intro h4
      ·simp only[bne,Bool.not_eq_true',Bool.not_eq_false'] at h4
       rw[dI h4] at hstep
       repeat refine ai ?_
       refine aj (fun r hr=>by rw[List.mem_singleton.1 hr];rfl) ?_
       repeat refine ai ?_
       refine aj (by simp only[List.length_append,List.length_nil,List.length_cons,List.length_map] at*;unfold ap;omega) ?_
       repeat refine ai ?_
       refine aj ?_ ?_<;>intro h5
       ·simp only[bne,Bool.not_eq_true',Bool.not_eq_false'] at h5
        rw[dI h5] at hstep
        repeat refine ai ?_
        refine aj (fun r hr=>by rw[List.mem_singleton.1 hr];rfl) ?_
        repeat refine ai ?_
        refine aj (by simp only[List.length_append,List.length_nil,List.length_cons,List.length_map] at*;unfold ap;omega) ?_
        repeat refine ai ?_
        exact dN (a::(tl++[ms[i].when_,ms[i].from_])) hlt hs (by rw[hstep];rfl) fun hw=>by repeat' first|exact rfl|exact trivial|exact nd hw|exact hes _|exact aT (hsub _ _)|exact aT (by rw[hsub,hsub])|exact dA rfl|exact bI _ _ _ _ _|exact dH _ _ _ _ _ _|refine aj ?_ ?_
       ·simp only[bne,Bool.not_eq_true',Bool.not_eq_false'] at h5
        rw[eK h5] at hstep
        repeat refine ai ?_
        exact dN (a::(tl++[ms[i].when_])) hlt hs (by rw[hstep];rfl) fun hw=>by repeat' first|exact rfl|exact trivial|exact nd hw|exact hes _|exact aT (hsub _ _)|exact aT (by rw[hsub,hsub])|exact dA rfl|exact bI _ _ _ _ _|exact dH _ _ _ _ _ _|refine aj ?_ ?_
      ·simp only[bne,Bool.not_eq_true',Bool.not_eq_false'] at h4
       rw[eK h4] at hstep
       repeat refine ai ?_
       refine aj ?_ ?_<;>intro h5
       ·simp only[bne,Bool.not_eq_true',Bool.not_eq_false'] at h5
        rw[dI h5] at hstep
        repeat refine ai ?_
        refine aj (fun r hr=>by rw[List.mem_singleton.1 hr];rfl) ?_
        repeat refine ai ?_
        refine aj (by simp only[List.length_append,List.length_nil,List.length_cons,List.length_map] at*;unfold ap;omega) ?_
        repeat refine ai ?_
        exact dN (a::(tl++[ms[i].from_])) hlt hs (by rw[hstep];rfl) fun hw=>by repeat' first|exact rfl|exact trivial|exact nd hw|exact hes _|exact aT (hsub _ _)|exact aT (by rw[hsub,hsub])|exact dA rfl|exact bI _ _ _ _ _|exact dH _ _ _ _ _ _|refine aj ?_ ?_
       ·simp only[bne,Bool.not_eq_true',Bool.not_eq_false'] at h5
        rw[eK h5] at hstep
        repeat refine ai ?_
        exact dN (a::tl) hlt hs (by rw[hstep];simp) fun hw=>by repeat' first|exact rfl|exact trivial|exact nd hw|exact hes _|refine aj ?_ ?_
    ·simp only[bne,Bool.not_eq_true',Bool.not_eq_false'] at h2
     repeat refine ai ?_
     exact dN (a::tl) hlt hs (by rw[cn hlt,←hr,qf h2,List.append_nil]) fun hw=>by repeat' first|exact rfl|exact trivial|exact nd hw|exact hes _|refine aj ?_ ?_
  ·have ha:A=U s.kind ms n:=by rw[hr,List.take_of_length_le (Z h1)]
   rw[←ha]
   cases A with
   |nil=>
    refine aj rfl (aj rfl ⟨rfl,rfl,?_,?_,?_⟩)
    all_goals (repeat' first|exact rfl|exact trivial|exact hes _|exact aT (hsub _ _)|refine aj ?_ ?_)
   |cons a tl=>
    refine aj rfl (aj rfl ⟨rfl,rfl,?_,?_,?_⟩)
    all_goals (repeat' first|exact rfl|exact trivial|exact hes _|exact aT (hsub _ _)|refine aj ?_ ?_)
 |cons x xs=>
  refine HSpec.of_vc aQ az [.tmp 4] Tryz.func231 rfl rfl rfl rfl rfl (fun hok=>?_)
  repeat refine ai ?_
  refine px (ms) (fun i (A:List Bs)=>A=U s.kind (ms.take i) n) (fun i (A:List Bs)=>[(0,.d (.str n)),(1,.ptr 1 0),(2,.ptr 0 0),(5,De 11 A),(8,.d (ah ms)),(9,.d (.int .i64 (ms.map GateMend.e).length)),(10,.d (.int .i64 i))]) (fun i (A:List Bs)=>AT [(9,.row 9 1 ((x::xs).map eB)),(8,oW),(7,.cells 101 [.own 9]),(6,oP),(5,.map 271 .str es),(4,oR),(1,oM ms),(0,oS s)] 10 11 A) (rfl) ?_ ⟨rfl,rfl,⟨rfl,rfl,rfl,rfl,rfl,rfl,rfl,trivial⟩,⟨rfl,rfl,rfl,rfl,⟨rfl,hes _⟩,rfl,rfl,rfl,trivial⟩,⟨rfl,rfl,rfl,rfl,rfl,rfl,rfl,rfl,trivial⟩⟩
  intro i A hi hr
  have hAl:A.length≤24:=by
   have:=fG (k:=s.kind) (n:=n) (ms:=ms.take i)
   rw[←hr,List.length_take] at this
   omega
  repeat refine ai ?_
  refine aj ?_ ?_<;>intro h1
  ·have hlt:i<ms.length:=Y h1
   repeat refine ai ?_
   refine O (e:=GateMend.e) (xs:=ms) (hlt) rfl ?_
   repeat refine ai ?_
   cases A with
   |nil=>
    repeat refine ai ?_
    refine aj ?_ ?_<;>intro h2
    ·simp only[bne,Bool.not_eq_true',Bool.not_eq_false'] at h2
     repeat refine ai ?_
     refine aj ?_ ?_<;>intro h3
     ·simp only[bne,Bool.not_eq_true',Bool.not_eq_false'] at h3
      repeat refine ai ?_
      exact dN ([]) hlt hs (by rw[cn hlt,←hr,m8 h3,List.append_nil]) fun hw=>by repeat' first|exact rfl|exact trivial|exact nd hw|exact hes _|refine aj ?_ ?_
     ·simp only[bne,Bool.not_eq_true',Bool.not_eq_false'] at h3
      have hstep:=cn (k:=s.kind) (n:=n) hlt
      rw[we h2 h3,←hr] at hstep
      repeat refine ai ?_
      refine aj ?_ ?_<;>intro h4
      ·simp only[bne,Bool.not_eq_true',Bool.not_eq_false'] at h4
       rw[dI h4] at hstep
       repeat refine ai ?_
       refine aj (fun r hr=>by rw[List.mem_singleton.1 hr];rfl) ?_
       repeat refine ai ?_
       refine aj (by simp only[List.length_nil,List.length_cons,List.length_map] at*;unfold ap;omega) ?_
       repeat refine ai ?_
       refine aj ?_ ?_<;>intro h5
       ·simp only[bne,Bool.not_eq_true',Bool.not_eq_false'] at h5
        rw[dI h5] at hstep
        repeat refine ai ?_
        refine aj (fun r hr=>by rw[List.mem_singleton.1 hr];rfl) ?_
        repeat refine ai ?_
        refine aj (by simp only[List.length_append,List.length_nil,List.length_cons,List.length_map] at*;unfold ap;omega) ?_
        repeat refine ai ?_
        exact dN ([ms[i].when_,ms[i].from_]) hlt hs (by rw[hstep];rfl) fun hw=>by repeat' first|exact rfl|exact trivial|exact nd hw|exact hes _|exact aT (hsub _ _)|exact aT (by rw[hsub,hsub])|exact dA rfl|exact bI _ _ _ _ _|exact dH _ _ _ _ _ _|refine aj ?_ ?_
       ·simp only[bne,Bool.not_eq_true',Bool.not_eq_false'] at h5
        rw[eK h5] at hstep
        repeat refine ai ?_
        exact dN ([ms[i].when_]) hlt hs (by rw[hstep];rfl) fun hw=>by repeat' first|exact rfl|exact trivial|exact nd hw|exact hes _|exact aT (hsub _ _)|exact aT (by rw[hsub,hsub])|exact dA rfl|exact bI _ _ _ _ _|exact dH _ _ _ _ _ _|refine aj ?_ ?_
      ·simp only[bne,Bool.not_eq_true',Bool.not_eq_false'] at h4
       rw[eK h4] at hstep
       repeat refine ai ?_
       refine aj ?_ ?_<;>intro h5
       ·simp only[bne,Bool.not_eq_true',Bool.not_eq_false'] at h5
        rw[dI h5] at hstep
        repeat refine ai ?_
        refine aj (fun r hr=>by rw[List.mem_singleton.1 hr];rfl) ?_
        repeat refine ai ?_
        refine aj (by simp only[List.length_nil,List.length_cons,List.length_map] at*;unfold ap;omega) ?_
        repeat refine ai ?_
        exact dN ([ms[i].from_]) hlt hs (by rw[hstep];rfl) fun hw=>by repeat' first|exact rfl|exact trivial|exact nd hw|exact hes _|exact aT (hsub _ _)|exact aT (by rw[hsub,hsub])|exact dA rfl|exact bI _ _ _ _ _|exact dH _ _ _ _ _ _|refine aj ?_ ?_
       ·simp only[bne,Bool.not_eq_true',Bool.not_eq_false'] at h5
        rw[eK h5] at hstep
        repeat refine ai ?_
        exact dN ([]) hlt hs (by rw[hstep];simp) fun hw=>by repeat' first|exact rfl|exact trivial|exact nd hw|exact hes _|refine aj ?_ ?_
    ·simp only[bne,Bool.not_eq_true',Bool.not_eq_false'] at h2
     repeat refine ai ?_
     exact dN ([]) hlt hs (by rw[cn hlt,←hr,qf h2,List.append_nil]) fun hw=>by repeat' first|exact rfl|exact trivial|exact nd hw|exact hes _|refine aj ?_ ?_
   |cons a tl=>
    repeat refine ai ?_
    refine aj ?_ ?_<;>intro h2
    ·simp only[bne,Bool.not_eq_true',Bool.not_eq_false'] at h2
     repeat refine ai ?_
     refine aj ?_ ?_<;>intro h3
     ·simp only[bne,Bool.not_eq_true',Bool.not_eq_false'] at h3
      repeat refine ai ?_
      exact dN (a::tl) hlt hs (by rw[cn hlt,←hr,m8 h3,List.append_nil]) fun hw=>by repeat' first|exact rfl|exact trivial|exact nd hw|exact hes _|refine aj ?_ ?_
     ·simp only[bne,Bool.not_eq_true',Bool.not_eq_false'] at h3
      have hstep:=cn (k:=s.kind) (n:=n) hlt
      rw[we h2 h3,←hr] at hstep
      repeat refine ai ?_
      refine aj ?_ ?_<;>intro h4
      ·simp only[bne,Bool.not_eq_true',Bool.not_eq_false'] at h4
       rw[dI h4] at hstep
       repeat refine ai ?_
       refine aj (fun r hr=>by rw[List.mem_singleton.1 hr];rfl) ?_
       repeat refine ai ?_
       refine aj (by simp only[List.length_append,List.length_nil,List.length_cons,List.length_map] at*;unfold ap;omega) ?_
       repeat refine ai ?_
       refine aj ?_ ?_<;>intro h5
       ·simp only[bne,Bool.not_eq_true',Bool.not_eq_false'] at h5
        rw[dI h5] at hstep
        repeat refine ai ?_
        refine aj (fun r hr=>by rw[List.mem_singleton.1 hr];rfl) ?_
        repeat refine ai ?_
        refine aj (by simp only[List.length_append,List.length_nil,List.length_cons,List.length_map] at*;unfold ap;omega) ?_
        repeat refine ai ?_
        exact dN (a::(tl++[ms[i].when_,ms[i].from_])) hlt hs (by rw[hstep];rfl) fun hw=>by repeat' first|exact rfl|exact trivial|exact nd hw|exact hes _|exact aT (hsub _ _)|exact aT (by rw[hsub,hsub])|exact dA rfl|exact bI _ _ _ _ _|exact dH _ _ _ _ _ _|refine aj ?_ ?_
       ·simp only[bne,Bool.not_eq_true',Bool.not_eq_false'] at h5
        rw[eK h5] at hstep
        repeat refine ai ?_
        exact dN (a::(tl++[ms[i].when_])) hlt hs (by rw[hstep];rfl) fun hw=>by repeat' first|exact rfl|exact trivial|exact nd hw|exact hes _|exact aT (hsub _ _)|exact aT (by rw[hsub,hsub])|exact dA rfl|exact bI _ _ _ _ _|exact dH _ _ _ _ _ _|refine aj ?_ ?_
      ·simp only[bne,Bool.not_eq_true',Bool.not_eq_false'] at h4
       rw[eK h4] at hstep
       repeat refine ai ?_
       refine aj ?_ ?_<;>intro h5
       ·simp only[bne,Bool.not_eq_true',Bool.not_eq_false'] at h5
        rw[dI h5] at hstep
        repeat refine ai ?_
        refine aj (fun r hr=>by rw[List.mem_singleton.1 hr];rfl) ?_
        repeat refine ai ?_
        refine aj (by simp only[List.length_append,List.length_nil,List.length_cons,List.length_map] at*;unfold ap;omega) ?_
        repeat refine ai ?_
        exact dN (a::(tl++[ms[i].from_])) hlt hs (by rw[hstep];rfl) fun hw=>by repeat' first|exact rfl|exact trivial|exact nd hw|exact hes _|exact aT (hsub _ _)|exact aT (by rw[hsub,hsub])|exact dA rfl|exact bI _ _ _ _ _|exact dH _ _ _ _ _ _|refine aj ?_ ?_
       ·simp only[bne,Bool.not_eq_true',Bool.not_eq_false'] at h5
        rw[eK h5] at hstep
        repeat refine ai ?_
        exact dN (a::tl) hlt hs (by rw[hstep];simp) fun hw=>by repeat' first|exact rfl|exact trivial|exact nd hw|exact hes _|refine aj ?_ ?_
    ·simp only[bne,Bool.not_eq_true',Bool.not_eq_false'] at h2
     repeat refine ai ?_
     exact dN (a::tl) hlt hs (by rw[cn hlt,←hr,qf h2,List.append_nil]) fun hw=>by repeat' first|exact rfl|exact trivial|exact nd hw|exact hes _|refine aj ?_ ?_
  ·have ha:A=U s.kind ms n:=by rw[hr,List.take_of_length_le (Z h1)]
   rw[←ha]
   cases A with
   |nil=>
    refine aj rfl (aj rfl ⟨rfl,rfl,?_,?_,?_⟩)
    all_goals (repeat' first|exact rfl|exact trivial|exact hes _|exact aT (hsub _ _)|refine aj ?_ ?_)
   |cons a tl=>
    refine aj rfl (aj rfl ⟨rfl,rfl,?_,?_,?_⟩)
    all_goals (repeat' first|exact rfl|exact trivial|exact hes _|exact aT (hsub _ _)|refine aj ?_ ?_)
end Go.Vc
end
section
namespace Go.Vc
open Go.Proofs
set_option maxRecDepth 100000
theorem iL {i:Nat} {b:AV}:∀{st:List (Bs×Int)},zj i b (st.map iF)=st.map iF
 |[]=>rfl
 |p::st=>by
  have ih:=iL (i:=i) (b:=b) (st:=st)
  simp only[List.map_cons,zj,iF,ih,AV.sub]
theorem fo {x:Bs} {v:Int}:∀{st:List (Bs×Int)},bP (st.map iF) [.str x] (.d (.int .i64 v))=(pt st x v).map iF
 |[]=>rfl
 |(k,u)::st=>by
  have ih:=fo (x:=x) (v:=v) (st:=st)
  simp only[List.map_cons,iF,bP,dd,pt,nP x k]
  cases k==x with
  |true=>rfl
  |false=>simp only[cond_false,List.map_cons,iF];exact congrArg _ ih
theorem rV {x:Bs}:∀(st:List (Bs×Int)),(aH (st.map iF) [.str x]=none∧lk st x=0)∨aH (st.map iF) [.str x]=some (.d (.int .i64 (lk st x)))
 |[]=> .inl ⟨rfl,rfl⟩
 |(k,u)::st=>by
  simp only[List.map_cons,iF,aH,dd,lk,nP x k]
  cases k==x with
  |true=>exact .inr rfl
  |false=>exact rV st
theorem fV {t:Nat} {tk:TK} {x:Bs} {v:Int} {st:List (Bs×Int)}:some (AO.map t tk (bP (st.map iF) [.str x] (.d (.int .i64 v))))=some (AO.map t tk ((pt st x v).map iF)):=by rw[fo]
theorem iQ {t:Nat} {tk:TK} {x:Bs} {v:Int} {st:List (Bs×Int)} {i:Nat} {b:AV}:some (AO.map t tk (zj i b (bP (st.map iF) [.str x] (.d (.int .i64 v)))))=some (AO.map t tk ((pt st x v).map iF)):=by rw[fo,iL]
theorem kv (s:GateShape) (ms:List GateMend) (hm:ms.length≤12) (all N:List Bs) (hN:N.length≤ap) (hin:∀n∈N,∀y∈U s.kind ms n,y∈N):
 ∀(k lo:Nat) (x:Bs) (w:Wk),x∈N→nS (U s.kind ms) N w→white N w<k→
 HSpec P 236 [.d (.str x),.ptr 6 0,.ptr 4 0,.ptr 8 0,.ptr 7 0] (hW lo s ms all w) (.d (.bool (cd (U s.kind ms) k x w).1)) (hW lo s ms all (cd (U s.kind ms) k x w).2)
 |0,_,_,_,_,_,h=>by omega
 |k+1,lo,x,w,hx,hwk,hk=>by
  obtain ⟨st,out⟩:=w
  generalize hq:cd (U s.kind ms) (k+1) x ⟨st,out⟩=q
  obtain ⟨b,w2⟩:=q
  show HSpec P _ _ _ (.d (.bool b)) (hW lo s ms all w2)
  cases out with
  |nil=>
   refine HSpec.of_vc aQ az [.tmp 6] Tryz.func236 rfl rfl rfl rfl rfl (fun hok=>?_)
   repeat refine ai ?_
   rcases rV (x:=x) st with ⟨e0,e1⟩|e1
   ·refine ⟨_,e0,?_⟩
    repeat refine ai ?_
    refine aj ?_ ?_<;>intro g1
    ·have g1':(lk st x==1)=true:=by first|exact g1|(rw[e1];exact g1)
     rw[mB g1'] at hq
     obtain ⟨rfl,rfl⟩:=Prod.mk.inj hq
     refine aj rfl (aj rfl ⟨rfl,rfl,?_,?_,?_⟩)
     all_goals (repeat' first|exact rfl|exact trivial|exact aw|refine aj ?_ ?_)
    ·have g1':(lk st x==1)=false:=by first|exact g1|(rw[e1];exact g1)
     repeat refine ai ?_
     refine aj ?_ ?_<;>intro g2
     ·have g2':(lk st x==2)=true:=by first|exact g2|(rw[e1];exact g2)
      rw[mz g1' g2'] at hq
      obtain ⟨rfl,rfl⟩:=Prod.mk.inj hq
      refine aj rfl (aj rfl ⟨rfl,rfl,?_,?_,?_⟩)
      all_goals (repeat' first|exact rfl|exact trivial|exact aw|refine aj ?_ ?_)
     ·have g2':(lk st x==2)=false:=by first|exact g2|(rw[e1];exact g2)
      repeat refine ai ?_
      refine oh (qj _ s ms hm all (bP (st.map iF) [.str x] (.d (.int .i64 1))) (fun n=>by rw[fo];exact aw) (fun i b=>by rw[fo];exact iL) [] x) ?_
      have hs:(U s.kind ms x).length≤ap:=by
       have:=fG (k:=s.kind) (n:=x) (ms:=ms)
       unfold ap;omega
      repeat refine ai ?_
      refine px ((U s.kind ms x)) (fun i (u:Wk)=>bM (cd (U s.kind ms) k) (U s.kind ms x) ⟨pt st x 1,[]⟩=bM (cd (U s.kind ms) k) ((U s.kind ms x).drop i) u∧y5 (U s.kind ms) N x ⟨st,[]⟩ u∧∃t,u.out=[]++t) (fun i (u:Wk)=>[(0,.d (.str x)),(1,.ptr 6 0),(2,.ptr 4 0),(3,.ptr 8 0),(4,.ptr 7 0),(20,.d (lS (U s.kind ms x))),(21,.d (.int .i64 ((U s.kind ms x).map eB).length)),(22,.d (.int .i64 i))]) (fun i (u:Wk)=>hW 9 s ms all u) (⟨rfl,my hx hwk g1' g2',[],by simp⟩) ?_ ⟨rfl,rfl,⟨rfl,rfl,rfl,rfl,rfl,rfl,rfl,rfl,trivial⟩,(by repeat' first|exact rfl|exact trivial|exact aw|refine aj ?_ ?_),(by repeat' first|exact rfl|exact trivial|exact fV|refine aj ?_ ?_)⟩
      intro i u hi hr
      obtain ⟨hE,hI,hT⟩:=hr
      obtain ⟨st1,out1⟩:=u
      cases out1 with
      |nil=>
       repeat refine ai ?_
       refine aj ?_ ?_<;>intro h1
       ·have hlt:i<(U s.kind ms x).length:=Y h1
        have hy:(U s.kind ms x)[i]∈N:=hin x hx _ (List.getElem_mem hlt)
        have hc:=kv s ms hm all N hN hin k 9 (U s.kind ms x)[i] ⟨st1,[]⟩ hy hI.ok (by have:=hI.white;omega)
        rw[dV hlt] at hE
        generalize hv:cd (U s.kind ms) k (U s.kind ms x)[i] ⟨st1,[]⟩=v at hc hE
        obtain ⟨b3,st3,out3⟩:=v
        have hO:∃t,out3=[]++t:=by
             have:=gV (U s.kind ms) k (U s.kind ms x)[i] ⟨st1,[]⟩
             rw[hv] at this;exact this
        have hT3:∃t,out3=[]++t:=by
             obtain ⟨t,ht⟩:=hT
             obtain ⟨t2,ht2⟩:=hO
             exact ⟨t++t2,by rw[ht2,←List.append_assoc];exact congrArg (·++t2) ht⟩
        repeat refine ai ?_
        refine aJ (e:=eB) (xs:=(U s.kind ms x)) (hlt) (rfl) rfl ?_
        repeat refine ai ?_
        cases out3 with
        |nil=>
         cases b3 with
         |false=>
          refine Or.inr (Or.inl (Exists.intro _ (Exists.intro _ (aj (aj rfl hc) ?_))))
          repeat refine ai ?_
          refine ay ?_
          rw[ic g1' g2' hE] at hq
          obtain ⟨rfl,rfl⟩:=Prod.mk.inj hq
          refine aj rfl (aj rfl ⟨rfl,rfl,?_,?_,?_⟩)
          all_goals (repeat' first|exact rfl|exact trivial|exact aw|refine aj ?_ ?_)
         |true=>
          refine Or.inr (Or.inl (Exists.intro _ (Exists.intro _ (aj (aj rfl hc) ?_))))
          repeat refine ai ?_
          refine an ?_
          repeat refine ai ?_
          exact dN ⟨st3,[]⟩ hlt hs ⟨hE,ia hin hI hk hy hv,hT3⟩ fun hw=>by repeat' first|exact rfl|exact trivial|exact nd hw|exact aw|refine aj ?_ ?_
        |cons z zs=>
         cases b3 with
         |false=>
          refine Or.inr (Or.inl (Exists.intro _ (Exists.intro _ (aj (aj rfl hc) ?_))))
          repeat refine ai ?_
          refine ay ?_
          rw[ic g1' g2' hE] at hq
          obtain ⟨rfl,rfl⟩:=Prod.mk.inj hq
          refine aj rfl (aj rfl ⟨rfl,rfl,?_,?_,?_⟩)
          all_goals (repeat' first|exact rfl|exact trivial|exact aw|refine aj ?_ ?_)
         |true=>
          refine Or.inr (Or.inl (Exists.intro _ (Exists.intro _ (aj (aj rfl hc) ?_))))
          repeat refine ai ?_
          refine an ?_
          repeat refine ai ?_
          exact dN ⟨st3,(z::zs)⟩ hlt hs ⟨hE,ia hin hI hk hy hv,hT3⟩ fun hw=>by repeat' first|exact rfl|exact trivial|exact nd hw|exact aw|refine aj ?_ ?_
       ·rw[eX (Z h1)] at hE
        rw[iI g1' g2' hE] at hq
        obtain ⟨rfl,rfl⟩:=Prod.mk.inj hq
        have hroom:=kI hx hI
        repeat refine ai ?_
        refine aj (fun r hr=>by rw[List.mem_singleton.1 hr];rfl) ?_
        repeat refine ai ?_
        refine aj (by simp only[List.length_append,List.length_nil,List.length_cons,List.length_map] at*;unfold ap at*;omega) ?_
        refine aj rfl (aj rfl ⟨rfl,rfl,?_,?_,?_⟩)
        all_goals (repeat' first|exact rfl|exact trivial|exact aw|exact fV|exact iQ|exact bI _ _ _ _ _|refine aj ?_ ?_)
      |cons y ys=>
       repeat refine ai ?_
       refine aj ?_ ?_<;>intro h1
       ·have hlt:i<(U s.kind ms x).length:=Y h1
        have hy:(U s.kind ms x)[i]∈N:=hin x hx _ (List.getElem_mem hlt)
        have hc:=kv s ms hm all N hN hin k 9 (U s.kind ms x)[i] ⟨st1,(y::ys)⟩ hy hI.ok (by have:=hI.white;omega)
        rw[dV hlt] at hE
        generalize hv:cd (U s.kind ms) k (U s.kind ms x)[i] ⟨st1,(y::ys)⟩=v at hc hE
        obtain ⟨b3,st3,out3⟩:=v
        have hO:∃t,out3=(y::ys)++t:=by
             have:=gV (U s.kind ms) k (U s.kind ms x)[i] ⟨st1,(y::ys)⟩
             rw[hv] at this;exact this
        have hT3:∃t,out3=[]++t:=by
             obtain ⟨t,ht⟩:=hT
             obtain ⟨t2,ht2⟩:=hO
             exact ⟨t++t2,by rw[ht2,←List.append_assoc];exact congrArg (·++t2) ht⟩
        repeat refine ai ?_
        refine aJ (e:=eB) (xs:=(U s.kind ms x)) (hlt) (rfl) rfl ?_
        repeat refine ai ?_
        cases out3 with
        |nil=>
         obtain ⟨t,ht⟩:=hO
         cases ht
        |cons z zs=>
         cases b3 with
         |false=>
          refine Or.inr (Or.inl (Exists.intro _ (Exists.intro _ (aj (aj rfl hc) ?_))))
          repeat refine ai ?_
          refine ay ?_
          rw[ic g1' g2' hE] at hq
          obtain ⟨rfl,rfl⟩:=Prod.mk.inj hq
          refine aj rfl (aj rfl ⟨rfl,rfl,?_,?_,?_⟩)
          all_goals (repeat' first|exact rfl|exact trivial|exact aw|refine aj ?_ ?_)
         |true=>
          refine Or.inr (Or.inl (Exists.intro _ (Exists.intro _ (aj (aj rfl hc) ?_))))
          repeat refine ai ?_
          refine an ?_
          repeat refine ai ?_
          exact dN ⟨st3,(z::zs)⟩ hlt hs ⟨hE,ia hin hI hk hy hv,hT3⟩ fun hw=>by repeat' first|exact rfl|exact trivial|exact nd hw|exact aw|refine aj ?_ ?_
       ·rw[eX (Z h1)] at hE
        rw[iI g1' g2' hE] at hq
        obtain ⟨rfl,rfl⟩:=Prod.mk.inj hq
        have hroom:=kI hx hI
        repeat refine ai ?_
        refine aj (fun r hr=>by rw[List.mem_singleton.1 hr];rfl) ?_
        repeat refine ai ?_
        refine aj (by simp only[List.length_append,List.length_nil,List.length_cons,List.length_map] at*;unfold ap at*;omega) ?_
        refine aj rfl (aj rfl ⟨rfl,rfl,?_,?_,?_⟩)
        all_goals (repeat' first|exact rfl|exact trivial|exact aw|exact fV|exact iQ|exact bI _ _ _ _ _|refine aj ?_ ?_)
   ·refine ⟨_,e1,?_⟩
    repeat refine ai ?_
    refine aj ?_ ?_<;>intro g1
    ·have g1':(lk st x==1)=true:=by first|exact g1|(rw[e1];exact g1)
     rw[mB g1'] at hq
     obtain ⟨rfl,rfl⟩:=Prod.mk.inj hq
     refine aj rfl (aj rfl ⟨rfl,rfl,?_,?_,?_⟩)
     all_goals (repeat' first|exact rfl|exact trivial|exact aw|refine aj ?_ ?_)
    ·have g1':(lk st x==1)=false:=by first|exact g1|(rw[e1];exact g1)
     repeat refine ai ?_
     refine aj ?_ ?_<;>intro g2
     ·have g2':(lk st x==2)=true:=by first|exact g2|(rw[e1];exact g2)
      rw[mz g1' g2'] at hq
      obtain ⟨rfl,rfl⟩:=Prod.mk.inj hq
      refine aj rfl (aj rfl ⟨rfl,rfl,?_,?_,?_⟩)
      all_goals (repeat' first|exact rfl|exact trivial|exact aw|refine aj ?_ ?_)
     ·have g2':(lk st x==2)=false:=by first|exact g2|(rw[e1];exact g2)
      repeat refine ai ?_
      refine oh (qj _ s ms hm all (bP (st.map iF) [.str x] (.d (.int .i64 1))) (fun n=>by rw[fo];exact aw) (fun i b=>by rw[fo];exact iL) [] x) ?_
      have hs:(U s.kind ms x).length≤ap:=by
       have:=fG (k:=s.kind) (n:=x) (ms:=ms)
       unfold ap;omega
      repeat refine ai ?_
      refine px ((U s.kind ms x)) (fun i (u:Wk)=>bM (cd (U s.kind ms) k) (U s.kind ms x) ⟨pt st x 1,[]⟩=bM (cd (U s.kind ms) k) ((U s.kind ms x).drop i) u∧y5 (U s.kind ms) N x ⟨st,[]⟩ u∧∃t,u.out=[]++t) (fun i (u:Wk)=>[(0,.d (.str x)),(1,.ptr 6 0),(2,.ptr 4 0),(3,.ptr 8 0),(4,.ptr 7 0),(20,.d (lS (U s.kind ms x))),(21,.d (.int .i64 ((U s.kind ms x).map eB).length)),(22,.d (.int .i64 i))]) (fun i (u:Wk)=>hW 9 s ms all u) (⟨rfl,my hx hwk g1' g2',[],by simp⟩) ?_ ⟨rfl,rfl,⟨rfl,rfl,rfl,rfl,rfl,rfl,rfl,rfl,trivial⟩,(by repeat' first|exact rfl|exact trivial|exact aw|refine aj ?_ ?_),(by repeat' first|exact rfl|exact trivial|exact fV|refine aj ?_ ?_)⟩
      intro i u hi hr
      obtain ⟨hE,hI,hT⟩:=hr
      obtain ⟨st1,out1⟩:=u
      cases out1 with
      |nil=>
       repeat refine ai ?_
       refine aj ?_ ?_<;>intro h1
       ·have hlt:i<(U s.kind ms x).length:=Y h1
        have hy:(U s.kind ms x)[i]∈N:=hin x hx _ (List.getElem_mem hlt)
        have hc:=kv s ms hm all N hN hin k 9 (U s.kind ms x)[i] ⟨st1,[]⟩ hy hI.ok (by have:=hI.white;omega)
        rw[dV hlt] at hE
        generalize hv:cd (U s.kind ms) k (U s.kind ms x)[i] ⟨st1,[]⟩=v at hc hE
        obtain ⟨b3,st3,out3⟩:=v
        have hO:∃t,out3=[]++t:=by
             have:=gV (U s.kind ms) k (U s.kind ms x)[i] ⟨st1,[]⟩
             rw[hv] at this;exact this
        have hT3:∃t,out3=[]++t:=by
             obtain ⟨t,ht⟩:=hT
             obtain ⟨t2,ht2⟩:=hO
             exact ⟨t++t2,by rw[ht2,←List.append_assoc];exact congrArg (·++t2) ht⟩
        repeat refine ai ?_
        refine aJ (e:=eB) (xs:=(U s.kind ms x)) (hlt) (rfl) rfl ?_
        repeat refine ai ?_
        cases out3 with
        |nil=>
         cases b3 with
         |false=>
          refine Or.inr (Or.inl (Exists.intro _ (Exists.intro _ (aj (aj rfl hc) ?_))))
          repeat refine ai ?_
          refine ay ?_
          rw[ic g1' g2' hE] at hq
          obtain ⟨rfl,rfl⟩:=Prod.mk.inj hq
          refine aj rfl (aj rfl ⟨rfl,rfl,?_,?_,?_⟩)
          all_goals (repeat' first|exact rfl|exact trivial|exact aw|refine aj ?_ ?_)
         |true=>
          refine Or.inr (Or.inl (Exists.intro _ (Exists.intro _ (aj (aj rfl hc) ?_))))
          repeat refine ai ?_
          refine an ?_
          repeat refine ai ?_
          exact dN ⟨st3,[]⟩ hlt hs ⟨hE,ia hin hI hk hy hv,hT3⟩ fun hw=>by repeat' first|exact rfl|exact trivial|exact nd hw|exact aw|refine aj ?_ ?_
        |cons z zs=>
         cases b3 with
         |false=>
          refine Or.inr (Or.inl (Exists.intro _ (Exists.intro _ (aj (aj rfl hc) ?_))))
          repeat refine ai ?_
          refine ay ?_
          rw[ic g1' g2' hE] at hq
          obtain ⟨rfl,rfl⟩:=Prod.mk.inj hq
          refine aj rfl (aj rfl ⟨rfl,rfl,?_,?_,?_⟩)
          all_goals (repeat' first|exact rfl|exact trivial|exact aw|refine aj ?_ ?_)
         |true=>
          refine Or.inr (Or.inl (Exists.intro _ (Exists.intro _ (aj (aj rfl hc) ?_))))
          repeat refine ai ?_
          refine an ?_
          repeat refine ai ?_
          exact dN ⟨st3,(z::zs)⟩ hlt hs ⟨hE,ia hin hI hk hy hv,hT3⟩ fun hw=>by repeat' first|exact rfl|exact trivial|exact nd hw|exact aw|refine aj ?_ ?_
       ·rw[eX (Z h1)] at hE
        rw[iI g1' g2' hE] at hq
        obtain ⟨rfl,rfl⟩:=Prod.mk.inj hq
        have hroom:=kI hx hI
        repeat refine ai ?_
        refine aj (fun r hr=>by rw[List.mem_singleton.1 hr];rfl) ?_
        repeat refine ai ?_
        refine aj (by simp only[List.length_append,List.length_nil,List.length_cons,List.length_map] at*;unfold ap at*;omega) ?_
        refine aj rfl (aj rfl ⟨rfl,rfl,?_,?_,?_⟩)
        all_goals (repeat' first|exact rfl|exact trivial|exact aw|exact fV|exact iQ|exact bI _ _ _ _ _|refine aj ?_ ?_)
      |cons y ys=>
       repeat refine ai ?_
       refine aj ?_ ?_<;>intro h1
       ·have hlt:i<(U s.kind ms x).length:=Y h1
        have hy:(U s.kind ms x)[i]∈N:=hin x hx _ (List.getElem_mem hlt)
        have hc:=kv s ms hm all N hN hin k 9 (U s.kind ms x)[i] ⟨st1,(y::ys)⟩ hy hI.ok (by have:=hI.white;omega)
        rw[dV hlt] at hE
        generalize hv:cd (U s.kind ms) k (U s.kind ms x)[i] ⟨st1,(y::ys)⟩=v at hc hE
        obtain ⟨b3,st3,out3⟩:=v
        have hO:∃t,out3=(y::ys)++t:=by
             have:=gV (U s.kind ms) k (U s.kind ms x)[i] ⟨st1,(y::ys)⟩
             rw[hv] at this;exact this
        have hT3:∃t,out3=[]++t:=by
             obtain ⟨t,ht⟩:=hT
             obtain ⟨t2,ht2⟩:=hO
             exact ⟨t++t2,by rw[ht2,←List.append_assoc];exact congrArg (·++t2) ht⟩
        repeat refine ai ?_
        refine aJ (e:=eB) (xs:=(U s.kind ms x)) (hlt) (rfl) rfl ?_
        repeat refine ai ?_
        cases out3 with
        |nil=>
         obtain ⟨t,ht⟩:=hO
         cases ht
        |cons z zs=>
         cases b3 with
         |false=>
          refine Or.inr (Or.inl (Exists.intro _ (Exists.intro _ (aj (aj rfl hc) ?_))))
          repeat refine ai ?_
          refine ay ?_
          rw[ic g1' g2' hE] at hq
          obtain ⟨rfl,rfl⟩:=Prod.mk.inj hq
          refine aj rfl (aj rfl ⟨rfl,rfl,?_,?_,?_⟩)
          all_goals (repeat' first|exact rfl|exact trivial|exact aw|refine aj ?_ ?_)
         |true=>
          refine Or.inr (Or.inl (Exists.intro _ (Exists.intro _ (aj (aj rfl hc) ?_))))
          repeat refine ai ?_
          refine an ?_
          repeat refine ai ?_
          exact dN ⟨st3,(z::zs)⟩ hlt hs ⟨hE,ia hin hI hk hy hv,hT3⟩ fun hw=>by repeat' first|exact rfl|exact trivial|exact nd hw|exact aw|refine aj ?_ ?_
       ·rw[eX (Z h1)] at hE
        rw[iI g1' g2' hE] at hq
        obtain ⟨rfl,rfl⟩:=Prod.mk.inj hq
        have hroom:=kI hx hI
        repeat refine ai ?_
        refine aj (fun r hr=>by rw[List.mem_singleton.1 hr];rfl) ?_
        repeat refine ai ?_
        refine aj (by simp only[List.length_append,List.length_nil,List.length_cons,List.length_map] at*;unfold ap at*;omega) ?_
        refine aj rfl (aj rfl ⟨rfl,rfl,?_,?_,?_⟩)
        all_goals (repeat' first|exact rfl|exact trivial|exact aw|exact fV|exact iQ|exact bI _ _ _ _ _|refine aj ?_ ?_)
  |cons a tl=>
   refine HSpec.of_vc aQ az [.tmp 6] Tryz.func236 rfl rfl rfl rfl rfl (fun hok=>?_)
   repeat refine ai ?_
   rcases rV (x:=x) st with ⟨e0,e1⟩|e1
   ·refine ⟨_,e0,?_⟩
    repeat refine ai ?_
    refine aj ?_ ?_<;>intro g1
    ·have g1':(lk st x==1)=true:=by first|exact g1|(rw[e1];exact g1)
     rw[mB g1'] at hq
     obtain ⟨rfl,rfl⟩:=Prod.mk.inj hq
     refine aj rfl (aj rfl ⟨rfl,rfl,?_,?_,?_⟩)
     all_goals (repeat' first|exact rfl|exact trivial|exact aw|refine aj ?_ ?_)
    ·have g1':(lk st x==1)=false:=by first|exact g1|(rw[e1];exact g1)
     repeat refine ai ?_
     refine aj ?_ ?_<;>intro g2
     ·have g2':(lk st x==2)=true:=by first|exact g2|(rw[e1];exact g2)
      rw[mz g1' g2'] at hq
      obtain ⟨rfl,rfl⟩:=Prod.mk.inj hq
      refine aj rfl (aj rfl ⟨rfl,rfl,?_,?_,?_⟩)
      all_goals (repeat' first|exact rfl|exact trivial|exact aw|refine aj ?_ ?_)
     ·have g2':(lk st x==2)=false:=by first|exact g2|(rw[e1];exact g2)
      repeat refine ai ?_
      refine oh (qj _ s ms hm all (bP (st.map iF) [.str x] (.d (.int .i64 1))) (fun n=>by rw[fo];exact aw) (fun i b=>by rw[fo];exact iL) (a::tl) x) ?_
      have hs:(U s.kind ms x).length≤ap:=by
       have:=fG (k:=s.kind) (n:=x) (ms:=ms)
       unfold ap;omega
      repeat refine ai ?_
      refine px ((U s.kind ms x)) (fun i (u:Wk)=>bM (cd (U s.kind ms) k) (U s.kind ms x) ⟨pt st x 1,(a::tl)⟩=bM (cd (U s.kind ms) k) ((U s.kind ms x).drop i) u∧y5 (U s.kind ms) N x ⟨st,(a::tl)⟩ u∧∃t,u.out=(a::tl)++t) (fun i (u:Wk)=>[(0,.d (.str x)),(1,.ptr 6 0),(2,.ptr 4 0),(3,.ptr 8 0),(4,.ptr 7 0),(20,.d (lS (U s.kind ms x))),(21,.d (.int .i64 ((U s.kind ms x).map eB).length)),(22,.d (.int .i64 i))]) (fun i (u:Wk)=>hW 10 s ms all u) (⟨rfl,my hx hwk g1' g2',[],by simp⟩) ?_ ⟨rfl,rfl,⟨rfl,rfl,rfl,rfl,rfl,rfl,rfl,rfl,trivial⟩,(by repeat' first|exact rfl|exact trivial|exact aw|refine aj ?_ ?_),(by repeat' first|exact rfl|exact trivial|exact fV|refine aj ?_ ?_)⟩
      intro i u hi hr
      obtain ⟨hE,hI,hT⟩:=hr
      obtain ⟨st1,out1⟩:=u
      cases out1 with
      |nil=>
       obtain ⟨t,ht⟩:=hT
       cases ht
      |cons y ys=>
       repeat refine ai ?_
       refine aj ?_ ?_<;>intro h1
       ·have hlt:i<(U s.kind ms x).length:=Y h1
        have hy:(U s.kind ms x)[i]∈N:=hin x hx _ (List.getElem_mem hlt)
        have hc:=kv s ms hm all N hN hin k 10 (U s.kind ms x)[i] ⟨st1,(y::ys)⟩ hy hI.ok (by have:=hI.white;omega)
        rw[dV hlt] at hE
        generalize hv:cd (U s.kind ms) k (U s.kind ms x)[i] ⟨st1,(y::ys)⟩=v at hc hE
        obtain ⟨b3,st3,out3⟩:=v
        have hO:∃t,out3=(y::ys)++t:=by
             have:=gV (U s.kind ms) k (U s.kind ms x)[i] ⟨st1,(y::ys)⟩
             rw[hv] at this;exact this
        have hT3:∃t,out3=(a::tl)++t:=by
             obtain ⟨t,ht⟩:=hT
             obtain ⟨t2,ht2⟩:=hO
             exact ⟨t++t2,by rw[ht2,←List.append_assoc];exact congrArg (·++t2) ht⟩
        repeat refine ai ?_
        refine aJ (e:=eB) (xs:=(U s.kind ms x)) (hlt) (rfl) rfl ?_
        repeat refine ai ?_
        cases out3 with
        |nil=>
         obtain ⟨t,ht⟩:=hO
         cases ht
        |cons z zs=>
         cases b3 with
         |false=>
          refine Or.inr (Or.inl (Exists.intro _ (Exists.intro _ (aj (aj rfl hc) ?_))))
          repeat refine ai ?_
          refine ay ?_
          rw[ic g1' g2' hE] at hq
          obtain ⟨rfl,rfl⟩:=Prod.mk.inj hq
          refine aj rfl (aj rfl ⟨rfl,rfl,?_,?_,?_⟩)
          all_goals (repeat' first|exact rfl|exact trivial|exact aw|refine aj ?_ ?_)
         |true=>
          refine Or.inr (Or.inl (Exists.intro _ (Exists.intro _ (aj (aj rfl hc) ?_))))
          repeat refine ai ?_
          refine an ?_
          repeat refine ai ?_
          exact dN ⟨st3,(z::zs)⟩ hlt hs ⟨hE,ia hin hI hk hy hv,hT3⟩ fun hw=>by repeat' first|exact rfl|exact trivial|exact nd hw|exact aw|refine aj ?_ ?_
       ·rw[eX (Z h1)] at hE
        rw[iI g1' g2' hE] at hq
        obtain ⟨rfl,rfl⟩:=Prod.mk.inj hq
        have hroom:=kI hx hI
        repeat refine ai ?_
        refine aj (fun r hr=>by rw[List.mem_singleton.1 hr];rfl) ?_
        repeat refine ai ?_
        refine aj (by simp only[List.length_append,List.length_nil,List.length_cons,List.length_map] at*;unfold ap at*;omega) ?_
        refine aj rfl (aj rfl ⟨rfl,rfl,?_,?_,?_⟩)
        all_goals (repeat' first|exact rfl|exact trivial|exact aw|exact fV|exact iQ|exact bI _ _ _ _ _|refine aj ?_ ?_)
   ·refine ⟨_,e1,?_⟩
    repeat refine ai ?_
    refine aj ?_ ?_<;>intro g1
    ·have g1':(lk st x==1)=true:=by first|exact g1|(rw[e1];exact g1)
     rw[mB g1'] at hq
     obtain ⟨rfl,rfl⟩:=Prod.mk.inj hq
     refine aj rfl (aj rfl ⟨rfl,rfl,?_,?_,?_⟩)
     all_goals (repeat' first|exact rfl|exact trivial|exact aw|refine aj ?_ ?_)
    ·have g1':(lk st x==1)=false:=by first|exact g1|(rw[e1];exact g1)
     repeat refine ai ?_
     refine aj ?_ ?_<;>intro g2
     ·have g2':(lk st x==2)=true:=by first|exact g2|(rw[e1];exact g2)
      rw[mz g1' g2'] at hq
      obtain ⟨rfl,rfl⟩:=Prod.mk.inj hq
      refine aj rfl (aj rfl ⟨rfl,rfl,?_,?_,?_⟩)
      all_goals (repeat' first|exact rfl|exact trivial|exact aw|refine aj ?_ ?_)
     ·have g2':(lk st x==2)=false:=by first|exact g2|(rw[e1];exact g2)
      repeat refine ai ?_
      refine oh (qj _ s ms hm all (bP (st.map iF) [.str x] (.d (.int .i64 1))) (fun n=>by rw[fo];exact aw) (fun i b=>by rw[fo];exact iL) (a::tl) x) ?_
      have hs:(U s.kind ms x).length≤ap:=by
       have:=fG (k:=s.kind) (n:=x) (ms:=ms)
       unfold ap;omega
      repeat refine ai ?_
      refine px ((U s.kind ms x)) (fun i (u:Wk)=>bM (cd (U s.kind ms) k) (U s.kind ms x) ⟨pt st x 1,(a::tl)⟩=bM (cd (U s.kind ms) k) ((U s.kind ms x).drop i) u∧y5 (U s.kind ms) N x ⟨st,(a::tl)⟩ u∧∃t,u.out=(a::tl)++t) (fun i (u:Wk)=>[(0,.d (.str x)),(1,.ptr 6 0),(2,.ptr 4 0),(3,.ptr 8 0),(4,.ptr 7 0),(20,.d (lS (U s.kind ms x))),(21,.d (.int .i64 ((U s.kind ms x).map eB).length)),(22,.d (.int .i64 i))]) (fun i (u:Wk)=>hW 10 s ms all u) (⟨rfl,my hx hwk g1' g2',[],by simp⟩) ?_ ⟨rfl,rfl,⟨rfl,rfl,rfl,rfl,rfl,rfl,rfl,rfl,trivial⟩,(by repeat' first|exact rfl|exact trivial|exact aw|refine aj ?_ ?_),(by repeat' first|exact rfl|exact trivial|exact fV|refine aj ?_ ?_)⟩
      intro i u hi hr
      obtain ⟨hE,hI,hT⟩:=hr
      obtain ⟨st1,out1⟩:=u
      cases out1 with
      |nil=>
       obtain ⟨t,ht⟩:=hT
       cases ht
      |cons y ys=>
       repeat refine ai ?_
       refine aj ?_ ?_<;>intro h1
       ·have hlt:i<(U s.kind ms x).length:=Y h1
        have hy:(U s.kind ms x)[i]∈N:=hin x hx _ (List.getElem_mem hlt)
        have hc:=kv s ms hm all N hN hin k 10 (U s.kind ms x)[i] ⟨st1,(y::ys)⟩ hy hI.ok (by have:=hI.white;omega)
        rw[dV hlt] at hE
        generalize hv:cd (U s.kind ms) k (U s.kind ms x)[i] ⟨st1,(y::ys)⟩=v at hc hE
        obtain ⟨b3,st3,out3⟩:=v
        have hO:∃t,out3=(y::ys)++t:=by
             have:=gV (U s.kind ms) k (U s.kind ms x)[i] ⟨st1,(y::ys)⟩
             rw[hv] at this;exact this
        have hT3:∃t,out3=(a::tl)++t:=by
             obtain ⟨t,ht⟩:=hT
             obtain ⟨t2,ht2⟩:=hO
             exact ⟨t++t2,by rw[ht2,←List.append_assoc];exact congrArg (·++t2) ht⟩
        repeat refine ai ?_
        refine aJ (e:=eB) (xs:=(U s.kind ms x)) (hlt) (rfl) rfl ?_
        repeat refine ai ?_
        cases out3 with
        |nil=>
         obtain ⟨t,ht⟩:=hO
         cases ht
        |cons z zs=>
         cases b3 with
         |false=>
          refine Or.inr (Or.inl (Exists.intro _ (Exists.intro _ (aj (aj rfl hc) ?_))))
          repeat refine ai ?_
          refine ay ?_
          rw[ic g1' g2' hE] at hq
          obtain ⟨rfl,rfl⟩:=Prod.mk.inj hq
          refine aj rfl (aj rfl ⟨rfl,rfl,?_,?_,?_⟩)
          all_goals (repeat' first|exact rfl|exact trivial|exact aw|refine aj ?_ ?_)
         |true=>
          refine Or.inr (Or.inl (Exists.intro _ (Exists.intro _ (aj (aj rfl hc) ?_))))
          repeat refine ai ?_
          refine an ?_
          repeat refine ai ?_
          exact dN ⟨st3,(z::zs)⟩ hlt hs ⟨hE,ia hin hI hk hy hv,hT3⟩ fun hw=>by repeat' first|exact rfl|exact trivial|exact nd hw|exact aw|refine aj ?_ ?_
       ·rw[eX (Z h1)] at hE
        rw[iI g1' g2' hE] at hq
        obtain ⟨rfl,rfl⟩:=Prod.mk.inj hq
        have hroom:=kI hx hI
        repeat refine ai ?_
        refine aj (fun r hr=>by rw[List.mem_singleton.1 hr];rfl) ?_
        repeat refine ai ?_
        refine aj (by simp only[List.length_append,List.length_nil,List.length_cons,List.length_map] at*;unfold ap at*;omega) ?_
        refine aj rfl (aj rfl ⟨rfl,rfl,?_,?_,?_⟩)
        all_goals (repeat' first|exact rfl|exact trivial|exact aw|exact fV|exact iQ|exact bI _ _ _ _ _|refine aj ?_ ?_)
end Go.Vc
end
section
namespace Go.Vc
open Go.Proofs
set_option maxRecDepth 100000
def iP (rd:Bs→List Bs) (all:List Bs):List Bs×Bool:=match bM (cd rd (all.length+1)) all BD with
 |(true,u)=>(u.out,true)
 |(false,_)=>([],false)
theorem AS {rd:Bs→List Bs} {all:List Bs}:(iP rd all).2=(bM (cd rd (all.length+1)) all BD).1:=by
 unfold iP
 split<;>(rename_i h;rw[h])
theorem qe {rd:Bs→List Bs} {all:List Bs} {u:Wk} (h:bM (cd rd (all.length+1)) all BD=(false,u)):iP rd all=([],false):=by
 unfold iP;rw[h]
theorem rp {rd:Bs→List Bs} {all:List Bs} {u:Wk} (h:bM (cd rd (all.length+1)) all BD=(true,u)):iP rd all=(u.out,true):=by
 unfold iP;rw[h]
def hA (lo nx:Nat) (s:GateShape) (ms:List GateMend):Heap:=⟨[(1,oM ms),(0,oS s)],nx,lo⟩
theorem Gq (s:GateShape) (ms:List GateMend) (hm:ms.length≤12) (all:List Bs) (hN:all.length≤ap) (hin:∀n∈all,∀y∈U s.kind ms n,y∈all) (lo:Nat):
 HSpec P 230 [.d (lS all),wO] (hA lo 4 s ms) (.tup [.d (lS (iP (U s.kind ms) all).1),.d (.bool (iP (U s.kind ms) all).2)]) (hA lo 4 s ms):=by
 refine HSpec.of_vc aQ az [.tmp 4,.tmp 5] Tryz.func230 rfl rfl rfl rfl rfl (fun hok=>?_)
 have hs:=hN
 repeat refine ai ?_
 refine px (all) (fun i (u:Wk)=>bM (cd (U s.kind ms) (all.length+1)) all BD=bM (cd (U s.kind ms) (all.length+1)) (all.drop i) u∧nS (U s.kind ms) all u) (fun i (u:Wk)=>[(7,.ptr 7 0),(8,.ptr 8 0),(13,.d (lS all)),(14,.d (.int .i64 (all.map eB).length)),(15,.d (.int .i64 i))]) (fun i (u:Wk)=>hW 4 s ms all u) (⟨rfl,za _ _⟩) ?_ ⟨rfl,rfl,⟨rfl,rfl,rfl,rfl,rfl,trivial⟩,(by repeat' first|exact rfl|exact trivial|exact aw|refine aj ?_ ?_),(by repeat' first|exact rfl|exact trivial|refine aj ?_ ?_)⟩
 intro i u hi hr
 obtain ⟨hE,hI⟩:=hr
 obtain ⟨st1,out1⟩:=u
 cases out1 with
 |nil=>
  repeat refine ai ?_
  refine aj ?_ ?_<;>intro h1
  ·have hlt:i<all.length:=Y h1
   have hy:all[i]∈all:=List.getElem_mem hlt
   have hwl:white all ⟨st1,[]⟩<all.length+1:=Nat.lt_succ_of_le (kJ _ _)
   have hc:=kv s ms hm all all hN hin (all.length+1) 4 all[i] ⟨st1,[]⟩ hy hI hwl
   have hg:=gN hin (all.length+1) all[i] ⟨st1,[]⟩ hy hI hwl
   rw[dV hlt] at hE
   generalize hv:cd (U s.kind ms) (all.length+1) all[i] ⟨st1,[]⟩=v at hc hE hg
   obtain ⟨b3,st3,out3⟩:=v
   repeat refine ai ?_
   refine O (e:=eB) (xs:=all) (hlt) rfl ?_
   repeat refine ai ?_
   cases b3 with
   |false=>
    cases out3 with
    |nil=>
     rw[qe hE]
     refine Or.inr (Or.inl (Exists.intro _ (Exists.intro _ (aj (aj rfl hc) ?_))))
     repeat refine ai ?_
     refine ay ?_
     refine aj rfl (aj rfl ⟨rfl,rfl,?_,?_,?_⟩)
     all_goals (repeat' first|exact rfl|exact trivial|exact aw|refine aj ?_ ?_)
    |cons z zs=>
     rw[qe hE]
     refine Or.inr (Or.inl (Exists.intro _ (Exists.intro _ (aj (aj rfl hc) ?_))))
     repeat refine ai ?_
     refine ay ?_
     refine aj rfl (aj rfl ⟨rfl,rfl,?_,?_,?_⟩)
     all_goals (repeat' first|exact rfl|exact trivial|exact aw|refine aj ?_ ?_)
   |true=>
    have hok3:nS (U s.kind ms) all ⟨st3,out3⟩:=(hg.1 rfl).1
    cases out3 with
    |nil=>
     refine Or.inr (Or.inl (Exists.intro _ (Exists.intro _ (aj (aj rfl hc) ?_))))
     repeat refine ai ?_
     refine an ?_
     repeat refine ai ?_
     exact dN ⟨st3,[]⟩ hlt hs ⟨hE,hok3⟩ fun hw=>by repeat' first|exact rfl|exact trivial|exact nd hw|exact aw|refine aj ?_ ?_
    |cons z zs=>
     refine Or.inr (Or.inl (Exists.intro _ (Exists.intro _ (aj (aj rfl hc) ?_))))
     repeat refine ai ?_
     refine an ?_
     repeat refine ai ?_
     exact dN ⟨st3,(z::zs)⟩ hlt hs ⟨hE,hok3⟩ fun hw=>by repeat' first|exact rfl|exact trivial|exact nd hw|exact aw|refine aj ?_ ?_
  ·rw[eX (Z h1)] at hE
   rw[rp hE]
   refine aj rfl (aj rfl ⟨rfl,rfl,?_,?_,?_⟩)
   all_goals (repeat' first|exact rfl|exact trivial|exact aw|refine aj ?_ ?_)
 |cons y ys=>
  repeat refine ai ?_
  refine aj ?_ ?_<;>intro h1
  ·have hlt:i<all.length:=Y h1
   have hy:all[i]∈all:=List.getElem_mem hlt
   have hwl:white all ⟨st1,(y::ys)⟩<all.length+1:=Nat.lt_succ_of_le (kJ _ _)
   have hc:=kv s ms hm all all hN hin (all.length+1) 4 all[i] ⟨st1,(y::ys)⟩ hy hI hwl
   have hg:=gN hin (all.length+1) all[i] ⟨st1,(y::ys)⟩ hy hI hwl
   rw[dV hlt] at hE
   generalize hv:cd (U s.kind ms) (all.length+1) all[i] ⟨st1,(y::ys)⟩=v at hc hE hg
   obtain ⟨b3,st3,out3⟩:=v
   repeat refine ai ?_
   refine O (e:=eB) (xs:=all) (hlt) rfl ?_
   repeat refine ai ?_
   cases b3 with
   |false=>
    cases out3 with
    |nil=>
     rw[qe hE]
     refine Or.inr (Or.inl (Exists.intro _ (Exists.intro _ (aj (aj rfl hc) ?_))))
     repeat refine ai ?_
     refine ay ?_
     refine aj rfl (aj rfl ⟨rfl,rfl,?_,?_,?_⟩)
     all_goals (repeat' first|exact rfl|exact trivial|exact aw|refine aj ?_ ?_)
    |cons z zs=>
     rw[qe hE]
     refine Or.inr (Or.inl (Exists.intro _ (Exists.intro _ (aj (aj rfl hc) ?_))))
     repeat refine ai ?_
     refine ay ?_
     refine aj rfl (aj rfl ⟨rfl,rfl,?_,?_,?_⟩)
     all_goals (repeat' first|exact rfl|exact trivial|exact aw|refine aj ?_ ?_)
   |true=>
    have hok3:nS (U s.kind ms) all ⟨st3,out3⟩:=(hg.1 rfl).1
    cases out3 with
    |nil=>
     refine Or.inr (Or.inl (Exists.intro _ (Exists.intro _ (aj (aj rfl hc) ?_))))
     repeat refine ai ?_
     refine an ?_
     repeat refine ai ?_
     exact dN ⟨st3,[]⟩ hlt hs ⟨hE,hok3⟩ fun hw=>by repeat' first|exact rfl|exact trivial|exact nd hw|exact aw|refine aj ?_ ?_
    |cons z zs=>
     refine Or.inr (Or.inl (Exists.intro _ (Exists.intro _ (aj (aj rfl hc) ?_))))
     repeat refine ai ?_
     refine an ?_
     repeat refine ai ?_
     exact dN ⟨st3,(z::zs)⟩ hlt hs ⟨hE,hok3⟩ fun hw=>by repeat' first|exact rfl|exact trivial|exact nd hw|exact aw|refine aj ?_ ?_
  ·rw[eX (Z h1)] at hE
   rw[rp hE]
   refine aj rfl (aj rfl ⟨rfl,rfl,?_,?_,?_⟩)
   all_goals (repeat' first|exact rfl|exact trivial|exact aw|refine aj ?_ ?_)
theorem FK (s:GateShape) (ms:List GateMend) (lo:Nat):HSpec P 230 [.nils,wO] (hA lo 2 s ms) (.tup [.d (lS []),.d (.bool true)]) (hA lo 2 s ms):=by
 refine HSpec.of_vc aQ az [.tmp 4,.tmp 5] Tryz.func230 rfl rfl rfl rfl rfl (fun hok=>?_)
 have hs:([]:List Bs).length≤ap:=Nat.zero_le _
 repeat refine ai ?_
 refine dU (([]:List Bs)) (fun i=>True) (fun i=>[(7,.ptr 5 0),(13,.nils),(14,.d (.int .i64 0)),(15,.d (.int .i64 i))]) (fun i=>⟨[(5,.cells 101 [.nils]),(1,oM ms),(0,oS s)],7,2⟩) (trivial) ?_
 intro i hi hr
 repeat refine ai ?_
 refine aj ?_ ?_<;>intro h1
 ·exact absurd (of_decide_eq_true h1) (by omega)
 ·refine aj rfl (aj rfl ⟨rfl,rfl,?_,?_,?_⟩)
  all_goals (repeat' first|exact rfl|exact trivial|refine aj ?_ ?_)
theorem wE (s:GateShape) (ms:List GateMend) (hm:ms.length≤12) (hin:∀n∈bt s,∀y∈U s.kind ms n,y∈bt s):
 Spec P 212 [st s.e,.d (ah ms)] (.tup [.d (lS (iP (U s.kind ms) (bt s)).1),.d (.bool (iP (U s.kind ms) (bt s)).2)]):=by
 refine Spec.of_vc aQ az [.tmp 4,.tmp 5] Tryz.func212 rfl rfl rfl rfl (fun hok=>?_)
 have hs:s.fields.length≤ap:=by
  have:=hok.1
  simp only[st,AV.ok,GateShape.e,List.map,dS] at this
  exact ax this.2.1.1
 repeat refine ai ?_
 refine px (s.fields) (fun i (A:List Bs)=>A=(s.fields.take i).map (·.name)) (fun i (A:List Bs)=>[(2,.ptr 0 0),(3,.ptr 1 0),(6,De 3 A),(10,.d (ac s.fields)),(11,.d (.int .i64 (s.fields.map GateField.e).length)),(12,.d (.int .i64 i))]) (fun i (A:List Bs)=>⟨(AT [(1,oM ms),(0,oS s)] 2 3 A).objs,(AT [(1,oM ms),(0,oS s)] 2 3 A).nx,0⟩) (rfl) ?_
 intro i A hi hr
 have hA:A.length≤s.fields.length:=by rw[hr,List.length_map,List.length_take];omega
 have hA2:A.length≤i:=by rw[hr,List.length_map,List.length_take];omega
 repeat refine ai ?_
 refine aj ?_ ?_<;>intro h1
 ·have hlt:i<s.fields.length:=Y h1
  have hstep:(s.fields.take (i+1)).map (·.name)=A++[s.fields[i].name]:=by
   rw[List.take_succ_eq_append_getElem hlt,List.map_append,←hr];rfl
  repeat refine ai ?_
  refine O (e:=GateField.e) (xs:=s.fields) (hlt) rfl ?_
  repeat refine ai ?_
  cases A with
  |nil=>
   repeat refine ai ?_
   refine aj (fun r hr=>by rw[List.mem_singleton.1 hr];rfl) ?_
   repeat refine ai ?_
   refine aj (by simp only[List.length_nil,List.length_cons,List.length_map] at*;unfold ap;omega) ?_
   repeat refine ai ?_
   exact dN ([s.fields[i].name]) hlt hs (by rw[hstep];rfl)
  |cons a tl=>
   repeat refine ai ?_
   refine aj (fun r hr=>by rw[List.mem_singleton.1 hr];rfl) ?_
   repeat refine ai ?_
   refine aj (by simp only[List.length_append,List.length_nil,List.length_cons,List.length_map] at*;unfold ap at*;omega) ?_
   repeat refine ai ?_
   exact dN (a::(tl++[s.fields[i].name])) hlt hs (by rw[hstep];rfl) fun hw=>by repeat' first|exact rfl|exact trivial|exact nd hw|exact bI _ _ _ _ _|refine aj ?_ ?_
 ·have ha:A=bt s:=by rw[hr,List.take_of_length_le (Z h1)];rfl
  rw[←ha] at hin ⊢
  cases A with
  |nil=>
   repeat refine ai ?_
   refine oh (FK s ms _) ?_
   rfl
  |cons a tl=>
   repeat refine ai ?_
   refine op (Gq s ms hm (a::tl) (Nat.le_trans hA hs) hin _) ?_
   rfl
def rq (s:GateShape) (ms:List GateMend):Bool:=((m5 s ms).length:Int)==(s.fields.length:Int)
theorem l7 {xs:List GateShape} {ms:List GateMend} (h:aS xs=true) (hm:ms.all (bK xs)=true) {s:GateShape} (hs:s∈xs):(iP (U s.kind ms) (bt s)).2=rq s ms:=by
 rw[AS,xf (mU h hs) (fun n _=>kc h hm hs n)]
 have e:(bt s).length=s.fields.length:=by rw[bt,List.length_map]
 unfold rq m5 gr
 rw[e,Bool.eq_iff_iff,decide_eq_true_eq,beq_iff_eq]
 omega
theorem Co {xs:List GateShape} {m:GateMend} {j:Nat} (hj:j<xs.length) (e:dO (·.kind==m.kind) xs=(j:Int)):bK xs m=iW xs[j].fields m:=by
 unfold bK
 rw[e,Int.toNat_natCast,List.getElem?_eq_getElem hj]
 have:decide ((j:Int)≥0)=true:=decide_eq_true (by omega)
 simp only[this,Bool.true_and]
theorem yo {xs:List GateShape} {m:GateMend} (h:decide (dO (·.kind==m.kind) xs<0)=true):bK xs m=false:=by
 have h':decide (dO (·.kind==m.kind) xs≥0)=false:=decide_eq_false (by have:=of_decide_eq_true h;omega)
 unfold bK
 split<;>simp only[h',Bool.false_and]
theorem fY (xs:List GateShape) (ms:List GateMend):Spec P 181 [.d (ab xs),.d (ah ms)] (.d (.bool (bB xs ms))):=by
 refine Spec.of_vc aQ az [.tmp 4] Tryz.func181 rfl rfl rfl rfl (fun hok=>?_)
 have hs:xs.length≤ap:=ax hok.1.1
 have hsm:ms.length≤ap:=ax hok.2.1.1
 repeat refine ai ?_
 refine oc (fr _) ?_
 repeat refine ai ?_
 refine aj ?_ ?_<;>intro h0
 ·simp only[Bool.not_eq_true',Bool.not_eq_false'] at h0
  repeat refine ai ?_
  refine aj ?_ ?_<;>intro h1
  ·rw[List.length_map] at h1
   refine bd ?_
   simp only[bB,h1,bl]
  ·rw[List.length_map] at h1
   have hm12:ms.length≤12:=by have:=of_decide_eq_false h1;omega
   have e:bB xs ms=(ms.all (bK xs)&&xs.all fun s=>rq s ms):=by simp only[bB,h0,h1,bl];rfl
   rw[e]
   repeat refine ai ?_
   refine dU (ms) (fun i=>ms.all (bK xs)=(ms.drop i).all (bK xs)) (fun i=>[(0,.d (ab xs)),(1,.d (ah ms)),(20,.d (ah ms)),(21,.d (.int .i64 (ms.map GateMend.e).length)),(22,.d (.int .i64 i))]) (fun i=>hp0) (rfl) ?_
   intro i hi hr
   repeat refine ai ?_
   refine aj ?_ ?_<;>intro h2
   ·have hlt:i<ms.length:=Y h2
    rw[aL hlt] at hr
    repeat refine ai ?_
    refine O (e:=GateMend.e) (xs:=ms) (hlt) rfl ?_
    repeat refine ai ?_
    refine oc (iZ _ _) ?_
    repeat refine ai ?_
    refine ak ?_
    repeat refine ai ?_
    refine aj ?_ ?_<;>intro h3
    ·obtain ⟨j,hj,ej,_⟩:=cI (p:=fun s:GateShape=>s.kind==ms[i].kind) (xs:=xs) (decide_eq_true (by have:=of_decide_eq_false h3;omega))
     repeat refine ai ?_
     refine aJ (e:=GateShape.e) (xs:=xs) (hj) (ej) rfl ?_
     repeat refine ai ?_
     refine oc (DU _ _) ?_
     rw[Co hj ej] at hr
     repeat refine ai ?_
     refine aj ?_ ?_<;>intro h4
     ·change (!iW xs[j].fields ms[i])=true at h4
      simp only[Bool.not_eq_true',Bool.not_eq_false'] at h4
      refine bd ?_
      rw[hr,h4];rfl
     ·change (!iW xs[j].fields ms[i])=false at h4
      simp only[Bool.not_eq_true',Bool.not_eq_false'] at h4
      repeat refine ai ?_
      exact bV hlt hsm (by rw[hr,h4];rfl)
    ·repeat refine ai ?_
     refine ay ?_
     refine bd ?_
     rw[hr,yo h3];rfl
   ·rw[ct (Z h2)] at hr
    rw[hr,Bool.true_and]
    repeat refine ai ?_
    refine dU (xs) (fun i=>(xs.all fun s=>rq s ms)=((xs.drop i).all fun s=>rq s ms)) (fun i=>[(0,.d (ab xs)),(1,.d (ah ms)),(43,.d (ab xs)),(44,.d (.int .i64 (xs.map GateShape.e).length)),(45,.d (.int .i64 i))]) (fun i=>hp0) (rfl) ?_
    intro i hi hr
    repeat refine ai ?_
    refine aj ?_ ?_<;>intro h5
    ·have hlt:i<xs.length:=Y h5
     rw[aL hlt] at hr
     repeat refine ai ?_
     refine O (e:=GateShape.e) (xs:=xs) (hlt) rfl ?_
     repeat refine ai ?_
     refine oc (wE xs[i] ms hm12 (fun n _=>kc h0 (by assumption) (List.getElem_mem hlt) n)) ?_
     rw[l7 h0 (by assumption) (List.getElem_mem hlt)]
     repeat refine ai ?_
     refine aj ?_ ?_<;>intro h6
     ·simp only[Bool.not_eq_true',Bool.not_eq_false'] at h6
      refine bd ?_
      rw[hr,h6];rfl
     ·simp only[Bool.not_eq_true',Bool.not_eq_false'] at h6
      repeat refine ai ?_
      exact bV hlt hs (by rw[hr,h6];rfl)
    ·refine bd ?_
     rw[hr,ct (Z h5)]
 ·simp only[Bool.not_eq_true',Bool.not_eq_false'] at h0
  refine bd ?_
  simp only[bB,h0,Bool.false_and]
end Go.Vc
end
section
namespace Go.Vc
def cJ (fs:List GateField) (vals:List Bs) (n:Bs):Bs:=match vals[(dO (·.name==n) fs).toNat]? with|some v=>v|none=>[]
def kD (e:Bs→Bs) (k n:Bs) (m:GateMend):Bool:=(m.kind==k&&m.field==n)&&((m.when_==[]||e m.when_==m.is_)&&(m.from_==[]|| !(e m.from_==[])))
def lA (e:Bs→Bs) (m:GateMend):Bs:=bif m.from_==[] then m.put else e m.from_
def o5 (e:Bs→Bs) (k n d:Bs):List GateMend→Bs
 |[]=>d
 |m::ms=>bif kD e k n m then lA e m else o5 e k n d ms
def sF (fs:List GateField) (ms:List GateMend) (k:Bs) (vals:List Bs) (n:Bs):Bs:=o5 (cJ fs vals) k n (cJ fs vals n) ms
def bA (fs:List GateField) (ms:List GateMend) (k:Bs) (vals:List Bs) (n:Bs):List Bs:=vals.set (dO (·.name==n) fs).toNat (sF fs ms k vals n)
def bT (fs:List GateField) (ms:List GateMend) (k:Bs) (row:List Bs) (vals:List Bs):List Bs:=row.foldl (bA fs ms k) vals
theorem mp {e1 e2:Bs→Bs} {k n d:Bs}:∀{ms:List GateMend},(∀y∈U k ms n,e1 y=e2 y)→o5 e1 k n d ms=o5 e2 k n d ms
 |[],_=>rfl
 |m::ms,h=>by
  have ih:=mp (e1:=e1) (e2:=e2) (k:=k) (n:=n) (d:=d) (ms:=ms) (fun y hy=>h y (by simp only[U,List.map_cons,List.flatten_cons,List.mem_append];exact .inr hy))
  simp only[o5,ih]
  cases hkf:(m.kind==k&&m.field==n) with
  |false=>simp only[kD,hkf,Bool.false_and,cond_false]
  |true=>
   have hr:∀y∈jS m.when_++jS m.from_,e1 y=e2 y:=fun y hy=>h y (by simp only[U,List.map_cons,List.flatten_cons,List.mem_append,AW,hkf,cond_true];exact .inl (List.mem_append.1 hy))
   have hw:(m.when_==[])=true∨e1 m.when_=e2 m.when_:=by
    cases hq:m.when_==[] with
    |true=>exact .inl rfl
    |false=>exact .inr (hr _ (List.mem_append.2 (.inl (by simp[jS,hq]))))
   have hf:(m.from_==[])=true∨e1 m.from_=e2 m.from_:=by
    cases hq:m.from_==[] with
    |true=>exact .inl rfl
    |false=>exact .inr (hr _ (List.mem_append.2 (.inr (by simp[jS,hq]))))
   have hc:kD e1 k n m=kD e2 k n m:=by
    simp only[kD]
    rcases hw with hw|hw<;>rcases hf with hf|hf<;>simp only[hw,hf,Bool.true_or]
   have hg:lA e1 m=lA e2 m:=by
    simp only[lA]
    rcases hf with hf|hf<;>simp only[hf,cond_true]
   rw[hc,hg]
theorem gk {fs:List GateField} {n:Bs} (h:n∈fs.map (·.name)):∃j:Nat,∃h:j<fs.length,dO (·.name==n) fs=(j:Int)∧fs[j].name=n:=by
 rcases hM (p:=fun f:GateField=>f.name==n) fs 0 with ⟨h1,h2⟩|⟨j,hj,h1,h2,_⟩
 ·obtain ⟨f,hf,rfl⟩:=List.mem_map.1 h
  have:=List.any_eq_false.1 h2 f hf
  simp at this
 ·exact ⟨j,hj,by unfold dO;rw[h1,Nat.zero_add],beq_iff_eq.1 h2⟩
theorem Dz {fs:List GateField} (hn:(fs.map (·.name)).Nodup) {i j:Nat} (hi:i<fs.length) (hj:j<fs.length) (h:fs[i].name=fs[j].name):i=j:=by
 have e:(fs.map GateField.name)[i]'(by simpa using hi)=(fs.map GateField.name)[j]'(by simpa using hj):=by simpa using h
 exact (List.getElem_inj hn).1 e
section
variable {fs:List GateField} {ms:List GateMend} {k:Bs}
theorem gb {vals:List Bs} {n:Bs} {j:Nat} (e:dO (·.name==n) fs=(j:Int)) (h:j<vals.length):cJ fs vals n=vals[j]:=by
 unfold cJ
 rw[e,Int.toNat_natCast,List.getElem?_eq_getElem h]
theorem nY {vals:List Bs} (hl:vals.length=fs.length) {n y v:Bs} (hn:n∈fs.map (·.name)) (hy:y∈fs.map (·.name)):cJ fs (vals.set (dO (·.name==n) fs).toNat v) y=if y=n then v else cJ fs vals y:=by
 obtain ⟨i,hi,e1,e2⟩:=gk hn
 obtain ⟨j,hj,e3,e4⟩:=gk hy
 rw[e1,Int.toNat_natCast,gb e3 (by rw[List.length_set];omega),List.getElem_set]
 by_cases h:i=j
 ·subst h
  rw[if_pos rfl,if_pos (by rw[←e4,←e2])]
 ·rw[if_neg h,gb e3 (by omega),if_neg]
  intro e
  subst e
  rw[e1] at e3
  exact h (by omega)
theorem jx (vals:List Bs) (n:Bs):(bA fs ms k vals n).length=vals.length:=List.length_set ..
theorem gP:∀(row:List Bs) (vals:List Bs),(bT fs ms k row vals).length=vals.length
 |[],_=>rfl
 |n::row,vals=>by
  show (bT fs ms k row (bA fs ms k vals n)).length=_
  rw[gP row,jx]
theorem ir:∀{row:List Bs} {vals:List Bs},vals.length=fs.length→(∀x∈row,x∈fs.map (·.name))→∀{y:Bs},y∈fs.map (·.name)→y ∉ row→cJ fs (bT fs ms k row vals) y=cJ fs vals y
 |[],_,_,_,_,_,_=>rfl
 |n::row,vals,hl,hr,y,hy,hne=>by
  show cJ fs (bT fs ms k row (bA fs ms k vals n)) y=_
  rw[ir (by rw[jx];exact hl) (fun x hx=>hr x (List.mem_cons_of_mem _ hx)) hy (fun h=>hne (List.mem_cons_of_mem _ h))]
  unfold bA
  rw[nY hl (hr n List.mem_cons_self) hy,if_neg (fun e:y=n=>hne (e▸List.mem_cons_self))]
theorem uE (a b:List Bs) (vals:List Bs):bT fs ms k (a++b) vals=bT fs ms k b (bT fs ms k a vals):=by
 unfold bT;exact List.foldl_append
theorem yn {row:List Bs} (g:ua (U k ms) (fs.map (·.name)) row) {vals:List Bs} (hl:vals.length=fs.length) {n:Bs} (hn:n∈row):
 cJ fs (bT fs ms k row vals) n=o5 (cJ fs (bT fs ms k row vals)) k n (cJ fs vals n) ms:=by
 obtain ⟨pre,post,rfl⟩:=List.append_of_mem hn
 have hnd:=g.nd
 rw[List.nodup_append] at hnd
 obtain ⟨_,hpost,hdis⟩:=hnd
 rw[List.nodup_cons] at hpost
 have hpre:n ∉ pre:=fun h=>hdis n h n List.mem_cons_self rfl
 have hsub:∀x∈pre++n::post,x∈fs.map (·.name):=g.sub
 have hl1:(bT fs ms k pre vals).length=fs.length:=by rw[gP,hl]
 have hn':=hsub n (by simp)
 have e0:bT fs ms k (pre++n::post) vals=bT fs ms k post (bA fs ms k (bT fs ms k pre vals) n):=by rw[uE];rfl
 have hl2:(bA fs ms k (bT fs ms k pre vals) n).length=fs.length:=by rw[jx,hl1]
 have hps:∀x∈post,x∈fs.map (·.name):=fun x hx=>hsub x (by simp[hx])
 have e1:cJ fs (bT fs ms k (pre++n::post) vals) n=sF fs ms k (bT fs ms k pre vals) n:=by
  rw[e0,ir hl2 hps hn' hpost.1]
  unfold bA
  rw[nY hl1 hn' hn',if_pos rfl]
 rw[e1]
 unfold sF
 have e2:cJ fs (bT fs ms k pre vals) n=cJ fs vals n:=ir hl (fun x hx=>hsub x (by simp[hx])) hn' hpre
 rw[e2]
 refine mp fun y hy=>?_
 have hb:=g.beh n (by simp) y hy
 have hni:(pre++n::post).idxOf n=pre.length:=by rw[List.idxOf_append,if_neg hpre];simp
 have hyp:y∈pre:=by
  rw[hni] at hb
  rw[List.idxOf_append] at hb
  split at hb
  ·assumption
  ·omega
 have hy':=hsub y (by simp[hyp])
 rw[e0,ir hl2 hps hy' (fun h=>hdis y hyp y (List.mem_cons_of_mem _ h) rfl)]
 unfold bA
 rw[nY hl1 hn' hy',if_neg (fun e:y=n=>hpre (e▸hyp))]
theorem ym (hnd:(fs.map (·.name)).Nodup) {r1 r2:List Bs} (g1:ua (U k ms) (fs.map (·.name)) r1) (g2:ua (U k ms) (fs.map (·.name)) r2) (h1:∀n∈fs.map (·.name),n∈r1) (h2:∀n∈fs.map (·.name),n∈r2)
 {vals:List Bs} (hl:vals.length=fs.length):bT fs ms k r1 vals=bT fs ms k r2 vals:=by
 have key:∀(i:Nat) (n:Bs),n∈fs.map (·.name)→r1.idxOf n=i→cJ fs (bT fs ms k r1 vals) n=cJ fs (bT fs ms k r2 vals) n:=by
  intro i
  induction i using Nat.strongRecOn with
  |_ i ih=>
   intro n hn hi
   rw[yn g1 hl (h1 n hn),yn g2 hl (h2 n hn)]
   refine mp fun y hy=>?_
   have hb:=g1.beh n (h1 n hn) y hy
   have hyr:y∈r1:=List.idxOf_lt_length_iff.1 (by have:=List.idxOf_lt_length_of_mem (h1 n hn);omega)
   exact ih _ (hi▸hb) y (g1.sub y hyr) rfl
 have l1:(bT fs ms k r1 vals).length=fs.length:=by rw[gP,hl]
 have l2:(bT fs ms k r2 vals).length=fs.length:=by rw[gP,hl]
 apply List.ext_getElem (by rw[l1,l2])
 intro j hj1 hj2
 have hj:j<fs.length:=by omega
 have hm:fs[j].name∈fs.map (·.name):=List.mem_map.2 ⟨_,List.getElem_mem hj,rfl⟩
 obtain ⟨j',hj',e1,e2⟩:=gk hm
 have:=Dz hnd hj' hj e2
 subst this
 have hk:=key _ _ hm rfl
 rw[gb e1 hj1,gb e1 hj2] at hk
 exact hk
end
theorem uv (s:GateShape) (ms:List GateMend):ua (U s.kind ms) (bt s) (m5 s ms):=gq _ _ _
theorem DY:∀{ns row:List Bs},ns.Nodup→row.Nodup→(∀x∈row,x∈ns)→row.length=ns.length→∀n∈ns,n∈row:=by
 intro ns row hn hr hs hl n hm
 refine Classical.byContradiction fun h=>?_
 have:(n::row).length≤ns.length:=eS (List.nodup_cons.2 ⟨h,hr⟩) (fun x hx=>by
  rcases List.mem_cons.1 hx with e|e
  ·exact e▸hm
  ·exact hs x e)
 simp only[List.length_cons] at this
 omega
theorem uu {rd:Bs→List Bs} {ns:List Bs} (hin:∀n∈ns,∀y∈rd n,y∈ns) (h:(iP rd ns).2=true):ua rd ns (iP rd ns).1∧∀n∈ns,n∈(iP rd ns).1:=by
 have g:=ja (rd:=rd) (ns:=ns) (w:=cd rd (ns.length+1)) (n:=ns.length) ns BD
  (fun y hy s hs hl=>gN hin _ y s hy hs (by omega)) (za rd ns) (kJ _ _)
 rw[AS] at h
 obtain ⟨g1,g2,g3⟩:=g.1 h
 cases e:bM (cd rd (ns.length+1)) ns BD with
 |mk b u=>
  rw[e] at h g1 g2 g3
  simp only at h
  subst h
  rw[rp e]
  exact ⟨⟨g1.nd,g1.sub,g1.beh⟩,fun n hn=>(g1.two n).1 (g3 n hn)⟩
end Go.Vc
end
section
namespace Go.Vc
open Go.Proofs
set_option maxRecDepth 100000
theorem Dn {fs:List GateField} {vals:List Bs} (hl:vals.length=fs.length) (h0:0<fs.length) (y:Bs) (c:Prop) (hc:c→y∈fs.map (·.name)):∃j,∃hj:j<vals.length,c→(dO (·.name==y) fs=(j:Int)∧cJ fs vals y=vals[j]):=by
 by_cases h:c
 ·obtain ⟨j,hj,e,_⟩:=gk (hc h)
  exact ⟨j,by omega,fun _=>⟨e,gb e (by omega)⟩⟩
 ·exact ⟨0,by omega,fun g=>absurd g h⟩
def Ew (fs:List GateField) (k:Bs) (m:GateMend):Prop:=(m.kind==k)=true→((m.when_==[])=false→m.when_∈fs.map (·.name))∧((m.from_==[])=false→m.from_∈fs.map (·.name))
theorem u7 {e:Bs→Bs} {k n d:Bs} {ms:List GateMend} {i:Nat} (h:i<ms.length):o5 e k n d (ms.drop i)=bif kD e k n ms[i] then lA e ms[i] else o5 e k n d (ms.drop (i+1)):=by
 rw[List.drop_eq_getElem_cons h];rfl
theorem yX {e:Bs→Bs} {k n d:Bs} {ms:List GateMend} {i:Nat} (h:ms.length≤i):o5 e k n d (ms.drop i)=d:=by
 rw[List.drop_of_length_le h];rfl
set_option maxHeartbeats 4000000 in
theorem xG (fs:List GateField) (ms:List GateMend) (o:GateObject) (n:Bs) (hl:o.values.length=fs.length) (hn:n∈fs.map (·.name)) (hm:∀m∈ms,Ew fs o.kind m):
 Spec P 224 [.d (ac fs),.d (ah ms),st o.e,.d (.str n)] (.d (.str (sF fs ms o.kind o.values n))):=by
 refine Spec.of_vc aQ az [.tmp 8] Tryz.func224 rfl rfl rfl rfl (fun hok=>?_)
 have hs:ms.length≤ap:=ax hok.2.1.1
 obtain ⟨jn,hjn,en,_⟩:=gk hn
 repeat refine ai ?_
 refine dU (ms) (fun i=>sF fs ms o.kind o.values n=o5 (cJ fs o.values) o.kind n (cJ fs o.values n) (ms.drop i)) (fun i=>[(0,.d (ac fs)),(1,.d (ah ms)),(3,.d (.str n)),(6,.ptr 0 0),(9,.d (.int .i64 i))]) (fun i=>⟨[(0,.cells 103 (o.e.map .d))],1,0⟩) (rfl) ?_
 intro i hi hr
 repeat refine ai ?_
 refine aj ?_ ?_<;>intro h1
 ·have hlt:i<ms.length:=Y h1
  rw[u7 hlt] at hr
  have hmi:=hm ms[i] (List.getElem_mem hlt)
  obtain ⟨jw,hjw,ew⟩:=Dn hl (by omega) ms[i].when_ ((ms[i].kind==o.kind)=true∧(ms[i].when_==[])=false) (fun h=>(hmi h.1).1 h.2)
  obtain ⟨jf,hjf,ef⟩:=Dn hl (by omega) ms[i].from_ ((ms[i].kind==o.kind)=true∧(ms[i].from_==[])=false) (fun h=>(hmi h.1).2 h.2)
  generalize hd:o5 (cJ fs o.values) o.kind n (cJ fs o.values n) (ms.drop (i+1))=rest at hr
  repeat refine ai ?_
  refine O (e:=GateMend.e) (xs:=ms) (hlt) rfl ?_
  repeat refine ai ?_
  refine ak ?_
  repeat refine ai ?_
  repeat' first
   |refine ai ?_
   |(refine aj ?_ ?_<;>intro h)
   |refine oc (iN _ _) ?_
   |refine ak ?_
   |refine aJ (e:=eB) (xs:=o.values) hjw (ew (by simp_all)).1 rfl ?_
   |refine aJ (e:=eB) (xs:=o.values) hjf (ef (by simp_all)).1 rfl ?_
  all_goals (simp only[cond_false,cond_true,Bool.not_eq_true',Bool.not_eq_false',reduceCtorEq] at*)
  all_goals (try have ew':=(ew ⟨by assumption,by assumption⟩).2)
  all_goals (try have ef':=(ef ⟨by assumption,by assumption⟩).2)
  all_goals first
   |(refine sd ?_;rw[hr];simp only[kD,lA, *,cond_true,cond_false,bl];done)
   |(have hq:sF fs ms o.kind o.values n=rest:=(by rw[hr];simp only[kD,lA, *,cond_true,cond_false,bl]);exact bV hlt hs (hq.trans hd.symm))
 ·repeat refine ai ?_
  refine ak ?_
  repeat refine ai ?_
  refine oc (iN _ _) ?_
  repeat refine ai ?_
  refine aJ (e:=eB) (xs:=o.values) ((show jn<o.values.length by omega)) (en) rfl ?_
  repeat refine ai ?_
  refine sd ?_
  rw[hr,yX (Z h1),gb en (by omega)]
theorem uF {xs:List GateShape} {ms:List GateMend} (h:aS xs=true) (hm:ms.all (bK xs)=true) {s:GateShape} (hs:s∈xs):∀m∈ms,Ew s.fields s.kind m:=by
 intro m hmm hk
 have hf:=Bc h hs (List.all_eq_true.1 hm m hmm) (beq_iff_eq.1 hk)
 unfold iW at hf
 simp only[Bool.and_eq_true,Bool.or_eq_true] at hf
 obtain ⟨⟨_,h2,h3⟩,_⟩:=hf
 refine ⟨fun g=>?_,fun g=>?_⟩
 ·rcases h2 with h2|h2
  ·rw[g] at h2;cases h2
  ·exact nc h2
 ·rcases h3 with h3|h3
  ·rw[g] at h3;cases h3
  ·exact nc h3
def er (xs:List GateShape) (ms:List GateMend) (o:GateObject):GateObject:=match xs[(dO (·.kind==o.kind) xs).toNat]? with
 |some s=>bif (am xs o.kind o.values.length).2 then {o with values:=bT s.fields ms o.kind (m5 s ms) o.values} else o
 |none=>o
theorem rN {xs:List GateShape} {ms:List GateMend} {o:GateObject} (h:(am xs o.kind o.values.length).2=false):er xs ms o=o:=by
 unfold er
 split
 ·rw[h];rfl
 ·rfl
theorem rO {xs:List GateShape} {ms:List GateMend} {o:GateObject} {j:Nat} (hj:j<xs.length) (e:dO (·.kind==o.kind) xs=(j:Int)) (h:(am xs o.kind o.values.length).2=true):er xs ms o={o with values:=bT xs[j].fields ms o.kind (m5 xs[j] ms) o.values}:=by
 unfold er
 rw[e,Int.toNat_natCast,List.getElem?_eq_getElem hj,h]
 rfl
theorem rP {fs:List GateField} {ms:List GateMend} {k:Bs} {row:List Bs} {vals:List Bs} {i:Nat} (h:i<row.length):bT fs ms k (row.take (i+1)) vals=bA fs ms k (bT fs ms k (row.take i) vals) row[i]:=by
 rw[List.take_succ_eq_append_getElem h,uE];rfl
set_option maxHeartbeats 1000000 in
theorem zr (xs:List GateShape) (ms:List GateMend) (o:GateObject) (hx:aS xs=true) (hm:ms.all (bK xs)=true):
 Spec P 206 [.d (ab xs),.d (ah ms),st o.e] (st (er xs ms o).e):=by
 refine Spec.of_vc aQ az [.cell 6 103] Tryz.func206 rfl rfl rfl rfl (fun hok=>?_)
 have hb:=iA (o:=o) ⟨hok.2.2.1,trivial⟩
 repeat refine ai ?_
 refine ow (uq o hb.1 hb.2) ?_
 repeat refine ai ?_
 refine oc (fE _ _) ?_
 repeat refine ai ?_
 refine aj ?_ ?_<;>intro h0
 ·simp only[Bool.not_eq_true'] at h0
  rw[rN h0]
  repeat refine ai ?_
  exact rfl
 ·simp only[Bool.not_eq_false'] at h0
  rcases dD (xs:=xs) (k:=o.kind) (n:=o.values.length) with ⟨h1,_⟩|⟨j,hj,ej,ef,hl,hk⟩
  ·rw[h1] at h0;cases h0
  rw[rO hj ej h0]
  repeat refine ai ?_
  refine oc (iO _ _) ?_
  repeat refine ai ?_
  refine aJ (e:=GateShape.e) (xs:=xs) (hj) (ej) rfl ?_
  repeat refine ai ?_
  refine oc (AM xs[j] ms) ?_
  have g:=uv xs[j] ms
  have hmi:=uF hx hm (List.getElem_mem hj)
  rw[hk] at hmi
  have hfs:(am xs o.kind o.values.length).1=xs[j].fields:=by rw[ef]
  rw[hfs]
  have hrl:(m5 xs[j] ms).length≤xs[j].fields.length:=FL _ _ _
  have hsub:∀x∈m5 xs[j] ms,x∈xs[j].fields.map (·.name):=g.sub
  generalize hfe:xs[j].fields=fs at*
  generalize m5 xs[j] ms=row at*
  repeat refine ai ?_
  refine px (row) (fun i (W:List Bs)=>W=bT fs ms o.kind (row.take i) o.values) (fun i (W:List Bs)=>[(1,.d (ah ms)),(6,.ptr 1 0),(7,.ptr 6 0),(8,.d (ac fs)),(10,.d (lS row)),(11,.d (.int .i64 i))]) (fun i (W:List Bs)=>⟨[(6,.cells 103 [.d (.str o.kind),.d (.str o.name),.d (.str o.team),.own 4,.d (.bool o.ending),.own 5,.d (.int .i64 o.version)]),(4,.row 9 1 (W.map eB)),(5,.row 9 1 (o.holds.map eB)),(1,.cells 103 [.d (.str []),.d (.str []),.d (.str []),.nils,.d (.bool false),.nils,.d (.int .i64 0)])],7,0⟩) (rfl) ?_
  intro i W hi hr
  have hs:row.length≤ap:=by omega
  have hW:W.length=fs.length:=by rw[hr,gP,hl]
  repeat refine ai ?_
  refine aj ?_ ?_<;>intro h1
  ·have hlt:i<row.length:=Y h1
   have hin:=hsub _ (List.getElem_mem hlt)
   obtain ⟨p,hp,ep,_⟩:=gk hin
   have hst:bT fs ms o.kind (row.take (i+1)) o.values=bA fs ms o.kind W row[i]:=by rw[rP hlt,←hr]
   repeat refine ai ?_
   refine Ey ?_
   repeat refine ai ?_
   refine O (e:=eB) (xs:=row) (hlt) rfl ?_
   repeat refine ai ?_
   refine oc (iN _ _) ?_
   repeat refine ai ?_
   refine O (e:=eB) (xs:=row) (hlt) rfl ?_
   repeat refine ai ?_
   refine oc (xG fs ms {o with values:=W} row[i] hW hin hmi) ?_
   repeat refine ai ?_
   refine aj (by rw[ep];exact Int.natCast_nonneg _) (aj (by rw[ep,List.length_map];omega) ?_)
   repeat refine ai ?_
   have hpt:(dO (·.name==row[i]) fs).toNat<W.length:=by rw[ep];omega
   refine ⟨eB W[(dO (·.name==row[i]) fs).toNat],by rw[List.getElem?_map,List.getElem?_eq_getElem hpt];rfl,Nat.le_refl _,?_⟩
   repeat refine ai ?_
   exact dN (bA fs ms o.kind W row[i]) hlt hs (by rw[hst]) fun hw=>by repeat' first|exact rfl|exact trivial|exact nd hw|exact rm hpt|refine aj ?_ ?_
  ·rw[List.take_of_length_le (Z h1)] at hr
   rw[←hr]
   repeat refine ai ?_
   exact rfl
end Go.Vc
end
section
namespace Go.Vc
open Go.Proofs
set_option maxRecDepth 100000
theorem rg (xs:List GateShape) (ms:List GateMend) (o:GateObject) (hx:aS xs=true) (hm:ms.all (bK xs)=true):
 Spec P 174 [.d (ab xs),.d (ah ms),st o.e] (st (er xs ms (fR xs o)).e):=by
 refine Spec.of_vc aQ az [.cell 6 103] Tryz.func174 rfl rfl rfl rfl (fun hok=>?_)
 repeat refine ai ?_
 refine oc (C8 _ _) ?_
 repeat refine ai ?_
 refine oc (zr xs ms (fR xs o) hx hm) ?_
 repeat refine ai ?_
 exact rfl
theorem uV (fs:List GateField) (o:GateObject) (n:Bs) (hl:o.values.length=fs.length) (hn:n∈fs.map (·.name)):Spec P 233 [.d (.str n),.at_ o.e,.at_ [ac fs]] (.d (.str (cJ fs o.values n))):=by
 refine Spec.of_vc aQ az [.tmp 4] Tryz.func233 rfl rfl rfl rfl (fun hok=>?_)
 obtain ⟨j,hj,e,_⟩:=gk hn
 repeat refine ai ?_
 refine ak ?_
 repeat refine ai ?_
 refine oc (kW _ _) ?_
 repeat refine ai ?_
 refine aJ (e:=eB) (xs:=o.values) ((show j<o.values.length by omega)) (e) rfl ?_
 repeat refine ai ?_
 refine sd ?_
 rw[gb e (by omega)]
theorem nU {b:Bool} (h:(!b)=false):b=true:=by simpa using h
theorem rI {b:Bool} (h:(!b)=true):b=false:=by simpa using h
theorem e8 {xs:List GateShape} {ms:List GateMend} (h:bB xs ms=true):aS xs=true∧ms.all (bK xs)=true∧ms.length≤12∧∀s∈xs,rq s ms=true:=by
 unfold bB at h
 simp only[Bool.and_eq_true,Bool.not_eq_true',decide_eq_false_iff_not] at h
 obtain ⟨h1,h2,h3,h4⟩:=h
 exact ⟨h1,h3,by omega,fun s hs=>List.all_eq_true.1 h4 s hs⟩
theorem Dc {xs:List GateShape} {ms:List GateMend} (h:bB xs ms=true) {s:GateShape} (hs:s∈xs) {vals:List Bs} (hl:vals.length=s.fields.length):
 bT s.fields ms s.kind (iP (U s.kind ms) (bt s)).1 vals=bT s.fields ms s.kind (m5 s ms) vals:=by
 obtain ⟨h1,h2,h3,h4⟩:=e8 h
 have hr:=h4 s hs
 have hnd:=mU h1 hs
 have hin:∀n∈bt s,∀y∈U s.kind ms n,y∈bt s:=fun n _=>kc h1 h2 hs n
 obtain ⟨g1,g2⟩:=uu hin (by rw[l7 h1 h2 hs];exact hr)
 have g:=uv s ms
 refine ym hnd g1 g g2 (DY hnd g.nd g.sub ?_) hl
 unfold rq at hr
 have:=beq_iff_eq.1 hr
 show _=(s.fields.map (·.name)).length
 rw[List.length_map]
 omega
theorem uD (fs:List GateField) (ms:List GateMend) (k:Bs):∀row:List Bs,bT fs ms k row []=[]
 |[]=>rfl
 |n::row=>by
  show bT fs ms k row (bA fs ms k [] n)=[]
  have:bA fs ms k [] n=[]:=by unfold bA;rfl
  rw[this];exact uD fs ms k row
theorem yl {xs:List GateShape} {ms:List GateMend} {o:GateObject} (h:o.values=[]):er xs ms o=o:=by
 unfold er
 split
 ·cases (am xs o.kind o.values.length).2
  ·rfl
  ·rw[cond_true]
   cases o
   simp only at h
   subst h
   simp only[uD]
 ·rfl
set_option maxHeartbeats 1000000 in
theorem tS (xs:List GateShape) (ms:List GateMend) (o:GateObject) (hv:o.values=[]):Spec P 216 [.d (ab xs),.d (ah ms),st o.e] (st o.e):=by
 refine Spec.of_vc aQ az [.cell 6 103] Tryz.func216 rfl rfl rfl rfl (fun hok=>?_)
 have hsm:ms.length≤ap:=ax hok.2.1.1
 repeat refine ai ?_
 refine oc (zZ _) ?_
 repeat refine ai ?_
 refine oc (fM _ _) ?_
 repeat refine ai ?_
 refine aj ?_ ?_<;>intro h0
 ·repeat refine ai ?_
  refine oc (fY _ _) ?_
  repeat refine ai ?_
  refine aj ?_ ?_<;>intro h1
  ·repeat refine ai ?_
   exact rfl
  ·simp only[Bool.not_eq_false'] at h0 h1
   obtain ⟨hx,hm,hm12,hro⟩:=e8 h1
   rcases dD (xs:=xs) (k:=o.kind) (n:=o.values.length) with ⟨h2,_⟩|⟨j,hj,ej,ef,hl,hk⟩
   ·rw[h2] at h0;cases h0
   have hjm:=List.getElem_mem hj
   have hin:∀n∈bt xs[j],∀y∈U xs[j].kind ms n,y∈bt xs[j]:=fun n _=>kc hx hm hjm n
   have hn0:bt xs[j]=[]:=by
    have:(bt xs[j]).length=xs[j].fields.length:=List.length_map ..
    rw[hl,hv] at this
    exact List.eq_nil_of_length_eq_zero this
   repeat refine ai ?_
   refine oc (iZ _ _) ?_
   repeat refine ai ?_
   refine aJ (e:=GateShape.e) (xs:=xs) (hj) (ej) rfl ?_
   repeat refine ai ?_
   refine oc (wE xs[j] ms hm12 hin) ?_
   rw[hn0]
   generalize am xs o.kind o.values.length=ff at*
   repeat refine ai ?_
   refine dU (([]:List Bs)) (fun i=>True) (fun i=>[(5,.ptr 0 0),(6,.ptr 1 0),(47,.d (lS [])),(48,.d (.int .i64 0)),(49,.d (.int .i64 i))]) (fun i=>⟨[(0,.cells 103 [.d (.str o.kind),.d (.str o.name),.d (.str o.team),.d (lS o.values),.d (.bool o.ending),.d (lS o.holds),.d (.int .i64 o.version)]),(1,.cells 103 [.d (.str []),.d (.str []),.d (.str []),.nils,.d (.bool false),.nils,.d (.int .i64 0)])],2,0⟩) (trivial) ?_
   intro i hi hr
   repeat refine ai ?_
   refine aj ?_ ?_<;>intro g1
   ·exact absurd (of_decide_eq_true g1) (by omega)
   ·repeat refine ai ?_
    exact rfl
 ·repeat refine ai ?_
  exact rfl
set_option maxHeartbeats 4000000 in
theorem tR (xs:List GateShape) (ms:List GateMend) (o:GateObject) (hpos:0<o.values.length):Spec P 216 [.d (ab xs),.d (ah ms),st o.e] (st (bif bB xs ms then er xs ms o else o).e):=by
 refine Spec.of_vc aQ az [.cell 6 103] Tryz.func216 rfl rfl rfl rfl (fun hok=>?_)
 have hb:=iA (o:=o) ⟨hok.2.2.1,trivial⟩
 have hsm:ms.length≤ap:=ax hok.2.1.1
 repeat refine ai ?_
 refine ow (Bk o hpos) ?_
 repeat refine ai ?_
 refine oe (fun g=>pA xs o g 4) ?_
 repeat refine ai ?_
 refine aj ?_ ?_<;>intro h0
 ·repeat refine ai ?_
  refine oc (fY _ _) ?_
  repeat refine ai ?_
  refine aj ?_ ?_<;>intro h1
  ·simp only[Bool.not_eq_true',Bool.not_eq_false'] at h0 h1
   rw[h1]
   repeat refine ai ?_
   exact rfl
  ·simp only[Bool.not_eq_false'] at h0 h1
   obtain ⟨hx,hm,hm12,hro⟩:=e8 h1
   rcases dD (xs:=xs) (k:=o.kind) (n:=o.values.length) with ⟨h2,_⟩|⟨j,hj,ej,ef,hl,hk⟩
   ·rw[h2] at h0;cases h0
   have hjm:=List.getElem_mem hj
   have hres:(bif bB xs ms then er xs ms o else o)={o with values:=bT xs[j].fields ms o.kind (iP (U o.kind ms) (bt xs[j])).1 o.values}:=by
    have:=Dc h1 hjm (vals:=o.values) hl.symm
    rw[hk] at this
    rw[h1,cond_true,rO hj ej h0,this]
   rw[hres]
   have hin:∀n∈bt xs[j],∀y∈U xs[j].kind ms n,y∈bt xs[j]:=fun n _=>kc hx hm hjm n
   obtain ⟨g,_⟩:=uu hin (by rw[l7 hx hm hjm];exact hro _ hjm)
   have hmi:=uF hx hm hjm
   rw[hk] at hmi
   have hfs:(am xs o.kind o.values.length).1=xs[j].fields:=by rw[ef]
   rw[hfs]
   repeat refine ai ?_
   refine oc (iZ _ _) ?_
   repeat refine ai ?_
   refine aJ (e:=GateShape.e) (xs:=xs) (hj) (ej) rfl ?_
   repeat refine ai ?_
   refine oc (wE xs[j] ms hm12 hin) ?_
   rw[hk]
   rw[hk] at g
   have hsub:∀x∈(iP (U o.kind ms) (bt xs[j])).1,x∈xs[j].fields.map (·.name):=g.sub
   have hrl:(iP (U o.kind ms) (bt xs[j])).1.length≤xs[j].fields.length:=by
    have:=eS g.nd g.sub
    have e:(bt xs[j]).length=xs[j].fields.length:=List.length_map ..
    rw[e] at this
    exact this
   generalize (iP (U o.kind ms) (bt xs[j])).2=rb at*
   generalize (iP (U o.kind ms) (bt xs[j])).1=row at*
   generalize xs[j].fields=fs at*
   repeat refine ai ?_
   refine px (row) (fun i (W:List Bs)=>W=bT fs ms o.kind (row.take i) o.values) (fun i (W:List Bs)=>[(1,.d (ah ms)),(5,.ptr 0 0),(6,.ptr 1 0),(7,.ptr 5 0),(11,.fn 233 [.ptr 0 0,.ptr 5 0]),(47,.d (lS row)),(48,.d (.int .i64 (row.map eB).length)),(49,.d (.int .i64 i))]) (fun i (W:List Bs)=>⟨[(5,.cells 162 [.d (ac fs)]),(4,.row 9 1 (W.map eB)),(1,.cells 103 [.d (.str []),.d (.str []),.d (.str []),.nils,.d (.bool false),.nils,.d (.int .i64 0)]),(0,.cells 103 [.d (.str o.kind),.d (.str o.name),.d (.str o.team),.own 4,.d (.bool o.ending),.d (lS o.holds),.d (.int .i64 o.version)])],6,0⟩) (rfl) ?_
   intro i W hi hr
   have hs:row.length≤ap:=by omega
   have hW:W.length=fs.length:=by rw[hr,gP,hl]
   repeat refine ai ?_
   refine aj ?_ ?_<;>intro g1
   ·have hlt:i<row.length:=Y g1
    have hnin:=hsub _ (List.getElem_mem hlt)
    obtain ⟨p,hp,ep,_⟩:=gk hnin
    have hst:bT fs ms o.kind (row.take (i+1)) o.values=bA fs ms o.kind W row[i]:=by rw[rP hlt,←hr]
    have hpt:(dO (·.name==row[i]) fs).toNat<W.length:=by rw[ep];omega
    repeat refine ai ?_
    refine O (e:=eB) (xs:=row) (hlt) rfl ?_
    repeat refine ai ?_
    generalize row[i]=nm at*
    have hrW:=hr
    clear hr
    repeat refine ai ?_
    refine dU (ms) (fun q=>sF fs ms o.kind W nm=o5 (cJ fs W) o.kind nm (cJ fs W nm) (ms.drop q)) (fun q=>[(1,.d (ah ms)),(5,.ptr 0 0),(6,.ptr 1 0),(7,.ptr 5 0),(11,.fn 233 [.ptr 0 0,.ptr 5 0]),(13,.d (.str nm)),(47,.d (lS row)),(48,.d (.int .i64 (row.map eB).length)),(49,.d (.int .i64 i)),(53,.d (ah ms)),(54,.d (.int .i64 (ms.map GateMend.e).length)),(55,.d (.int .i64 q))]) (fun q=>⟨[(5,.cells 162 [.d (ac fs)]),(4,.row 9 1 (W.map eB)),(1,.cells 103 [.d (.str []),.d (.str []),.d (.str []),.nils,.d (.bool false),.nils,.d (.int .i64 0)]),(0,.cells 103 [.d (.str o.kind),.d (.str o.name),.d (.str o.team),.own 4,.d (.bool o.ending),.d (lS o.holds),.d (.int .i64 o.version)])],6,0⟩) (rfl) ?_
    intro q hq hr
    have hsq:ms.length≤ap:=hsm
    repeat refine ai ?_
    refine aj ?_ ?_<;>intro g2
    ·have hlq:q<ms.length:=Y g2
     rw[u7 hlq] at hr
     have hmq:=hmi ms[q] (List.getElem_mem hlq)
     generalize hd:o5 (cJ fs W) o.kind nm (cJ fs W nm) (ms.drop (q+1))=rest at hr
     repeat refine ai ?_
     refine O (e:=GateMend.e) (xs:=ms) (hlq) rfl ?_
     repeat refine ai ?_
     have hpi:(0:Int)≤dO (·.name==nm) fs:=by rw[ep];exact Int.natCast_nonneg _
     have hpl:dO (·.name==nm) fs<((W.map eB).length:Int):=by rw[ep,List.length_map];omega
     have hget:(W.map eB)[(dO (·.name==nm) fs).toNat]? =some (eB W[(dO (·.name==nm) fs).toNat]):=by rw[List.getElem?_map,List.getElem?_eq_getElem hpt];rfl
     repeat' first
      |refine ai ?_
      |(refine aj ?_ ?_<;>intro h)
      |refine Or.inr (Or.inr (Or.inr (Or.inl (Exists.intro _ (aj rfl (aj (uV fs {o with values:=W} ms[q].when_ hW ((hmq (nU (by assumption))).1 (rI (by assumption)))) ?_))))))
      |refine Or.inr (Or.inr (Or.inr (Or.inl (Exists.intro _ (aj rfl (aj (uV fs {o with values:=W} ms[q].from_ hW ((hmq (nU (by assumption))).2 (rI (by assumption)))) ?_))))))
      |refine oc (kW _ _) ?_
      |refine aj (by kernel_rfl) (aj (by kernel_rfl) ?_)
      |refine ak ?_
      |refine aj hpi (aj hpl ?_)
      |refine ⟨_,hget,Nat.le_refl _,?_⟩
     all_goals clear hok hmi hin hres g hro hpl hpi hget hsub
     all_goals first
      |(exfalso;clear hrW hr hst hd hmq hpt ep hnin g1 g2 hW hrl hfs hl ef hk hjm ej hm hx h1 h0 hsm hb;simp only[cond_false,cond_true,Bool.not_eq_true',Bool.not_eq_false',reduceCtorEq,Bool.true_eq_false,Bool.false_eq_true] at*;done)
      |(exfalso;clear hrW hr hst hd hmq hpt ep hnin g1 g2 hW hrl hfs hl ef hk hjm ej hm hx h1 h0 hsm hb;simp only[cond_false,cond_true,Bool.not_eq_true',Bool.not_eq_false',reduceCtorEq] at*;simp only[*,reduceCtorEq,Bool.true_eq_false,Bool.false_eq_true] at*;done)
      |(refine (fun hq:sF fs ms o.kind W nm=rest=>?_) ?_
        rotate_left
        ·(rw[hr];clear hrW hr hst hd hmq hpt ep hnin g1 g2 hW hrl hfs hl ef hk hjm ej hm hx h1 h0 hsm hb;simp only[cond_false,cond_true,Bool.not_eq_true',Bool.not_eq_false',reduceCtorEq] at*;simp only[kD,lA, *,cond_true,cond_false,bl];done)
        repeat refine ai ?_
        exact bV hlq hsq (hq.trans hd.symm))
      |(refine (fun hq:sF fs ms o.kind W nm=ms[q].put=>?_) ?_
        rotate_left
        ·(rw[hr];clear hrW hr hst hd hmq hpt ep hnin g1 g2 hW hrl hfs hl ef hk hjm ej hm hx h1 h0 hsm hb;simp only[cond_false,cond_true,Bool.not_eq_true',Bool.not_eq_false',reduceCtorEq] at*;simp only[kD,lA, *,cond_true,cond_false,bl];done)
        repeat refine ai ?_
        exact dN (W.set (dO (·.name==nm) fs).toNat ms[q].put) hlt hs (by rw[hst];unfold bA;rw[hq]) fun hw=>by repeat' first|exact rfl|exact trivial|exact nd hw|exact rm hpt|refine aj ?_ ?_)
      |(refine (fun hq:sF fs ms o.kind W nm=cJ fs W ms[q].from_=>?_) ?_
        rotate_left
        ·(rw[hr];clear hrW hr hst hd hmq hpt ep hnin g1 g2 hW hrl hfs hl ef hk hjm ej hm hx h1 h0 hsm hb;simp only[cond_false,cond_true,Bool.not_eq_true',Bool.not_eq_false',reduceCtorEq] at*;simp only[kD,lA, *,cond_true,cond_false,bl];done)
        repeat refine ai ?_
        exact dN (W.set (dO (·.name==nm) fs).toNat (cJ fs W ms[q].from_)) hlt hs (by rw[hst];unfold bA;rw[hq]) fun hw=>by repeat' first|exact rfl|exact trivial|exact nd hw|exact rm hpt|refine aj ?_ ?_)
    ·have hq:sF fs ms o.kind W nm=cJ fs W nm:=by rw[hr,yX (Z g2)]
     have hW2:bA fs ms o.kind W nm=W:=by
      unfold bA
      refine rc hpt ?_
      rw[hq,gb ep (by omega)]
      congr 1
      rw[ep];rfl
     repeat refine ai ?_
     exact dN W hlt hs (by rw[hst,hW2])
   ·rw[List.take_of_length_le (Z g1)] at hr
    rw[←hr]
    repeat refine ai ?_
    exact rfl
 ·simp only[Bool.not_eq_true'] at h0
  rw[rN h0]
  repeat refine ai ?_
  cases bB xs ms<;>exact rfl
theorem wI (xs:List GateShape) (ms:List GateMend) (o:GateObject):Spec P 216 [.d (ab xs),.d (ah ms),st o.e] (st (bif bB xs ms then er xs ms o else o).e):=by
 by_cases h:0<o.values.length
 ·exact tR xs ms o h
 ·have hv:o.values=[]:=List.eq_nil_of_length_eq_zero (by omega)
  have:(bif bB xs ms then er xs ms o else o)=o:=by
   rw[yl hv];cases bB xs ms<;>rfl
  rw[this]
  exact tS xs ms o hv
def eJ (xs:List GateShape) (ms:List GateMend) (o:GateObject):GateObject:=er xs ms (fR xs o)
theorem jA (xs:List GateShape) (ms:List GateMend) (o:GateObject):Spec P 185 [.d (ab xs),.d (ah ms),st o.e] (st (bif bB xs ms then eJ xs ms o else o).e):=by
 refine Spec.of_vc aQ az [.cell 6 103] Tryz.func185 rfl rfl rfl rfl (fun hok=>?_)
 repeat refine ai ?_
 refine oc (fY _ _) ?_
 repeat refine ai ?_
 refine aj ?_ ?_<;>intro h
 ·simp only[Bool.not_eq_true'] at h
  rw[h,cond_false]
  repeat refine ai ?_
  refine oc (zZ _) ?_
  repeat refine ai ?_
  exact rfl
 ·simp only[Bool.not_eq_false'] at h
  obtain ⟨hx,_⟩:=e8 h
  repeat refine ai ?_
  refine oc (Ag _ _) ?_
  repeat refine ai ?_
  refine oc (wI _ _ _) ?_
  rw[h,hx]
  repeat refine ai ?_
  exact rfl
end Go.Vc
end
section
namespace Go.Vc
open Go.Proofs
set_option maxRecDepth 100000
def dr:List GateField→List Bs→Nat→List (Nat×GateField)
 |f::fs,v::vs,i=>bif f.kind==4&& !(v==[]) then (i,f)::dr fs vs (i+1) else dr fs vs (i+1)
 |_,_,_=>[]
def gG (p:Nat×GateField):List AV→Prop:=thinL [.d (.int .i64 p.1),st p.2.e]
def dj (xs:List GateShape) (o:GateObject):List (Nat×GateField):=dr (am xs o.kind o.values.length).1 o.values 0
theorem me {fs:List GateField} {vs:List Bs} {i:Nat} (h:fs=[]):dr fs vs i=[]:=by subst h;rfl
theorem ko {fs:List GateField} {vs:List Bs} {i:Nat} (h:i<fs.length) (h2:i<vs.length):dr (fs.drop i) (vs.drop i) i=bif fs[i].kind==4&& !(vs[i]==[]) then (i,fs[i])::dr (fs.drop (i+1)) (vs.drop (i+1)) (i+1) else dr (fs.drop (i+1)) (vs.drop (i+1)) (i+1):=by
 rw[List.drop_eq_getElem_cons h,List.drop_eq_getElem_cons h2];rfl
theorem ya {o:GateObject} (h:AV.ok (.at_ o.e)):o.values.length≤ap∧o.holds.length≤ap:=by
 simp only[AV.ok,GateObject.e,bE,D.ok] at h
 exact ⟨ax h.2.2.2.1.1,ax h.2.2.2.2.2.1.1⟩
theorem wF (l:GateLaw) (o:GateObject):Spec P 106 [st l.e,st o.e] (.fn 165 [.at_ l.e,.at_ o.e]):=by
 refine Spec.of_vc aQ az [.tmp 4] Tryz.func106 rfl rfl rfl rfl (fun hok=>?_)
 repeat refine ai ?_
 exact rfl
set_option maxHeartbeats 1000000 in
theorem si (l:GateLaw) (o:GateObject) (hc:Heap):(db P).iter 165 [.at_ l.e,.at_ o.e] hc ((dj l.shapes o).map gG):=by
 refine zV aQ az Tryz.func165 rfl rfl rfl rfl rfl (fun y hok=>?_)
 have hfs:(am l.shapes o.kind o.values.length).2=false→(am l.shapes o.kind o.values.length).1=[]:=by
  rcases dD (xs:=l.shapes) (k:=o.kind) (n:=o.values.length) with ⟨h1,h2⟩|⟨j,hj,_,h,_⟩
  ·exact fun _=>h2
  ·rw[h];exact fun h=>by cases h
 obtain ⟨hl,hl2⟩:=cV (xs:=l.shapes) (k:=o.kind) (n:=o.values.length)
 repeat refine ai ?_
 refine oc (fM _ _) ?_
 unfold dj
 repeat refine ai ?_
 refine aj ?_ ?_<;>intro h0
 ·simp only[Bool.not_eq_true'] at h0
  rw[hfs h0]
  repeat refine ai ?_
  exact .inr rfl
 ·simp only[Bool.not_eq_false'] at h0
  have hl:=hl2 h0
  generalize (am l.shapes o.kind o.values.length).1=fs at*
  repeat refine ai ?_
  refine ⟨fun m j l' h=>∃(i:Nat) (pre:List (Nat×GateField)),m=fs.length - i∧i≤fs.length∧dr fs o.values 0=pre++dr (fs.drop i) (o.values.drop i) i∧j=pre.length∧l'=[(0,.val (.func (.yield y) #[] #[])),(1,.at_ l.e),(2,.at_ o.e),(17,.d (ac fs)),(18,.d (.int .i64 (fs.map GateField.e).length)),(19,.d (.int .i64 i))]∧h=hp0,
   ⟨0,_,_,_,rfl,⟨0,[],rfl,Nat.zero_le _,rfl,rfl,rfl,rfl⟩,rfl,rfl,⟨rfl,rfl,rfl,rfl,rfl,rfl,trivial⟩,trivial,trivial⟩,?_⟩
  rintro m j l' hh ⟨i,pre,rfl,hi,hr,rfl,rfl,rfl⟩
  have hb:=ya hok.2.1
  have hs:fs.length≤ap:=by omega
  repeat refine ai ?_
  refine aj ?_ ?_<;>intro g1
  ·have hlt:i<fs.length:=Y g1
   have hlt2:i<o.values.length:=by omega
   rw[ko hlt hlt2] at hr
   repeat refine ai ?_
   refine O (e:=GateField.e) (xs:=fs) (hlt) rfl ?_
   repeat refine ai ?_
   refine aj ?_ ?_<;>intro h1
   ·repeat refine ai ?_
    refine O (e:=eB) (xs:=o.values) (hlt2) rfl ?_
    repeat refine ai ?_
    refine aj ?_ ?_<;>intro h2
    ·have hc:(fs[i].kind==4&& !(o.values[i]==[]))=true:=by rw[h1,h2];rfl
     rw[hc,cond_true] at hr
     repeat refine ai ?_
     refine ⟨⟨gG (i,fs[i]),?_,fun x h=>h⟩,?_,?_⟩
     ·rw[hr,List.getElem?_map,List.getElem?_append_right (Nat.le_refl _),Nat.sub_self];rfl
     ·repeat refine ai ?_
      refine ⟨_,_,_,_,rfl,⟨i+1,pre++[(i,fs[i])],rfl,hlt,(by rw[hr,List.append_assoc];rfl),(by simp),rfl,rfl⟩,by omega,rfl,rfl,⟨rfl,rfl,rfl,rfl,rfl,nd (V hlt hs),trivial⟩,trivial,trivial⟩
     ·repeat refine ai ?_
      exact .inl rfl
    ·have hc:(fs[i].kind==4&& !(o.values[i]==[]))=false:=by rw[h1,h2];rfl
     rw[hc,cond_false] at hr
     repeat refine ai ?_
     refine ⟨_,_,_,_,rfl,⟨i+1,pre,rfl,hlt,hr,rfl,rfl,rfl⟩,by omega,rfl,rfl,⟨rfl,rfl,rfl,rfl,rfl,nd (V hlt hs),trivial⟩,trivial,trivial⟩
   ·have hc:(fs[i].kind==4&& !(o.values[i]==[]))=false:=by rw[h1];rfl
    rw[hc,cond_false] at hr
    repeat refine ai ?_
    refine ⟨_,_,_,_,rfl,⟨i+1,pre,rfl,hlt,hr,rfl,rfl,rfl⟩,by omega,rfl,rfl,⟨rfl,rfl,rfl,rfl,rfl,nd (V hlt hs),trivial⟩,trivial,trivial⟩
  ·have hi':=Z g1
   rw[List.drop_of_length_le hi',me rfl,List.append_nil] at hr
   repeat refine ai ?_
   refine .inr ?_
   rw[List.length_map,hr]
end Go.Vc
end
section
namespace Go.Vc
open Go.Proofs
set_option maxRecDepth 100000
def ar {α:Type} (r:Option α→α→Bool):Option α→List α→Bool
 |_,[]=>true
 |p,x::xs=>r p x&&ar r (some x) xs
def cK {α:Type} (xs:List α):Nat→Option α
 |0=>none
 |j+1=>xs[j]?
section
variable {α:Type} {r:Option α→α→Bool} {xs:List α} {i:Nat}
theorem ec (h:i<xs.length):ar r (cK xs i) (xs.drop i)=(r (cK xs i) xs[i]&&ar r (cK xs (i+1)) (xs.drop (i+1))):=by
 rw[List.drop_eq_getElem_cons h]
 simp only[ar,cK,List.getElem?_eq_getElem h]
theorem fa {p:Option α} (h:xs.length≤i):ar r p (xs.drop i)=true:=by
 rw[List.drop_of_length_le h];rfl
theorem co (h0:0<i) (h:i<xs.length):cK xs i=some (xs[i - 1]'(by omega)):=by
 obtain ⟨j,rfl⟩:∃j,i=j+1:=⟨i - 1,by omega⟩
 simp only[cK,Nat.add_sub_cancel]
 exact List.getElem?_eq_getElem _
theorem cq (h:i=0):cK xs i=none:=by
 subst h
 rfl
end
theorem uI (a b c d:Bs):(!(Op.bytesLess a c||a==c)||(a==c&& !Op.bytesLess b d))= !gl a b c d:=by
 unfold gl
 cases e:(a==c) with
 |true=>rw[beq_iff_eq.1 e,fT];simp
 |false=>simp
theorem oL {n a b:Int} (h:decide (n<a)=true):ee n a b=false:=by
 have:=of_decide_eq_true h
 unfold ee;rw[decide_eq_false (by omega)];rfl
theorem oN {n a b:Int} (h:decide (n>b)=true):ee n a b=false:=by
 have:=of_decide_eq_true h
 unfold ee;rw[decide_eq_false (p:=n≤b) (by omega),Bool.and_false]
theorem mg {n a b:Int} (h:decide (n<a)=false) (h2:decide (n>b)=false):ee n a b=true:=by
 have:=of_decide_eq_false h
 have:=of_decide_eq_false h2
 unfold ee;rw[decide_eq_true (by omega),decide_eq_true (by omega)];rfl
def xa (vs:List Bs) (i:Nat):Bs:=match vs[i]? with|some v=>v|none=>[]
theorem iw {vs:List Bs} {i:Nat} (h:i<vs.length):xa vs i=vs[i]:=by unfold xa;rw[List.getElem?_eq_getElem h]
theorem rZ:∀{fs:List GateField} {vs:List Bs} {i:Nat} {p:Nat×GateField},p∈dr fs vs i→i≤p.1∧p.1<i+vs.length∧p.2∈fs∧(p.2.kind==4)=true
 |[],vs,i,p,h=>by simp[dr] at h
 |f::fs,[],i,p,h=>by simp[dr] at h
 |f::fs,v::vs,i,p,h=>by
  have tail:p∈dr fs vs (i+1)→i≤p.1∧p.1<i+(v::vs).length∧p.2∈f::fs∧(p.2.kind==4)=true:=fun h=>by
   obtain ⟨h1,h2,h3,h4⟩:=rZ h
   exact ⟨by omega,by simp only[List.length_cons];omega,List.mem_cons_of_mem _ h3,h4⟩
  simp only[dr] at h
  cases hc:f.kind==4&& !(v==[]) with
  |false=>rw[hc] at h;exact tail h
  |true=>
   rw[hc,cond_true] at h
   rcases List.mem_cons.1 h with e|h
   ·subst e
    rw[Bool.and_eq_true] at hc
    exact ⟨Nat.le_refl _,by simp,List.mem_cons_self,hc.1⟩
   ·exact tail h
theorem md {xs:List GateShape} {o:GateObject} {p:Nat×GateField} (h:p∈dj xs o):p.1<o.values.length:=by
 have:=(rZ h).2.1
 omega
theorem e9 {p:Nat×GateField} {x:List AV} (h:gG p x):∃A c,x=[.d (.int .i64 p.1),.agg [.d (.str p.2.name),.d (.int .i64 p.2.kind),.d (.int .i64 p.2.least),.d (.int .i64 p.2.most),.d (.raw (.slice A (p.2.words.map eB).length c)),.d (.str p.2.to_),.d (.int .i64 p.2.role),.d (.bool p.2.must),.d (.bool p.2.fixed),.d (.str p.2.default_),.d (.str p.2.weighs)]]:=by
 unfold gG st GateField.e at h
 simp only[thinL,thinC,List.map] at h
 obtain ⟨y0,ys,rfl,⟨y1,rfl,rfl⟩,cs,y2,rfl,⟨z1,rfl,z2,rfl,z3,rfl,z4,rfl,A,c,z5,rfl,z6,rfl,z7,rfl,z8,rfl,z9,rfl,z10,rfl,z11,rfl,rfl⟩,rfl⟩:=h
 exact ⟨A,c,rfl⟩
theorem oJ {xs:List (Nat×GateField)} {k:Nat} {X:List AV→Prop} (h:(xs.map gG)[k]? =some X):∃p,xs[k]? =some p∧p∈xs∧X=gG p:=by
 rw[List.getElem?_map] at h
 cases hp:xs[k]? with
 |none=>rw[hp] at h;cases h
 |some p=>rw[hp] at h;cases h;exact ⟨p,rfl,List.mem_of_getElem? hp,rfl⟩
def fy (b:GateBook) (k n:Bs):Bool:=decide (dO (fun x=>x.kind==k&&x.name==n) b.objects≥0)
theorem kB {b:GateBook} {k n:Bs} (h:decide (dO (fun x:GateObject=>x.kind==k&&x.name==n) b.objects<0)=true):fy b k n=false:=by
 have:=of_decide_eq_true h
 exact decide_eq_false (by omega)
theorem i0 {b:GateBook} {k n:Bs} (h:decide (dO (fun x:GateObject=>x.kind==k&&x.name==n) b.objects<0)=false):fy b k n=true:=by
 have:=of_decide_eq_false h
 exact decide_eq_true (by omega)
theorem AC {α:Type} {p:α→Bool} {xs:List α} {x:α} (h:x∈xs) (hp:p x=false):xs.all p=false:=by
 rw[List.all_eq_false]
 exact ⟨x,h,by rw[hp];simp⟩
def aF (L:GateLaw) (b:GateBook) (o:GateObject):Bool:=
 (Bh L.shapes o).1==0&&(L.teams.any (·.name==o.team)&&(ee o.version 1 b.now&&((eJ L.shapes L.mends o).values==o.values&&(dj L.shapes o).all (fun p=>fy b p.2.to_ (xa o.values p.1)))))
def lh (L:GateLaw) (b:GateBook) (p:Option GateObject) (o:GateObject):Bool:=(match p with|some q=>gl q.kind q.name o.kind o.name|none=>true)&&aF L b o
def nk (L:GateLaw) (b:GateBook):Bool:= !decide ((b.objects.length:Int)>40)&&ar (lh L b) none b.objects
set_option maxHeartbeats 2000000 in
theorem yD (L:GateLaw) (b:GateBook) (hm:bB L.shapes L.mends=true):Spec P 126 [st b.e,st L.e] (.d (.bool (nk L b))):=by
 refine Spec.of_vc aQ az [.cell 4 4] Tryz.func126 rfl rfl rfl rfl (fun hok=>?_)
 have hs:=(cS (dq hok)).1
 obtain ⟨hx,hmm,hm12,hro⟩:=e8 hm
 repeat refine ai ?_
 refine aj ?_ ?_<;>intro h0
 ·repeat refine ai ?_
  refine bd ?_
  rw[List.length_map] at h0
  rw[nk,h0];rfl
 rw[List.length_map] at h0
 have hob:nk L b=ar (lh L b) none b.objects:=by rw[nk,h0];rfl
 rw[hob]
 repeat refine ai ?_
 refine dU (b.objects) (fun i=>ar (lh L b) none b.objects=ar (lh L b) (cK b.objects i) (b.objects.drop i)) (fun i=>[(2,.ptr 0 0),(3,.ptr 1 0),(4,.ptr 2 0),(17,.d (aD b.objects)),(18,.d (.int .i64 (b.objects.map GateObject.e).length)),(19,.d (.int .i64 i))]) (fun i=>⟨[(2,.cells 4 [.d (.bool false)]),(1,.cells 41 (L.e.map .d)),(0,.cells 48 (b.e.map .d))],3,0⟩) (rfl) ?_
 intro i hi hr
 repeat refine ai ?_
 refine aj ?_ ?_<;>intro h1
 ·have hlt:i<b.objects.length:=Y h1
  rw[ec hlt] at hr
  repeat refine ai ?_
  refine O (e:=GateObject.e) (xs:=b.objects) (hlt) rfl ?_
  repeat refine ai ?_
  refine aj ?_ ?_<;>intro h2
  ·have h3:=mh h2
   repeat refine ai ?_
   refine aJ (e:=GateObject.e) (xs:=b.objects) ((show i - 1<b.objects.length by omega)) (bb h3 hlt hs) rfl ?_
   repeat refine ai ?_
   have hpv:cK b.objects i=some (b.objects[i - 1]'(by omega)):=co h3 hlt
   rw[hpv] at hr
   generalize hq:b.objects[i - 1]'(by omega)=q at*
   have hno:∀c,(!(Op.bytesLess q.kind b.objects[i].kind||q.kind==b.objects[i].kind)||(q.kind==b.objects[i].kind&& !Op.bytesLess q.name b.objects[i].name))=c→lh L b (some q) b.objects[i]=(!c&&aF L b b.objects[i]):=fun c h=>by
    rw[uI] at h
    rw[←h,Bool.not_not];rfl
   repeat refine ai ?_
   refine aj ?_ ?_<;>intro a1
   ·repeat refine ai ?_
    refine aj ?_ ?_<;>intro a2
    ·repeat refine ai ?_
     refine aj ?_ ?_<;>intro a3
     ·repeat refine ai ?_
      refine bd ?_
      rw[hr,hno true (by rw[a1,a2];exact a3)];rfl
     ·rw[hno false (by rw[a1,a2];exact a3),Bool.not_false,Bool.true_and] at hr
      repeat refine ai ?_
      refine oc (kx _ _) ?_
      rw[show jG L.shapes b.objects[i]=Bh L.shapes b.objects[i] from by unfold jG;rw[hx];rfl]
      generalize ho:b.objects[i]=o at*
      repeat refine ai ?_
      refine aj ?_ ?_<;>intro c1
      ·have c1:=rI c1
       repeat refine ai ?_
       refine bd ?_
       rw[hr,show aF L b o=false from by simp only[aF,c1,bl]]
       rfl
      ·have c1:=nU c1
       repeat refine ai ?_
       refine ak ?_
       repeat refine ai ?_
       refine oc (gn _ _) ?_
       repeat refine ai ?_
       refine aj ?_ ?_<;>intro c2
       ·have c2:=nU (idx_lt.symm.trans c2)
        repeat refine ai ?_
        refine aj ?_ ?_<;>intro c3
        ·repeat refine ai ?_
         refine aj ?_ ?_<;>intro c4
         ·have c4':=mg c3 c4
          repeat refine ai ?_
          refine oc (jA _ _ _) ?_
          rw[hm,cond_true]
          repeat refine ai ?_
          refine oc (jz _ _) ?_
          repeat refine ai ?_
          refine aj ?_ ?_<;>intro c5
          ·have c5:((eJ L.shapes L.mends o).values==o.values)=false:=rI c5
           repeat refine ai ?_
           refine bd ?_
           rw[hr,show aF L b o=false from by simp only[aF,c1,c2,c4',c5,bl]]
           rfl
          ·have c5:((eJ L.shapes L.mends o).values==o.values)=true:=nU c5
           have hrest:aF L b o=(dj L.shapes o).all (fun p=>fy b p.2.to_ (xa o.values p.1)):=by simp only[aF,c1,c2,c4',c5,Bool.true_and]
           rw[hrest] at hr
           repeat refine ai ?_
           refine oc (wF _ _) ?_
           repeat refine ai ?_
           refine ⟨(dj L.shapes o).map gG,fun k=>∀p,(dj L.shapes o)[k]? =some p→fy b p.2.to_ (xa o.values p.1)=true,si L o _,?_,?_,?_⟩
           ·intro X hX x hx
            obtain ⟨p,_,rfl⟩:=List.mem_map.1 hX
            obtain ⟨A,c,rfl⟩:=e9 hx
            rfl
           ·intro k X hX x hx
            obtain ⟨p,hp,hpm,rfl⟩:=oJ hX
            obtain ⟨A,c,rfl⟩:=e9 hx
            have hpl:=md hpm
            repeat refine ai ?_
            refine ⟨[(2,.ptr 0 0),(4,.ptr 2 0),(6,.ptr 3 0),(10,.d (.int .i64 p.1)),(11,.at_ [.str p.2.name,.int .i64 p.2.kind,.int .i64 p.2.least,.int .i64 p.2.most,.raw (.slice A (p.2.words.map eB).length c),.str p.2.to_,.int .i64 p.2.role,.bool p.2.must,.bool p.2.fixed,.str p.2.default_,.str p.2.weighs])],⟨rfl,rfl,⟨rfl,rfl,rfl,rfl,.inr ⟨_,_,_,_,rfl,Nat.le_of_ble_eq_true rfl,rfl,rfl,rfl⟩,trivial⟩,?_,?_⟩,?_⟩
            ·repeat' first|exact rfl|exact trivial|refine aj ?_ ?_
            ·repeat' first|exact rfl|exact trivial|refine aj ?_ ?_
            repeat refine ai ?_
            refine ak ?_
            repeat refine ai ?_
            refine O (e:=eB) (xs:=o.values) (hpl) rfl ?_
            repeat refine ai ?_
            refine oc (Ad _ _ _) ?_
            repeat refine ai ?_
            refine aj ?_ ?_<;>intro d1
            ·repeat refine ai ?_
             refine bd ?_
             rw[hr,AC hpm (by rw[iw hpl];exact kB d1)];rfl
            ·repeat refine ai ?_
             refine ⟨fun p' hp'=>?_,rfl,rfl,trivial,?_,?_⟩
             ·rw[hp] at hp'
              cases hp'
              rw[iw hpl];exact i0 d1
             ·repeat' first|exact rfl|exact trivial|refine aj ?_ ?_
             ·repeat' first|exact rfl|exact trivial|refine aj ?_ ?_
           ·intro hall
            have hal:(dj L.shapes o).all (fun p=>fy b p.2.to_ (xa o.values p.1))=true:=by
                 rw[List.all_eq_true]
                 intro p hp
                 obtain ⟨k,hk,rfl⟩:=List.getElem_of_mem hp
                 exact hall k (by rw[List.length_map];exact hk) _ (List.getElem?_eq_getElem hk)
            rw[hal,Bool.true_and] at hr
            repeat refine ai ?_
            exact bV hlt hs hr
         ·have c4':=oN (a:=1) c4
          repeat refine ai ?_
          refine ay ?_
          repeat refine ai ?_
          refine bd ?_
          rw[hr,show aF L b o=false from by simp only[aF,c1,c2,c4',bl]]
          rfl
        ·have c3':=oL (b:=b.now) c3
         repeat refine ai ?_
         refine an ?_
         repeat refine ai ?_
         refine ay ?_
         repeat refine ai ?_
         refine bd ?_
         rw[hr,show aF L b o=false from by simp only[aF,c1,c2,c3',bl]]
         rfl
       ·have c2:=rI (idx_lt.symm.trans c2)
        repeat refine ai ?_
        refine an ?_
        repeat refine ai ?_
        refine an ?_
        repeat refine ai ?_
        refine ay ?_
        repeat refine ai ?_
        refine bd ?_
        rw[hr,show aF L b o=false from by simp only[aF,c1,c2,bl]]
        rfl
    ·rw[hno false (by rw[a1,a2];rfl),Bool.not_false,Bool.true_and] at hr
     repeat refine ai ?_
     refine oc (kx _ _) ?_
     rw[show jG L.shapes b.objects[i]=Bh L.shapes b.objects[i] from by unfold jG;rw[hx];rfl]
     generalize ho:b.objects[i]=o at*
     repeat refine ai ?_
     refine aj ?_ ?_<;>intro c1
     ·have c1:=rI c1
      repeat refine ai ?_
      refine bd ?_
      rw[hr,show aF L b o=false from by simp only[aF,c1,bl]]
      rfl
     ·have c1:=nU c1
      repeat refine ai ?_
      refine ak ?_
      repeat refine ai ?_
      refine oc (gn _ _) ?_
      repeat refine ai ?_
      refine aj ?_ ?_<;>intro c2
      ·have c2:=nU (idx_lt.symm.trans c2)
       repeat refine ai ?_
       refine aj ?_ ?_<;>intro c3
       ·repeat refine ai ?_
        refine aj ?_ ?_<;>intro c4
        ·have c4':=mg c3 c4
         repeat refine ai ?_
         refine oc (jA _ _ _) ?_
         rw[hm,cond_true]
         repeat refine ai ?_
         refine oc (jz _ _) ?_
         repeat refine ai ?_
         refine aj ?_ ?_<;>intro c5
         ·have c5:((eJ L.shapes L.mends o).values==o.values)=false:=rI c5
          repeat refine ai ?_
          refine bd ?_
          rw[hr,show aF L b o=false from by simp only[aF,c1,c2,c4',c5,bl]]
          rfl
         ·have c5:((eJ L.shapes L.mends o).values==o.values)=true:=nU c5
          have hrest:aF L b o=(dj L.shapes o).all (fun p=>fy b p.2.to_ (xa o.values p.1)):=by simp only[aF,c1,c2,c4',c5,Bool.true_and]
          rw[hrest] at hr
          repeat refine ai ?_
          refine oc (wF _ _) ?_
          repeat refine ai ?_
          refine ⟨(dj L.shapes o).map gG,fun k=>∀p,(dj L.shapes o)[k]? =some p→fy b p.2.to_ (xa o.values p.1)=true,si L o _,?_,?_,?_⟩
          ·intro X hX x hx
           obtain ⟨p,_,rfl⟩:=List.mem_map.1 hX
           obtain ⟨A,c,rfl⟩:=e9 hx
           rfl
          ·intro k X hX x hx
           obtain ⟨p,hp,hpm,rfl⟩:=oJ hX
           obtain ⟨A,c,rfl⟩:=e9 hx
           have hpl:=md hpm
           repeat refine ai ?_
           refine ⟨[(2,.ptr 0 0),(4,.ptr 2 0),(6,.ptr 3 0),(10,.d (.int .i64 p.1)),(11,.at_ [.str p.2.name,.int .i64 p.2.kind,.int .i64 p.2.least,.int .i64 p.2.most,.raw (.slice A (p.2.words.map eB).length c),.str p.2.to_,.int .i64 p.2.role,.bool p.2.must,.bool p.2.fixed,.str p.2.default_,.str p.2.weighs])],⟨rfl,rfl,⟨rfl,rfl,rfl,rfl,.inr ⟨_,_,_,_,rfl,Nat.le_of_ble_eq_true rfl,rfl,rfl,rfl⟩,trivial⟩,?_,?_⟩,?_⟩
           ·repeat' first|exact rfl|exact trivial|refine aj ?_ ?_
           ·repeat' first|exact rfl|exact trivial|refine aj ?_ ?_
           repeat refine ai ?_
           refine ak ?_
           repeat refine ai ?_
           refine O (e:=eB) (xs:=o.values) (hpl) rfl ?_
           repeat refine ai ?_
           refine oc (Ad _ _ _) ?_
           repeat refine ai ?_
           refine aj ?_ ?_<;>intro d1
           ·repeat refine ai ?_
            refine bd ?_
            rw[hr,AC hpm (by rw[iw hpl];exact kB d1)];rfl
           ·repeat refine ai ?_
            refine ⟨fun p' hp'=>?_,rfl,rfl,trivial,?_,?_⟩
            ·rw[hp] at hp'
             cases hp'
             rw[iw hpl];exact i0 d1
            ·repeat' first|exact rfl|exact trivial|refine aj ?_ ?_
            ·repeat' first|exact rfl|exact trivial|refine aj ?_ ?_
          ·intro hall
           have hal:(dj L.shapes o).all (fun p=>fy b p.2.to_ (xa o.values p.1))=true:=by
                rw[List.all_eq_true]
                intro p hp
                obtain ⟨k,hk,rfl⟩:=List.getElem_of_mem hp
                exact hall k (by rw[List.length_map];exact hk) _ (List.getElem?_eq_getElem hk)
           rw[hal,Bool.true_and] at hr
           repeat refine ai ?_
           exact bV hlt hs hr
        ·have c4':=oN (a:=1) c4
         repeat refine ai ?_
         refine ay ?_
         repeat refine ai ?_
         refine bd ?_
         rw[hr,show aF L b o=false from by simp only[aF,c1,c2,c4',bl]]
         rfl
       ·have c3':=oL (b:=b.now) c3
        repeat refine ai ?_
        refine an ?_
        repeat refine ai ?_
        refine ay ?_
        repeat refine ai ?_
        refine bd ?_
        rw[hr,show aF L b o=false from by simp only[aF,c1,c2,c3',bl]]
        rfl
      ·have c2:=rI (idx_lt.symm.trans c2)
       repeat refine ai ?_
       refine an ?_
       repeat refine ai ?_
       refine an ?_
       repeat refine ai ?_
       refine ay ?_
       repeat refine ai ?_
       refine bd ?_
       rw[hr,show aF L b o=false from by simp only[aF,c1,c2,bl]]
       rfl
   ·repeat refine ai ?_
    refine bd ?_
    rw[hr,hno true (by rw[a1];rfl)];rfl
  ·have hpv:cK b.objects i=none:=cq (pV h2)
   rw[hpv] at hr
   replace hr:ar (lh L b) none b.objects=(aF L b b.objects[i]&&ar (lh L b) (cK b.objects (i+1)) (b.objects.drop (i+1))):=by rw[hr];rfl
   repeat refine ai ?_
   refine oc (kx _ _) ?_
   rw[show jG L.shapes b.objects[i]=Bh L.shapes b.objects[i] from by unfold jG;rw[hx];rfl]
   generalize ho:b.objects[i]=o at*
   repeat refine ai ?_
   refine aj ?_ ?_<;>intro c1
   ·have c1:=rI c1
    repeat refine ai ?_
    refine bd ?_
    rw[hr,show aF L b o=false from by simp only[aF,c1,bl]]
    rfl
   ·have c1:=nU c1
    repeat refine ai ?_
    refine ak ?_
    repeat refine ai ?_
    refine oc (gn _ _) ?_
    repeat refine ai ?_
    refine aj ?_ ?_<;>intro c2
    ·have c2:=nU (idx_lt.symm.trans c2)
     repeat refine ai ?_
     refine aj ?_ ?_<;>intro c3
     ·repeat refine ai ?_
      refine aj ?_ ?_<;>intro c4
      ·have c4':=mg c3 c4
       repeat refine ai ?_
       refine oc (jA _ _ _) ?_
       rw[hm,cond_true]
       repeat refine ai ?_
       refine oc (jz _ _) ?_
       repeat refine ai ?_
       refine aj ?_ ?_<;>intro c5
       ·have c5:((eJ L.shapes L.mends o).values==o.values)=false:=rI c5
        repeat refine ai ?_
        refine bd ?_
        rw[hr,show aF L b o=false from by simp only[aF,c1,c2,c4',c5,bl]]
        rfl
       ·have c5:((eJ L.shapes L.mends o).values==o.values)=true:=nU c5
        have hrest:aF L b o=(dj L.shapes o).all (fun p=>fy b p.2.to_ (xa o.values p.1)):=by simp only[aF,c1,c2,c4',c5,Bool.true_and]
        rw[hrest] at hr
        repeat refine ai ?_
        refine oc (wF _ _) ?_
        repeat refine ai ?_
        refine ⟨(dj L.shapes o).map gG,fun k=>∀p,(dj L.shapes o)[k]? =some p→fy b p.2.to_ (xa o.values p.1)=true,si L o _,?_,?_,?_⟩
        ·intro X hX x hx
         obtain ⟨p,_,rfl⟩:=List.mem_map.1 hX
         obtain ⟨A,c,rfl⟩:=e9 hx
         rfl
        ·intro k X hX x hx
         obtain ⟨p,hp,hpm,rfl⟩:=oJ hX
         obtain ⟨A,c,rfl⟩:=e9 hx
         have hpl:=md hpm
         repeat refine ai ?_
         refine ⟨[(2,.ptr 0 0),(4,.ptr 2 0),(6,.ptr 3 0),(10,.d (.int .i64 p.1)),(11,.at_ [.str p.2.name,.int .i64 p.2.kind,.int .i64 p.2.least,.int .i64 p.2.most,.raw (.slice A (p.2.words.map eB).length c),.str p.2.to_,.int .i64 p.2.role,.bool p.2.must,.bool p.2.fixed,.str p.2.default_,.str p.2.weighs])],⟨rfl,rfl,⟨rfl,rfl,rfl,rfl,.inr ⟨_,_,_,_,rfl,Nat.le_of_ble_eq_true rfl,rfl,rfl,rfl⟩,trivial⟩,?_,?_⟩,?_⟩
         ·repeat' first|exact rfl|exact trivial|refine aj ?_ ?_
         ·repeat' first|exact rfl|exact trivial|refine aj ?_ ?_
         repeat refine ai ?_
         refine ak ?_
         repeat refine ai ?_
         refine O (e:=eB) (xs:=o.values) (hpl) rfl ?_
         repeat refine ai ?_
         refine oc (Ad _ _ _) ?_
         repeat refine ai ?_
         refine aj ?_ ?_<;>intro d1
         ·repeat refine ai ?_
          refine bd ?_
          rw[hr,AC hpm (by rw[iw hpl];exact kB d1)];rfl
         ·repeat refine ai ?_
          refine ⟨fun p' hp'=>?_,rfl,rfl,trivial,?_,?_⟩
          ·rw[hp] at hp'
           cases hp'
           rw[iw hpl];exact i0 d1
          ·repeat' first|exact rfl|exact trivial|refine aj ?_ ?_
          ·repeat' first|exact rfl|exact trivial|refine aj ?_ ?_
        ·intro hall
         have hal:(dj L.shapes o).all (fun p=>fy b p.2.to_ (xa o.values p.1))=true:=by
              rw[List.all_eq_true]
              intro p hp
              obtain ⟨k,hk,rfl⟩:=List.getElem_of_mem hp
              exact hall k (by rw[List.length_map];exact hk) _ (List.getElem?_eq_getElem hk)
         rw[hal,Bool.true_and] at hr
         repeat refine ai ?_
         exact bV hlt hs hr
      ·have c4':=oN (a:=1) c4
       repeat refine ai ?_
       refine ay ?_
       repeat refine ai ?_
       refine bd ?_
       rw[hr,show aF L b o=false from by simp only[aF,c1,c2,c4',bl]]
       rfl
     ·have c3':=oL (b:=b.now) c3
      repeat refine ai ?_
      refine an ?_
      repeat refine ai ?_
      refine ay ?_
      repeat refine ai ?_
      refine bd ?_
      rw[hr,show aF L b o=false from by simp only[aF,c1,c2,c3',bl]]
      rfl
    ·have c2:=rI (idx_lt.symm.trans c2)
     repeat refine ai ?_
     refine an ?_
     repeat refine ai ?_
     refine an ?_
     repeat refine ai ?_
     refine ay ?_
     repeat refine ai ?_
     refine bd ?_
     rw[hr,show aF L b o=false from by simp only[aF,c1,c2,bl]]
     rfl
 ·repeat refine ai ?_
  refine bd ?_
  rw[hr,fa (Z h1)]
end Go.Vc
end
section
namespace Go.Vc
open Go.Proofs
set_option maxRecDepth 100000
theorem lq (xs ys:List Bs):Spec P 173 [.d (lS xs),.d (lS ys)] (.d (.bool (xs==ys))):=by
 refine Spec.of_vc aQ az [.tmp 4] Tryz.func173 rfl rfl rfl rfl (fun hok=>?_)
 have hs:xs.length≤ap:=ax hok.1.1
 repeat refine ai ?_
 refine aj ?_ ?_<;>intro h0
 ·refine bd ?_
  rw[List.length_map,List.length_map] at h0
  cases e:xs==ys with
  |false=>rfl
  |true=>rw[beq_iff_eq.1 e] at h0;simp at h0
 ·rw[List.length_map,List.length_map] at h0
  have hl:xs.length=ys.length:=by simp at h0;omega
  repeat refine ai ?_
  refine dU (xs) (fun i=>(xs==ys)=(xs.drop i==ys.drop i)) (fun i=>[(0,.d (lS xs)),(1,.d (lS ys)),(5,.d (.int .i64 i))]) (fun i=>hp0) (rfl) ?_
  intro i hi hr
  repeat refine ai ?_
  refine aj ?_ ?_<;>intro h1
  ·have hlt:i<xs.length:=Y h1
   have hlt':i<ys.length:=by omega
   rw[List.drop_eq_getElem_cons hlt,List.drop_eq_getElem_cons hlt',List.cons_beq_cons] at hr
   repeat refine ai ?_
   refine ak ?_
   repeat refine ai ?_
   refine O (e:=eB) (xs:=xs) (hlt) rfl ?_
   repeat refine ai ?_
   refine O (e:=eB) (xs:=ys) (hlt') rfl ?_
   repeat refine ai ?_
   refine aj ?_ ?_<;>intro h2
   ·refine bd ?_
    simp only[Bool.not_eq_true',Bool.not_eq_false'] at h2
    rw[hr,h2];rfl
   ·simp only[Bool.not_eq_true',Bool.not_eq_false'] at h2
    repeat refine ai ?_
    exact bV hlt hs (by rw[hr,h2];rfl)
  ·refine bd ?_
   have hge:=Z h1
   rw[hr,List.drop_of_length_le hge,List.drop_of_length_le (by omega)];rfl
theorem yz {xs:List GateShape} {o:GateObject} (h:((Bh xs o).1==0)=true):(am xs o.kind o.values.length).2=true:=by
 unfold Bh kA at h
 cases hf:(am xs o.kind o.values.length).2 with
 |true=>rfl
 |false=>rw[hf] at h;cases h
theorem EN {b:GateBook} (h:dS [st b.e]) {o:GateObject} (ho:o∈b.objects):o.values.length≤ap∧o.holds.length≤ap:=by
 have:=h.1
 simp only[st,AV.ok,GateBook.e,List.map,dS] at this
 refine ya ?_
 simp only[AV.ok]
 exact okRows_iff.1 this.2.2.2.1.2 _ (List.mem_map.2 ⟨o,ho,rfl⟩)
set_option maxHeartbeats 2000000 in
theorem tD (L:GateLaw) (b:GateBook) (hm:bB L.shapes L.mends=true):Spec P 115 [st L.e,st b.e] (.d (.bool (nk L b))):=by
 refine Spec.of_vc aQ az [.tmp 4] Tryz.func115 rfl rfl rfl rfl (fun hok=>?_)
 have hs:=(cS hok.2).1
 obtain ⟨hx,hmm,hm12,hro⟩:=e8 hm
 repeat refine ai ?_
 refine aj ?_ ?_<;>intro h0
 ·refine bd ?_
  rw[List.length_map] at h0
  rw[nk,h0];rfl
 rw[List.length_map] at h0
 have hob:nk L b=ar (lh L b) none b.objects:=by rw[nk,h0];rfl
 rw[hob]
 repeat refine ai ?_
 refine dU (b.objects) (fun i=>ar (lh L b) none b.objects=ar (lh L b) (cK b.objects i) (b.objects.drop i)) (fun i=>[(2,.ptr 0 0),(3,.ptr 1 0),(5,.d (.int .i64 i))]) (fun i=>⟨[(1,.cells 48 (b.e.map .d)),(0,.cells 41 (L.e.map .d))],2,0⟩) (rfl) ?_
 intro i hi hr
 repeat refine ai ?_
 refine aj ?_ ?_<;>intro h1
 ·have hlt:i<b.objects.length:=Y h1
  rw[ec hlt] at hr
  repeat refine ai ?_
  refine O (e:=GateObject.e) (xs:=b.objects) (hlt) rfl ?_
  repeat refine ai ?_
  have hvb:=(EN hok.2 (List.getElem_mem hlt)).1
  generalize ho:b.objects[i]=o at*
  have hob0:∀c,(match cK b.objects i with|some q=>gl q.kind q.name o.kind o.name|none=>true)=c→lh L b (cK b.objects i) o=(c&&aF L b o):=fun c h=>by rw[←h];rfl
  repeat refine ai ?_
  refine oc (BY _ _) ?_
  repeat refine ai ?_
  refine aj ?_ ?_<;>intro c1
  ·have c1:((Bh L.shapes o).1==0)=true:=nU c1
   repeat refine ai ?_
   refine oc (mX _ _) ?_
   repeat refine ai ?_
   refine aj ?_ ?_<;>intro c2
   ·have c2:(L.teams.any (·.name==o.team))=true:=nU c2
    repeat refine ai ?_
    refine oc (d7 _ _ _) ?_
    repeat refine ai ?_
    refine aj ?_ ?_<;>intro c3
    ·have c3:ee o.version 1 b.now=false:=rI c3
     repeat refine ai ?_
     refine bd ?_
     rw[hr,show lh L b (cK b.objects i) o=false from by rw[hob0 _ rfl];simp only[aF,c1,c2,c3,bl]]
     rfl
    ·have c3:ee o.version 1 b.now=true:=nU c3
     repeat refine ai ?_
     refine ak ?_
     repeat refine ai ?_
     refine aj ?_ ?_<;>intro p1
     ·have h3:=mh p1
      have hpv:cK b.objects i=some (b.objects[i - 1]'(by omega)):=co h3 hlt
      repeat refine ai ?_
      refine aJ (e:=GateObject.e) (xs:=b.objects) ((show i - 1<b.objects.length by omega)) (bb h3 hlt hs) rfl ?_
      repeat refine ai ?_
      refine aJ (e:=GateObject.e) (xs:=b.objects) ((show i - 1<b.objects.length by omega)) (bb h3 hlt hs) rfl ?_
      repeat refine ai ?_
      rw[hpv] at hob0
      repeat refine ai ?_
      refine oc (vX _ _ _ _) ?_
      repeat refine ai ?_
      refine aj ?_ ?_<;>intro p2
      ·have hp:=(qb _ _ _ _).symm.trans p2
       rw[Bool.not_eq_true'] at hp
       repeat refine ai ?_
       refine bd ?_
       rw[hr,hpv,hob0 false hp];rfl
      ·have hp:=(qb _ _ _ _).symm.trans p2
       rw[Bool.not_eq_false'] at hp
       rw[hpv,hob0 true hp,Bool.true_and] at hr
       repeat refine ai ?_
       refine ak ?_
       repeat refine ai ?_
       refine oc (rg L.shapes L.mends o hx hmm) ?_
       repeat refine ai ?_
       refine oc (lq _ _) ?_
       repeat refine ai ?_
       refine aj ?_ ?_<;>intro c5
       ·have c5:((eJ L.shapes L.mends o).values==o.values)=false:=rI c5
        repeat refine ai ?_
        refine bd ?_
        rw[hr,show aF L b o=false from by simp only[aF,c1,c2,c3,c5,bl]]
        rfl
       ·have c5:((eJ L.shapes L.mends o).values==o.values)=true:=nU c5
        have hrest:aF L b o=(dr (am L.shapes o.kind o.values.length).1 o.values 0).all (fun p=>fy b p.2.to_ (xa o.values p.1)):=by simp only[aF,c1,c2,c3,c5,Bool.true_and];rfl
        rw[hrest] at hr
        repeat refine ai ?_
        refine oc (fE _ _) ?_
        have hfl:=(cV (xs:=L.shapes) (k:=o.kind) (n:=o.values.length)).2 (yz c1)
        generalize (am L.shapes o.kind o.values.length).1=fs at*
        have hfs:fs.length≤ap:=by omega
        generalize hlk:(dr fs o.values 0).all (fun p=>fy b p.2.to_ (xa o.values p.1))=lk at*
        generalize hck:ar (lh L b) none b.objects=ck at*
        have hrO:=hr
        clear hr
        repeat refine ai ?_
        refine dU (fs) (fun k=>lk=(dr (fs.drop k) (o.values.drop k) k).all (fun p=>fy b p.2.to_ (xa o.values p.1))) (fun k=>[(2,.ptr 0 0),(3,.ptr 1 0),(5,.d (.int .i64 i)),(6,.ptr 2 0),(9,.d (ac fs)),(11,.d (.int .i64 k))]) (fun k=>⟨[(2,.cells 103 (o.e.map .d)),(1,.cells 48 (b.e.map .d)),(0,.cells 41 (L.e.map .d))],3,0⟩) (hlk.symm) ?_
        intro k hk hr
        repeat refine ai ?_
        refine aj ?_ ?_<;>intro g1
        ·have hlk1:k<fs.length:=Y g1
         have hlk2:k<o.values.length:=by omega
         rw[ko hlk1 hlk2] at hr
         repeat refine ai ?_
         refine ak ?_
         repeat refine ai ?_
         refine O (e:=GateField.e) (xs:=fs) (hlk1) rfl ?_
         repeat refine ai ?_
         refine aj ?_ ?_<;>intro g2
         ·repeat refine ai ?_
          refine O (e:=eB) (xs:=o.values) (hlk2) rfl ?_
          repeat refine ai ?_
          refine aj ?_ ?_<;>intro g3
          ·have hc:(fs[k].kind==4&& !(o.values[k]==[]))=true:=by rw[g2];exact g3
           rw[hc,cond_true,List.all_cons] at hr
           repeat refine ai ?_
           refine O (e:=GateField.e) (xs:=fs) (hlk1) rfl ?_
           repeat refine ai ?_
           refine O (e:=eB) (xs:=o.values) (hlk2) rfl ?_
           repeat refine ai ?_
           refine oc (C7 _ _ _) ?_
           repeat refine ai ?_
           refine aj ?_ ?_<;>intro g4
           ·refine bd ?_
            rw[iw hlk2,kB g4,Bool.false_and] at hr
            rw[hrO,hr];rfl
           ·rw[iw hlk2,i0 g4,Bool.true_and] at hr
            repeat refine ai ?_
            exact ⟨_,_,_,⟨k+1,rfl,hlk1,hr,rfl,rfl⟩,by omega,rfl,rfl,⟨rfl,rfl,rfl,rfl,rfl,nd (V hlk1 hfs),trivial⟩,(by repeat' first|exact rfl|exact trivial|refine aj ?_ ?_),(by repeat' first|exact rfl|exact trivial|refine aj ?_ ?_)⟩
          ·have hc:(fs[k].kind==4&& !(o.values[k]==[]))=false:=by rw[g2];exact g3
           rw[hc,cond_false] at hr
           repeat refine ai ?_
           refine an ?_
           repeat refine ai ?_
           exact ⟨_,_,_,⟨k+1,rfl,hlk1,hr,rfl,rfl⟩,by omega,rfl,rfl,⟨rfl,rfl,rfl,rfl,rfl,nd (V hlk1 hfs),trivial⟩,(by repeat' first|exact rfl|exact trivial|refine aj ?_ ?_),(by repeat' first|exact rfl|exact trivial|refine aj ?_ ?_)⟩
         ·have hc:(fs[k].kind==4&& !(o.values[k]==[]))=false:=by rw[g2];rfl
          rw[hc,cond_false] at hr
          repeat refine ai ?_
          refine an ?_
          repeat refine ai ?_
          refine an ?_
          repeat refine ai ?_
          exact ⟨_,_,_,⟨k+1,rfl,hlk1,hr,rfl,rfl⟩,by omega,rfl,rfl,⟨rfl,rfl,rfl,rfl,rfl,nd (V hlk1 hfs),trivial⟩,(by repeat' first|exact rfl|exact trivial|refine aj ?_ ?_),(by repeat' first|exact rfl|exact trivial|refine aj ?_ ?_)⟩
        ·rw[List.drop_of_length_le (Z g1),me rfl] at hr
         have hl:lk=true:=hr
         rw[hl,Bool.true_and] at hrO
         repeat refine ai ?_
         exact bV hlt hs hrO
     ·have hpv:=cq (xs:=b.objects) (pV p1)
      rw[hpv] at hr
      rw[hpv] at hob0
      rw[hob0 true rfl,Bool.true_and] at hr
      repeat refine ai ?_
      refine an ?_
      repeat refine ai ?_
      refine ak ?_
      repeat refine ai ?_
      refine oc (rg L.shapes L.mends o hx hmm) ?_
      repeat refine ai ?_
      refine oc (lq _ _) ?_
      repeat refine ai ?_
      refine aj ?_ ?_<;>intro c5
      ·have c5:((eJ L.shapes L.mends o).values==o.values)=false:=rI c5
       repeat refine ai ?_
       refine bd ?_
       rw[hr,show aF L b o=false from by simp only[aF,c1,c2,c3,c5,bl]]
       rfl
      ·have c5:((eJ L.shapes L.mends o).values==o.values)=true:=nU c5
       have hrest:aF L b o=(dr (am L.shapes o.kind o.values.length).1 o.values 0).all (fun p=>fy b p.2.to_ (xa o.values p.1)):=by simp only[aF,c1,c2,c3,c5,Bool.true_and];rfl
       rw[hrest] at hr
       repeat refine ai ?_
       refine oc (fE _ _) ?_
       have hfl:=(cV (xs:=L.shapes) (k:=o.kind) (n:=o.values.length)).2 (yz c1)
       generalize (am L.shapes o.kind o.values.length).1=fs at*
       have hfs:fs.length≤ap:=by omega
       generalize hlk:(dr fs o.values 0).all (fun p=>fy b p.2.to_ (xa o.values p.1))=lk at*
       generalize hck:ar (lh L b) none b.objects=ck at*
       have hrO:=hr
       clear hr
       repeat refine ai ?_
       refine dU (fs) (fun k=>lk=(dr (fs.drop k) (o.values.drop k) k).all (fun p=>fy b p.2.to_ (xa o.values p.1))) (fun k=>[(2,.ptr 0 0),(3,.ptr 1 0),(5,.d (.int .i64 i)),(6,.ptr 2 0),(9,.d (ac fs)),(11,.d (.int .i64 k))]) (fun k=>⟨[(2,.cells 103 (o.e.map .d)),(1,.cells 48 (b.e.map .d)),(0,.cells 41 (L.e.map .d))],3,0⟩) (hlk.symm) ?_
       intro k hk hr
       repeat refine ai ?_
       refine aj ?_ ?_<;>intro g1
       ·have hlk1:k<fs.length:=Y g1
        have hlk2:k<o.values.length:=by omega
        rw[ko hlk1 hlk2] at hr
        repeat refine ai ?_
        refine ak ?_
        repeat refine ai ?_
        refine O (e:=GateField.e) (xs:=fs) (hlk1) rfl ?_
        repeat refine ai ?_
        refine aj ?_ ?_<;>intro g2
        ·repeat refine ai ?_
         refine O (e:=eB) (xs:=o.values) (hlk2) rfl ?_
         repeat refine ai ?_
         refine aj ?_ ?_<;>intro g3
         ·have hc:(fs[k].kind==4&& !(o.values[k]==[]))=true:=by rw[g2];exact g3
          rw[hc,cond_true,List.all_cons] at hr
          repeat refine ai ?_
          refine O (e:=GateField.e) (xs:=fs) (hlk1) rfl ?_
          repeat refine ai ?_
          refine O (e:=eB) (xs:=o.values) (hlk2) rfl ?_
          repeat refine ai ?_
          refine oc (C7 _ _ _) ?_
          repeat refine ai ?_
          refine aj ?_ ?_<;>intro g4
          ·refine bd ?_
           rw[iw hlk2,kB g4,Bool.false_and] at hr
           rw[hrO,hr];rfl
          ·rw[iw hlk2,i0 g4,Bool.true_and] at hr
           repeat refine ai ?_
           exact ⟨_,_,_,⟨k+1,rfl,hlk1,hr,rfl,rfl⟩,by omega,rfl,rfl,⟨rfl,rfl,rfl,rfl,rfl,nd (V hlk1 hfs),trivial⟩,(by repeat' first|exact rfl|exact trivial|refine aj ?_ ?_),(by repeat' first|exact rfl|exact trivial|refine aj ?_ ?_)⟩
         ·have hc:(fs[k].kind==4&& !(o.values[k]==[]))=false:=by rw[g2];exact g3
          rw[hc,cond_false] at hr
          repeat refine ai ?_
          refine an ?_
          repeat refine ai ?_
          exact ⟨_,_,_,⟨k+1,rfl,hlk1,hr,rfl,rfl⟩,by omega,rfl,rfl,⟨rfl,rfl,rfl,rfl,rfl,nd (V hlk1 hfs),trivial⟩,(by repeat' first|exact rfl|exact trivial|refine aj ?_ ?_),(by repeat' first|exact rfl|exact trivial|refine aj ?_ ?_)⟩
        ·have hc:(fs[k].kind==4&& !(o.values[k]==[]))=false:=by rw[g2];rfl
         rw[hc,cond_false] at hr
         repeat refine ai ?_
         refine an ?_
         repeat refine ai ?_
         refine an ?_
         repeat refine ai ?_
         exact ⟨_,_,_,⟨k+1,rfl,hlk1,hr,rfl,rfl⟩,by omega,rfl,rfl,⟨rfl,rfl,rfl,rfl,rfl,nd (V hlk1 hfs),trivial⟩,(by repeat' first|exact rfl|exact trivial|refine aj ?_ ?_),(by repeat' first|exact rfl|exact trivial|refine aj ?_ ?_)⟩
       ·rw[List.drop_of_length_le (Z g1),me rfl] at hr
        have hl:lk=true:=hr
        rw[hl,Bool.true_and] at hrO
        repeat refine ai ?_
        exact bV hlt hs hrO
   ·have c2:(L.teams.any (·.name==o.team))=false:=rI c2
    repeat refine ai ?_
    refine bd ?_
    rw[hr,show lh L b (cK b.objects i) o=false from by rw[hob0 _ rfl];simp only[aF,c1,c2,bl]]
    rfl
  ·have c1:((Bh L.shapes o).1==0)=false:=rI c1
   repeat refine ai ?_
   refine bd ?_
   rw[hr,show lh L b (cK b.objects i) o=false from by rw[hob0 _ rfl];simp only[aF,c1,bl]]
   rfl
 ·refine bd ?_
  rw[hr,fa (Z h1)]
end Go.Vc
end
section
namespace Go.Vc
open Go.Proofs
set_option maxRecDepth 100000
def xR (p:Option GateGrant) (n:Int):Bool:=match p with|some q=> !decide (q.number≥n)|none=>true
def eU (b:GateBook) (p:Option GateGrant) (g:GateGrant):Bool:=ee g.number 1 b.given&&(xR p g.number&&(aI g.to_&&((g.by_==[]||aI g.by_)&&bf g.rule)))
def gH (b:GateBook):Bool:= !decide ((b.grants.length:Int)>24)&&ar (eU b) none b.grants
theorem nD (n a b:Int):ee n a b=(!decide (n<a)&& !decide (n>b)):=by
 unfold ee
 congr 1
 ·by_cases h:n<a
  ·rw[decide_eq_true h,decide_eq_false (by omega)];rfl
  ·rw[decide_eq_false h,decide_eq_true (by omega)];rfl
 ·by_cases h:n>b
  ·rw[decide_eq_true h,decide_eq_false (by omega)];rfl
  ·rw[decide_eq_false h,decide_eq_true (by omega)];rfl
set_option maxHeartbeats 2000000 in
theorem Ac (b:GateBook):Spec P 127 [st b.e] (.d (.bool (gH b))):=by
 refine Spec.of_vc aQ az [.tmp 2] Tryz.func127 rfl rfl rfl rfl (fun hok=>?_)
 have hs:=(cS hok).2.1
 repeat refine ai ?_
 refine aj ?_ ?_<;>intro h0
 ·refine bd ?_
  rw[List.length_map] at h0
  rw[gH,h0];rfl
 rw[List.length_map] at h0
 have hob:gH b=ar (eU b) none b.grants:=by rw[gH,h0];rfl
 rw[hob]
 repeat refine ai ?_
 refine dU (b.grants) (fun i=>ar (eU b) none b.grants=ar (eU b) (cK b.grants i) (b.grants.drop i)) (fun i=>[(1,.ptr 0 0),(10,.d (aU b.grants)),(11,.d (.int .i64 (b.grants.map GateGrant.e).length)),(12,.d (.int .i64 i))]) (fun i=>⟨[(0,.cells 48 (b.e.map .d))],1,0⟩) (rfl) ?_
 intro i hi hr
 repeat refine ai ?_
 refine aj ?_ ?_<;>intro h1
 ·have hlt:i<b.grants.length:=Y h1
  rw[ec hlt] at hr
  repeat refine ai ?_
  refine O (e:=GateGrant.e) (xs:=b.grants) (hlt) rfl ?_
  repeat refine ai ?_
  refine ak ?_
  repeat refine ai ?_
  repeat' first
   |refine ai ?_
   |(refine n1 ?_;intro h)
   |(refine n2 ?_;intro h)
   |(refine n3 ?_;intro h)
   |(refine n4 ?_;intro h)
   |(refine aj ?_ ?_<;>intro h)
   |refine oc (cG _) ?_
   |refine oc (DQ _) ?_
   |refine ak ?_
   |refine aJ (e:=GateGrant.e) (xs:=b.grants) (k:=i - 1) (by omega) (bb (mh (by assumption)) hlt hs) rfl ?_
  all_goals (first|rw[co (mh (by assumption)) hlt] at hr|rw[cq (pV (by assumption))] at hr|skip)
  all_goals (simp only[cond_false,cond_true,Bool.not_eq_true',Bool.not_eq_false',reduceCtorEq] at*)
  all_goals first
   |(refine bd ?_
     rw[hr]
     clear hr
     simp only[eU,xR,nD, *,bl]
     done)
   |(refine (fun hq:ar (eU b) none b.grants=ar (eU b) (cK b.grants (i+1)) (b.grants.drop (i+1))=>?_) ?_
     rotate_left
     ·rw[hr]
      clear hr
      simp only[eU,xR,nD, *,bl]
      done
     ·repeat refine ai ?_
      exact bV hlt hs hq)
 ·refine bd ?_
  rw[hr,fa (Z h1)]
set_option maxHeartbeats 2000000 in
theorem vY (b:GateBook):Spec P 116 [st b.e] (.d (.bool (gH b))):=by
 refine Spec.of_vc aQ az [.tmp 2] Tryz.func116 rfl rfl rfl rfl (fun hok=>?_)
 have hs:=(cS hok).2.1
 repeat refine ai ?_
 refine aj ?_ ?_<;>intro h0
 ·refine bd ?_
  rw[List.length_map] at h0
  rw[gH,h0];rfl
 rw[List.length_map] at h0
 have hob:gH b=ar (eU b) none b.grants:=by rw[gH,h0];rfl
 rw[hob]
 repeat refine ai ?_
 refine dU (b.grants) (fun i=>ar (eU b) none b.grants=ar (eU b) (cK b.grants i) (b.grants.drop i)) (fun i=>[(1,.ptr 0 0),(3,.d (.int .i64 i))]) (fun i=>⟨[(0,.cells 48 (b.e.map .d))],1,0⟩) (rfl) ?_
 intro i hi hr
 repeat refine ai ?_
 refine aj ?_ ?_<;>intro h1
 ·have hlt:i<b.grants.length:=Y h1
  rw[ec hlt] at hr
  repeat refine ai ?_
  refine O (e:=GateGrant.e) (xs:=b.grants) (hlt) rfl ?_
  repeat refine ai ?_
  refine ak ?_
  repeat refine ai ?_
  repeat' first
   |refine ai ?_
   |(refine n1 ?_;intro h)
   |(refine n2 ?_;intro h)
   |(refine n3 ?_;intro h)
   |(refine n4 ?_;intro h)
   |(refine aj ?_ ?_<;>intro h)
   |refine oc (d7 _ _ _) ?_
   |refine oc (bo _) ?_
   |refine oc (zq _) ?_
   |refine ak ?_
   |refine aJ (e:=GateGrant.e) (xs:=b.grants) (k:=i - 1) (by omega) (bb (mh (by assumption)) hlt hs) rfl ?_
  all_goals (first|rw[co (mh (by assumption)) hlt] at hr|rw[cq (pV (by assumption))] at hr|skip)
  all_goals (simp only[cond_false,cond_true,Bool.not_eq_true',Bool.not_eq_false',reduceCtorEq] at*)
  all_goals first
   |(refine bd ?_
     rw[hr]
     clear hr
     simp only[eU,xR, *,bl]
     done)
   |(refine (fun hq:ar (eU b) none b.grants=ar (eU b) (cK b.grants (i+1)) (b.grants.drop (i+1))=>?_) ?_
     rotate_left
     ·rw[hr]
      clear hr
      simp only[eU,xR, *,bl]
      done
     ·repeat refine ai ?_
      exact bV hlt hs hq)
 ·refine bd ?_
  rw[hr,fa (Z h1)]
end Go.Vc
end
section
namespace Go.Vc
open Go.Proofs
set_option maxRecDepth 100000
def gw (xs:List GateTeam):Nat→Bs→Bs→Bool
 |0,a,b=>a==b
 |k+1,a,b=>a==b||(!(dv a xs==[])&&gw xs k (dv a xs) b)
def pc (xs:List GateTeam) (a b:Bs):Bool:=gw xs 4 a b
theorem rE:∀{xs:List GateTeam} {n:Bs},xs.any (·.name==n)=false→dv n xs=[]
 |[],_,_=>rfl
 |x::xs,n,h=>by
  rw[List.any_cons,Bool.or_eq_false_iff] at h
  simp only[dv,h.1,cond_false]
  exact rE h.2
theorem AG {k n:Nat} (h:k<n) (hn:n≤100):IntKind.i64.wrap ((k:Int)+1)=((k+1:Nat):Int):=by
 rw[IntKind.wrap_i64];omega
theorem xH (xs:List GateTeam) (a b:Bs):Spec P 155 [.d (ao xs),.d (.str a),.d (.str b)] (.d (.bool (pc xs a b))):=by
 refine Spec.of_vc aQ az [.tmp 6] Tryz.func155 rfl rfl rfl rfl (fun hok=>?_)
 repeat refine ai ?_
 refine aj ?_ ?_<;>intro h0
 ·refine bd ?_
  simp only[pc,gw,h0,Bool.true_or]
 have hu:pc xs a b=(!(dv a xs==[])&&gw xs 3 (dv a xs) b):=by simp only[pc,gw,h0,Bool.false_or]
 rw[hu]
 repeat refine ai ?_
 refine ⟨fun m l h=>∃(s:Nat) (x:Bs),m=4 - s∧s≤4∧(!(dv a xs==[])&&gw xs 3 (dv a xs) b)=(bif Nat.ble 4 s then false else (!(dv x xs==[])&&gw xs (3 - s) (dv x xs) b))∧l=[(0,.d (ao xs)),(1,.d (.str x)),(2,.d (.str b)),(7,.d (.int .i64 s))]∧h=hp0,
  ⟨_,_,_,⟨0,a,rfl,by decide,rfl,rfl,rfl⟩,rfl,rfl,⟨rfl,rfl,rfl,rfl,trivial⟩,trivial,trivial⟩,?_⟩
 rintro m l hh ⟨s,x,rfl,hs,hr,rfl,rfl⟩
 repeat refine ai ?_
 refine aj ?_ ?_<;>intro h1
 ·have hs4:s<4:=by have:=of_decide_eq_true h1;omega
  rw[show Nat.ble 4 s=false from by cases e:Nat.ble 4 s;rfl;have:=Nat.le_of_ble_eq_true e;omega,cond_false] at hr
  repeat refine ai ?_
  refine oc (j8 _ _) ?_
  repeat refine ai ?_
  refine aj ?_ ?_<;>intro h2
  ·refine bd ?_
   rw[hr,h2];rfl
  ·rw[h2,Bool.not_false,Bool.true_and] at hr
   generalize dv x xs=y at*
   repeat refine ai ?_
   refine aj ?_ ?_<;>intro h3
   ·refine bd ?_
    rw[hr]
    cases (3 - s)<;>simp only[gw,h3,Bool.true_or]
   ·repeat refine ai ?_
    refine ⟨_,_,_,⟨s+1,y,rfl,hs4,?_,rfl,rfl⟩,by omega,rfl,rfl,⟨rfl,rfl,rfl,nd (AG hs4 (by decide)),trivial⟩,trivial,trivial⟩
    rw[hr]
    rcases (show s=0∨s=1∨s=2∨s=3 by omega) with rfl|rfl|rfl|rfl
    ·show (y==b||_)=_
     rw[h3];rfl
    ·show (y==b||_)=_
     rw[h3];rfl
    ·show (y==b||_)=_
     rw[h3];rfl
    ·exact h3
 ·have hs4:s=4:=by have:=of_decide_eq_false h1;omega
  subst hs4
  refine bd ?_
  rw[hr];rfl
theorem yH (xs:List GateTeam) (a b:Bs):Spec P 159 [.d (ao xs),.d (.str a),.d (.str b)] (.d (.bool (pc xs a b))):=by
 refine Spec.of_vc aQ az [.tmp 6] Tryz.func159 rfl rfl rfl rfl (fun hok=>?_)
 refine ⟨fun m l h=>∃(s:Nat) (x:Bs),m=4 - s∧s≤4∧pc xs a b=gw xs (4 - s) x b∧l=[(0,.d (ao xs)),(1,.d (.str x)),(2,.d (.str b)),(7,.d (.int .i64 s))]∧h=hp0,
  ⟨_,_,_,⟨0,a,rfl,by decide,rfl,rfl,rfl⟩,rfl,rfl,⟨rfl,rfl,rfl,rfl,trivial⟩,trivial,trivial⟩,?_⟩
 rintro m l hh ⟨s,x,rfl,hs,hr,rfl,rfl⟩
 repeat refine ai ?_
 refine aj ?_ ?_<;>intro h1
 ·have h1:(x==b)=false:=rI h1
  repeat refine ai ?_
  refine oc (gn _ _) ?_
  repeat refine ai ?_
  refine aj ?_ ?_<;>intro h2
  ·have hs4:s<4:=by
    have:=beq_eq_false_iff_ne.1 h2
    omega
   have hu:gw xs (4 - s) x b=(!(dv x xs==[])&&gw xs (4 - (s+1)) (dv x xs) b):=by
    rw[show 4 - s=(4 - (s+1))+1 from by omega]
    show (x==b||_)=_
    rw[h1];rfl
   rw[hu] at hr
   repeat refine ai ?_
   refine aj ?_ ?_<;>intro h3
   ·obtain ⟨j,hj,ej,_⟩:=cI (p:=fun t:GateTeam=>t.name==x) (xs:=xs) (decide_eq_true (by have:=of_decide_eq_false h3;omega))
    obtain ⟨_,eo⟩:=oF (n:=x) (xs:=xs) (k:=0) (j:=j) (by rw[Nat.zero_add];exact ej)
    repeat refine ai ?_
    refine aJ (e:=GateTeam.e) (xs:=xs) (hj) (ej) rfl ?_
    repeat refine ai ?_
    refine aj ?_ ?_<;>intro h4
    ·refine bd ?_
     rw[hr,eo,h4];rfl
    ·repeat refine ai ?_
     refine aJ (e:=GateTeam.e) (xs:=xs) (hj) (ej) rfl ?_
     repeat refine ai ?_
     rw[eo,h4,Bool.not_false,Bool.true_and] at hr
     repeat refine ai ?_
     exact ⟨_,_,_,⟨s+1,_,rfl,hs4,hr,rfl,rfl⟩,by omega,rfl,rfl,⟨rfl,rfl,rfl,nd (AG hs4 (by decide)),trivial⟩,trivial,trivial⟩
   ·have hn:=rI (idx_lt.symm.trans h3)
    rw[rE hn] at hr
    refine bd ?_
    rw[hr];rfl
  ·have hs4:s=4:=by
    have:=beq_iff_eq.1 h2
    omega
   subst hs4
   refine bd ?_
   rw[hr]
   exact h1.symm
 ·have h1:(x==b)=true:=nU h1
  refine bd ?_
  rw[hr]
  cases (4 - s)<;>simp only[gw,h1,Bool.true_or]
def bk (a b:Int):Int:=IntKind.i64.wrap (a+b)
theorem ue {a:Int} (h:IntKind.i64.wrap a=a):bk a 0=a:=by unfold bk;rw[Int.add_zero,h]
theorem BC (a:Int):IntKind.i64.wrap (IntKind.i64.wrap a)=IntKind.i64.wrap a:=by simp only[IntKind.wrap_i64];omega
theorem qa (a b:Int):IntKind.i64.wrap (bk a b)=bk a b:=BC _
theorem GW (c:Bool):IntKind.i64.wrap (bif c then 1 else 0)=bif c then 1 else 0:=by cases c<;>rfl
def eM (r:Bs):List GateField→List Bs→Int→Int
 |f::fs,v::vs,n=>eM r fs vs (bif f.kind==1&&f.weighs==r then bk n (iT v) else n)
 |_,_,n=>n
theorem ib {r:Bs} {fs:List GateField} {vs:List Bs} {i:Nat} {n:Int} (h:i<fs.length) (h2:i<vs.length):eM r (fs.drop i) (vs.drop i) n=eM r (fs.drop (i+1)) (vs.drop (i+1)) (bif fs[i].kind==1&&fs[i].weighs==r then bk n (iT vs[i]) else n):=by
 rw[List.drop_eq_getElem_cons h,List.drop_eq_getElem_cons h2];rfl
theorem i7 {r:Bs} {fs:List GateField} {vs:List Bs} {i:Nat} {n:Int} (h:fs.length≤i):eM r (fs.drop i) (vs.drop i) n=n:=by
 rw[List.drop_of_length_le h];rfl
def fh (L:GateLaw) (o:GateObject) (r:Bs):Int:=bif !(am L.shapes o.kind o.values.length).2||r==[] then 0 else eM r (am L.shapes o.kind o.values.length).1 o.values (bif r==o.kind then 1 else 0)
theorem wH (L:GateLaw) (o:GateObject) (r:Bs):Spec P 160 [st L.e,st o.e,.d (.str r)] (.d (.int .i64 (fh L o r))):=by
 refine Spec.of_vc aQ az [.tmp 6] Tryz.func160 rfl rfl rfl rfl (fun hok=>?_)
 have hvb:=(iA (o:=o) ⟨hok.2.1,trivial⟩).1
 repeat refine ai ?_
 refine oc (fM _ _) ?_
 repeat refine ai ?_
 refine aj ?_ ?_<;>intro h0
 ·have h0:=nU h0
  repeat refine ai ?_
  refine aj ?_ ?_<;>intro h1
  ·refine nd ?_
   simp only[fh,h0,h1,cond_true,bl]
  ·have hw:fh L o r=eM r (am L.shapes o.kind o.values.length).1 o.values (bif r==o.kind then 1 else 0):=by simp only[fh,h0,h1,cond_false,bl]
   have hfl:=(cV (xs:=L.shapes) (k:=o.kind) (n:=o.values.length)).2 h0
   rw[hw]
   generalize (am L.shapes o.kind o.values.length).1=fs at*
   repeat refine ai ?_
   refine aj ?_ ?_<;>intro h2
   ·rw[h2,cond_true]
    repeat refine ai ?_
    refine px (fs) (fun i (n:Int)=>eM r fs o.values 1=eM r (fs.drop i) (o.values.drop i) n) (fun i (n:Int)=>[(2,.d (.str r)),(4,.ptr 1 0),(9,.d (.int .i64 n)),(31,.d (ac fs)),(32,.d (.int .i64 (fs.map GateField.e).length)),(33,.d (.int .i64 i))]) (fun i (n:Int)=>⟨[(1,.cells 103 (o.e.map .d)),(0,.cells 41 (L.e.map .d))],2,0⟩) (rfl) ?_
    intro i n hi hr
    have hs:fs.length≤ap:=by omega
    repeat refine ai ?_
    refine aj ?_ ?_<;>intro g1
    ·have hlt:i<fs.length:=Y g1
     have hlt2:i<o.values.length:=by omega
     rw[ib hlt hlt2] at hr
     repeat refine ai ?_
     refine O (e:=GateField.e) (xs:=fs) (hlt) rfl ?_
     repeat refine ai ?_
     refine aj ?_ ?_<;>intro g2
     ·repeat refine ai ?_
      refine aj ?_ ?_<;>intro g3
      ·have hc:(fs[i].kind==1&&fs[i].weighs==r)=false:=by rw[nU g2,rI g3];rfl
       rw[hc,cond_false] at hr
       repeat refine ai ?_
       exact dN n hlt hs hr
      ·have hc:(fs[i].kind==1&&fs[i].weighs==r)=true:=by rw[nU g2,nU g3];rfl
       rw[hc,cond_true] at hr
       repeat refine ai ?_
       refine O (e:=eB) (xs:=o.values) (hlt2) rfl ?_
       repeat refine ai ?_
       refine oc (oU _) ?_
       repeat refine ai ?_
       exact dN (bk n (iT o.values[i])) hlt hs hr
     ·have hc:(fs[i].kind==1&&fs[i].weighs==r)=false:=by rw[rI g2];rfl
      rw[hc,cond_false] at hr
      repeat refine ai ?_
      exact dN n hlt hs hr
    ·refine nd ?_
     rw[hr,i7 (Z g1)]
   ·rw[h2,cond_false]
    repeat refine ai ?_
    refine px (fs) (fun i (n:Int)=>eM r fs o.values 0=eM r (fs.drop i) (o.values.drop i) n) (fun i (n:Int)=>[(2,.d (.str r)),(4,.ptr 1 0),(9,.d (.int .i64 n)),(31,.d (ac fs)),(32,.d (.int .i64 (fs.map GateField.e).length)),(33,.d (.int .i64 i))]) (fun i (n:Int)=>⟨[(1,.cells 103 (o.e.map .d)),(0,.cells 41 (L.e.map .d))],2,0⟩) (rfl) ?_
    intro i n hi hr
    have hs:fs.length≤ap:=by omega
    repeat refine ai ?_
    refine aj ?_ ?_<;>intro g1
    ·have hlt:i<fs.length:=Y g1
     have hlt2:i<o.values.length:=by omega
     rw[ib hlt hlt2] at hr
     repeat refine ai ?_
     refine O (e:=GateField.e) (xs:=fs) (hlt) rfl ?_
     repeat refine ai ?_
     refine aj ?_ ?_<;>intro g2
     ·repeat refine ai ?_
      refine aj ?_ ?_<;>intro g3
      ·have hc:(fs[i].kind==1&&fs[i].weighs==r)=false:=by rw[nU g2,rI g3];rfl
       rw[hc,cond_false] at hr
       repeat refine ai ?_
       exact dN n hlt hs hr
      ·have hc:(fs[i].kind==1&&fs[i].weighs==r)=true:=by rw[nU g2,nU g3];rfl
       rw[hc,cond_true] at hr
       repeat refine ai ?_
       refine O (e:=eB) (xs:=o.values) (hlt2) rfl ?_
       repeat refine ai ?_
       refine oc (oU _) ?_
       repeat refine ai ?_
       exact dN (bk n (iT o.values[i])) hlt hs hr
     ·have hc:(fs[i].kind==1&&fs[i].weighs==r)=false:=by rw[rI g2];rfl
      rw[hc,cond_false] at hr
      repeat refine ai ?_
      exact dN n hlt hs hr
    ·refine nd ?_
     rw[hr,i7 (Z g1)]
 ·refine nd ?_
  simp only[fh,h0,Bool.true_or,cond_true]
end Go.Vc
end
section
namespace Go.Vc
open Go.Proofs
set_option maxRecDepth 100000
theorem A8 {v:Bs} (h:decide (jt v>0)=true):iT v=jt v:=by
 have:=of_decide_eq_true h
 unfold jt iT at*
 cases e:d8 v with
 |none=>rw[e] at this;simp at this
 |some n=>rfl
theorem A9 {v:Bs} (h:decide (jt v>0)=false):iT v=0:=by
 have:=of_decide_eq_false h
 unfold jt iT at*
 cases e:d8 v with
 |none=>rfl
 |some n=>
  rw[e] at this
  simp only at this ⊢
  have:=np e
  omega
theorem v6 (L:GateLaw) (o:GateObject) (r:Bs):Spec P 156 [st L.e,st o.e,.d (.str r)] (.d (.int .i64 (fh L o r))):=by
 refine Spec.of_vc aQ az [.tmp 6] Tryz.func156 rfl rfl rfl rfl (fun hok=>?_)
 have hvb:=(iA (o:=o) ⟨hok.2.1,trivial⟩).1
 repeat refine ai ?_
 refine oc (fE _ _) ?_
 repeat refine ai ?_
 refine aj ?_ ?_<;>intro h0
 ·have h0:=nU h0
  repeat refine ai ?_
  refine aj ?_ ?_<;>intro h1
  ·refine nd ?_
   simp only[fh,h0,h1,cond_true,bl]
  ·have hw:fh L o r=eM r (am L.shapes o.kind o.values.length).1 o.values (bif r==o.kind then 1 else 0):=by simp only[fh,h0,h1,cond_false,bl]
   have hfl:=(cV (xs:=L.shapes) (k:=o.kind) (n:=o.values.length)).2 h0
   rw[hw]
   generalize (am L.shapes o.kind o.values.length).1=fs at*
   repeat refine ai ?_
   refine aj ?_ ?_<;>intro h2
   ·rw[h2,cond_true]
    repeat refine ai ?_
    refine px (fs) (fun i (n:Int)=>eM r fs o.values 1=eM r (fs.drop i) (o.values.drop i) n∧IntKind.i64.wrap n=n) (fun i (n:Int)=>[(2,.d (.str r)),(4,.ptr 1 0),(7,.d (ac fs)),(9,.d (.int .i64 n)),(10,.d (.int .i64 i))]) (fun i (n:Int)=>⟨[(1,.cells 103 (o.e.map .d)),(0,.cells 41 (L.e.map .d))],2,0⟩) (⟨rfl,rfl⟩) ?_
    intro i n hi hr
    obtain ⟨hr,hwn⟩:=hr
    have hs:fs.length≤ap:=by omega
    repeat refine ai ?_
    refine aj ?_ ?_<;>intro g1
    ·have hlt:i<fs.length:=Y g1
     have hlt2:i<o.values.length:=by omega
     rw[ib hlt hlt2] at hr
     repeat refine ai ?_
     refine O (e:=eB) (xs:=o.values) (hlt2) rfl ?_
     repeat refine ai ?_
     refine oc (lW _) ?_
     repeat refine ai ?_
     refine O (e:=GateField.e) (xs:=fs) (hlt) rfl ?_
     repeat refine ai ?_
     refine aj ?_ ?_<;>intro g2
     ·repeat refine ai ?_
      refine O (e:=GateField.e) (xs:=fs) (hlt) rfl ?_
      repeat refine ai ?_
      refine aj ?_ ?_<;>intro g3
      ·have hc:(fs[i].kind==1&&fs[i].weighs==r)=true:=by rw[g2];exact g3
       rw[hc,cond_true] at hr
       repeat refine ai ?_
       refine aj ?_ ?_<;>intro g4
       ·rw[A8 g4] at hr
        repeat refine ai ?_
        exact dN (bk n (jt o.values[i])) hlt hs ⟨hr,qa _ _⟩
       ·rw[A9 g4,ue hwn] at hr
        repeat refine ai ?_
        exact dN n hlt hs ⟨hr,hwn⟩
      ·have hc:(fs[i].kind==1&&fs[i].weighs==r)=false:=by rw[g2];exact g3
       rw[hc,cond_false] at hr
       repeat refine ai ?_
       exact dN n hlt hs ⟨hr,hwn⟩
     ·have hc:(fs[i].kind==1&&fs[i].weighs==r)=false:=by rw[g2];rfl
      rw[hc,cond_false] at hr
      repeat refine ai ?_
      exact dN n hlt hs ⟨hr,hwn⟩
    ·refine nd ?_
     rw[hr,i7 (Z g1)]
   ·rw[h2,cond_false]
    repeat refine ai ?_
    refine px (fs) (fun i (n:Int)=>eM r fs o.values 0=eM r (fs.drop i) (o.values.drop i) n∧IntKind.i64.wrap n=n) (fun i (n:Int)=>[(2,.d (.str r)),(4,.ptr 1 0),(7,.d (ac fs)),(9,.d (.int .i64 n)),(10,.d (.int .i64 i))]) (fun i (n:Int)=>⟨[(1,.cells 103 (o.e.map .d)),(0,.cells 41 (L.e.map .d))],2,0⟩) (⟨rfl,rfl⟩) ?_
    intro i n hi hr
    obtain ⟨hr,hwn⟩:=hr
    have hs:fs.length≤ap:=by omega
    repeat refine ai ?_
    refine aj ?_ ?_<;>intro g1
    ·have hlt:i<fs.length:=Y g1
     have hlt2:i<o.values.length:=by omega
     rw[ib hlt hlt2] at hr
     repeat refine ai ?_
     refine O (e:=eB) (xs:=o.values) (hlt2) rfl ?_
     repeat refine ai ?_
     refine oc (lW _) ?_
     repeat refine ai ?_
     refine O (e:=GateField.e) (xs:=fs) (hlt) rfl ?_
     repeat refine ai ?_
     refine aj ?_ ?_<;>intro g2
     ·repeat refine ai ?_
      refine O (e:=GateField.e) (xs:=fs) (hlt) rfl ?_
      repeat refine ai ?_
      refine aj ?_ ?_<;>intro g3
      ·have hc:(fs[i].kind==1&&fs[i].weighs==r)=true:=by rw[g2];exact g3
       rw[hc,cond_true] at hr
       repeat refine ai ?_
       refine aj ?_ ?_<;>intro g4
       ·rw[A8 g4] at hr
        repeat refine ai ?_
        exact dN (bk n (jt o.values[i])) hlt hs ⟨hr,qa _ _⟩
       ·rw[A9 g4,ue hwn] at hr
        repeat refine ai ?_
        exact dN n hlt hs ⟨hr,hwn⟩
      ·have hc:(fs[i].kind==1&&fs[i].weighs==r)=false:=by rw[g2];exact g3
       rw[hc,cond_false] at hr
       repeat refine ai ?_
       exact dN n hlt hs ⟨hr,hwn⟩
     ·have hc:(fs[i].kind==1&&fs[i].weighs==r)=false:=by rw[g2];rfl
      rw[hc,cond_false] at hr
      repeat refine ai ?_
      exact dN n hlt hs ⟨hr,hwn⟩
    ·refine nd ?_
     rw[hr,i7 (Z g1)]
 ·refine nd ?_
  simp only[fh,h0,Bool.true_or,cond_true]
def qB (L:GateLaw) (t r:Bs):List GateObject→Int→Int
 |[],n=>n
 |o::os,n=>qB L t r os (bif pc L.teams o.team t then bk n (fh L o r) else n)
def pa (L:GateLaw) (b:GateBook) (t r:Bs):Int:=qB L t r b.objects 0
theorem qz {L:GateLaw} {t r:Bs} {os:List GateObject} {i:Nat} {n:Int} (h:i<os.length):qB L t r (os.drop i) n=qB L t r (os.drop (i+1)) (bif pc L.teams os[i].team t then bk n (fh L os[i] r) else n):=by
 rw[List.drop_eq_getElem_cons h];rfl
theorem ul {L:GateLaw} {t r:Bs} {os:List GateObject} {i:Nat} {n:Int} (h:os.length≤i):qB L t r (os.drop i) n=n:=by
 rw[List.drop_of_length_le h];rfl
theorem Af (L:GateLaw) (b:GateBook) (t r:Bs):Spec P 99 [st L.e,st b.e,.d (.str t),.d (.str r)] (.d (.int .i64 (pa L b t r))):=by
 refine Spec.of_vc aQ az [.tmp 8] Tryz.func99 rfl rfl rfl rfl (fun hok=>?_)
 have hs:=(cS (dq hok.2)).1
 repeat refine ai ?_
 refine px (b.objects) (fun i (n:Int)=>pa L b t r=qB L t r (b.objects.drop i) n) (fun i (n:Int)=>[(2,.d (.str t)),(3,.d (.str r)),(4,.ptr 0 0),(5,.ptr 1 0),(9,.d (.int .i64 n)),(13,.d (aD b.objects)),(14,.d (.int .i64 (b.objects.map GateObject.e).length)),(15,.d (.int .i64 i))]) (fun i (n:Int)=>⟨[(1,.cells 48 (b.e.map .d)),(0,.cells 41 (L.e.map .d))],2,0⟩) (rfl) ?_
 intro i n hi hr
 repeat refine ai ?_
 refine aj ?_ ?_<;>intro g1
 ·have hlt:i<b.objects.length:=Y g1
  rw[qz hlt] at hr
  skip
  repeat refine ai ?_
  refine O (e:=GateObject.e) (xs:=b.objects) (hlt) rfl ?_
  repeat refine ai ?_
  refine oc (yH _ _ _) ?_
  repeat refine ai ?_
  refine aj ?_ ?_<;>intro g2
  ·rw[g2,cond_true] at hr
   skip
   skip
   repeat refine ai ?_
   refine oc (wH _ _ _) ?_
   repeat refine ai ?_
   exact dN (bk n (fh L b.objects[i] r)) hlt hs hr
  ·rw[g2,cond_false] at hr
   repeat refine ai ?_
   exact dN n hlt hs hr
 ·refine nd ?_
  rw[hr,ul (Z g1)]
theorem zu (L:GateLaw) (b:GateBook) (t r:Bs):Spec P 94 [st L.e,st b.e,.d (.str t),.d (.str r)] (.d (.int .i64 (pa L b t r))):=by
 refine Spec.of_vc aQ az [.tmp 8] Tryz.func94 rfl rfl rfl rfl (fun hok=>?_)
 have hs:=(cS (dq hok.2)).1
 repeat refine ai ?_
 refine px (b.objects) (fun i (n:Int)=>pa L b t r=qB L t r (b.objects.drop i) n) (fun i (n:Int)=>[(2,.d (.str t)),(3,.d (.str r)),(4,.ptr 0 0),(5,.ptr 1 0),(9,.d (.int .i64 n)),(10,.d (.int .i64 i))]) (fun i (n:Int)=>⟨[(1,.cells 48 (b.e.map .d)),(0,.cells 41 (L.e.map .d))],2,0⟩) (rfl) ?_
 intro i n hi hr
 repeat refine ai ?_
 refine aj ?_ ?_<;>intro g1
 ·have hlt:i<b.objects.length:=Y g1
  rw[qz hlt] at hr
  repeat refine ai ?_
  refine ak ?_
  repeat refine ai ?_
  refine O (e:=GateObject.e) (xs:=b.objects) (hlt) rfl ?_
  repeat refine ai ?_
  refine oc (xH _ _ _) ?_
  repeat refine ai ?_
  refine aj ?_ ?_<;>intro g2
  ·rw[g2,cond_true] at hr
   repeat refine ai ?_
   refine ak ?_
   repeat refine ai ?_
   refine O (e:=GateObject.e) (xs:=b.objects) (hlt) rfl ?_
   repeat refine ai ?_
   refine oc (v6 _ _ _) ?_
   repeat refine ai ?_
   exact dN (bk n (fh L b.objects[i] r)) hlt hs hr
  ·rw[g2,cond_false] at hr
   repeat refine ai ?_
   exact dN n hlt hs hr
 ·refine nd ?_
  rw[hr,ul (Z g1)]
def nj (t r:Bs):List GatePurse→Int→Int
 |[],n=>n
 |p::ps,n=>nj t r ps (bif p.team==t&&p.resource==r then bk n p.amount else n)
def EL (b:GateBook) (t r:Bs):Int:=nj t r b.purses 0
theorem Ch {t r:Bs} {os:List GatePurse} {i:Nat} {n:Int} (h:i<os.length):nj t r (os.drop i) n=nj t r (os.drop (i+1)) (bif os[i].team==t&&os[i].resource==r then bk n os[i].amount else n):=by
 rw[List.drop_eq_getElem_cons h];rfl
theorem Dv {t r:Bs} {os:List GatePurse} {i:Nat} {n:Int} (h:os.length≤i):nj t r (os.drop i) n=n:=by
 rw[List.drop_of_length_le h];rfl
theorem EF (b:GateBook) (t r:Bs):Spec P 177 [st b.e,.d (.str t),.d (.str r)] (.d (.int .i64 (EL b t r))):=by
 refine Spec.of_vc aQ az [.tmp 6] Tryz.func177 rfl rfl rfl rfl (fun hok=>?_)
 have hs:=(cS (dq hok)).2.2.2
 repeat refine ai ?_
 refine px (b.purses) (fun i (n:Int)=>EL b t r=nj t r (b.purses.drop i) n) (fun i (n:Int)=>[(1,.d (.str t)),(2,.d (.str r)),(3,.ptr 0 0),(7,.d (.int .i64 n)),(8,.d (.int .i64 i))]) (fun i (n:Int)=>⟨[(0,.cells 48 (b.e.map .d))],1,0⟩) (rfl) ?_
 intro i n hi hr
 repeat refine ai ?_
 refine aj ?_ ?_<;>intro g1
 ·have hlt:i<b.purses.length:=Y g1
  rw[Ch hlt] at hr
  repeat refine ai ?_
  refine O (e:=GatePurse.e) (xs:=b.purses) (hlt) rfl ?_
  repeat refine ai ?_
  refine aj ?_ ?_<;>intro g2
  ·repeat refine ai ?_
   refine O (e:=GatePurse.e) (xs:=b.purses) (hlt) rfl ?_
   repeat refine ai ?_
   refine aj ?_ ?_<;>intro g3
   ·rw[g2,show (b.purses[i].resource==r)=true from g3,Bool.and_true,cond_true] at hr
    repeat refine ai ?_
    refine O (e:=GatePurse.e) (xs:=b.purses) (hlt) rfl ?_
    repeat refine ai ?_
    exact dN (bk n b.purses[i].amount) hlt hs hr
   ·rw[g2,show (b.purses[i].resource==r)=false from g3,Bool.and_false,cond_false] at hr
    repeat refine ai ?_
    exact dN n hlt hs hr
  ·rw[g2,Bool.false_and,cond_false] at hr
   repeat refine ai ?_
   exact dN n hlt hs hr
 ·refine nd ?_
  rw[hr,Dv (Z g1)]
end Go.Vc
end
section
namespace Go.Vc
open Go.Proofs
abbrev gv:=Bs×Bs
def tN (k:gv):List D:=[.str k.1,.str k.2]
def jE (e:gv×Int):List D×AV:=(tN e.1,.d (.int .i64 e.2))
def pD (k k':gv):Bool:=k.1==k'.1&&k.2==k'.2
def pT:List (gv×Int)→gv→Int→List (gv×Int)
 |[],k,v=>[(k,v)]
 |(k',a)::r,k,v=>bif pD k k' then (k',v)::r else (k',a)::pT r k v
def cU:List (gv×Int)→gv→Option Int
 |[],_=>none
 |(k',a)::r,k=>bif pD k k' then some a else cU r k
def sJ:List (gv×Int)→gv→Int→List (gv×Int)
 |[],_,_=>[]
 |(k',a)::r,k,v=>bif pD k k' then (k',bk a v)::r else (k',a)::sJ r k v
theorem wy (k k':gv):dd (tN k) (tN k')=pD k k':=rfl
theorem yq (k:gv) (v:Int):∀en:List (gv×Int),bP (en.map jE) (tN k) (.d (.int .i64 v))=(pT en k v).map jE
 |[]=>rfl
 |(k',a)::r=>by
  simp only[List.map_cons,jE,bP,wy,pT]
  cases pD k k' with
  |true=>rfl
  |false=>
   simp only[cond_false,List.map_cons,jE,List.cons.injEq,true_and]
   exact yq k v r
theorem uH (k:gv):∀en:List (gv×Int),aH (en.map jE) (tN k)=(cU en k).map fun v=> .d (.int .i64 v)
 |[]=>rfl
 |(k',a)::r=>by
  simp only[List.map_cons,jE,aH,wy,cU]
  cases pD k k' with
  |true=>rfl
  |false=>exact uH k r
theorem Bd {k:gv} {v:Int}:∀{en:List (gv×Int)} {i:Nat},cU en k=some v→∃j,∃k':gv,eG (en.map jE) (tN k) i=some (i+j,.d (.int .i64 v))∧en[j]? =some (k',v)∧∀x,sJ en k x=en.set j (k',bk v x)
 |[],i,h=>by cases h
 |(k',a)::r,i,h=>by
  simp only[List.map_cons,jE,eG,wy]
  simp only[cU] at h
  cases he:pD k k' with
  |true=>
   rw[he,cond_true] at h
   cases h
   exact ⟨0,k',rfl,rfl,fun x=>by simp only[sJ,he,cond_true,List.set_cons_zero]⟩
  |false=>
   rw[he,cond_false] at h
   obtain ⟨j,k2,h1,h2,h3⟩:=Bd (i:=i+1) h
   exact ⟨j+1,k2,by rw[h1,show i+1+j=i+(j+1) from by omega],h2,fun x=>by simp only[sJ,he,cond_false,h3,List.set_cons_succ]⟩
theorem rS (n:Nat):∀en:List (gv×Int),ER n (en.map jE)
 |[]=>trivial
 |e::r=>⟨rfl,rS n r⟩
theorem eqA_iff {k k':gv}:pD k k'=true↔k=k':=by
 obtain ⟨a,b⟩:=k
 obtain ⟨c,d⟩:=k'
 simp[pD]
theorem sB (k:gv):pD k k=true:=eqA_iff.2 rfl
theorem FR {k k':gv} (h:k≠k'):pD k k'=false:=by
 cases e:pD k k' with
 |false=>rfl
 |true=>exact absurd (eqA_iff.1 e) h
theorem rT (k:gv) (v:Int):∀(en:List (gv×Int)) (k':gv),cU (pT en k v) k'=bif pD k' k then some v else cU en k'
 |[],k'=>by simp only[pT,cU]
 |(k2,a)::r,k'=>by
  simp only[pT]
  cases he:pD k k2 with
  |true=>
   rw[cond_true]
   simp only[cU]
   rw[eqA_iff.1 he]
   cases pD k' k2<;>rfl
  |false=>
   rw[cond_false]
   simp only[cU]
   cases h2:pD k' k2 with
   |true=>
    rw[cond_true,cond_true]
    rw[eqA_iff.1 h2]
    have:pD k2 k=false:=by
     cases e:pD k2 k with
     |false=>rfl
     |true=>rw[eqA_iff.1 e,sB] at he;cases he
    rw[this];rfl
   |false=>rw[cond_false,cond_false];exact rT k v r k'
theorem yx (k:gv) (x:Int):∀(en:List (gv×Int)) (k':gv),cU (sJ en k x) k'=(cU en k').map fun v=>bif pD k' k then bk v x else v
 |[],k'=>rfl
 |(k2,a)::r,k'=>by
  simp only[sJ]
  cases he:pD k k2 with
  |true=>
   rw[cond_true]
   simp only[cU]
   have e:=eqA_iff.1 he
   subst e
   cases h2:pD k' k with
   |true=>rfl
   |false=>
    simp only[cond_false]
    cases cU r k'<;>rfl
  |false=>
   rw[cond_false]
   simp only[cU]
   cases h2:pD k' k2 with
   |true=>
    have e:=eqA_iff.1 h2
    subst e
    have:pD k' k=false:=by
     cases e:pD k' k with
     |false=>rfl
     |true=>rw[eqA_iff.1 e,sB] at he;cases he
    simp[this]
   |false=>rw[cond_false,cond_false];exact yx k x r k'
def p9 (g:GateLedger):gv:=(g.team,g.resource)
def Eu (p:GatePurse):gv:=(p.team,p.resource)
def E6 (f:GateLedger→Int) (gs:List GateLedger):List (gv×Int):=gs.foldl (fun en g=>pT en (p9 g) (f g)) []
def Ex (en:List (gv×Int)) (ps:List GatePurse):List (gv×Int):=ps.foldl (fun en p=>sJ en (Eu p) p.amount) en
theorem D7 (f:GateLedger→Int) (gs:List GateLedger) (g:GateLedger):E6 f (gs++[g])=pT (E6 f gs) (p9 g) (f g):=by simp[E6]
theorem D5 (en:List (gv×Int)) (ps:List GatePurse) (p:GatePurse):Ex en (ps++[p])=sJ (Ex en ps) (Eu p) p.amount:=by simp[Ex]
theorem rW (k:gv):∀(ps:List GatePurse) (en:List (gv×Int)),cU (Ex en ps) k=(cU en k).map fun v=>nj k.1 k.2 ps v
 |[],en=>by simp[Ex,nj]
 |p::ps,en=>by
  show cU (Ex (sJ en (Eu p) p.amount) ps) k=_
  rw[rW k ps,yx]
  cases cU en k with
  |none=>rfl
  |some v=>
   simp only[Option.map_some,nj]
   congr 2
   have:pD k (Eu p)=(p.team==k.1&&p.resource==k.2):=by
    simp only[pD,Eu]
    rw[BEq.comm (a:=k.1),BEq.comm (a:=k.2)]
   rw[this]
def EC (t r:Bs):List GatePurse→Int
 |[]=>0
 |p::ps=>(bif p.team==t&&p.resource==r then p.amount else 0)+EC t r ps
theorem ni (t r:Bs):∀(ps:List GatePurse) (n:Int),IntKind.i64.wrap n=n→nj t r ps n=IntKind.i64.wrap (n+EC t r ps)
 |[],n,h=>by simp only[nj,EC,Int.add_zero,h]
 |p::ps,n,h=>by
  simp only[nj,EC]
  cases p.team==t&&p.resource==r with
  |false=>rw[cond_false,cond_false,ni t r ps n h,Int.zero_add]
  |true=>
   rw[cond_true,cond_true,ni t r ps _ (qa _ _)]
   unfold bk
   simp only[IntKind.wrap_i64]
   omega
theorem Cg (t r:Bs) (ps:List GatePurse) (a b:Int):nj t r ps (bk a b)=bk (bk b (nj t r ps 0)) a:=by
 rw[ni t r ps _ (qa _ _),ni t r ps 0 rfl]
 unfold bk
 simp only[IntKind.wrap_i64]
 omega
theorem Cp (a b:Bs):gl a b a b=false:=by simp[gl,fT]
theorem yv {a b c d e f:Bs} (h:gl a b c d=true) (k:gl c d e f=true):gl a b e f=true:=by
 simp only[gl,Bool.or_eq_true,Bool.and_eq_true,beq_iff_eq] at h k ⊢
 rcases h with h|⟨rfl,h⟩
 ·rcases k with k|⟨rfl,k⟩
  ·exact .inl (hP h k)
  ·exact .inl h
 ·rcases k with k|⟨rfl,k⟩
  ·exact .inl k
  ·exact .inr ⟨rfl,hP h k⟩
def nb (p:Option GateLedger) (g:GateLedger):Bool:=match p with|some q=>gl q.team q.resource g.team g.resource|none=>true
theorem vh:∀{gs:List GateLedger} {q:GateLedger},ar nb (some q) gs=true→∀g∈gs,gl q.team q.resource g.team g.resource=true
 |[],_,_,g,h=>by cases h
 |x::gs,q,hc,g,h=>by
  simp only[ar,nb,Bool.and_eq_true] at hc
  rcases List.mem_cons.1 h with rfl|h
  ·exact hc.1
  ·exact yv hc.1 (vh hc.2 g h)
theorem yV (f:GateLedger→Int) (k:gv):∀(gs:List GateLedger) (en:List (gv×Int)),(∀g∈gs,p9 g≠k)→cU (gs.foldl (fun en g=>pT en (p9 g) (f g)) en) k=cU en k
 |[],en,_=>rfl
 |g::gs,en,h=>by
  rw[List.foldl_cons,yV f k gs _ (fun x hx=>h x (List.mem_cons_of_mem _ hx)),rT,FR (fun e=>h g List.mem_cons_self e.symm)]
  rfl
theorem sC (f:GateLedger→Int):∀{gs:List GateLedger} {p:Option GateLedger} (en:List (gv×Int)),ar nb p gs=true→∀g∈gs,cU (gs.foldl (fun en g=>pT en (p9 g) (f g)) en) (p9 g)=some (f g)
 |[],_,_,_,g,h=>by cases h
 |x::gs,p,en,hc,g,h=>by
  simp only[ar,Bool.and_eq_true] at hc
  rw[List.foldl_cons]
  rcases List.mem_cons.1 h with rfl|h
  ·rw[yV f (p9 g) gs _ (fun y hy e=>?_),rT,sB]
   ·rfl
   ·have:=vh hc.2 y hy
    simp only[p9,Prod.mk.injEq] at e
    rw[e.1,e.2,Cp] at this
    cases this
  ·exact sC f _ hc.2 g h
theorem gL {α:Type} {r r':Option α→α→Bool} (h:∀p x,r p x=true→r' p x=true):∀{xs:List α} {p:Option α},ar r p xs=true→ar r' p xs=true
 |[],_,_=>rfl
 |x::xs,p,hc=>by
  simp only[ar,Bool.and_eq_true] at hc ⊢
  exact ⟨h _ _ hc.1,gL h hc.2⟩
theorem vd {α:Type} {r:Option α→α→Bool} {q:α→Bool}:∀{xs:List α} {p:Option α},ar (fun p x=>r p x&&q x) p xs=(ar r p xs&&xs.all q)
 |[],_=>rfl
 |x::xs,p=>by
  simp only[ar,List.all_cons,vd (xs:=xs)]
  cases r p x<;>cases q x<;>simp
end Go.Vc
end
section
namespace Go.Vc
open Go.Proofs
set_option maxRecDepth 100000
def gm (L:GateLaw) (p:Option GateLedger) (g:GateLedger):Bool:=nb p g&&(L.teams.any (·.name==g.team)&&(aI g.resource&&(!decide (g.free<0)&&(!decide (g.free>g.most)&& !decide (g.most>1000000)))))
def lu (p:Option GatePurse) (x:GatePurse):Bool:=match p with|some q=>bQ q x|none=>true
def kf (b:GateBook) (p:Option GatePurse) (x:GatePurse):Bool:=lu p x&&(b.ledgers.any (fun g=>g.team==x.team&&g.resource==x.resource)&&(aI x.door&&(ee x.amount 1 1000000&&ee x.until_ b.tick (bk b.tick 10))))
def tA (L:GateLaw) (b:GateBook) (g:GateLedger):Bool:=bk (bk (pa L b g.team g.resource) (EL b g.team g.resource)) g.free==g.most
def g9 (L:GateLaw) (b:GateBook):Bool:= !decide ((b.ledgers.length:Int)>10)&&(!decide ((b.purses.length:Int)>24)&&(ar (gm L) none b.ledgers&&(ar (kf b) none b.purses&&b.ledgers.all (tA L b))))
def xp (L:GateLaw) (b:GateBook) (g:GateLedger):Int:=bk g.free (pa L b g.team g.resource)
theorem uK {L:GateLaw}:∀(p:Option GateLedger) (g:GateLedger),gm L p g=true→nb p g=true:=fun p g h=>by
 simp only[gm,Bool.and_eq_true] at h;exact h.1
theorem CZ {L:GateLaw} {b:GateBook} (h:ar (gm L) none b.ledgers=true) {g:GateLedger} (hg:g∈b.ledgers):∃v,cU (Ex (E6 (xp L b) b.ledgers) b.purses) (p9 g)=some v∧(v==g.most)=tA L b g:=by
 have h1:=sC (xp L b) [] (gL uK h) g hg
 refine ⟨_,by rw[rW];unfold E6;rw[h1];rfl,?_⟩
 unfold tA xp EL
 simp only[p9]
 rw[Cg]
theorem D6 {E:List (gv×Int)} {k:gv} (h:(cU E k).isSome) (ps:List GatePurse):∃v,cU (Ex E ps) k=some v:=by
 obtain ⟨v,e⟩:=Option.isSome_iff_exists.1 h
 exact ⟨_,by rw[rW,e];rfl⟩
theorem FF {t:Nat} {tk:TK} {E:List (gv×Int)} {a c:Bs} {v:Int}:some (AO.map t tk (bP (E.map jE) [.str a,.str c] (.d (.int .i64 v))))=some (AO.map t tk ((pT E (a,c) v).map jE)):=by
 rw[show ([D.str a,D.str c]:List D)=tN (a,c) from rfl,yq]
theorem yw (a b c d:Bs):gl a b c d= !(!(Op.bytesLess a c||a==c)||(a==c&& !Op.bytesLess b d)):=by rw[uI,Bool.not_not]
theorem Bf {E:List (gv×Int)} {a c:Bs} {v:Int} (h:cU E (a,c)=some v):aH (E.map jE) [.str a,.str c]=some (.d (.int .i64 v)):=by
 rw[show ([D.str a,D.str c]:List D)=tN (a,c) from rfl,uH,h];rfl
theorem D3 {E:List (gv×Int)} {a c:Bs} {v:Int} (h:cU E (a,c)=some v):∃j,∃k':gv,eG (E.map jE) [.str a,.str c] 0=some (j,.d (.int .i64 v))∧(E.map jE)[(((j:Nat):Int)).toNat]? =some (tN k',.d (.int .i64 v))∧
 ∀t tk x,some (AO.map t tk ((E.map jE).set (((j:Nat):Int)).toNat (tN k',.d (.int .i64 (IntKind.i64.wrap (v+x))))))=some (AO.map t tk ((sJ E (a,c) x).map jE)):=by
 obtain ⟨j,k',h1,h2,h3⟩:=Bd (i:=0) h
 rw[Nat.zero_add] at h1
 refine ⟨j,k',h1,?_,fun t tk x=>?_⟩
 ·rw[Int.toNat_natCast,List.getElem?_map,h2];rfl
 ·rw[h3,List.map_set,Int.toNat_natCast];rfl
theorem Dk {L:GateLaw} {b:GateBook} (h:ar (gm L) none b.ledgers=true) {p:Option GatePurse} {x:GatePurse} (hx:kf b p x=true) (ps:List GatePurse):∃v,cU (Ex (E6 (xp L b) b.ledgers) ps) (x.team,x.resource)=some v:=by
 simp only[kf,Bool.and_eq_true] at hx
 obtain ⟨g,hg,hk⟩:=List.any_eq_true.1 hx.2.1
 simp only[Bool.and_eq_true,beq_iff_eq] at hk
 have h1:=sC (xp L b) [] (gL uK h) g hg
 refine D6 ?_ ps
 rw[←hk.1,←hk.2]
 show (cU (E6 (xp L b) b.ledgers) (p9 g)).isSome
 unfold E6;rw[h1];rfl
set_option maxHeartbeats 4000000 in
theorem DP (L:GateLaw) (b:GateBook):Spec P 128 [st b.e,st L.e] (.d (.bool (g9 L b))):=by
 refine Spec.of_vc aQ az [.tmp 4] Tryz.func128 rfl rfl rfl rfl (fun hok=>?_)
 have hsl:=(cS (dq hok)).2.2.1
 have hsp:=(cS (dq hok)).2.2.2
 repeat refine ai ?_
 refine aj ?_ ?_<;>intro h0
 ·have h0':decide ((b.ledgers.length:Int)>10)=false:=by rw[List.length_map] at h0;exact h0
  repeat refine ai ?_
  refine aj ?_ ?_<;>intro h00
  ·have h00:decide ((b.purses.length:Int)>24)=true:=by simp only[cond_false,List.length_map] at h00;exact h00
   refine bd ?_
   rw[g9,h0',h00];rfl
  have h00:decide ((b.purses.length:Int)>24)=false:=by simp only[cond_false,List.length_map] at h00;exact h00
  have hob:g9 L b=(ar (gm L) none b.ledgers&&(ar (kf b) none b.purses&&b.ledgers.all (tA L b))):=by rw[g9,h0',h00];rfl
  rw[hob]
  repeat refine ai ?_
  refine px (b.ledgers) (fun i (E:List (gv×Int))=>E=E6 (xp L b) (b.ledgers.take i)∧ar (gm L) none b.ledgers=ar (gm L) (cK b.ledgers i) (b.ledgers.drop i)) (fun i (E:List (gv×Int))=>[(2,.ptr 0 0),(3,.ptr 1 0),(5,.mapr 2),(26,.d (aK b.ledgers)),(27,.d (.int .i64 (b.ledgers.map GateLedger.e).length)),(28,.d (.int .i64 i))]) (fun i (E:List (gv×Int))=>⟨[(2,.map 224 .pair (E.map jE)),(1,.cells 41 (L.e.map .d)),(0,.cells 48 (b.e.map .d))],3,0⟩) (⟨rfl,rfl⟩) ?_ ⟨rfl,rfl,⟨rfl,rfl,rfl,rfl,rfl,rfl,trivial⟩,(by repeat' first|exact rfl|exact trivial|exact rS _ _|refine aj ?_ ?_),(by repeat' first|exact rfl|exact trivial|refine aj ?_ ?_)⟩
  intro i E hi hr
  obtain ⟨hE,hr⟩:=hr
  repeat refine ai ?_
  refine aj ?_ ?_<;>intro h1
  ·have hlt:i<b.ledgers.length:=Y h1
   rw[ec hlt] at hr
   repeat refine ai ?_
   refine O (e:=GateLedger.e) (xs:=b.ledgers) (hlt) rfl ?_
   repeat refine ai ?_
   repeat' first
    |refine ai ?_
    |(refine n1 ?_;intro h)
    |(refine n2 ?_;intro h)
    |(refine n3 ?_;intro h)
    |(refine n4 ?_;intro h)
    |(refine aj ?_ ?_<;>intro h)
    |refine oc (gn _ _) ?_
    |refine oc (cG _) ?_
    |refine aJ (e:=GateLedger.e) (xs:=b.ledgers) (k:=i - 1) (by omega) (bb (mh (by assumption)) hlt hsl) rfl ?_
   all_goals (simp only[cond_false,cond_true,Bool.not_eq_true',Bool.not_eq_false',reduceCtorEq,idx_lt] at*)
   all_goals first
    |(refine bd ?_
      rw[hr]
      clear hr hE hob h0 h0' h00
      first|rw[co (mh (by assumption)) hlt]|rw[cq (pV (by assumption))]
      simp_all only[gm,nb,yw,Bool.true_and,Bool.and_true,Bool.false_and,Bool.and_false,Bool.true_or,Bool.or_true,Bool.false_or,Bool.or_false,Bool.not_true,Bool.not_false]
      done)
    |(refine (fun hq:gm L (cK b.ledgers i) b.ledgers[i]=true=>?_) ?_
      rotate_left
      ·clear hr hE hob h0 h0' h00
       first|rw[co (mh (by assumption)) hlt]|rw[cq (pV (by assumption))]
       simp_all only[gm,nb,yw,Bool.true_and,Bool.and_true,Bool.false_and,Bool.and_false,Bool.true_or,Bool.or_true,Bool.false_or,Bool.or_false,Bool.not_true,Bool.not_false]
       done
      ·rw[hq,Bool.true_and] at hr
       repeat refine ai ?_
       refine Ey ?_
       repeat refine ai ?_
       refine oc (Af _ _ _ _) ?_
       repeat refine ai ?_
       exact dN (pT E (p9 b.ledgers[i]) (xp L b b.ledgers[i])) hlt hsl ⟨by rw[hE,List.take_succ_eq_append_getElem hlt,D7],hr⟩ fun hw=>by repeat' first|exact rfl|exact trivial|exact nd hw|exact FF|exact rS _ _|refine aj ?_ ?_
     )
  ·rw[fa (Z h1)] at hr
   rw[List.take_of_length_le (Z h1)] at hE
   rw[hr,Bool.true_and]
   have hC:=hr
   clear hr
   repeat refine ai ?_
   refine px (b.purses) (fun i (F:List (gv×Int))=>F=Ex E (b.purses.take i)∧ar (kf b) none b.purses=ar (kf b) (cK b.purses i) (b.purses.drop i)) (fun i (F:List (gv×Int))=>[(2,.ptr 0 0),(5,.mapr 2),(107,.d (aG b.purses)),(108,.d (.int .i64 (b.purses.map GatePurse.e).length)),(109,.d (.int .i64 i))]) (fun i (F:List (gv×Int))=>⟨[(2,.map 224 .pair (F.map jE)),(0,.cells 48 (b.e.map .d))],3,0⟩) (⟨rfl,rfl⟩) ?_ ⟨rfl,rfl,⟨rfl,rfl,rfl,rfl,rfl,trivial⟩,(by repeat' first|exact rfl|exact trivial|exact rS _ _|refine aj ?_ ?_),(by repeat' first|exact rfl|exact trivial|refine aj ?_ ?_)⟩
   intro i F hi hr
   obtain ⟨hF,hr⟩:=hr
   repeat refine ai ?_
   refine aj ?_ ?_<;>intro h2
   ·have hlt:i<b.purses.length:=Y h2
    rw[ec hlt] at hr
    repeat refine ai ?_
    refine O (e:=GatePurse.e) (xs:=b.purses) (hlt) rfl ?_
    repeat refine ai ?_
    repeat' first
      |refine ai ?_
      |(refine n1 ?_;intro h)
      |(refine n2 ?_;intro h)
      |(refine n3 ?_;intro h)
      |(refine n4 ?_;intro h)
      |(refine aj ?_ ?_<;>intro h)
      |refine oc (lz _ _) ?_
      |refine oc (yE _ _ _) ?_
      |refine oc (cG _) ?_
      |refine ak ?_
      |refine aJ (e:=GatePurse.e) (xs:=b.purses) (k:=i - 1) (by omega) (bb (mh (by assumption)) hlt hsp) rfl ?_
    all_goals (simp only[cond_false,cond_true,Bool.not_eq_true',Bool.not_eq_false',reduceCtorEq,idx_lt] at*)
    all_goals first
      |(refine bd ?_
        rw[hr]
        clear hr hE hob h0 h0' h00 hF hC
        first|rw[co (mh (by assumption)) hlt]|rw[cq (pV (by assumption))]
        simp_all only[kf,lu,nD,bk,Bool.true_and,Bool.and_true,Bool.false_and,Bool.and_false,Bool.true_or,Bool.or_true,Bool.false_or,Bool.or_false,Bool.not_true,Bool.not_false]
        done)
      |(refine (fun hq:kf b (cK b.purses i) b.purses[i]=true=>?_) ?_
        rotate_left
        ·clear hr hE hob h0 h0' h00 hF hC
         first|rw[co (mh (by assumption)) hlt]|rw[cq (pV (by assumption))]
         simp_all only[kf,lu,nD,bk,Bool.true_and,Bool.and_true,Bool.false_and,Bool.and_false,Bool.true_or,Bool.or_true,Bool.false_or,Bool.or_false,Bool.not_true,Bool.not_false]
         done
        ·rw[hq,Bool.true_and] at hr
         obtain ⟨v,hv⟩:=Dk hC hq (b.purses.take i)
         rw[←hE,←hF] at hv
         obtain ⟨j,k',g1,g2,g3⟩:=D3 hv
         refine ⟨_,Bf hv,?_⟩
         repeat first|refine ai ?_|refine aj trivial ?_
         refine ⟨_,g1,?_⟩
         repeat first|refine ai ?_|refine aj trivial ?_
         refine ⟨Int.natCast_nonneg _,_,g2,?_⟩
         repeat refine ai ?_
         exact dN (sJ F (b.purses[i].team,b.purses[i].resource) b.purses[i].amount) hlt hsp ⟨by rw[hF,List.take_succ_eq_append_getElem hlt,D5];rfl,hr⟩ fun hw=>by repeat' first|exact rfl|exact trivial|exact nd hw|exact g3 _ _ _|exact rS _ _|refine aj ?_ ?_
       )
   ·rw[fa (Z h2)] at hr
    rw[List.take_of_length_le (Z h2)] at hF
    rw[hr,Bool.true_and]
    clear hr
    repeat refine ai ?_
    refine dU (b.ledgers) (fun i=>b.ledgers.all (tA L b)=(b.ledgers.drop i).all (tA L b)) (fun i=>[(5,.mapr 2),(180,.d (aK b.ledgers)),(181,.d (.int .i64 (b.ledgers.map GateLedger.e).length)),(182,.d (.int .i64 i))]) (fun i=>⟨[(2,.map 224 .pair (F.map jE))],3,0⟩) (rfl) ?_ ⟨rfl,rfl,⟨rfl,rfl,rfl,rfl,trivial⟩,(by repeat' first|exact rfl|exact trivial|exact rS _ _|refine aj ?_ ?_),(by repeat' first|exact rfl|exact trivial|refine aj ?_ ?_)⟩
    intro i hi hr
    repeat refine ai ?_
    refine aj ?_ ?_<;>intro h3
    ·have hlt:i<b.ledgers.length:=Y h3
     rw[aL hlt] at hr
     obtain ⟨v,hv,hs⟩:=CZ hC (List.getElem_mem hlt)
     rw[←hE,←hF] at hv
     repeat refine ai ?_
     refine O (e:=GateLedger.e) (xs:=b.ledgers) (hlt) rfl ?_
     repeat refine ai ?_
     refine ak ?_
     repeat refine ai ?_
     refine ⟨_,Bf hv,?_⟩
     repeat refine ai ?_
     refine aj ?_ ?_<;>intro h4
     ·refine bd ?_
      rw[hr,←hs,rI h4];rfl
     ·rw[←hs,nU h4,Bool.true_and] at hr
      repeat refine ai ?_
      exact bV hlt hsl hr fun hw=>⟨rfl,rfl,⟨rfl,rfl,rfl,nd hw,trivial⟩,(by repeat' first|exact rfl|exact trivial|exact rS _ _|refine aj ?_ ?_),(by repeat' first|exact rfl|exact trivial|refine aj ?_ ?_)⟩
    ·refine bd ?_
     rw[hr,ct (Z h3)]
 ·refine bd ?_
  rw[List.length_map] at h0
  rw[g9,h0];rfl
end Go.Vc
end
section
namespace Go.Vc
open Go.Proofs
set_option maxRecDepth 100000
def sb (L:GateLaw) (b:GateBook) (p:Option GateLedger) (g:GateLedger):Bool:=gm L p g&&tA L b g
set_option maxHeartbeats 4000000 in
theorem zp (L:GateLaw) (b:GateBook):Spec P 117 [st L.e,st b.e] (.d (.bool (g9 L b))):=by
 refine Spec.of_vc aQ az [.tmp 4] Tryz.func117 rfl rfl rfl rfl (fun hok=>?_)
 have hsl:=(cS hok.2).2.2.1
 have hsp:=(cS hok.2).2.2.2
 repeat refine ai ?_
 refine aj ?_ ?_<;>intro h0
 ·have h0':decide ((b.ledgers.length:Int)>10)=false:=by rw[List.length_map] at h0;exact h0
  repeat refine ai ?_
  refine aj ?_ ?_<;>intro h00
  ·have h00:decide ((b.purses.length:Int)>24)=true:=by simp only[cond_false,List.length_map] at h00;exact h00
   refine bd ?_
   rw[g9,h0',h00];rfl
  have h00:decide ((b.purses.length:Int)>24)=false:=by simp only[cond_false,List.length_map] at h00;exact h00
  have hob:g9 L b=(ar (kf b) none b.purses&&ar (sb L b) none b.ledgers):=by
   rw[g9,h0',h00]
   rw[show ar (sb L b) none b.ledgers=(ar (gm L) none b.ledgers&&b.ledgers.all (tA L b)) from vd]
   cases ar (gm L) none b.ledgers<;>cases ar (kf b) none b.purses<;>rfl
  rw[hob]
  repeat refine ai ?_
  refine dU (b.purses) (fun i=>ar (kf b) none b.purses=ar (kf b) (cK b.purses i) (b.purses.drop i)) (fun i=>[(2,.ptr 0 0),(3,.ptr 1 0),(5,.d (.int .i64 i))]) (fun i=>⟨[(1,.cells 48 (b.e.map .d)),(0,.cells 41 (L.e.map .d))],2,0⟩) (rfl) ?_
  intro i hi hr
  repeat refine ai ?_
  refine aj ?_ ?_<;>intro h1
  ·have hlt:i<b.purses.length:=Y h1
   rw[ec hlt] at hr
   repeat refine ai ?_
   refine O (e:=GatePurse.e) (xs:=b.purses) (hlt) rfl ?_
   repeat refine ai ?_
   refine ak ?_
   repeat refine ai ?_
   repeat' first
    |refine ai ?_
    |(refine n1 ?_;intro h)
    |(refine n2 ?_;intro h)
    |(refine n3 ?_;intro h)
    |(refine n4 ?_;intro h)
    |(refine aj ?_ ?_<;>intro h)
    |refine oc (bo _) ?_
    |refine oc (rf _ _ _) ?_
    |refine oc (d7 _ _ _) ?_
    |refine oc (mW _ _) ?_
    |refine ak ?_
    |refine aJ (e:=GatePurse.e) (xs:=b.purses) (k:=i - 1) (by omega) (bb (mh (by assumption)) hlt hsp) rfl ?_
   all_goals (simp only[cond_false,cond_true,Bool.not_eq_true',Bool.not_eq_false',reduceCtorEq,idx_lt,kP] at*)
   all_goals first
    |(refine bd ?_
      rw[hr]
      clear hr hob h0 h0' h00
      first|rw[co (mh (by assumption)) hlt]|rw[cq (pV (by assumption))]|skip
      simp_all only[kf,lu,bk,Bool.true_and,Bool.and_true,Bool.false_and,Bool.and_false,Bool.true_or,Bool.or_true,Bool.false_or,Bool.or_false,Bool.not_true,Bool.not_false]
      done)
    |(refine (fun hq:kf b (cK b.purses i) b.purses[i]=true=>?_) ?_
      rotate_left
      ·clear hr hob h0 h0' h00
       first|rw[co (mh (by assumption)) hlt]|rw[cq (pV (by assumption))]
       simp_all only[kf,lu,bk,Bool.true_and,Bool.and_true,Bool.false_and,Bool.and_false,Bool.true_or,Bool.or_true,Bool.false_or,Bool.or_false,Bool.not_true,Bool.not_false]
       done
      ·rw[hq,Bool.true_and] at hr
       repeat first|refine ai ?_|refine aj trivial ?_
       exact ⟨_,_,_,⟨i+1,rfl,hlt,hr,rfl,rfl⟩,by omega,rfl,rfl,⟨rfl,rfl,nd (V hlt hsp),trivial⟩,(by repeat' first|exact rfl|exact trivial|refine aj ?_ ?_),(by repeat' first|exact rfl|exact trivial|refine aj ?_ ?_)⟩
     )
  ·rw[fa (Z h1)] at hr
   rw[hr,Bool.true_and]
   clear hr
   repeat refine ai ?_
   refine dU (b.ledgers) (fun i=>ar (sb L b) none b.ledgers=ar (sb L b) (cK b.ledgers i) (b.ledgers.drop i)) (fun i=>[(2,.ptr 0 0),(3,.ptr 1 0),(7,.d (.int .i64 i))]) (fun i=>⟨[(1,.cells 48 (b.e.map .d)),(0,.cells 41 (L.e.map .d))],2,0⟩) (rfl) ?_
   intro i hi hr
   repeat refine ai ?_
   refine aj ?_ ?_<;>intro h2
   ·have hlt:i<b.ledgers.length:=Y h2
    rw[ec hlt] at hr
    repeat refine ai ?_
    refine O (e:=GateLedger.e) (xs:=b.ledgers) (hlt) rfl ?_
    repeat refine ai ?_
    repeat' first
      |refine ai ?_
      |(refine n1 ?_;intro h)
      |(refine n2 ?_;intro h)
      |(refine n3 ?_;intro h)
      |(refine n4 ?_;intro h)
      |(refine aj ?_ ?_<;>intro h)
      |refine oc (bo _) ?_
      |refine oc (mX _ _) ?_
      |refine oc (vX _ _ _ _) ?_
      |refine oc (zu _ _ _ _) ?_
      |refine oc (EF _ _ _) ?_
      |refine ak ?_
      |refine aJ (e:=GateLedger.e) (xs:=b.ledgers) (k:=i - 1) (by omega) (bb (mh (by assumption)) hlt hsl) rfl ?_
    all_goals (simp only[cond_false,cond_true,Bool.not_eq_true',Bool.not_eq_false',reduceCtorEq,idx_lt,qb] at*)
    all_goals (try simp only[bne,Bool.not_eq_true',Bool.not_eq_false'] at*)
    all_goals first
      |(refine bd ?_
        rw[hr]
        clear hr hob h0 h0' h00
        first|rw[co (mh (by assumption)) hlt]|rw[cq (pV (by assumption))]|skip
        simp_all only[sb,gm,tA,nb,bk,Bool.true_and,Bool.and_true,Bool.false_and,Bool.and_false,Bool.true_or,Bool.or_true,Bool.false_or,Bool.or_false,Bool.not_true,Bool.not_false]
        done)
      |(refine (fun hq:sb L b (cK b.ledgers i) b.ledgers[i]=true=>?_) ?_
        rotate_left
        ·clear hr hob h0 h0' h00
         first|rw[co (mh (by assumption)) hlt]|rw[cq (pV (by assumption))]
         simp_all only[sb,gm,tA,nb,bk,Bool.true_and,Bool.and_true,Bool.false_and,Bool.and_false,Bool.true_or,Bool.or_true,Bool.false_or,Bool.or_false,Bool.not_true,Bool.not_false]
         done
        ·rw[hq,Bool.true_and] at hr
         repeat first|refine ai ?_|refine aj trivial ?_
         exact ⟨_,_,_,⟨i+1,rfl,hlt,hr,rfl,rfl⟩,by omega,rfl,rfl,⟨rfl,rfl,nd (V hlt hsl),trivial⟩,(by repeat' first|exact rfl|exact trivial|refine aj ?_ ?_),(by repeat' first|exact rfl|exact trivial|refine aj ?_ ?_)⟩
       )
   ·refine bd ?_
    rw[hr,fa (Z h2)]
 ·refine bd ?_
  rw[List.length_map] at h0
  rw[g9,h0];rfl
end Go.Vc
end
section
namespace Go.Vc
open Go.Proofs
set_option maxRecDepth 100000
def nB (l:GateLaw):Bool:=bB l.shapes l.mends&&fU l.teams
theorem xI (l:GateLaw):Spec P 114 [st l.e] (.d (.bool (nB l))):=by
 refine Spec.of_vc aQ az [.tmp 2] Tryz.func114 rfl rfl rfl rfl (fun hok=>?_)
 repeat refine ai ?_
 refine oc (tF _ _) ?_
 repeat refine ai ?_
 refine aj ?_ ?_<;>intro h
 ·repeat refine ai ?_
  refine oc (tE _) ?_
  refine bd ?_
  simp only[nB,h,Bool.true_and]
 ·refine bd ?_
  simp only[nB,h,Bool.false_and]
theorem yI (l:GateLaw):Spec P 125 [st l.e] (.d (.bool (nB l))):=by
 refine Spec.of_vc aQ az [.tmp 2] Tryz.func125 rfl rfl rfl rfl (fun hok=>?_)
 repeat refine ai ?_
 refine oc (fY _ _) ?_
 repeat refine ai ?_
 refine aj ?_ ?_<;>intro h
 ·repeat refine ai ?_
  refine oc (tQ _) ?_
  refine bd ?_
  simp only[nB,h,Bool.true_and]
 ·refine bd ?_
  simp only[nB,h,Bool.false_and]
end Go.Vc
end
section
namespace Go.Vc
open Go.Proofs
set_option maxRecDepth 100000
def dE (L:GateLaw) (b:GateBook):Bool:=nB L&&(ee b.now 0 1000000&&(ee b.tick 0 1000000&&(ee b.given 0 b.now&&(nk L b&&(gH b&&g9 L b)))))
theorem uL {L:GateLaw} (h:nB L=true):bB L.shapes L.mends=true:=by
 unfold nB at h;rw[Bool.and_eq_true] at h;exact h.1
theorem nI (L:GateLaw) (b:GateBook):Spec P 55 [st L.e,st b.e] (.d (.bool (dE L b))):=by
 refine Spec.of_vc aQ az [.tmp 4] Tryz.func55 rfl rfl rfl rfl (fun hok=>?_)
 repeat refine ai ?_
 refine oc (yI _) ?_
 repeat' first
  |refine ai ?_
  |(refine n1 ?_;intro h)
  |(refine n2 ?_;intro h)
  |(refine n3 ?_;intro h)
  |(refine n4 ?_;intro h)
  |(refine aj ?_ ?_<;>intro h)
  |refine oc (yD L b (uL (nU (by assumption)))) ?_
  |refine oc (Ac b) ?_
  |refine oc (DP L b) ?_
 all_goals (refine bd ?_;simp only[cond_false,cond_true,Bool.not_eq_true',Bool.not_eq_false',reduceCtorEq] at*;simp only[dE,nD, *,bl])
theorem mY (L:GateLaw) (b:GateBook):Spec P 46 [st L.e,st b.e] (.d (.bool (dE L b))):=by
 refine Spec.of_vc aQ az [.tmp 4] Tryz.func46 rfl rfl rfl rfl (fun hok=>?_)
 repeat refine ai ?_
 refine oc (xI _) ?_
 repeat' first
  |refine ai ?_
  |(refine n1 ?_;intro h)
  |(refine n2 ?_;intro h)
  |(refine n3 ?_;intro h)
  |(refine n4 ?_;intro h)
  |(refine aj ?_ ?_<;>intro h)
  |refine oc (d7 _ _ _) ?_
  |refine oc (tD L b (uL (nU (by assumption)))) ?_
  |refine oc (vY b) ?_
  |refine oc (zp L b) ?_
 all_goals (refine bd ?_;simp only[cond_false,cond_true,Bool.not_eq_true',Bool.not_eq_false',reduceCtorEq] at*;simp only[dE, *,bl])
end Go.Vc
end
