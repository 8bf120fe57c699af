/- Part 6 of a proof: Contracts: copies of objects; values that are not set. Contr -/
import Derived.Test.YteongcjplmbkgaaGreatDoorSwa
import Derived.Test.YteongcjplmbkgaaGreatDoorSwb
import Derived.Test.YteongcjplmbkgaaGreatDoorSwc
import Derived.Test.YteongcjplmbkgaaGreatDoorSwd
import Derived.Test.YteongcjplmbkgaaGreatDoorSwe
open Bool renaming not_eq_false' → Qaa, not_eq_true' → Qab, true_and → Qae, and_eq_true → Qag, false_and → Qan, and_false → Qaq, true_or → Qar, not_false → Qas, false_or → QaE, and_true → QaF, or_false → QaJ, not_true → QaK, or_true → QaL, not_eq_true → QaQ, eq_iff_iff → QaY, or_eq_true → QaZ, true_eq_false → Qa4, false_eq_true → Qa5
open List renaming length_map → Qac, length_cons → Qaf, length_append → Qah, getElem?_eq_getElem → Qai, getElem_mem → Qaj, length_nil → Qak, drop_eq_getElem_cons → Qal, drop_of_length_le → Qam, take_of_length_le → Qao, map_cons → Qap, mem_cons_self → Qau, filter_cons_of_pos → Qav, mem_cons_of_mem → Qaw, take_succ_eq_append_getElem → Qax, append_assoc → Qay, idxOf_lt_length_of_mem → QaA, append_nil → QaB, mem_singleton → QaC, eq_nil_of_length_eq_zero → QaG, filter_cons_of_neg → QaH, not_mem_nil → QaI, idxOf_append → QaM, getElem?_map → QaN, flatten_cons → QaP, all_eq_true → QaR, length_take → QaS, contains_iff_mem → QaT, getElem_of_mem → QaU, all_cons → QaV, nodup_append → QaW, mem_append → QaX, map_append → Qa0, nodup_nil → Qa2, all_append → Qa7, nodup_cons → Qa8, length_set → Qa9, foldl_cons → Qb
open Exists renaming intro → Qad
open Int renaming natCast_nonneg → Qat, toNat_natCast → QaD
open Nat renaming le_refl → Qaz, le_of_ble_eq_true → QaO, zero_le → Qa1, zero_add → Qa3, lt_succ_of_le → Qa6
set_option linter.unusedVariables false
set_option linter.unusedSimpArgs false
section
namespace Go.Vc
open Go.Proofs
set_option maxRecDepth 100000
theorem KM (n:Nat) (z:List D):(List.replicate n z).length=n:=List.length_replicate
theorem rL (xs:List Bs):∀r∈xs.map eB,r.length=1:=fun r hr=>by
 obtain ⟨x,_,rfl⟩:=List.mem_map.1 hr;rfl
theorem yC (xs:List Bs) (h0:0<xs.length) (hs:xs.length≤big):HSpec P 192 [.d (lS xs)] hp0 (.own 0) ⟨[(0,.row 9 1 (xs.map eB))],1,0⟩:=by
 refine kC aO aA [.tmp 2] Tryz.func192 rfl rfl rfl rfl rfl (fun hok=>?_);repeat refine ai ?_
 refine aj ?_ ?_<;>intro h1
 ·rw[Qac] at h1
  exfalso
  have:=beq_iff_eq.1 h1;omega
 ·repeat refine ai ?_
  refine ⟨Qat _,Int.le_refl _,dd hs,?_⟩;repeat refine ai ?_
  refine ⟨?_,?_,rL xs,?_⟩
  ·simp
  ·simpa using h0
  repeat refine ai ?_
  all_goals (repeat' first|exact rfl|exact trivial|refine aj ?_ ?_)
theorem lC (xs:List Bs):Spec P 192 [.d (lS xs)] (.d (lS xs)):=by
 refine Spec.of_vc aO aA [.tmp 2] Tryz.func192 rfl rfl rfl rfl (fun hok=>?_);have hs:xs.length≤big:=az hok.1.1;repeat refine ai ?_
 refine aj ?_ ?_<;>intro h1
 ·rw[Qac] at h1
  have:=beq_iff_eq.1 h1;have:xs=[]:=QaG (by omega);subst this;rfl
 ·rw[Qac] at h1
  have h1:=beq_eq_false_iff_ne.1 h1;repeat refine ai ?_
  refine ⟨Qat _,Int.le_refl _,dd hs,?_⟩;repeat refine ai ?_
  refine ⟨?_,?_,rL xs,?_⟩
  ·simp
  ·rw[Qac];omega
  repeat refine ai ?_
  rfl
theorem Co (o:GateObject):Spec P 145 [st o.e] (st o.e):=by
 refine Spec.of_vc aO aA [.cell 2 103] Tryz.func145 rfl rfl rfl rfl (fun hok=>?_);repeat refine ai ?_
 refine oc (lC _) ?_;repeat refine ai ?_
 refine oc (lC _) ?_;repeat refine ai ?_
 exact rfl
theorem DF (o:GateObject) (h0:0<o.values.length):HSpec P 145 [st o.e] hp0 (yg o (.own 2) (.d (lS o.holds))) ⟨[(2,.row 9 1 (o.values.map eB))],3,0⟩:=by
 refine kC aO aA [.cell 2 103] Tryz.func145 rfl rfl rfl rfl rfl (fun hok=>?_);have hb:=ji (o:=o) hok;repeat refine ai ?_
 refine ow (yC o.values h0 hb.1) ?_;repeat refine ai ?_
 refine oc (lC _) ?_;repeat refine ai ?_
 all_goals (repeat' first|exact rfl|exact trivial|refine aj ?_ ?_)
theorem v6 (o:GateObject) (hv:o.values.length≤big) (hh:o.holds.length≤big):HSpec P 141 [st o.e] hp0 (yg o (.own 2) (.own 3)) ⟨[(3,.row 9 1 (o.holds.map eB)),(2,.row 9 1 (o.values.map eB))],4,0⟩:=by
 refine kC aO aA [.cell 2 103] Tryz.func141 rfl rfl rfl rfl rfl (fun hok=>?_);repeat refine ai ?_
 refine aj (rL _) ?_;repeat refine ai ?_
 refine aj (by simpa using hv) ?_;repeat refine ai ?_
 refine aj (rL _) ?_;repeat refine ai ?_
 refine aj (by simpa using hh) ?_;repeat refine ai ?_
 all_goals (repeat' first|exact rfl|exact trivial|refine aj ?_ ?_)
end Go.Vc
end
section
namespace Go.Vc
open Go.Proofs
set_option maxRecDepth 100000
def kK (f:GateField) (v:Bs):Bs:=bif v==[] then f.default_ else v
def gg:List GateField→List Bs→List Bs
 |f::fs,v::vs=>kK f v::gg fs vs
 |_,vs=>vs
theorem JU (vs:List Bs):gg [] vs=vs:=rfl
theorem qk:∀(fs:List GateField) (vs:List Bs),(gg fs vs).length=vs.length
 |[],vs=>rfl
 |f::fs,[]=>rfl
 |f::fs,v::vs=>by simp[gg,qk fs vs]
theorem A5:∀{fs:List GateField} {vs:List Bs} {i:Nat},i<fs.length→(gg (fs.take i) vs)[i]? =vs[i]?
 |[],_,_,h=>by simp at h
 |f::fs,[],i,h=>by cases i<;>simp[gg]
 |f::fs,v::vs,0,h=>rfl
 |f::fs,v::vs,i+1,h=>by simpa [gg] using A5 (fs:=fs) (vs:=vs) (i:=i) (by simpa using h)
theorem um:∀{fs:List GateField} {vs:List Bs} {i:Nat} (h:i<fs.length) (h2:i<vs.length),gg (fs.take (i+1)) vs=(gg (fs.take i) vs).set i (kK fs[i] vs[i])
 |[],_,_,h,_=>by simp at h
 |f::fs,[],i,h,h2=>by simp at h2
 |f::fs,v::vs,0,h,h2=>by simp[gg]
 |f::fs,v::vs,i+1,h,h2=>by simpa [gg] using um (fs:=fs) (vs:=vs) (i:=i) (by simpa using h) (by simpa using h2)
theorem DM {fs:List GateField} {vs:List Bs} {i:Nat} (h:i<fs.length) (h2:i<vs.length) (h3:i<(gg (fs.take i) vs).length):(gg (fs.take i) vs)[i]=vs[i]:=by
 have:=A5 (vs:=vs) h;rw[Qai h3,Qai h2] at this;exact Option.some.inj this
theorem sQ {α:Type} {l:List α} {i:Nat} (h:i<l.length) {x:α} (e:l[i]=x):l.set i x=l:=by
 subst e;simp
theorem sV {t n:Nat} {W:List Bs} {i:Nat} {v:Bs} (h:i<W.length):some (AO.row t n ((W.map eB).set i (dW (eB W[i]) 0 (eB v))))=some (AO.row t n ((W.set i v).map eB)):=by
 congr 2
 simp only[List.map_set];rfl
def gC (xs:List GateShape) (o:GateObject):GateObject:={o with values:=gg (af xs o.kind o.values.length).1 o.values}
theorem FU (xs:List GateShape) (o:GateObject):Spec P 207 [.d (ab xs),st o.e] (st (gC xs o).e):=by
 refine Spec.of_vc aO aA [.cell 4 103] Tryz.func207 rfl rfl rfl rfl (fun hok=>?_);have hb:=ji (o:=o) ⟨hok.2.1,trivial⟩;repeat refine ai ?_
 refine ow (v6 o hb.1 hb.2) ?_;repeat refine ai ?_
 refine oc (fp _ _) ?_;obtain ⟨hl,hl2⟩:=cj (xs:=xs) (k:=o.kind) (n:=o.values.length)
 have hfs:(af xs o.kind o.values.length).2=false→(af xs o.kind o.values.length).1=[]:=by
  rcases dS (xs:=xs) (k:=o.kind) (n:=o.values.length) with ⟨h1,h2⟩|⟨j,hj,_,h,_⟩
  ·exact fun _=>h2
  ·rw[h];exact fun h=>by cases h
 repeat refine ai ?_
 refine aj ?_ ?_<;>intro h0
 ·simp only[Qab] at h0
  have e:gC xs o=o:=by unfold gC;rw[hfs h0];rfl
  rw[e];repeat refine ai ?_
  exact rfl
 ·simp only[Qaa] at h0
  have hl:=hl2 h0;unfold gC;generalize (af xs o.kind o.values.length).1=fs at*;repeat refine ai ?_
  refine kO (fs) (fun i (W:List Bs)=>W=gg (fs.take i) o.values) (fun i (W:List Bs)=>[(4,.ptr 1 0),(5,.ptr 6 0),(6,.d (ad fs)),(8,.d (.int .i64 i))]) (fun i (W:List Bs)=>⟨[(6,.cells 103 [.d (.str o.kind),.d (.str o.name),.d (.str o.team),.own 4,.d (.bool o.ending),.own 5,.d (.int .i64 o.version)]),(4,.row 9 1 (W.map eB)),(5,.row 9 1 (o.holds.map eB)),(1,.cells 103 [.d (.str []),.d (.str []),.d (.str []),.nils,.d (.bool false),.nils,.d (.int .i64 0)])],7,0⟩) (rfl) ?_;intro i W hi hr;have hs:fs.length≤big:=by omega
  have hW:W.length=o.values.length:=by rw[hr,qk]
  repeat refine ai ?_
  refine aj ?_ ?_<;>intro h1
  ·have hlt:i<fs.length:=U h1
   have hlt2:i<o.values.length:=by omega
   have hlt3:i<W.length:=by omega
   have hv:W[i]=o.values[i]:=by simp only[hr];exact DM hlt hlt2 _
   have hst:gg (fs.take (i+1)) o.values=W.set i (kK fs[i] o.values[i]):=by rw[hr,←um hlt hlt2]
   repeat refine ai ?_
   refine aj (Qat _) (aj (by rw[Qac];omega) ?_);repeat refine ai ?_
   refine ⟨_,yE hlt3,?_⟩;repeat refine ai ?_
   refine aj ?_ ?_<;>intro h2
   ·have hf:kK fs[i] o.values[i]=fs[i].default_:=by unfold kK;rw[←hv,show (W[i]==[])=true from h2];rfl
    repeat refine ai ?_
    refine Ll ?_;repeat refine ai ?_
    refine O (e:=GateField.e) (xs:=fs) (hlt) rfl ?_;repeat refine ai ?_
    refine aj (Qat _) (aj (by rw[Qac];omega) ?_);repeat refine ai ?_
    refine ⟨_,yE hlt3,Qaz _,?_⟩;repeat refine ai ?_
    exact cH (W.set i fs[i].default_) hlt hs (by rw[hst,hf]) fun hw=>by repeat' first|exact rfl|exact trivial|exact nd hw|exact sV hlt3|refine aj ?_ ?_
   ·have hf:kK fs[i] o.values[i]=W[i]:=by unfold kK;rw[←hv,show (W[i]==[])=false from h2];rfl
    repeat refine ai ?_
    exact cH W hlt hs (by rw[hst,hf,sQ hlt3 rfl])
  ·have hi':fs.length≤i:=V h1
   rw[Qao hi'] at hr;rw[←hr];repeat refine ai ?_
   exact rfl
theorem Fd {xs:List GateShape} {o:GateObject} (h0:(af xs o.kind o.values.length).2=false):gC xs o=o:=by
 unfold gC;rcases dS (xs:=xs) (k:=o.kind) (n:=o.values.length) with ⟨h1,h2⟩|⟨j,hj,_,h,_⟩
 ·rw[h2];rfl
 ·rw[h] at h0;cases h0
theorem CH {xs:List GateShape} {o:GateObject} (h0:o.values=[]):gC xs o=o:=by
 unfold gC;rw[h0];cases o;simp only at h0;subst h0;generalize (af xs _ _).1=fs;cases fs<;>rfl
theorem Cu (xs:List GateShape) (o:GateObject):Spec P 217 [.d (ab xs),st o.e] (st (bif aR xs then gC xs o else o).e):=by
 refine Spec.of_vc aO aA [.cell 4 103] Tryz.func217 rfl rfl rfl rfl (fun hok=>?_);have hb:=ji (o:=o) ⟨hok.2.1,trivial⟩;obtain ⟨hl,hl2⟩:=cj (xs:=xs) (k:=o.kind) (n:=o.values.length)
 cases hv:o.values with
 |nil=>
  repeat refine ai ?_
  refine oc (Co _) ?_;repeat refine ai ?_
  refine oc (gy _ _) ?_;rw[CH hv];repeat refine ai ?_
  refine aj ?_ ?_<;>intro h0
  ·repeat refine ai ?_
   refine oc (fU _) ?_;repeat refine ai ?_
   refine aj ?_ ?_<;>intro h1
   ·repeat refine ai ?_
    cases aR xs<;>exact rfl
   ·simp only[Qaa] at h0 h1
    have hl:=hl2 h0;rw[hv] at hl;simp only[hv] at hl ⊢;generalize (af xs o.kind ([]:List Bs).length).1=fs at*;have:fs=[]:=QaG hl;subst this;repeat refine ai ?_
    refine ⟨I0 ([]:List GateField) (fun _=>True) (fun i=>[(3,.ptr 0 0),(4,.ptr 1 0),(25,.d (ad [])),(26,.d (.int .i64 0)),(27,.d (.int .i64 i))]) (fun i=>⟨[(0,.cells 103 [.d (.str o.kind),.d (.str o.name),.d (.str o.team),.d (lS []),.d (.bool o.ending),.d (lS o.holds),.d (.int .i64 o.version)]),(1,.cells 103 [.d (.str []),.d (.str []),.d (.str []),.nils,.d (.bool false),.nils,.d (.int .i64 0)])],2,0⟩),⟨_,_,_,⟨0,rfl,Qa1 _,trivial,rfl,rfl⟩,by repeat' first|exact rfl|exact trivial|refine aj ?_ ?_⟩,?_⟩;rintro m l hh ⟨i,rfl,hi,hr,rfl,rfl⟩;repeat refine ai ?_
    refine aj ?_ ?_<;>intro g1
    ·exact absurd (of_decide_eq_true g1) (by omega)
    ·have ho:st o.e=yg o (.d (lS [])) (.d (lS o.holds)):=by rw[IV,hv]
     repeat refine ai ?_
     cases aR xs<;>exact ho.symm
  ·repeat refine ai ?_
   cases aR xs<;>exact rfl
 |cons v0 vr=>
  have hpos:0<o.values.length:=by rw[hv];simp
  clear hv;repeat refine ai ?_
  refine ow (DF o hpos) ?_;repeat refine ai ?_
  refine oe (fun g=>qJ xs o g 4) ?_;repeat refine ai ?_
  refine aj ?_ ?_<;>intro h0
  ·repeat refine ai ?_
   refine oc (fU _) ?_;repeat refine ai ?_
   refine aj ?_ ?_<;>intro h1
   ·simp only[Qab,Qaa] at h0 h1
    rw[h1];repeat refine ai ?_
    exact rfl
   ·simp only[Qaa] at h0 h1
    have hl:=hl2 h0;rw[h1];unfold gC;generalize (af xs o.kind o.values.length).1=fs at*;repeat refine ai ?_
    refine kO (fs) (fun i (W:List Bs)=>W=gg (fs.take i) o.values) (fun i (W:List Bs)=>[(3,.ptr 0 0),(4,.ptr 1 0),(25,.d (ad fs)),(26,.d (.int .i64 (fs.map GateField.e).length)),(27,.d (.int .i64 i))]) (fun i (W:List Bs)=>⟨[(0,.cells 103 [.d (.str o.kind),.d (.str o.name),.d (.str o.team),.own 4,.d (.bool o.ending),.d (lS o.holds),.d (.int .i64 o.version)]),(4,.row 9 1 (W.map eB)),(1,.cells 103 [.d (.str []),.d (.str []),.d (.str []),.nils,.d (.bool false),.nils,.d (.int .i64 0)])],5,0⟩) (rfl) ?_;intro i W hi hr;have hs:fs.length≤big:=by omega
    have hW:W.length=o.values.length:=by rw[hr,qk]
    repeat refine ai ?_
    refine aj ?_ ?_<;>intro g1
    ·have hlt:i<fs.length:=U g1
     have hlt2:i<o.values.length:=by omega
     have hlt3:i<W.length:=by omega
     have hv:W[i]=o.values[i]:=by simp only[hr];exact DM hlt hlt2 _
     have hst:gg (fs.take (i+1)) o.values=W.set i (kK fs[i] o.values[i]):=by rw[hr,←um hlt hlt2]
     repeat refine ai ?_
     refine O (e:=GateField.e) (xs:=fs) (hlt) rfl ?_;repeat refine ai ?_
     refine aj (Qat _) (aj (by rw[Qac];omega) ?_);repeat refine ai ?_
     refine ⟨_,yE hlt3,?_⟩;repeat refine ai ?_
     refine aj ?_ ?_<;>intro h2
     ·have hf:kK fs[i] o.values[i]=fs[i].default_:=by unfold kK;rw[←hv,show (W[i]==[])=true from h2];rfl
      repeat refine ai ?_
      refine aj (Qat _) (aj (by rw[Qac];omega) ?_);repeat refine ai ?_
      refine ⟨_,yE hlt3,Qaz _,?_⟩;repeat refine ai ?_
      exact cH (W.set i fs[i].default_) hlt hs (by rw[hst,hf]) fun hw=>by repeat' first|exact rfl|exact trivial|exact nd hw|exact sV hlt3|refine aj ?_ ?_
     ·have hf:kK fs[i] o.values[i]=W[i]:=by unfold kK;rw[←hv,show (W[i]==[])=false from h2];rfl
      repeat refine ai ?_
      exact cH W hlt hs (by rw[hst,hf,sQ hlt3 rfl])
    ·have hi':fs.length≤i:=V g1
     rw[Qao hi'] at hr;rw[←hr];repeat refine ai ?_
     exact rfl
  ·simp only[Qab] at h0
   rw[Fd h0];repeat refine ai ?_
   cases aR xs<;>exact rfl
end Go.Vc
end
section
namespace Go.Vc
def Lo (rd:Bs→List Bs) (ns:List Bs):Prop:=∃r:Bs→Nat,∀n∈ns,∀y∈rd n,r y<r n
def stepG (rd:Bs→List Bs) (ns row:List Bs):List Bs:=
 match ns.find? (fun f=> !row.contains f&&(rd f).all row.contains) with
 |some f=>row++[f]
 |none=>row
def gA (rd:Bs→List Bs) (ns:List Bs):Nat→List Bs
 |0=>[]
 |k+1=>stepG rd ns (gA rd ns k)
theorem ft:∀{xs ys:List Bs},xs.Nodup→(∀x∈xs,x∈ys)→xs.length≤ys.length
 |[],_,_,_=>Qa1 _
 |x::xs,ys,hn,hs=>by
  have hn':=List.nodup_cons.1 hn;have hx:x∈ys:=hs x Qau
  have h1:xs.length≤(ys.erase x).length:=ft hn'.2 (fun y hy=>by
   have hne:y≠x:=fun e=>hn'.1 (e▸hy);exact (List.mem_erase_of_ne hne).2 (hs y (Qaw _ hy)))
  have h2:=List.length_erase_of_mem hx;have h3:=List.length_pos_of_mem hx;simp only[Qaf];omega
theorem A4 {α:Type} (p:α→Prop) (r:α→Nat):∀m:Nat,(∃x,p x∧r x≤m)→∃x,p x∧∀y,p y→r x≤r y
 |0,⟨x,hx,hr⟩=>⟨x,hx,fun y _=>by omega⟩
 |m+1,⟨x,hx,hr⟩=>by
  by_cases h:∃y,p y∧r y≤m
  ·exact A4 p r m h
  ·exact ⟨x,hx,fun y hy=>by
    have:¬r y≤m:=fun c=>h ⟨y,hy,c⟩;omega⟩
theorem CI:∀{ns row:List Bs},ns.Nodup→row.length<ns.length→∃x,x∈ns∧x ∉ row:=by
 intro ns row hn hl;refine Classical.byContradiction fun h=>?_;have:ns.length≤row.length:=ft hn (fun x hx=>Classical.byContradiction fun hx'=>h ⟨x,hx,hx'⟩);omega
structure vM (rd:Bs→List Bs) (ns row:List Bs):Prop where
 nd:row.Nodup
 sub:∀x∈row,x∈ns
 beh:∀x∈row,∀y∈rd x,row.idxOf y<row.idxOf x
theorem iA {row:List Bs} {x f:Bs} (h:x∈row):(row++[f]).idxOf x=row.idxOf x:=by
 rw[QaM,if_pos h]
theorem E9 {rd:Bs→List Bs} {ns row:List Bs} {f:Bs} (g:vM rd ns row) (hf:f∈ns) (h:f ∉ row) (hr:∀y∈rd f,y∈row):vM rd ns (row++[f]):=by
 refine ⟨?_,?_,?_⟩
 ·rw[QaW]
  refine ⟨g.nd,by simp,?_⟩;intro a ha b hb e;rw[QaC] at hb;exact h (hb▸e▸ha)
 ·intro x hx
  rcases List.mem_append.1 hx with hx|hx
  ·exact g.sub x hx
  ·rw[QaC] at hx;exact hx▸hf
 ·intro x hx y hy
  rcases List.mem_append.1 hx with hx|hx
  ·have h1:=g.beh x hx y hy
   have h2:row.idxOf x<row.length:=QaA hx;have hy':y∈row:=List.idxOf_lt_length_iff.1 (by omega);rw[iA hx,iA hy'];exact h1
  ·rw[QaC] at hx
   subst hx;have hy':=hr y hy;rw[iA hy',QaM,if_neg h];have:=QaA hy';omega
theorem BH {rd:Bs→List Bs} {ns row:List Bs} (g:vM rd ns row):vM rd ns (stepG rd ns row):=by
 unfold stepG;split
 ·rename_i f hf
  have h1:=List.find?_some hf;rw[Qag,Qab] at h1;refine E9 g (List.mem_of_find?_eq_some hf) ?_ ?_
  ·intro c
   have:=h1.1;rw[←QaQ,QaT] at this;exact this c
  ·intro y hy
   have:=List.all_eq_true.1 h1.2 y hy;exact List.contains_iff_mem.1 this
 ·exact g
theorem gW (rd:Bs→List Bs) (ns:List Bs):∀k,vM rd ns (gA rd ns k)
 |0=>⟨Qa2,(fun x hx=>absurd hx QaI),(fun x hx=>absurd hx QaI)⟩
 |k+1=>BH (gW rd ns k)
theorem qM {rd:Bs→List Bs} {ns:List Bs} (hn:ns.Nodup) (hin:∀n∈ns,∀y∈rd n,y∈ns) (ha:Lo rd ns):∀k,k≤ns.length→(gA rd ns k).length=k
 |0,_=>rfl
 |k+1,h=>by
  have ih:=qM hn hin ha k (by omega);have g:=gW rd ns k;obtain ⟨r,hr⟩:=ha;obtain ⟨x0,hx0,hx0'⟩:=CI (row:=gA rd ns k) hn (by omega);obtain ⟨x,⟨hx,hxr⟩,hmin⟩:=A4 (fun x=>x∈ns∧x ∉ gA rd ns k) r (r x0) ⟨x0,⟨hx0,hx0'⟩,Qaz _⟩
  have hready:(!(gA rd ns k).contains x&&(rd x).all (gA rd ns k).contains)=true:=by
   rw[Qag,Qab,QaR];refine ⟨?_,fun y hy=>?_⟩
   ·rw[←QaQ,QaT];exact hxr
   ·refine List.contains_iff_mem.2 (Classical.byContradiction fun c=>?_)
    have:=hmin y ⟨hin x hx y hy,c⟩;have:=hr x hx y hy;omega
  show (stepG rd ns (gA rd ns k)).length=k+1;unfold stepG;split
  ·rw[Qah,ih];rfl
  ·rename_i hf
   have:=List.find?_eq_none.1 hf x hx;exact absurd hready this
theorem Cz {rd:Bs→List Bs} {ns:List Bs} (hn:ns.Nodup) (h:(gA rd ns ns.length).length=ns.length):Lo rd ns:=by
 have g:=gW rd ns ns.length;refine ⟨(gA rd ns ns.length).idxOf,fun n hm y hy=>g.beh n ?_ y hy⟩;refine Classical.byContradiction fun c=>?_
 have:(n::gA rd ns ns.length).length≤ns.length:=ft (List.nodup_cons.2 ⟨c,g.nd⟩) (fun x hx=>by
  rcases List.mem_cons.1 hx with e|e
  ·exact e▸hm
  ·exact g.sub x e)
 rw[Qaf] at this;omega
structure Wk where
 st:List (Bs×Int)
 out:List Bs
def lk:List (Bs×Int)→Bs→Int
 |[],_=>0
 |(k,v)::r,x=>bif k==x then v else lk r x
def pt:List (Bs×Int)→Bs→Int→List (Bs×Int)
 |[],x,v=>[(x,v)]
 |(k,u)::r,x,v=>bif k==x then (k,v)::r else (k,u)::pt r x v
theorem fT {x y:Bs} {v:Int}:∀{s:List (Bs×Int)},lk (pt s x v) y=bif x==y then v else lk s y
 |[]=>by simp only[pt,lk]
 |(k,u)::r=>by
  cases h:k==x with
  |true=>
   have e:k=x:=beq_iff_eq.1 h;subst e;simp only[pt,h,cond_true,lk]
   cases k==y<;>rfl
  |false=>
   simp only[pt,h,cond_false,lk,fT (s:=r)]
   cases h2:k==y with
   |true=>
    have e:k=y:=beq_iff_eq.1 h2;subst e;have:(x==k)=false:=by rw[←QaQ,beq_iff_eq];rw[←QaQ,beq_iff_eq] at h;exact fun c=>h c.symm
    rw[this];rfl
   |false=>rfl
def ce (w:Bs→Wk→Bool×Wk):List Bs→Wk→Bool×Wk
 |[],s=>(true,s)
 |y::ys,s=>match w y s with
  |(false,s')=>(false,s')
  |(true,s')=>ce w ys s'
def cw (rd:Bs→List Bs):Nat→Bs→Wk→Bool×Wk
 |0,_,s=>(false,s)
 |k+1,x,s=>bif lk s.st x==1 then (false,s) else bif lk s.st x==2 then (true,s) else
  match ce (cw rd k) (rd x) ⟨pt s.st x 1,s.out⟩ with
  |(false,s')=>(false,s')
  |(true,s')=>(true,⟨pt s'.st x 2,s'.out++[x]⟩)
def white (ns:List Bs) (s:Wk):Nat:=(ns.filter fun n=>lk s.st n==0).length
structure pu (rd:Bs→List Bs) (ns:List Bs) (s:Wk):Prop where
 nd:s.out.Nodup
 sub:∀x∈s.out,x∈ns
 val:∀x,lk s.st x=0∨lk s.st x=1∨lk s.st x=2
 two:∀x,lk s.st x=2↔x∈s.out
 beh:∀x∈s.out,∀y∈rd x,s.out.idxOf y<s.out.idxOf x
structure WkLe (s s':Wk):Prop where
 one:∀x,lk s.st x=1↔lk s'.st x=1
 two:∀x,lk s.st x=2→lk s'.st x=2
 white:∀x,lk s'.st x=0→lk s.st x=0
theorem WkLe.refl (s:Wk):WkLe s s:=⟨fun _=>Iff.rfl,fun _ h=>h,fun _ h=>h⟩
theorem WkLe.trans {a b c:Wk} (h:WkLe a b) (k:WkLe b c):WkLe a c:=⟨fun x=>(h.one x).trans (k.one x),fun x e=>k.two x (h.two x e),fun x e=>h.white x (k.white x e)⟩
theorem jm {p q:Bs→Bool}:∀{ns:List Bs},(∀x,p x=true→q x=true)→(ns.filter p).length≤(ns.filter q).length
 |[],_=>Qaz _
 |n::ns,h=>by
  have ih:=jm (ns:=ns) h
  cases hp:p n with
  |true=>rw[Qav hp,Qav (h n hp)];simp only[Qaf];omega
  |false=>
   rw[QaH (by rw[hp];simp)]
   cases hq:q n with
   |true=>rw[Qav hq];simp only[Qaf];omega
   |false=>rw[QaH (by rw[hq];simp)];exact ih
theorem mG {p q:Bs→Bool} {a:Bs}:∀{ns:List Bs},(∀x,p x=true→q x=true)→a∈ns→p a=false→q a=true→(ns.filter p).length<(ns.filter q).length
 |[],_,h,_,_=>absurd h QaI
 |n::ns,h,ha,h1,h2=>by
  by_cases e:n=a
  ·subst e
   rw[QaH (by rw[h1];simp),Qav h2];have:=jm (ns:=ns) h;simp only[Qaf];omega
  ·have hm:a∈ns:=(List.mem_cons.1 ha).resolve_left (fun c=>e c.symm)
   have ih:=mG (ns:=ns) h hm h1 h2
   cases hp:p n with
   |true=>rw[Qav hp,Qav (h n hp)];simp only[Qaf];omega
   |false=>
    rw[QaH (by rw[hp];simp)]
    cases hq:q n with
    |true=>rw[Qav hq];simp only[Qaf];omega
    |false=>rw[QaH (by rw[hq];simp)];exact ih
theorem zd {ns:List Bs} {s s':Wk} (h:WkLe s s'):white ns s'≤white ns s:=jm (fun x hx=>by
 rw[beq_iff_eq] at hx ⊢;exact h.white x hx)
theorem zc {ns:List Bs} {s:Wk} {x:Bs} (hx:x∈ns) (h:lk s.st x=0) (o:List Bs):white ns ⟨pt s.st x 1,o⟩<white ns s:=by
 refine mG (a:=x) (fun y hy=>?_) hx ?_ ?_
 ·simp only[fT] at hy
  cases e:x==y with
  |true=>rw[e] at hy;simp at hy
  |false=>rw[e] at hy;exact hy
 ·simp only[fT,BEq.rfl,cond_true];rfl
 ·rw[h];rfl
def Br (rd:Bs→List Bs) (ns:List Bs) (x:Bs) (s:Wk) (r:Bool×Wk):Prop:=
 (r.1=true→pu rd ns r.2∧WkLe s r.2∧lk r.2.st x=2)∧
 (r.1=false→∀rk:Bs→Nat,(∀n∈ns,∀y∈rd n,rk y<rk n)→∃z,lk s.st z=1∧rk z≤rk x)
theorem jQ {rd:Bs→List Bs} {ns:List Bs} {w:Bs→Wk→Bool×Wk} {n:Nat}:∀(ys:List Bs) (s:Wk),(∀y∈ys,∀s,pu rd ns s→white ns s≤n→Br rd ns y s (w y s))→pu rd ns s→white ns s≤n→
 ((ce w ys s).1=true→pu rd ns (ce w ys s).2∧WkLe s (ce w ys s).2∧∀y∈ys,lk (ce w ys s).2.st y=2)∧
 ((ce w ys s).1=false→∀rk:Bs→Nat,(∀n∈ns,∀y∈rd n,rk y<rk n)→∃z y,y∈ys∧lk s.st z=1∧rk z≤rk y)
 |[],s,_,hs,_=>⟨fun _=>⟨hs,WkLe.refl _,fun y hy=>absurd hy QaI⟩,fun h=>by simp[ce] at h⟩
 |y::ys,s,hw,hs,hn=>by
  have g:=hw y Qau s hs hn;unfold ce
  cases e:w y s with
  |mk b s'=>cases b with
   |false=>
    refine ⟨fun h=>by simp at h,fun _ rk hrk=>?_⟩;rw[e] at g;obtain ⟨z,h1,h2⟩:=g.2 rfl rk hrk
    exact ⟨z,y,Qau,h1,h2⟩
   |true=>
    rw[e] at g;obtain ⟨g1,g2,g3⟩:=g.1 rfl;have ih:=jQ ys s' (fun y hy=>hw y (Qaw _ hy)) g1 (Nat.le_trans (zd g2) hn);refine ⟨fun h=>?_,fun h rk hrk=>?_⟩
    ·obtain ⟨i1,i2,i3⟩:=ih.1 h
     refine ⟨i1,g2.trans i2,fun u hu=>?_⟩;rcases List.mem_cons.1 hu with c|c
     ·rw[c];exact i2.two y g3
     ·exact i3 u c
    ·obtain ⟨z,u,hu,h1,h2⟩:=ih.2 h rk hrk
     exact ⟨z,u,Qaw _ hu,(g2.one z).2 h1,h2⟩
theorem iu {rd:Bs→List Bs} {ns:List Bs} (hin:∀n∈ns,∀y∈rd n,y∈ns):∀(k:Nat) (x:Bs) (s:Wk),x∈ns→pu rd ns s→white ns s<k→Br rd ns x s (cw rd k x s)
 |0,_,_,_,_,h=>by omega
 |k+1,x,s,hx,hs,hn=>by
  unfold cw
  cases h1:lk s.st x==1 with
  |true=>
   rw[beq_iff_eq] at h1
   exact ⟨fun h=>by simp at h,fun _ rk _=>⟨x,h1,Qaz _⟩⟩
  |false=>cases h2:lk s.st x==2 with
   |true=>
    rw[beq_iff_eq] at h2
    exact ⟨fun _=>⟨hs,WkLe.refl _,h2⟩,fun h=>by simp at h⟩
   |false=>
    have h0:lk s.st x=0:=by
     have e1:lk s.st x≠1:=fun c=>by rw[c] at h1;simp at h1
     have e2:lk s.st x≠2:=fun c=>by rw[c] at h2;simp at h2
     rcases hs.val x with c|c|c
     ·exact c
     ·exact absurd c e1
     ·exact absurd c e2
    have hout:x ∉ s.out:=fun c=>by
     have:=(hs.two x).2 c;rw[h0] at this;exact absurd this (by decide)
    simp only[cond_false]
    have hs1:pu rd ns ⟨pt s.st x 1,s.out⟩:=by
     refine ⟨hs.nd,hs.sub,fun y=>?_,fun y=>?_,hs.beh⟩
     ·simp only[fT]
      cases x==y
      ·exact hs.val y
      ·exact .inr (.inl rfl)
     ·simp only[fT]
      cases e:x==y with
      |true=>
       have e':x=y:=beq_iff_eq.1 e;subst e'
       exact ⟨fun c=>by simp at c,fun c=>absurd c hout⟩
      |false=>exact hs.two y
    have hw:=zc hx h0 s.out
    have g:=jQ (rd:=rd) (ns:=ns) (w:=cw rd k) (n:=white ns ⟨pt s.st x 1,s.out⟩) (rd x) ⟨pt s.st x 1,s.out⟩
     (fun y hy s' hs' hl=>iu hin k y s' (hin x hx y hy) hs' (by omega)) hs1 (Qaz _)
    cases e:ce (cw rd k) (rd x) ⟨pt s.st x 1,s.out⟩ with
    |mk b s'=>
     rw[e] at g
     cases b with
     |false=>
      refine ⟨fun h=>by simp at h,fun _ rk hrk=>?_⟩;obtain ⟨z,y,hy,hz,hle⟩:=g.2 rfl rk hrk;have hlt:=hrk x hx y hy;refine ⟨z,?_,by omega⟩;have hz':lk (pt s.st x 1) z=1:=hz;rw[fT] at hz'
      cases e2:x==z with
      |true=>
       have e3:x=z:=beq_iff_eq.1 e2;subst e3
       omega
      |false=>rw[e2] at hz';exact hz'
     |true=>
      obtain ⟨g1,g2,g3⟩:=g.1 rfl;have g1:pu rd ns s':=g1;have g3:∀y∈rd x,lk s'.st y=2:=g3;refine ⟨fun _=>?_,fun h=>by simp at h⟩;have hx1:lk s'.st x=1:=(g2.one x).1 (by simp only[fT,BEq.rfl,cond_true])
      have hx':x ∉ s'.out:=fun c=>by
       have:=(g1.two x).2 c;rw[hx1] at this;exact absurd this (by decide)
      refine ⟨⟨?_,?_,fun y=>?_,fun y=>?_,?_⟩,⟨fun y=>?_,fun y hy=>?_,fun y hy=>?_⟩,?_⟩
      ·show (s'.out++[x]).Nodup
       rw[QaW];refine ⟨g1.nd,by simp,?_⟩;intro a ha b hb e;rw[QaC] at hb;exact hx' (hb▸e▸ha)
      ·intro y hy
       rcases List.mem_append.1 hy with hy|hy
       ·exact g1.sub y hy
       ·rw[QaC] at hy;exact hy▸hx
      ·simp only[fT]
       cases x==y
       ·exact g1.val y
       ·exact .inr (.inr rfl)
      ·simp only[fT,QaX,QaC]
       cases e2:x==y with
       |true=>
        have e3:x=y:=beq_iff_eq.1 e2
        exact ⟨fun _=> .inr e3.symm,fun _=>rfl⟩
       |false=>
        have e3:x≠y:=fun c=>by rw[c] at e2;simp at e2
        exact (g1.two y).trans ⟨.inl,fun c=>c.resolve_right (fun c=>e3 c.symm)⟩
      ·intro u hu y hy
       rcases List.mem_append.1 hu with hu|hu
       ·have q1:=g1.beh u hu y hy
        have q2:s'.out.idxOf u<s'.out.length:=QaA hu;have hy':y∈s'.out:=List.idxOf_lt_length_iff.1 (by omega);rw[iA hu,iA hy'];exact q1
       ·rw[QaC] at hu
        subst hu;have hy':=(g1.two y).1 (g3 y hy);rw[iA hy',QaM,if_neg hx'];have:=QaA hy';omega
      ·simp only[fT]
       cases e2:x==y with
       |true=>
        have e3:x=y:=beq_iff_eq.1 e2;subst e3;rw[h0]
        exact ⟨fun c=>by simp at c,fun c=>by simp at c⟩
       |false=>
        have:=g2.one y;simp only[fT,e2,cond_false] at this;exact this
      ·simp only[fT]
       cases e2:x==y with
       |true=>rfl
       |false=>
        have:=g2.two y;simp only[fT,e2,cond_false] at this;exact this hy
      ·simp only[fT] at hy
       cases e2:x==y with
       |true=>rw[e2] at hy;simp at hy
       |false=>
        rw[e2] at hy;have:=g2.white y hy;simp only[fT,e2,cond_false] at this;exact this
      ·simp only[fT,BEq.rfl,cond_true]
def D3:Wk:=⟨[],[]⟩
theorem Bx (rd:Bs→List Bs) (ns:List Bs):pu rd ns D3:=⟨Qa2,fun x h=>absurd h QaI,fun _=> .inl rfl,fun x=>⟨fun h=>absurd (show (0:Int)=2 from h) (by decide),fun h=>absurd h QaI⟩,fun x h=>absurd h QaI⟩
theorem lQ (ns:List Bs) (s:Wk):white ns s≤ns.length:=List.length_filter_le _ _
theorem vP {w:Bs→Wk→Bool×Wk} (hw:∀y s,∃t,(w y s).2.out=s.out++t):∀(ys:List Bs) (s:Wk),∃t,(ce w ys s).2.out=s.out++t
 |[],s=>⟨[],by simp[ce]⟩
 |y::ys,s=>by
  obtain ⟨t,ht⟩:=hw y s;unfold ce
  cases e:w y s with
  |mk b s'=>
   rw[e] at ht
   cases b with
   |false=>exact ⟨t,ht⟩
   |true=>
    obtain ⟨t2,ht2⟩:=vP hw ys s';exact ⟨t++t2,by rw[←Qay,←ht];exact ht2⟩
theorem iD (rd:Bs→List Bs):∀(k:Nat) (x:Bs) (s:Wk),∃t,(cw rd k x s).2.out=s.out++t
 |0,_,s=>⟨[],by simp[cw]⟩
 |k+1,x,s=>by
  unfold cw
  cases lk s.st x==1 with
  |true=>exact ⟨[],by simp⟩
  |false=>cases lk s.st x==2 with
   |true=>exact ⟨[],by simp⟩
   |false=>
    obtain ⟨t,ht⟩:=vP (w:=cw rd k) (iD rd k) (rd x) ⟨pt s.st x 1,s.out⟩;simp only[cond_false]
    cases e:ce (cw rd k) (rd x) ⟨pt s.st x 1,s.out⟩ with
    |mk b s'=>
     rw[e] at ht
     cases b with
     |false=>exact ⟨t,ht⟩
     |true=>exact ⟨t++[x],by rw[←Qay,←ht]⟩
theorem nC {rd:Bs→List Bs} {k:Nat} {x:Bs} {s:Wk} (h:(lk s.st x==1)=true):cw rd (k+1) x s=(false,s):=by
 unfold cw;rw[h];rfl
theorem nB {rd:Bs→List Bs} {k:Nat} {x:Bs} {s:Wk} (h:(lk s.st x==1)=false) (h2:(lk s.st x==2)=true):cw rd (k+1) x s=(true,s):=by
 unfold cw;rw[h,h2];rfl
theorem iU {rd:Bs→List Bs} {k:Nat} {x:Bs} {s s':Wk} (h:(lk s.st x==1)=false) (h2:(lk s.st x==2)=false) (e:ce (cw rd k) (rd x) ⟨pt s.st x 1,s.out⟩=(false,s')):cw rd (k+1) x s=(false,s'):=by
 unfold cw;rw[h,h2,e];rfl
theorem js {rd:Bs→List Bs} {k:Nat} {x:Bs} {s s':Wk} (h:(lk s.st x==1)=false) (h2:(lk s.st x==2)=false) (e:ce (cw rd k) (rd x) ⟨pt s.st x 1,s.out⟩=(true,s')):cw rd (k+1) x s=(true,⟨pt s'.st x 2,s'.out++[x]⟩):=by
 unfold cw;rw[h,h2,e];rfl
theorem ed {w:Bs→Wk→Bool×Wk} {ys:List Bs} {i:Nat} {s:Wk} (h:i<ys.length):ce w (ys.drop i) s=match w ys[i] s with
 |(false,s')=>(false,s')
 |(true,s')=>ce w (ys.drop (i+1)) s':=by
 rw[Qal h];rfl
theorem fA {w:Bs→Wk→Bool×Wk} {ys:List Bs} {i:Nat} {s:Wk} (h:ys.length≤i):ce w (ys.drop i) s=(true,s):=by
 rw[Qam h];rfl
structure Bq (rd:Bs→List Bs) (ns:List Bs) (x:Bs) (s s1:Wk):Prop where
 ok:pu rd ns s1
 one:lk s1.st x=1
 white:white ns s1<white ns s
theorem nA {rd:Bs→List Bs} {ns:List Bs} {x:Bs} {s:Wk} (hx:x∈ns) (hs:pu rd ns s) (h1:(lk s.st x==1)=false) (h2:(lk s.st x==2)=false):Bq rd ns x s ⟨pt s.st x 1,s.out⟩:=by
 have h0:lk s.st x=0:=by
  rcases hs.val x with c|c|c
  ·exact c
  ·rw[c] at h1;simp at h1
  ·rw[c] at h2;simp at h2
 have hout:x ∉ s.out:=fun c=>by
  have:=(hs.two x).2 c;rw[h0] at this;exact absurd this (by decide)
 refine ⟨⟨hs.nd,hs.sub,fun y=>?_,fun y=>?_,hs.beh⟩,by simp only[fT,BEq.rfl,cond_true],zc hx h0 _⟩
 ·simp only[fT]
  cases x==y
  ·exact hs.val y
  ·exact .inr (.inl rfl)
 ·simp only[fT]
  cases e:x==y with
  |true=>
   have e':x=y:=beq_iff_eq.1 e;subst e'
   exact ⟨fun c=>by simp at c,fun c=>absurd c hout⟩
  |false=>exact hs.two y
theorem iS {rd:Bs→List Bs} {ns:List Bs} (hin:∀n∈ns,∀y∈rd n,y∈ns) {k:Nat} {x y:Bs} {s s1 s2:Wk} (h:Bq rd ns x s s1) (hk:white ns s<k+1) (hy:y∈ns) (e:cw rd k y s1=(true,s2)):Bq rd ns x s s2:=by
 have hw:=h.white;have g:=iu hin k y s1 hy h.ok (by omega);rw[e] at g;obtain ⟨g1,g2,_⟩:=g.1 rfl;exact ⟨g1,(g2.one x).1 h.one,Nat.lt_of_le_of_lt (zd g2) h.white⟩
theorem lP {rd:Bs→List Bs} {ns:List Bs} {x:Bs} {s s1:Wk} (hx:x∈ns) (h:Bq rd ns x s s1):s1.out.length+1≤ns.length:=by
 have:(x::s1.out).length≤ns.length:=ft (List.nodup_cons.2 ⟨fun c=>by
  have:=(h.ok.two x).2 c
  rw[h.one] at this;exact absurd this (by decide),h.ok.nd⟩) (fun y hy=>by
  rcases List.mem_cons.1 hy with e|e
  ·exact e▸hx
  ·exact h.ok.sub y e)
 exact this
theorem FB {rd:Bs→List Bs} {ns:List Bs} (hin:∀n∈ns,∀y∈rd n,y∈ns):(ce (cw rd (ns.length+1)) ns D3).1=true↔Lo rd ns:=by
 have g:=jQ (rd:=rd) (ns:=ns) (w:=cw rd (ns.length+1)) (n:=ns.length) ns D3
  (fun y hy s hs hl=>iu hin _ y s hy hs (by omega)) (Bx rd ns) (lQ _ _)
 constructor
 ·intro h
  obtain ⟨g1,g2,g3⟩:=g.1 h;exact ⟨(ce (cw rd (ns.length+1)) ns D3).2.out.idxOf,fun n hn y hy=>g1.beh n ((g1.two n).1 (g3 n hn)) y hy⟩
 ·rintro ⟨rk,hrk⟩
  cases e:(ce (cw rd (ns.length+1)) ns D3).1 with
  |true=>rfl
  |false=>
   obtain ⟨z,y,hy,hz,_⟩:=g.2 e rk hrk;exact absurd hz (by show ¬((0:Int)=1);decide)
theorem zf {rd:Bs→List Bs} {ns:List Bs} (hn:ns.Nodup) (hin:∀n∈ns,∀y∈rd n,y∈ns):
 (ce (cw rd (ns.length+1)) ns D3).1=decide ((gA rd ns ns.length).length=ns.length):=by
 rw[QaY,decide_eq_true_eq,FB hin];exact ⟨fun h=>qM hn hin h _ (Qaz _),Cz hn⟩
end Go.Vc
end
section
namespace Go.Vc
theorem DV {α:Type} {key:α→Bs}:∀{xs:List α} {p:Option Bs},ec key p xs=true→∀a∈xs,∀b∈xs,key a=key b→a=b
 |[],_,_,a,ha,_,_,_=>by cases ha
 |x::xs,p,h,a,ha,b,hb,e=>by
  simp only[ec,Qag] at h;rcases List.mem_cons.1 ha with rfl|ha'
  ·rcases List.mem_cons.1 hb with rfl|hb'
   ·rfl
   ·have:=pp h.2 b hb'
    rw[←e,kx] at this;cases this
  ·rcases List.mem_cons.1 hb with rfl|hb'
   ·have:=pp h.2 a ha'
    rw[e,kx] at this;cases this
   ·exact DV h.2 a ha' b hb' e
def kN (s:Bs):List Bs:=bif s==[] then [] else [s]
def Df (k n:Bs) (m:GateMend):List Bs:=bif m.kind==k&&m.field==n then kN m.when_++kN m.from_ else []
def Y (k:Bs) (ms:List GateMend) (n:Bs):List Bs:=(ms.map (Df k n)).flatten
def JP (k f:Bs) (row:List Bs) (m:GateMend):Bool:=
 !((m.kind==k&&m.field==f)&&((!(m.when_==[])&& !row.any (·==m.when_))||(!(m.from_==[])&& !row.any (·==m.from_))))
def tg (k f:Bs) (row:List Bs) (ms:List GateMend):Bool:=ms.all (JP k f row)
theorem kA {row:List Bs} {s:Bs}:row.any (·==s)=row.contains s:=by
 rw[QaY,List.any_eq_true,QaT];constructor
 ·rintro ⟨x,hx,e⟩;rw[beq_iff_eq] at e;exact e▸hx
 ·intro h;exact ⟨s,h,BEq.rfl⟩
theorem Gn {s:Bs} {p:Bs→Bool}:(kN s).all p= !(!(s==[])&& !p s):=by
 unfold kN;cases s==[]<;>simp
theorem HQ {k f:Bs} {row:List Bs} {m:GateMend}:JP k f row m=(Df k f m).all row.contains:=by
 unfold JP Df
 cases (m.kind==k&&m.field==f) with
 |false=>rfl
 |true=>
  simp only[cond_true,Qa7,Gn,kA,Qae,Bool.not_or]
theorem qS {p:Bs→Bool}:∀{l:List (List Bs)},l.flatten.all p=l.all (·.all p)
 |[]=>rfl
 |x::l=>by simp only[QaP,Qa7,QaV,qS]
theorem B0 {k f:Bs} {row:List Bs} {ms:List GateMend}:tg k f row ms=(Y k ms f).all row.contains:=by
 unfold tg Y;rw[qS,List.all_map]
 congr 1
 funext m
 exact HQ
def bE (s:GateShape):List Bs:=s.fields.map (·.name)
def ja (s:GateShape) (ms:List GateMend) (row:List Bs) (f:Bs):Bool:= !row.any (·==f)&&tg s.kind f row ms
def gr (s:GateShape) (ms:List GateMend) (n:Nat):List Bs:=gA (Y s.kind ms) (bE s) n
def oq (s:GateShape) (ms:List GateMend):List Bs:=gr s ms s.fields.length
theorem DS {s:GateShape} {ms:List GateMend} {row:List Bs}:ja s ms row=fun f=> !row.contains f&&(Y s.kind ms f).all row.contains:=by
 funext f
 unfold ja;rw[kA,B0]
theorem DH {s:GateShape} {ms:List GateMend} {n:Nat} {f:Bs} (h:(bE s).find? (ja s ms (gr s ms n))=some f):gr s ms (n+1)=gr s ms n++[f]:=by
 rw[DS] at h;show stepG _ _ _=_;unfold stepG;unfold gr at h ⊢;rw[h]
theorem DI {s:GateShape} {ms:List GateMend} {n:Nat} (h:(bE s).find? (ja s ms (gr s ms n))=none):gr s ms (n+1)=gr s ms n:=by
 rw[DS] at h;show stepG _ _ _=_;unfold stepG;unfold gr at h ⊢;rw[h]
theorem Jq (s:GateShape) (ms:List GateMend) (n:Nat):(gr s ms n).length≤s.fields.length:=by
 have g:=gW (Y s.kind ms) (bE s) n;have:=ft g.nd g.sub;rw[bE,Qac] at this;exact this
theorem IJ (s:GateShape) (ms:List GateMend):∀n,(gr s ms n).length≤n
 |0=>Qaz _
 |n+1=>by
  have ih:=IJ s ms n
  cases h:(bE s).find? (ja s ms (gr s ms n)) with
  |none=>rw[DI h];omega
  |some f=>rw[DH h,Qah,List.length_singleton];omega
def qC (s:GateShape) (ms:List GateMend) (row:List Bs) (l:List GateField):Option Bs:=(l.map (·.name)).find? (ja s ms row)
theorem m8 {s:GateShape} {ms:List GateMend} {row:List Bs} {xs:List GateField} {i:Nat} (h:i<xs.length):qC s ms row (xs.drop i)=bif ja s ms row xs[i].name then some xs[i].name else qC s ms row (xs.drop (i+1)):=by
 unfold qC;rw[Qal h,Qap,List.find?_cons];cases ja s ms row xs[i].name<;>rfl
theorem ET {s:GateShape} {ms:List GateMend} {row:List Bs} {xs:List GateField} {i:Nat} (h:xs.length≤i):qC s ms row (xs.drop i)=none:=by
 rw[Qam h];rfl
def bL (shapes:List GateShape) (ms:List GateMend):Bool:=
 aR shapes&&(!decide ((ms.length:Int)>12)&&(ms.all (bX shapes)&&shapes.all fun s=>((oq s ms).length:Int)==(s.fields.length:Int)))
theorem ui {kinds:List Bs}:∀{fs:List GateField} {pre:List Bs},ml kinds pre fs=true→(fs.map (·.name)).Nodup∧∀x∈pre,x ∉ fs.map (·.name)
 |[],_,_=>⟨Qa2,fun _ _ h=>by cases h⟩
 |f::fs,pre,h=>by
  simp only[ml,Qag,Qab] at h;obtain ⟨h1,_,h3⟩:=h;obtain ⟨g1,g2⟩:=ui h3;rw[kA] at h1;refine ⟨?_,fun x hx c=>?_⟩
  ·rw[Qap,Qa8]
   exact ⟨g2 f.name (List.mem_append.2 (.inr Qau)),g1⟩
  ·rw[Qap] at c
   rcases List.mem_cons.1 c with c|c
   ·have:pre.contains f.name=true:=List.contains_iff_mem.2 (c▸hx)
    rw[h1] at this;cases this
   ·exact g2 x (List.mem_append.2 (.inl hx)) c
theorem nU {xs:List GateShape} (h:aR xs=true) {s:GateShape} (hs:s∈xs):(bE s).Nodup:=by
 unfold aR at h;simp only[Qag] at h;have:=List.all_eq_true.1 h.2.2 s hs;unfold bH at this;simp only[Qag] at this;exact (ui this.2).1
theorem BI {xs:List GateShape} (h:aR xs=true) {a b:GateShape} (ha:a∈xs) (hb:b∈xs) (e:a.kind=b.kind):a=b:=by
 unfold aR at h;simp only[Qag] at h;exact DV h.2.1 a ha b hb e
theorem oC {fs:List GateField} {n:Bs} (h:fR fs n=true):n∈fs.map (·.name):=by
 unfold fR at h;rw[Qag,o7] at h;obtain ⟨f,hf,e⟩:=List.any_eq_true.1 h.1;rw[beq_iff_eq] at e;exact List.mem_map.2 ⟨f,hf,e⟩
theorem Ac {s y:Bs} (h:y∈kN s):y=s∧(s==[])=false:=by
 unfold kN at h
 cases e:s==[] with
 |true=>rw[e] at h;cases h
 |false=>rw[e] at h;exact ⟨List.mem_singleton.1 h,rfl⟩
theorem Dq {xs:List GateShape} (h:aR xs=true) {s:GateShape} (hs:s∈xs) {m:GateMend} (hm:bX xs m=true) (e:m.kind=s.kind):jG s.fields m=true:=by
 unfold bX at hm;split at hm
 ·rename_i s' hq
  rw[Qag] at hm;obtain ⟨j,hj,h1,h2,_⟩:=cW hm.1;rw[h1,QaD,Qai hj] at hq;have e1:s'=xs[j]:=(Option.some.inj hq).symm;have e2:xs[j].kind=m.kind:=by simpa using h2
  have:s'=s:=BI h (e1▸Qaj hj) hs (by rw[e1,e2,e]);exact this▸hm.2
 ·cases hm
theorem lh {xs:List GateShape} {ms:List GateMend} (h:aR xs=true) (hm:ms.all (bX xs)=true) {s:GateShape} (hs:s∈xs):∀n,∀y∈Y s.kind ms n,y∈bE s:=by
 intro n y hy;unfold Y at hy;obtain ⟨l,hl,hy⟩:=List.mem_flatten.1 hy;obtain ⟨m,hm1,rfl⟩:=List.mem_map.1 hl;unfold Df at hy
 cases e:(m.kind==s.kind&&m.field==n) with
 |false=>rw[e] at hy;cases hy
 |true=>
  rw[e] at hy;rw[Qag,beq_iff_eq] at e;have hf:=Dq h hs (List.all_eq_true.1 hm m hm1) e.1;unfold jG at hf;simp only[Qag,QaZ] at hf;rcases List.mem_append.1 hy with hy|hy
  ·obtain ⟨rfl,hne⟩:=Ac hy
   rcases hf.1.2.1 with c|c
   ·rw[hne] at c;cases c
   ·exact oC c
  ·obtain ⟨rfl,hne⟩:=Ac hy
   rcases hf.1.2.2 with c|c
   ·rw[hne] at c;cases c
   ·exact oC c
end Go.Vc
end
section
namespace Go.Vc
open Go.Proofs
set_option maxRecDepth 100000
theorem Ew (ms:List GateMend) (k f:Bs) (row:List Bs):Spec P 223 [.d (ap ms),.d (.str k),.d (.str f),.d (lS row)] (.d (.bool (tg k f row ms))):=by
 refine Spec.of_vc aO aA [.tmp 8] Tryz.func223 rfl rfl rfl rfl (fun hok=>?_);have hs:ms.length≤big:=az hok.1.1;repeat refine ai ?_
 refine d8 (ms) (fun i=>tg k f row ms=(ms.drop i).all (JP k f row)) (fun i=>[(0,.d (ap ms)),(1,.d (.str k)),(2,.d (.str f)),(3,.d (lS row)),(9,.d (.int .i64 i))]) (fun i=>hp0) (rfl) ?_;intro i hi hr;repeat refine ai ?_
 refine aj ?_ ?_<;>intro h1
 ·have hlt:i<ms.length:=U h1
  rw[aM hlt] at hr;repeat refine ai ?_
  refine O (e:=GateMend.e) (xs:=ms) (hlt) rfl ?_;repeat refine ai ?_
  repeat' first
   |refine ai ?_
   |(refine aj ?_ ?_<;>intro h)
   |refine oc (xT _ _) ?_
  all_goals first
   |(refine bd ?_;(try simp only[Qab,Qaa] at*);rw[hr];simp only[JP, *,bl];done)
   |exact ⟨_,_,_,⟨i+1,rfl,hlt,(by (try simp only[Qab,Qaa] at*);rw[hr];simp only[JP, *,bl]),rfl,rfl⟩,by omega,rfl,rfl,⟨rfl,rfl,rfl,rfl,nd (aa hlt hs),trivial⟩,trivial,trivial⟩
 ·refine bd ?_
  rw[hr,cJ (V h1)]
theorem fg (s:GateShape):(st s.e)= .agg [.d (.str s.kind),.d (ad s.fields)]:=rfl
theorem C7 (s:GateShape) (ms:List GateMend):Spec P 203 [st s.e,.d (ap ms)] (.d (lS (oq s ms))):=by
 refine Spec.of_vc aO aA [.tmp 4] Tryz.func203 rfl rfl rfl rfl (fun hok=>?_)
 have hs:s.fields.length≤big:=by
  have:=hok.1;simp only[st,AV.ok,GateShape.e,List.map,dQ] at this;exact az this.2.1.1
 repeat refine ai ?_
 refine d8 (s.fields) (fun n=>True) (fun n=>[(1,.d (ap ms)),(2,.ptr 0 0),(5,.own 1),(6,.d (.int .i64 n))]) (fun n=>⟨[(1,.row 9 1 ((gr s ms n).map eB)),(0,.cells 164 (s.e.map .d))],2,0⟩) (trivial) ?_;intro n hn hr;repeat refine ai ?_
 refine aj ?_ ?_<;>intro h1
 ·have hlt0:n<s.fields.length:=U h1
  repeat refine ai ?_
  refine d8 (s.fields) (fun i=>qC s ms (gr s ms n) s.fields=qC s ms (gr s ms n) (s.fields.drop i)) (fun i=>[(1,.d (ap ms)),(2,.ptr 0 0),(5,.own 1),(6,.d (.int .i64 n)),(7,.d (.int .i64 i))]) (fun i=>⟨[(1,.row 9 1 ((gr s ms n).map eB)),(0,.cells 164 (s.e.map .d))],2,0⟩) (rfl) ?_;intro i hi hr;repeat refine ai ?_
  refine aj ?_ ?_<;>intro h2
  ·have hlt:i<s.fields.length:=U h2
   repeat refine ai ?_
   refine O (e:=GateField.e) (xs:=s.fields) (hlt) rfl ?_;repeat refine ai ?_
   refine oc (xT _ _) ?_;repeat refine ai ?_
   refine aj ?_ ?_<;>intro h3
   ·simp only[Qab,Qaa] at h3
    repeat refine ai ?_
    refine oc (Ew _ _ _ _) ?_;repeat refine ai ?_
    refine aj ?_ ?_<;>intro h4
    ·repeat refine ai ?_
     refine aj (fun r hr=>by rw[List.mem_singleton.1 hr];rfl) ?_;repeat refine ai ?_
     refine aj (by have:=IJ s ms n;simp only[Qac,Qaf,Qak];unfold big at*;omega) ?_;have hc:ja s ms (gr s ms n) s.fields[i].name=true:=by unfold ja;rw[h3,h4];rfl
     have hg:gr s ms (n+1)=gr s ms n++[s.fields[i].name]:=DH (by
      show qC s ms (gr s ms n) s.fields=_;rw[hr,m8 hlt,hc];rfl)
     repeat refine ai ?_
     exact bJ hlt0 hs trivial fun hw=>⟨rfl,rfl,⟨rfl,rfl,rfl,nd hw,trivial⟩,⟨rfl,rfl,trivial⟩,⟨dO (by rw[hg,Qa0];rfl),rfl,trivial⟩⟩
    ·repeat refine ai ?_
     exact bJ hlt hs (by rw[hr,m8 hlt,show ja s ms (gr s ms n) s.fields[i].name=false from by unfold ja;rw[h4,Qaq]];rfl)
   ·simp only[Qab,Qaa] at h3
    repeat refine ai ?_
    exact bJ hlt hs (by rw[hr,m8 hlt,show ja s ms (gr s ms n) s.fields[i].name=false from by unfold ja;rw[h3];rfl];rfl)
  ·have hg:gr s ms (n+1)=gr s ms n:=DI (by
    show qC s ms (gr s ms n) s.fields=_;rw[hr,ET (V h2)])
   repeat refine ai ?_
   exact bJ hlt0 hs trivial fun hw=>⟨rfl,rfl,⟨rfl,rfl,rfl,nd hw,trivial⟩,⟨rfl,rfl,trivial⟩,⟨dO (by rw[hg]),rfl,trivial⟩⟩
 ·refine ld ?_
  rw[show n=s.fields.length from by have:=V h1;omega];rfl
theorem vl (xs:List GateShape) (ms:List GateMend):Spec P 170 [.d (ab xs),.d (ap ms)] (.d (.bool (bL xs ms))):=by
 refine Spec.of_vc aO aA [.tmp 4] Tryz.func170 rfl rfl rfl rfl (fun hok=>?_);have hs:xs.length≤big:=az hok.1.1;have hsm:ms.length≤big:=az hok.2.1.1;repeat refine ai ?_
 refine oc (sS _) ?_;repeat refine ai ?_
 refine aj ?_ ?_<;>intro h0
 ·simp only[Qab,Qaa] at h0
  repeat refine ai ?_
  refine aj ?_ ?_<;>intro h1
  ·rw[Qac] at h1
   refine bd ?_;simp only[bL,h1,bl]
  ·rw[Qac] at h1
   have e:bL xs ms=(ms.all (bX xs)&&xs.all fun s=>((oq s ms).length:Int)==(s.fields.length:Int)):=by simp only[bL,h0,h1,bl]
   rw[e];repeat refine ai ?_
   refine d8 (ms) (fun i=>ms.all (bX xs)=(ms.drop i).all (bX xs)) (fun i=>[(0,.d (ab xs)),(1,.d (ap ms)),(5,.d (.int .i64 i))]) (fun i=>hp0) (rfl) ?_;intro i hi hr;repeat refine ai ?_
   refine aj ?_ ?_<;>intro h2
   ·have hlt:i<ms.length:=U h2
    rw[aM hlt] at hr;repeat refine ai ?_
    refine O (e:=GateMend.e) (xs:=ms) (hlt) rfl ?_;repeat refine ai ?_
    refine oc (BR _ _) ?_;repeat refine ai ?_
    refine aj ?_ ?_<;>intro h3
    ·simp only[Qab,Qaa] at h3
     refine bd ?_;rw[hr,h3];rfl
    ·simp only[Qab,Qaa] at h3
     repeat refine ai ?_
     exact bJ hlt hsm (by rw[hr,h3];rfl)
   ·rw[cJ (V h2)] at hr
    rw[hr,Qae];repeat refine ai ?_
    refine d8 (xs) (fun i=>(xs.all fun s=>((oq s ms).length:Int)==(s.fields.length:Int))=((xs.drop i).all fun s=>((oq s ms).length:Int)==(s.fields.length:Int))) (fun i=>[(0,.d (ab xs)),(1,.d (ap ms)),(6,.d (.int .i64 i))]) (fun i=>hp0) (rfl) ?_;intro i hi hr;repeat refine ai ?_
    refine aj ?_ ?_<;>intro h4
    ·have hlt:i<xs.length:=U h4
     rw[aM hlt] at hr;repeat refine ai ?_
     refine ak ?_;repeat refine ai ?_
     refine O (e:=GateShape.e) (xs:=xs) (hlt) rfl ?_;repeat refine ai ?_
     refine oc (C7 _ _) ?_;repeat refine ai ?_
     refine O (e:=GateShape.e) (xs:=xs) (hlt) rfl ?_;repeat refine ai ?_
     refine aj ?_ ?_<;>intro h5
     ·simp only[bne,Qab,Qaa,Qac] at h5
      refine bd ?_;rw[hr,h5];rfl
     ·simp only[bne,Qab,Qaa,Qac] at h5
      repeat refine ai ?_
      exact bJ hlt hs (by rw[hr,h5];rfl)
    ·refine bd ?_
     rw[hr,cJ (V h4)]
 ·simp only[Qab,Qaa] at h0
  refine bd ?_;simp only[bL,h0,Qan]
end Go.Vc
end
section
namespace Go.Vc
open Go.Proofs
set_option maxRecDepth 100000
def F1 (id:Nat):List Bs→AV
 |[]=> .nils
 |_::_=> .own id
def Dd (objs:List (Nat×AO)) (nx id:Nat):List Bs→Heap
 |[]=>⟨objs,nx,nx⟩
 |x::xs=>⟨(id,.row 9 1 ((x::xs).map eB))::objs,id+1,nx⟩
def jo (p:Bs×Int):List D×AV:=([.str p.1],.d (.int .i64 p.2))
def yI:AV:= .fn 231 [.ptr 1 0,.ptr 0 0]
def Jr:AV:= .fn 236 [.ptr 6 0,.ptr 4 0,.ptr 8 0,.ptr 7 0]
def oS (s:GateShape):AO:= .cells 164 (s.e.map .d)
def oM (ms:List GateMend):AO:= .cells 38 [.d (ap ms)]
def oA (all:List Bs):AO:= .row 9 1 (all.map eB)
def oR:AO:= .cells 263 [yI]
def oT (w:Wk):AO:= .map 271 .str (w.st.map jo)
def oP:AO:= .cells 271 [.mapr 5]
def oW:AO:= .cells 115 [Jr]
def hWo (s:GateShape) (ms:List GateMend) (all:List Bs) (es:List (List D×AV)):List Bs→List (Nat×AO)
 |[]=>[(8,oW),(7,.cells 101 [.nils]),(6,oP),(5,.map 271 .str es),(4,oR),(1,oM ms),(0,oS s)]
 |x::xs=>[(9,.row 9 1 ((x::xs).map eB)),(8,oW),(7,.cells 101 [.own 9]),(6,oP),(5,.map 271 .str es),(4,oR),(1,oM ms),(0,oS s)]
def LO:List Bs→Nat
 |[]=>9
 |_::_=>10
def Lc (lo:Nat) (s:GateShape) (ms:List GateMend) (all:List Bs) (es:List (List D×AV)) (out:List Bs):Heap:=⟨hWo s ms all es out,LO out,lo⟩
def hW (lo:Nat) (s:GateShape) (ms:List GateMend) (all:List Bs) (w:Wk):Heap:=Lc lo s ms all (w.st.map jo) w.out
theorem cC {k n:Bs} {ms:List GateMend} {i:Nat} (h:i<ms.length):Y k (ms.take (i+1)) n=Y k (ms.take i) n++Df k n ms[i]:=by
 unfold Y;rw[Qax h,Qa0,List.flatten_append];simp
theorem Ad (s:Bs):(kN s).length≤1:=by unfold kN;cases s==[]<;>simp
theorem gp {k n:Bs}:∀{ms:List GateMend},(Y k ms n).length≤2*ms.length
 |[]=>Qaz _
 |m::ms=>by
  have ih:=gp (k:=k) (n:=n) (ms:=ms);unfold Y at ih ⊢;simp only[Qap,QaP,Qah,Qaf]
  have:(Df k n m).length≤2:=by
   have h1:=Ad m.when_;have h2:=Ad m.from_;unfold Df;cases (m.kind==k&&m.field==n)
   ·simp
   ·simp only[cond_true,Qah];omega
  omega
theorem ax {n:Nat}:∀{st:List (Bs×Int)},Fv n (st.map jo)
 |[]=>trivial
 |_::_=>⟨rfl,ax⟩
theorem rH {k n:Bs} {m:GateMend} (h:(m.kind==k)=false):Df k n m=[]:=by unfold Df;rw[h];rfl
theorem oy {k n:Bs} {m:GateMend} (h:(m.field==n)=false):Df k n m=[]:=by unfold Df;rw[h,Qaq];rfl
theorem xX {k n:Bs} {m:GateMend} (h:(m.kind==k)=true) (h2:(m.field==n)=true):Df k n m=kN m.when_++kN m.from_:=by unfold Df;rw[h,h2];rfl
theorem fj {s:Bs} (h:(s==[])=true):kN s=[]:=by unfold kN;rw[h];rfl
theorem dX {s:Bs} (h:(s==[])=false):kN s=[s]:=by unfold kN;rw[h];rfl
theorem bV (t n:Nat) (a:Bs) (r:List Bs) (w:Bs):some (AO.row t n ((a::r).map eB++[[.str w]]))=some (AO.row t n ((a::(r++[w])).map eB)):=by simp[eB]
theorem dV (t n:Nat) (a:Bs) (r:List Bs) (w f:Bs):some (AO.row t n (((a::r).map eB++[[.str w]])++[[.str f]]))=some (AO.row t n ((a::(r++[w,f])).map eB)):=by simp[eB]
theorem rN (lo:Nat) (s:GateShape) (ms:List GateMend) (hm:ms.length≤12) (all:List Bs) (es:List (List D×AV)) (hes:∀n,Fv n es) (hsub:∀i b,BF i b es=es) (out:List Bs) (n:Bs):
 HSpec P 231 [.d (.str n),.ptr 1 0,.ptr 0 0] (Lc lo s ms all es out) (.d (lS (Y s.kind ms n))) (Lc lo s ms all es out):=by
 have hs:ms.length≤big:=by unfold big;omega
 cases out with
 |nil=>
  refine HSpec.of_vc aO aA [.tmp 4] Tryz.func231 rfl rfl rfl rfl rfl (fun hok=>?_);repeat refine ai ?_
  refine kO (ms) (fun i (A:List Bs)=>A=Y s.kind (ms.take i) n) (fun i (A:List Bs)=>[(0,.d (.str n)),(1,.ptr 1 0),(2,.ptr 0 0),(5,F1 10 A),(8,.d (ap ms)),(9,.d (.int .i64 (ms.map GateMend.e).length)),(10,.d (.int .i64 i))]) (fun i (A:List Bs)=>Dd [(8,oW),(7,.cells 101 [.nils]),(6,oP),(5,.map 271 .str es),(4,oR),(1,oM ms),(0,oS s)] 9 10 A) (rfl) ?_ ⟨rfl,rfl,⟨rfl,rfl,rfl,rfl,rfl,rfl,rfl,trivial⟩,⟨rfl,rfl,rfl,⟨rfl,hes _⟩,rfl,rfl,rfl,trivial⟩,⟨rfl,rfl,rfl,rfl,rfl,rfl,rfl,trivial⟩⟩;intro i A hi hr
  have hAl:A.length≤24:=by
   have:=gp (k:=s.kind) (n:=n) (ms:=ms.take i);rw[←hr,QaS] at this;omega
  repeat refine ai ?_
  refine aj ?_ ?_<;>intro h1
  ·have hlt:i<ms.length:=U h1
   repeat refine ai ?_
   refine O (e:=GateMend.e) (xs:=ms) (hlt) rfl ?_;repeat refine ai ?_
   cases A with
   |nil=>
    repeat refine ai ?_
    refine aj ?_ ?_<;>intro h2
    ·simp only[bne,Qab,Qaa] at h2
     repeat refine ai ?_
     refine aj ?_ ?_<;>intro h3
     ·simp only[bne,Qab,Qaa] at h3
      repeat refine ai ?_
      exact cH ([]) hlt hs (by rw[cC hlt,←hr,oy h3,QaB]) fun hw=>by repeat' first|exact rfl|exact trivial|exact nd hw|exact hes _|refine aj ?_ ?_
     ·simp only[bne,Qab,Qaa] at h3
      have hstep:=cC (k:=s.kind) (n:=n) hlt;rw[xX h2 h3,←hr] at hstep;repeat refine ai ?_
      refine aj ?_ ?_<;>intro h4
      ·simp only[bne,Qab,Qaa] at h4
       rw[dX h4] at hstep;repeat refine ai ?_
       refine aj (fun r hr=>by rw[List.mem_singleton.1 hr];rfl) ?_;repeat refine ai ?_
       refine aj (by simp only[Qak,Qaf,Qac] at*;unfold big;omega) ?_;repeat refine ai ?_
       refine aj ?_ ?_<;>intro h5
       ·simp only[bne,Qab,Qaa] at h5
        rw[dX h5] at hstep;repeat refine ai ?_
        refine aj (fun r hr=>by rw[List.mem_singleton.1 hr];rfl) ?_;repeat refine ai ?_
        refine aj (by simp only[Qah,Qak,Qaf,Qac] at*;unfold big;omega) ?_;repeat refine ai ?_
        exact cH ([ms[i].when_,ms[i].from_]) hlt hs (by rw[hstep];rfl) fun hw=>by repeat' first|exact rfl|exact trivial|exact nd hw|exact hes _|exact aS (hsub _ _)|exact aS (by rw[hsub,hsub])|exact dO rfl|exact bV _ _ _ _ _|exact dV _ _ _ _ _ _|refine aj ?_ ?_
       ·simp only[bne,Qab,Qaa] at h5
        rw[fj h5] at hstep;repeat refine ai ?_
        exact cH ([ms[i].when_]) hlt hs (by rw[hstep];rfl) fun hw=>by repeat' first|exact rfl|exact trivial|exact nd hw|exact hes _|exact aS (hsub _ _)|exact aS (by rw[hsub,hsub])|exact dO rfl|exact bV _ _ _ _ _|exact dV _ _ _ _ _ _|refine aj ?_ ?_
      ·simp only[bne,Qab,Qaa] at h4
       rw[fj h4] at hstep;repeat refine ai ?_
       refine aj ?_ ?_<;>intro h5
       ·simp only[bne,Qab,Qaa] at h5
        rw[dX h5] at hstep;repeat refine ai ?_
        refine aj (fun r hr=>by rw[List.mem_singleton.1 hr];rfl) ?_;repeat refine ai ?_
        refine aj (by simp only[Qak,Qaf,Qac] at*;unfold big;omega) ?_;repeat refine ai ?_
        exact cH ([ms[i].from_]) hlt hs (by rw[hstep];rfl) fun hw=>by repeat' first|exact rfl|exact trivial|exact nd hw|exact hes _|exact aS (hsub _ _)|exact aS (by rw[hsub,hsub])|exact dO rfl|exact bV _ _ _ _ _|exact dV _ _ _ _ _ _|refine aj ?_ ?_
       ·simp only[bne,Qab,Qaa] at h5
        rw[fj h5] at hstep;repeat refine ai ?_
        exact cH ([]) hlt hs (by rw[hstep];simp) fun hw=>by repeat' first|exact rfl|exact trivial|exact nd hw|exact hes _|refine aj ?_ ?_
    ·simp only[bne,Qab,Qaa] at h2
     repeat refine ai ?_
     exact cH ([]) hlt hs (by rw[cC hlt,←hr,rH h2,QaB]) fun hw=>by repeat' first|exact rfl|exact trivial|exact nd hw|exact hes _|refine aj ?_ ?_
   |cons a tl=>
    repeat refine ai ?_
    refine aj ?_ ?_<;>intro h2
    ·simp only[bne,Qab,Qaa] at h2
     repeat refine ai ?_
     refine aj ?_ ?_<;>intro h3
     ·simp only[bne,Qab,Qaa] at h3
      repeat refine ai ?_
      exact cH (a::tl) hlt hs (by rw[cC hlt,←hr,oy h3,QaB]) fun hw=>by repeat' first|exact rfl|exact trivial|exact nd hw|exact hes _|refine aj ?_ ?_
     ·simp only[bne,Qab,Qaa] at h3
      have hstep:=cC (k:=s.kind) (n:=n) hlt;rw[xX h2 h3,←hr] at hstep;repeat refine ai ?_
      refine aj ?_ ?_<;>intro h4
      ·simp only[bne,Qab,Qaa] at h4
       rw[dX h4] at hstep;repeat refine ai ?_
       refine aj (fun r hr=>by rw[List.mem_singleton.1 hr];rfl) ?_;repeat refine ai ?_
       refine aj (by simp only[Qah,Qak,Qaf,Qac] at*;unfold big;omega) ?_;repeat refine ai ?_
       refine aj ?_ ?_<;>intro h5
       ·simp only[bne,Qab,Qaa] at h5
        rw[dX h5] at hstep;repeat refine ai ?_
        refine aj (fun r hr=>by rw[List.mem_singleton.1 hr];rfl) ?_;repeat refine ai ?_
        refine aj (by simp only[Qah,Qak,Qaf,Qac] at*;unfold big;omega) ?_;repeat refine ai ?_
        exact cH (a::(tl++[ms[i].when_,ms[i].from_])) hlt hs (by rw[hstep];rfl) fun hw=>by repeat' first|exact rfl|exact trivial|exact nd hw|exact hes _|exact aS (hsub _ _)|exact aS (by rw[hsub,hsub])|exact dO rfl|exact bV _ _ _ _ _|exact dV _ _ _ _ _ _|refine aj ?_ ?_
       ·simp only[bne,Qab,Qaa] at h5
        rw[fj h5] at hstep;repeat refine ai ?_
        exact cH (a::(tl++[ms[i].when_])) hlt hs (by rw[hstep];rfl) fun hw=>by repeat' first|exact rfl|exact trivial|exact nd hw|exact hes _|exact aS (hsub _ _)|exact aS (by rw[hsub,hsub])|exact dO rfl|exact bV _ _ _ _ _|exact dV _ _ _ _ _ _|refine aj ?_ ?_
      ·simp only[bne,Qab,Qaa] at h4
       rw[fj h4] at hstep;repeat refine ai ?_
       refine aj ?_ ?_<;>intro h5
       ·simp only[bne,Qab,Qaa] at h5
        rw[dX h5] at hstep;repeat refine ai ?_
        refine aj (fun r hr=>by rw[List.mem_singleton.1 hr];rfl) ?_;repeat refine ai ?_
        refine aj (by simp only[Qah,Qak,Qaf,Qac] at*;unfold big;omega) ?_;repeat refine ai ?_
        exact cH (a::(tl++[ms[i].from_])) hlt hs (by rw[hstep];rfl) fun hw=>by repeat' first|exact rfl|exact trivial|exact nd hw|exact hes _|exact aS (hsub _ _)|exact aS (by rw[hsub,hsub])|exact dO rfl|exact bV _ _ _ _ _|exact dV _ _ _ _ _ _|refine aj ?_ ?_
       ·simp only[bne,Qab,Qaa] at h5
        rw[fj h5] at hstep;repeat refine ai ?_
        exact cH (a::tl) hlt hs (by rw[hstep];simp) fun hw=>by repeat' first|exact rfl|exact trivial|exact nd hw|exact hes _|refine aj ?_ ?_
    ·simp only[bne,Qab,Qaa] at h2
     repeat refine ai ?_
     exact cH (a::tl) hlt hs (by rw[cC hlt,←hr,rH h2,QaB]) fun hw=>by repeat' first|exact rfl|exact trivial|exact nd hw|exact hes _|refine aj ?_ ?_
  ·have ha:A=Y s.kind ms n:=by rw[hr,Qao (V h1)]
   rw[←ha]
   cases A with
   |nil=>
    refine aj rfl (aj rfl ⟨rfl,rfl,?_,?_,?_⟩)
    all_goals (repeat' first|exact rfl|exact trivial|exact hes _|exact aS (hsub _ _)|refine aj ?_ ?_)
   |cons a tl=>
    refine aj rfl (aj rfl ⟨rfl,rfl,?_,?_,?_⟩)
    all_goals (repeat' first|exact rfl|exact trivial|exact hes _|exact aS (hsub _ _)|refine aj ?_ ?_)
 |cons x xs=>
  refine HSpec.of_vc aO aA [.tmp 4] Tryz.func231 rfl rfl rfl rfl rfl (fun hok=>?_);repeat refine ai ?_
  refine kO (ms) (fun i (A:List Bs)=>A=Y s.kind (ms.take i) n) (fun i (A:List Bs)=>[(0,.d (.str n)),(1,.ptr 1 0),(2,.ptr 0 0),(5,F1 11 A),(8,.d (ap ms)),(9,.d (.int .i64 (ms.map GateMend.e).length)),(10,.d (.int .i64 i))]) (fun i (A:List Bs)=>Dd [(9,.row 9 1 ((x::xs).map eB)),(8,oW),(7,.cells 101 [.own 9]),(6,oP),(5,.map 271 .str es),(4,oR),(1,oM ms),(0,oS s)] 10 11 A) (rfl) ?_ ⟨rfl,rfl,⟨rfl,rfl,rfl,rfl,rfl,rfl,rfl,trivial⟩,⟨rfl,rfl,rfl,rfl,⟨rfl,hes _⟩,rfl,rfl,rfl,trivial⟩,⟨rfl,rfl,rfl,rfl,rfl,rfl,rfl,rfl,trivial⟩⟩;intro i A hi hr
  have hAl:A.length≤24:=by
   have:=gp (k:=s.kind) (n:=n) (ms:=ms.take i);rw[←hr,QaS] at this;omega
  repeat refine ai ?_
  refine aj ?_ ?_<;>intro h1
  ·have hlt:i<ms.length:=U h1
   repeat refine ai ?_
   refine O (e:=GateMend.e) (xs:=ms) (hlt) rfl ?_;repeat refine ai ?_
   cases A with
   |nil=>
    repeat refine ai ?_
    refine aj ?_ ?_<;>intro h2
    ·simp only[bne,Qab,Qaa] at h2
     repeat refine ai ?_
     refine aj ?_ ?_<;>intro h3
     ·simp only[bne,Qab,Qaa] at h3
      repeat refine ai ?_
      exact cH ([]) hlt hs (by rw[cC hlt,←hr,oy h3,QaB]) fun hw=>by repeat' first|exact rfl|exact trivial|exact nd hw|exact hes _|refine aj ?_ ?_
     ·simp only[bne,Qab,Qaa] at h3
      have hstep:=cC (k:=s.kind) (n:=n) hlt;rw[xX h2 h3,←hr] at hstep;repeat refine ai ?_
      refine aj ?_ ?_<;>intro h4
      ·simp only[bne,Qab,Qaa] at h4
       rw[dX h4] at hstep;repeat refine ai ?_
       refine aj (fun r hr=>by rw[List.mem_singleton.1 hr];rfl) ?_;repeat refine ai ?_
       refine aj (by simp only[Qak,Qaf,Qac] at*;unfold big;omega) ?_;repeat refine ai ?_
       refine aj ?_ ?_<;>intro h5
       ·simp only[bne,Qab,Qaa] at h5
        rw[dX h5] at hstep;repeat refine ai ?_
        refine aj (fun r hr=>by rw[List.mem_singleton.1 hr];rfl) ?_;repeat refine ai ?_
        refine aj (by simp only[Qah,Qak,Qaf,Qac] at*;unfold big;omega) ?_;repeat refine ai ?_
        exact cH ([ms[i].when_,ms[i].from_]) hlt hs (by rw[hstep];rfl) fun hw=>by repeat' first|exact rfl|exact trivial|exact nd hw|exact hes _|exact aS (hsub _ _)|exact aS (by rw[hsub,hsub])|exact dO rfl|exact bV _ _ _ _ _|exact dV _ _ _ _ _ _|refine aj ?_ ?_
       ·simp only[bne,Qab,Qaa] at h5
        rw[fj h5] at hstep;repeat refine ai ?_
        exact cH ([ms[i].when_]) hlt hs (by rw[hstep];rfl) fun hw=>by repeat' first|exact rfl|exact trivial|exact nd hw|exact hes _|exact aS (hsub _ _)|exact aS (by rw[hsub,hsub])|exact dO rfl|exact bV _ _ _ _ _|exact dV _ _ _ _ _ _|refine aj ?_ ?_
      ·simp only[bne,Qab,Qaa] at h4
       rw[fj h4] at hstep;repeat refine ai ?_
       refine aj ?_ ?_<;>intro h5
       ·simp only[bne,Qab,Qaa] at h5
        rw[dX h5] at hstep;repeat refine ai ?_
        refine aj (fun r hr=>by rw[List.mem_singleton.1 hr];rfl) ?_;repeat refine ai ?_
        refine aj (by simp only[Qak,Qaf,Qac] at*;unfold big;omega) ?_;repeat refine ai ?_
        exact cH ([ms[i].from_]) hlt hs (by rw[hstep];rfl) fun hw=>by repeat' first|exact rfl|exact trivial|exact nd hw|exact hes _|exact aS (hsub _ _)|exact aS (by rw[hsub,hsub])|exact dO rfl|exact bV _ _ _ _ _|exact dV _ _ _ _ _ _|refine aj ?_ ?_
       ·simp only[bne,Qab,Qaa] at h5
        rw[fj h5] at hstep;repeat refine ai ?_
        exact cH ([]) hlt hs (by rw[hstep];simp) fun hw=>by repeat' first|exact rfl|exact trivial|exact nd hw|exact hes _|refine aj ?_ ?_
    ·simp only[bne,Qab,Qaa] at h2
     repeat refine ai ?_
     exact cH ([]) hlt hs (by rw[cC hlt,←hr,rH h2,QaB]) fun hw=>by repeat' first|exact rfl|exact trivial|exact nd hw|exact hes _|refine aj ?_ ?_
   |cons a tl=>
    repeat refine ai ?_
    refine aj ?_ ?_<;>intro h2
    ·simp only[bne,Qab,Qaa] at h2
     repeat refine ai ?_
     refine aj ?_ ?_<;>intro h3
     ·simp only[bne,Qab,Qaa] at h3
      repeat refine ai ?_
      exact cH (a::tl) hlt hs (by rw[cC hlt,←hr,oy h3,QaB]) fun hw=>by repeat' first|exact rfl|exact trivial|exact nd hw|exact hes _|refine aj ?_ ?_
     ·simp only[bne,Qab,Qaa] at h3
      have hstep:=cC (k:=s.kind) (n:=n) hlt;rw[xX h2 h3,←hr] at hstep;repeat refine ai ?_
      refine aj ?_ ?_<;>intro h4
      ·simp only[bne,Qab,Qaa] at h4
       rw[dX h4] at hstep;repeat refine ai ?_
       refine aj (fun r hr=>by rw[List.mem_singleton.1 hr];rfl) ?_;repeat refine ai ?_
       refine aj (by simp only[Qah,Qak,Qaf,Qac] at*;unfold big;omega) ?_;repeat refine ai ?_
       refine aj ?_ ?_<;>intro h5
       ·simp only[bne,Qab,Qaa] at h5
        rw[dX h5] at hstep;repeat refine ai ?_
        refine aj (fun r hr=>by rw[List.mem_singleton.1 hr];rfl) ?_;repeat refine ai ?_
        refine aj (by simp only[Qah,Qak,Qaf,Qac] at*;unfold big;omega) ?_;repeat refine ai ?_
        exact cH (a::(tl++[ms[i].when_,ms[i].from_])) hlt hs (by rw[hstep];rfl) fun hw=>by repeat' first|exact rfl|exact trivial|exact nd hw|exact hes _|exact aS (hsub _ _)|exact aS (by rw[hsub,hsub])|exact dO rfl|exact bV _ _ _ _ _|exact dV _ _ _ _ _ _|refine aj ?_ ?_
       ·simp only[bne,Qab,Qaa] at h5
        rw[fj h5] at hstep;repeat refine ai ?_
        exact cH (a::(tl++[ms[i].when_])) hlt hs (by rw[hstep];rfl) fun hw=>by repeat' first|exact rfl|exact trivial|exact nd hw|exact hes _|exact aS (hsub _ _)|exact aS (by rw[hsub,hsub])|exact dO rfl|exact bV _ _ _ _ _|exact dV _ _ _ _ _ _|refine aj ?_ ?_
      ·simp only[bne,Qab,Qaa] at h4
       rw[fj h4] at hstep;repeat refine ai ?_
       refine aj ?_ ?_<;>intro h5
       ·simp only[bne,Qab,Qaa] at h5
        rw[dX h5] at hstep;repeat refine ai ?_
        refine aj (fun r hr=>by rw[List.mem_singleton.1 hr];rfl) ?_;repeat refine ai ?_
        refine aj (by simp only[Qah,Qak,Qaf,Qac] at*;unfold big;omega) ?_;repeat refine ai ?_
        exact cH (a::(tl++[ms[i].from_])) hlt hs (by rw[hstep];rfl) fun hw=>by repeat' first|exact rfl|exact trivial|exact nd hw|exact hes _|exact aS (hsub _ _)|exact aS (by rw[hsub,hsub])|exact dO rfl|exact bV _ _ _ _ _|exact dV _ _ _ _ _ _|refine aj ?_ ?_
       ·simp only[bne,Qab,Qaa] at h5
        rw[fj h5] at hstep;repeat refine ai ?_
        exact cH (a::tl) hlt hs (by rw[hstep];simp) fun hw=>by repeat' first|exact rfl|exact trivial|exact nd hw|exact hes _|refine aj ?_ ?_
    ·simp only[bne,Qab,Qaa] at h2
     repeat refine ai ?_
     exact cH (a::tl) hlt hs (by rw[cC hlt,←hr,rH h2,QaB]) fun hw=>by repeat' first|exact rfl|exact trivial|exact nd hw|exact hes _|refine aj ?_ ?_
  ·have ha:A=Y s.kind ms n:=by rw[hr,Qao (V h1)]
   rw[←ha]
   cases A with
   |nil=>
    refine aj rfl (aj rfl ⟨rfl,rfl,?_,?_,?_⟩)
    all_goals (repeat' first|exact rfl|exact trivial|exact hes _|exact aS (hsub _ _)|refine aj ?_ ?_)
   |cons a tl=>
    refine aj rfl (aj rfl ⟨rfl,rfl,?_,?_,?_⟩);all_goals (repeat' first|exact rfl|exact trivial|exact hes _|exact aS (hsub _ _)|refine aj ?_ ?_)
end Go.Vc
end
section
namespace Go.Vc
open Go.Proofs
set_option maxRecDepth 100000
theorem ju {i:Nat} {b:AV}:∀{st:List (Bs×Int)},BF i b (st.map jo)=st.map jo
 |[]=>rfl
 |p::st=>by
  have ih:=ju (i:=i) (b:=b) (st:=st);simp only[Qap,BF,jo,ih,AV.sub]
theorem fQ {x:Bs} {v:Int}:∀{st:List (Bs×Int)},bp (st.map jo) [.str x] (.d (.int .i64 v))=(pt st x v).map jo
 |[]=>rfl
 |(k,u)::st=>by
  have ih:=fQ (x:=x) (v:=v) (st:=st);simp only[Qap,jo,bp,bY,pt,pn x k]
  cases k==x with
  |true=>rfl
  |false=>simp only[cond_false,Qap,jo];exact congrArg _ ih
theorem tQ {x:Bs}:∀(st:List (Bs×Int)),(av (st.map jo) [.str x]=none∧lk st x=0)∨av (st.map jo) [.str x]=some (.d (.int .i64 (lk st x)))
 |[]=> .inl ⟨rfl,rfl⟩
 |(k,u)::st=>by
  simp only[Qap,jo,av,bY,lk,pn x k]
  cases k==x with
  |true=>exact .inr rfl
  |false=>exact tQ st
theorem gF {t:Nat} {tk:TK} {x:Bs} {v:Int} {st:List (Bs×Int)}:some (AO.map t tk (bp (st.map jo) [.str x] (.d (.int .i64 v))))=some (AO.map t tk ((pt st x v).map jo)):=by rw[fQ]
theorem jz {t:Nat} {tk:TK} {x:Bs} {v:Int} {st:List (Bs×Int)} {i:Nat} {b:AV}:some (AO.map t tk (BF i b (bp (st.map jo) [.str x] (.d (.int .i64 v)))))=some (AO.map t tk ((pt st x v).map jo)):=by rw[fQ,ju]
theorem lA (s:GateShape) (ms:List GateMend) (hm:ms.length≤12) (all N:List Bs) (hN:N.length≤big) (hin:∀n∈N,∀y∈Y s.kind ms n,y∈N):
 ∀(k lo:Nat) (x:Bs) (w:Wk),x∈N→pu (Y s.kind ms) N w→white N w<k→
 HSpec P 236 [.d (.str x),.ptr 6 0,.ptr 4 0,.ptr 8 0,.ptr 7 0] (hW lo s ms all w) (.d (.bool (cw (Y s.kind ms) k x w).1)) (hW lo s ms all (cw (Y s.kind ms) k x w).2)
 |0,_,_,_,_,_,h=>by omega
 |k+1,lo,x,w,hx,hwk,hk=>by
  obtain ⟨st,out⟩:=w;generalize hq:cw (Y s.kind ms) (k+1) x ⟨st,out⟩=q;obtain ⟨b,w2⟩:=q;show HSpec P _ _ _ (.d (.bool b)) (hW lo s ms all w2)
  cases out with
  |nil=>
   refine HSpec.of_vc aO aA [.tmp 6] Tryz.func236 rfl rfl rfl rfl rfl (fun hok=>?_);repeat refine ai ?_
   rcases tQ (x:=x) st with ⟨e0,e1⟩|e1
   ·refine ⟨_,e0,?_⟩
    repeat refine ai ?_
    refine aj ?_ ?_<;>intro g1
    ·have g1':(lk st x==1)=true:=by first|exact g1|(rw[e1];exact g1)
     rw[nC g1'] at hq;obtain ⟨rfl,rfl⟩:=Prod.mk.inj hq;refine aj rfl (aj rfl ⟨rfl,rfl,?_,?_,?_⟩);all_goals (repeat' first|exact rfl|exact trivial|exact ax|refine aj ?_ ?_)
    ·have g1':(lk st x==1)=false:=by first|exact g1|(rw[e1];exact g1)
     repeat refine ai ?_
     refine aj ?_ ?_<;>intro g2
     ·have g2':(lk st x==2)=true:=by first|exact g2|(rw[e1];exact g2)
      rw[nB g1' g2'] at hq;obtain ⟨rfl,rfl⟩:=Prod.mk.inj hq;refine aj rfl (aj rfl ⟨rfl,rfl,?_,?_,?_⟩);all_goals (repeat' first|exact rfl|exact trivial|exact ax|refine aj ?_ ?_)
     ·have g2':(lk st x==2)=false:=by first|exact g2|(rw[e1];exact g2)
      repeat refine ai ?_
      refine oh (rN _ s ms hm all (bp (st.map jo) [.str x] (.d (.int .i64 1))) (fun n=>by rw[fQ];exact ax) (fun i b=>by rw[fQ];exact ju) [] x) ?_
      have hs:(Y s.kind ms x).length≤big:=by
       have:=gp (k:=s.kind) (n:=x) (ms:=ms);unfold big;omega
      repeat refine ai ?_
      refine kO ((Y s.kind ms x)) (fun i (u:Wk)=>ce (cw (Y s.kind ms) k) (Y s.kind ms x) ⟨pt st x 1,[]⟩=ce (cw (Y s.kind ms) k) ((Y s.kind ms x).drop i) u∧Bq (Y s.kind ms) N x ⟨st,[]⟩ u∧∃t,u.out=[]++t) (fun i (u:Wk)=>[(0,.d (.str x)),(1,.ptr 6 0),(2,.ptr 4 0),(3,.ptr 8 0),(4,.ptr 7 0),(20,.d (lS (Y s.kind ms x))),(21,.d (.int .i64 ((Y s.kind ms x).map eB).length)),(22,.d (.int .i64 i))]) (fun i (u:Wk)=>hW 9 s ms all u) (⟨rfl,nA hx hwk g1' g2',[],by simp⟩) ?_ ⟨rfl,rfl,⟨rfl,rfl,rfl,rfl,rfl,rfl,rfl,rfl,trivial⟩,(by repeat' first|exact rfl|exact trivial|exact ax|refine aj ?_ ?_),(by repeat' first|exact rfl|exact trivial|exact gF|refine aj ?_ ?_)⟩;intro i u hi hr;obtain ⟨hE,hI,hT⟩:=hr;obtain ⟨st1,out1⟩:=u
      cases out1 with
      |nil=>
       repeat refine ai ?_
       refine aj ?_ ?_<;>intro h1
       ·have hlt:i<(Y s.kind ms x).length:=U h1
        have hy:(Y s.kind ms x)[i]∈N:=hin x hx _ (Qaj hlt);have hc:=lA s ms hm all N hN hin k 9 (Y s.kind ms x)[i] ⟨st1,[]⟩ hy hI.ok (by have:=hI.white;omega);rw[ed hlt] at hE;generalize hv:cw (Y s.kind ms) k (Y s.kind ms x)[i] ⟨st1,[]⟩=v at hc hE;obtain ⟨b3,st3,out3⟩:=v
        have hO:∃t,out3=[]++t:=by
             have:=iD (Y s.kind ms) k (Y s.kind ms x)[i] ⟨st1,[]⟩;rw[hv] at this;exact this
        have hT3:∃t,out3=[]++t:=by
             obtain ⟨t,ht⟩:=hT;obtain ⟨t2,ht2⟩:=hO;exact ⟨t++t2,by rw[ht2,←Qay];exact congrArg (·++t2) ht⟩
        repeat refine ai ?_
        refine aH (e:=eB) (xs:=(Y s.kind ms x)) (hlt) (rfl) rfl ?_;repeat refine ai ?_
        cases out3 with
        |nil=>
         cases b3 with
         |false=>
          refine Or.inr (Or.inl (Qad _ (Qad _ (aj (aj rfl hc) ?_))));repeat refine ai ?_
          refine ay ?_;rw[iU g1' g2' hE] at hq;obtain ⟨rfl,rfl⟩:=Prod.mk.inj hq;refine aj rfl (aj rfl ⟨rfl,rfl,?_,?_,?_⟩)
          all_goals (repeat' first|exact rfl|exact trivial|exact ax|refine aj ?_ ?_)
         |true=>
          refine Or.inr (Or.inl (Qad _ (Qad _ (aj (aj rfl hc) ?_))));repeat refine ai ?_
          refine an ?_;repeat refine ai ?_
          exact cH ⟨st3,[]⟩ hlt hs ⟨hE,iS hin hI hk hy hv,hT3⟩ fun hw=>by repeat' first|exact rfl|exact trivial|exact nd hw|exact ax|refine aj ?_ ?_
        |cons z zs=>
         cases b3 with
         |false=>
          refine Or.inr (Or.inl (Qad _ (Qad _ (aj (aj rfl hc) ?_))));repeat refine ai ?_
          refine ay ?_;rw[iU g1' g2' hE] at hq;obtain ⟨rfl,rfl⟩:=Prod.mk.inj hq;refine aj rfl (aj rfl ⟨rfl,rfl,?_,?_,?_⟩)
          all_goals (repeat' first|exact rfl|exact trivial|exact ax|refine aj ?_ ?_)
         |true=>
          refine Or.inr (Or.inl (Qad _ (Qad _ (aj (aj rfl hc) ?_))));repeat refine ai ?_
          refine an ?_;repeat refine ai ?_
          exact cH ⟨st3,(z::zs)⟩ hlt hs ⟨hE,iS hin hI hk hy hv,hT3⟩ fun hw=>by repeat' first|exact rfl|exact trivial|exact nd hw|exact ax|refine aj ?_ ?_
       ·rw[fA (V h1)] at hE
        rw[js g1' g2' hE] at hq;obtain ⟨rfl,rfl⟩:=Prod.mk.inj hq;have hroom:=lP hx hI;repeat refine ai ?_
        refine aj (fun r hr=>by rw[List.mem_singleton.1 hr];rfl) ?_;repeat refine ai ?_
        refine aj (by simp only[Qah,Qak,Qaf,Qac] at*;unfold big at*;omega) ?_;refine aj rfl (aj rfl ⟨rfl,rfl,?_,?_,?_⟩)
        all_goals (repeat' first|exact rfl|exact trivial|exact ax|exact gF|exact jz|exact bV _ _ _ _ _|refine aj ?_ ?_)
      |cons y ys=>
       repeat refine ai ?_
       refine aj ?_ ?_<;>intro h1
       ·have hlt:i<(Y s.kind ms x).length:=U h1
        have hy:(Y s.kind ms x)[i]∈N:=hin x hx _ (Qaj hlt);have hc:=lA s ms hm all N hN hin k 9 (Y s.kind ms x)[i] ⟨st1,(y::ys)⟩ hy hI.ok (by have:=hI.white;omega);rw[ed hlt] at hE;generalize hv:cw (Y s.kind ms) k (Y s.kind ms x)[i] ⟨st1,(y::ys)⟩=v at hc hE;obtain ⟨b3,st3,out3⟩:=v
        have hO:∃t,out3=(y::ys)++t:=by
             have:=iD (Y s.kind ms) k (Y s.kind ms x)[i] ⟨st1,(y::ys)⟩;rw[hv] at this;exact this
        have hT3:∃t,out3=[]++t:=by
             obtain ⟨t,ht⟩:=hT;obtain ⟨t2,ht2⟩:=hO;exact ⟨t++t2,by rw[ht2,←Qay];exact congrArg (·++t2) ht⟩
        repeat refine ai ?_
        refine aH (e:=eB) (xs:=(Y s.kind ms x)) (hlt) (rfl) rfl ?_;repeat refine ai ?_
        cases out3 with
        |nil=>
         obtain ⟨t,ht⟩:=hO
         cases ht
        |cons z zs=>
         cases b3 with
         |false=>
          refine Or.inr (Or.inl (Qad _ (Qad _ (aj (aj rfl hc) ?_))));repeat refine ai ?_
          refine ay ?_;rw[iU g1' g2' hE] at hq;obtain ⟨rfl,rfl⟩:=Prod.mk.inj hq;refine aj rfl (aj rfl ⟨rfl,rfl,?_,?_,?_⟩)
          all_goals (repeat' first|exact rfl|exact trivial|exact ax|refine aj ?_ ?_)
         |true=>
          refine Or.inr (Or.inl (Qad _ (Qad _ (aj (aj rfl hc) ?_))));repeat refine ai ?_
          refine an ?_;repeat refine ai ?_
          exact cH ⟨st3,(z::zs)⟩ hlt hs ⟨hE,iS hin hI hk hy hv,hT3⟩ fun hw=>by repeat' first|exact rfl|exact trivial|exact nd hw|exact ax|refine aj ?_ ?_
       ·rw[fA (V h1)] at hE
        rw[js g1' g2' hE] at hq;obtain ⟨rfl,rfl⟩:=Prod.mk.inj hq;have hroom:=lP hx hI;repeat refine ai ?_
        refine aj (fun r hr=>by rw[List.mem_singleton.1 hr];rfl) ?_;repeat refine ai ?_
        refine aj (by simp only[Qah,Qak,Qaf,Qac] at*;unfold big at*;omega) ?_;refine aj rfl (aj rfl ⟨rfl,rfl,?_,?_,?_⟩);all_goals (repeat' first|exact rfl|exact trivial|exact ax|exact gF|exact jz|exact bV _ _ _ _ _|refine aj ?_ ?_)
   ·refine ⟨_,e1,?_⟩
    repeat refine ai ?_
    refine aj ?_ ?_<;>intro g1
    ·have g1':(lk st x==1)=true:=by first|exact g1|(rw[e1];exact g1)
     rw[nC g1'] at hq;obtain ⟨rfl,rfl⟩:=Prod.mk.inj hq;refine aj rfl (aj rfl ⟨rfl,rfl,?_,?_,?_⟩);all_goals (repeat' first|exact rfl|exact trivial|exact ax|refine aj ?_ ?_)
    ·have g1':(lk st x==1)=false:=by first|exact g1|(rw[e1];exact g1)
     repeat refine ai ?_
     refine aj ?_ ?_<;>intro g2
     ·have g2':(lk st x==2)=true:=by first|exact g2|(rw[e1];exact g2)
      rw[nB g1' g2'] at hq;obtain ⟨rfl,rfl⟩:=Prod.mk.inj hq;refine aj rfl (aj rfl ⟨rfl,rfl,?_,?_,?_⟩);all_goals (repeat' first|exact rfl|exact trivial|exact ax|refine aj ?_ ?_)
     ·have g2':(lk st x==2)=false:=by first|exact g2|(rw[e1];exact g2)
      repeat refine ai ?_
      refine oh (rN _ s ms hm all (bp (st.map jo) [.str x] (.d (.int .i64 1))) (fun n=>by rw[fQ];exact ax) (fun i b=>by rw[fQ];exact ju) [] x) ?_
      have hs:(Y s.kind ms x).length≤big:=by
       have:=gp (k:=s.kind) (n:=x) (ms:=ms);unfold big;omega
      repeat refine ai ?_
      refine kO ((Y s.kind ms x)) (fun i (u:Wk)=>ce (cw (Y s.kind ms) k) (Y s.kind ms x) ⟨pt st x 1,[]⟩=ce (cw (Y s.kind ms) k) ((Y s.kind ms x).drop i) u∧Bq (Y s.kind ms) N x ⟨st,[]⟩ u∧∃t,u.out=[]++t) (fun i (u:Wk)=>[(0,.d (.str x)),(1,.ptr 6 0),(2,.ptr 4 0),(3,.ptr 8 0),(4,.ptr 7 0),(20,.d (lS (Y s.kind ms x))),(21,.d (.int .i64 ((Y s.kind ms x).map eB).length)),(22,.d (.int .i64 i))]) (fun i (u:Wk)=>hW 9 s ms all u) (⟨rfl,nA hx hwk g1' g2',[],by simp⟩) ?_ ⟨rfl,rfl,⟨rfl,rfl,rfl,rfl,rfl,rfl,rfl,rfl,trivial⟩,(by repeat' first|exact rfl|exact trivial|exact ax|refine aj ?_ ?_),(by repeat' first|exact rfl|exact trivial|exact gF|refine aj ?_ ?_)⟩;intro i u hi hr;obtain ⟨hE,hI,hT⟩:=hr;obtain ⟨st1,out1⟩:=u
      cases out1 with
      |nil=>
       repeat refine ai ?_
       refine aj ?_ ?_<;>intro h1
       ·have hlt:i<(Y s.kind ms x).length:=U h1
        have hy:(Y s.kind ms x)[i]∈N:=hin x hx _ (Qaj hlt);have hc:=lA s ms hm all N hN hin k 9 (Y s.kind ms x)[i] ⟨st1,[]⟩ hy hI.ok (by have:=hI.white;omega);rw[ed hlt] at hE;generalize hv:cw (Y s.kind ms) k (Y s.kind ms x)[i] ⟨st1,[]⟩=v at hc hE;obtain ⟨b3,st3,out3⟩:=v
        have hO:∃t,out3=[]++t:=by
             have:=iD (Y s.kind ms) k (Y s.kind ms x)[i] ⟨st1,[]⟩;rw[hv] at this;exact this
        have hT3:∃t,out3=[]++t:=by
             obtain ⟨t,ht⟩:=hT;obtain ⟨t2,ht2⟩:=hO;exact ⟨t++t2,by rw[ht2,←Qay];exact congrArg (·++t2) ht⟩
        repeat refine ai ?_
        refine aH (e:=eB) (xs:=(Y s.kind ms x)) (hlt) (rfl) rfl ?_;repeat refine ai ?_
        cases out3 with
        |nil=>
         cases b3 with
         |false=>
          refine Or.inr (Or.inl (Qad _ (Qad _ (aj (aj rfl hc) ?_))));repeat refine ai ?_
          refine ay ?_;rw[iU g1' g2' hE] at hq;obtain ⟨rfl,rfl⟩:=Prod.mk.inj hq;refine aj rfl (aj rfl ⟨rfl,rfl,?_,?_,?_⟩)
          all_goals (repeat' first|exact rfl|exact trivial|exact ax|refine aj ?_ ?_)
         |true=>
          refine Or.inr (Or.inl (Qad _ (Qad _ (aj (aj rfl hc) ?_))));repeat refine ai ?_
          refine an ?_;repeat refine ai ?_
          exact cH ⟨st3,[]⟩ hlt hs ⟨hE,iS hin hI hk hy hv,hT3⟩ fun hw=>by repeat' first|exact rfl|exact trivial|exact nd hw|exact ax|refine aj ?_ ?_
        |cons z zs=>
         cases b3 with
         |false=>
          refine Or.inr (Or.inl (Qad _ (Qad _ (aj (aj rfl hc) ?_))));repeat refine ai ?_
          refine ay ?_;rw[iU g1' g2' hE] at hq;obtain ⟨rfl,rfl⟩:=Prod.mk.inj hq;refine aj rfl (aj rfl ⟨rfl,rfl,?_,?_,?_⟩)
          all_goals (repeat' first|exact rfl|exact trivial|exact ax|refine aj ?_ ?_)
         |true=>
          refine Or.inr (Or.inl (Qad _ (Qad _ (aj (aj rfl hc) ?_))));repeat refine ai ?_
          refine an ?_;repeat refine ai ?_
          exact cH ⟨st3,(z::zs)⟩ hlt hs ⟨hE,iS hin hI hk hy hv,hT3⟩ fun hw=>by repeat' first|exact rfl|exact trivial|exact nd hw|exact ax|refine aj ?_ ?_
       ·rw[fA (V h1)] at hE
        rw[js g1' g2' hE] at hq;obtain ⟨rfl,rfl⟩:=Prod.mk.inj hq;have hroom:=lP hx hI;repeat refine ai ?_
        refine aj (fun r hr=>by rw[List.mem_singleton.1 hr];rfl) ?_;repeat refine ai ?_
        refine aj (by simp only[Qah,Qak,Qaf,Qac] at*;unfold big at*;omega) ?_;refine aj rfl (aj rfl ⟨rfl,rfl,?_,?_,?_⟩)
        all_goals (repeat' first|exact rfl|exact trivial|exact ax|exact gF|exact jz|exact bV _ _ _ _ _|refine aj ?_ ?_)
      |cons y ys=>
       repeat refine ai ?_
       refine aj ?_ ?_<;>intro h1
       ·have hlt:i<(Y s.kind ms x).length:=U h1
        have hy:(Y s.kind ms x)[i]∈N:=hin x hx _ (Qaj hlt);have hc:=lA s ms hm all N hN hin k 9 (Y s.kind ms x)[i] ⟨st1,(y::ys)⟩ hy hI.ok (by have:=hI.white;omega);rw[ed hlt] at hE;generalize hv:cw (Y s.kind ms) k (Y s.kind ms x)[i] ⟨st1,(y::ys)⟩=v at hc hE;obtain ⟨b3,st3,out3⟩:=v
        have hO:∃t,out3=(y::ys)++t:=by
             have:=iD (Y s.kind ms) k (Y s.kind ms x)[i] ⟨st1,(y::ys)⟩;rw[hv] at this;exact this
        have hT3:∃t,out3=[]++t:=by
             obtain ⟨t,ht⟩:=hT;obtain ⟨t2,ht2⟩:=hO;exact ⟨t++t2,by rw[ht2,←Qay];exact congrArg (·++t2) ht⟩
        repeat refine ai ?_
        refine aH (e:=eB) (xs:=(Y s.kind ms x)) (hlt) (rfl) rfl ?_;repeat refine ai ?_
        cases out3 with
        |nil=>
         obtain ⟨t,ht⟩:=hO
         cases ht
        |cons z zs=>
         cases b3 with
         |false=>
          refine Or.inr (Or.inl (Qad _ (Qad _ (aj (aj rfl hc) ?_))));repeat refine ai ?_
          refine ay ?_;rw[iU g1' g2' hE] at hq;obtain ⟨rfl,rfl⟩:=Prod.mk.inj hq;refine aj rfl (aj rfl ⟨rfl,rfl,?_,?_,?_⟩)
          all_goals (repeat' first|exact rfl|exact trivial|exact ax|refine aj ?_ ?_)
         |true=>
          refine Or.inr (Or.inl (Qad _ (Qad _ (aj (aj rfl hc) ?_))));repeat refine ai ?_
          refine an ?_;repeat refine ai ?_
          exact cH ⟨st3,(z::zs)⟩ hlt hs ⟨hE,iS hin hI hk hy hv,hT3⟩ fun hw=>by repeat' first|exact rfl|exact trivial|exact nd hw|exact ax|refine aj ?_ ?_
       ·rw[fA (V h1)] at hE
        rw[js g1' g2' hE] at hq;obtain ⟨rfl,rfl⟩:=Prod.mk.inj hq;have hroom:=lP hx hI;repeat refine ai ?_
        refine aj (fun r hr=>by rw[List.mem_singleton.1 hr];rfl) ?_;repeat refine ai ?_
        refine aj (by simp only[Qah,Qak,Qaf,Qac] at*;unfold big at*;omega) ?_;refine aj rfl (aj rfl ⟨rfl,rfl,?_,?_,?_⟩)
        all_goals (repeat' first|exact rfl|exact trivial|exact ax|exact gF|exact jz|exact bV _ _ _ _ _|refine aj ?_ ?_)
  |cons a tl=>
   refine HSpec.of_vc aO aA [.tmp 6] Tryz.func236 rfl rfl rfl rfl rfl (fun hok=>?_);repeat refine ai ?_
   rcases tQ (x:=x) st with ⟨e0,e1⟩|e1
   ·refine ⟨_,e0,?_⟩
    repeat refine ai ?_
    refine aj ?_ ?_<;>intro g1
    ·have g1':(lk st x==1)=true:=by first|exact g1|(rw[e1];exact g1)
     rw[nC g1'] at hq;obtain ⟨rfl,rfl⟩:=Prod.mk.inj hq;refine aj rfl (aj rfl ⟨rfl,rfl,?_,?_,?_⟩);all_goals (repeat' first|exact rfl|exact trivial|exact ax|refine aj ?_ ?_)
    ·have g1':(lk st x==1)=false:=by first|exact g1|(rw[e1];exact g1)
     repeat refine ai ?_
     refine aj ?_ ?_<;>intro g2
     ·have g2':(lk st x==2)=true:=by first|exact g2|(rw[e1];exact g2)
      rw[nB g1' g2'] at hq;obtain ⟨rfl,rfl⟩:=Prod.mk.inj hq;refine aj rfl (aj rfl ⟨rfl,rfl,?_,?_,?_⟩);all_goals (repeat' first|exact rfl|exact trivial|exact ax|refine aj ?_ ?_)
     ·have g2':(lk st x==2)=false:=by first|exact g2|(rw[e1];exact g2)
      repeat refine ai ?_
      refine oh (rN _ s ms hm all (bp (st.map jo) [.str x] (.d (.int .i64 1))) (fun n=>by rw[fQ];exact ax) (fun i b=>by rw[fQ];exact ju) (a::tl) x) ?_
      have hs:(Y s.kind ms x).length≤big:=by
       have:=gp (k:=s.kind) (n:=x) (ms:=ms);unfold big;omega
      repeat refine ai ?_
      refine kO ((Y s.kind ms x)) (fun i (u:Wk)=>ce (cw (Y s.kind ms) k) (Y s.kind ms x) ⟨pt st x 1,(a::tl)⟩=ce (cw (Y s.kind ms) k) ((Y s.kind ms x).drop i) u∧Bq (Y s.kind ms) N x ⟨st,(a::tl)⟩ u∧∃t,u.out=(a::tl)++t) (fun i (u:Wk)=>[(0,.d (.str x)),(1,.ptr 6 0),(2,.ptr 4 0),(3,.ptr 8 0),(4,.ptr 7 0),(20,.d (lS (Y s.kind ms x))),(21,.d (.int .i64 ((Y s.kind ms x).map eB).length)),(22,.d (.int .i64 i))]) (fun i (u:Wk)=>hW 10 s ms all u) (⟨rfl,nA hx hwk g1' g2',[],by simp⟩) ?_ ⟨rfl,rfl,⟨rfl,rfl,rfl,rfl,rfl,rfl,rfl,rfl,trivial⟩,(by repeat' first|exact rfl|exact trivial|exact ax|refine aj ?_ ?_),(by repeat' first|exact rfl|exact trivial|exact gF|refine aj ?_ ?_)⟩;intro i u hi hr;obtain ⟨hE,hI,hT⟩:=hr;obtain ⟨st1,out1⟩:=u
      cases out1 with
      |nil=>
       obtain ⟨t,ht⟩:=hT
       cases ht
      |cons y ys=>
       repeat refine ai ?_
       refine aj ?_ ?_<;>intro h1
       ·have hlt:i<(Y s.kind ms x).length:=U h1
        have hy:(Y s.kind ms x)[i]∈N:=hin x hx _ (Qaj hlt);have hc:=lA s ms hm all N hN hin k 10 (Y s.kind ms x)[i] ⟨st1,(y::ys)⟩ hy hI.ok (by have:=hI.white;omega);rw[ed hlt] at hE;generalize hv:cw (Y s.kind ms) k (Y s.kind ms x)[i] ⟨st1,(y::ys)⟩=v at hc hE;obtain ⟨b3,st3,out3⟩:=v
        have hO:∃t,out3=(y::ys)++t:=by
             have:=iD (Y s.kind ms) k (Y s.kind ms x)[i] ⟨st1,(y::ys)⟩;rw[hv] at this;exact this
        have hT3:∃t,out3=(a::tl)++t:=by
             obtain ⟨t,ht⟩:=hT;obtain ⟨t2,ht2⟩:=hO;exact ⟨t++t2,by rw[ht2,←Qay];exact congrArg (·++t2) ht⟩
        repeat refine ai ?_
        refine aH (e:=eB) (xs:=(Y s.kind ms x)) (hlt) (rfl) rfl ?_;repeat refine ai ?_
        cases out3 with
        |nil=>
         obtain ⟨t,ht⟩:=hO
         cases ht
        |cons z zs=>
         cases b3 with
         |false=>
          refine Or.inr (Or.inl (Qad _ (Qad _ (aj (aj rfl hc) ?_))));repeat refine ai ?_
          refine ay ?_;rw[iU g1' g2' hE] at hq;obtain ⟨rfl,rfl⟩:=Prod.mk.inj hq;refine aj rfl (aj rfl ⟨rfl,rfl,?_,?_,?_⟩)
          all_goals (repeat' first|exact rfl|exact trivial|exact ax|refine aj ?_ ?_)
         |true=>
          refine Or.inr (Or.inl (Qad _ (Qad _ (aj (aj rfl hc) ?_))));repeat refine ai ?_
          refine an ?_;repeat refine ai ?_
          exact cH ⟨st3,(z::zs)⟩ hlt hs ⟨hE,iS hin hI hk hy hv,hT3⟩ fun hw=>by repeat' first|exact rfl|exact trivial|exact nd hw|exact ax|refine aj ?_ ?_
       ·rw[fA (V h1)] at hE
        rw[js g1' g2' hE] at hq;obtain ⟨rfl,rfl⟩:=Prod.mk.inj hq;have hroom:=lP hx hI;repeat refine ai ?_
        refine aj (fun r hr=>by rw[List.mem_singleton.1 hr];rfl) ?_;repeat refine ai ?_
        refine aj (by simp only[Qah,Qak,Qaf,Qac] at*;unfold big at*;omega) ?_;refine aj rfl (aj rfl ⟨rfl,rfl,?_,?_,?_⟩);all_goals (repeat' first|exact rfl|exact trivial|exact ax|exact gF|exact jz|exact bV _ _ _ _ _|refine aj ?_ ?_)
   ·refine ⟨_,e1,?_⟩
    repeat refine ai ?_
    refine aj ?_ ?_<;>intro g1
    ·have g1':(lk st x==1)=true:=by first|exact g1|(rw[e1];exact g1)
     rw[nC g1'] at hq;obtain ⟨rfl,rfl⟩:=Prod.mk.inj hq;refine aj rfl (aj rfl ⟨rfl,rfl,?_,?_,?_⟩);all_goals (repeat' first|exact rfl|exact trivial|exact ax|refine aj ?_ ?_)
    ·have g1':(lk st x==1)=false:=by first|exact g1|(rw[e1];exact g1)
     repeat refine ai ?_
     refine aj ?_ ?_<;>intro g2
     ·have g2':(lk st x==2)=true:=by first|exact g2|(rw[e1];exact g2)
      rw[nB g1' g2'] at hq;obtain ⟨rfl,rfl⟩:=Prod.mk.inj hq;refine aj rfl (aj rfl ⟨rfl,rfl,?_,?_,?_⟩);all_goals (repeat' first|exact rfl|exact trivial|exact ax|refine aj ?_ ?_)
     ·have g2':(lk st x==2)=false:=by first|exact g2|(rw[e1];exact g2)
      repeat refine ai ?_
      refine oh (rN _ s ms hm all (bp (st.map jo) [.str x] (.d (.int .i64 1))) (fun n=>by rw[fQ];exact ax) (fun i b=>by rw[fQ];exact ju) (a::tl) x) ?_
      have hs:(Y s.kind ms x).length≤big:=by
       have:=gp (k:=s.kind) (n:=x) (ms:=ms);unfold big;omega
      repeat refine ai ?_
      refine kO ((Y s.kind ms x)) (fun i (u:Wk)=>ce (cw (Y s.kind ms) k) (Y s.kind ms x) ⟨pt st x 1,(a::tl)⟩=ce (cw (Y s.kind ms) k) ((Y s.kind ms x).drop i) u∧Bq (Y s.kind ms) N x ⟨st,(a::tl)⟩ u∧∃t,u.out=(a::tl)++t) (fun i (u:Wk)=>[(0,.d (.str x)),(1,.ptr 6 0),(2,.ptr 4 0),(3,.ptr 8 0),(4,.ptr 7 0),(20,.d (lS (Y s.kind ms x))),(21,.d (.int .i64 ((Y s.kind ms x).map eB).length)),(22,.d (.int .i64 i))]) (fun i (u:Wk)=>hW 10 s ms all u) (⟨rfl,nA hx hwk g1' g2',[],by simp⟩) ?_ ⟨rfl,rfl,⟨rfl,rfl,rfl,rfl,rfl,rfl,rfl,rfl,trivial⟩,(by repeat' first|exact rfl|exact trivial|exact ax|refine aj ?_ ?_),(by repeat' first|exact rfl|exact trivial|exact gF|refine aj ?_ ?_)⟩;intro i u hi hr;obtain ⟨hE,hI,hT⟩:=hr;obtain ⟨st1,out1⟩:=u
      cases out1 with
      |nil=>
       obtain ⟨t,ht⟩:=hT
       cases ht
      |cons y ys=>
       repeat refine ai ?_
       refine aj ?_ ?_<;>intro h1
       ·have hlt:i<(Y s.kind ms x).length:=U h1
        have hy:(Y s.kind ms x)[i]∈N:=hin x hx _ (Qaj hlt);have hc:=lA s ms hm all N hN hin k 10 (Y s.kind ms x)[i] ⟨st1,(y::ys)⟩ hy hI.ok (by have:=hI.white;omega);rw[ed hlt] at hE;generalize hv:cw (Y s.kind ms) k (Y s.kind ms x)[i] ⟨st1,(y::ys)⟩=v at hc hE;obtain ⟨b3,st3,out3⟩:=v
        have hO:∃t,out3=(y::ys)++t:=by
             have:=iD (Y s.kind ms) k (Y s.kind ms x)[i] ⟨st1,(y::ys)⟩;rw[hv] at this;exact this
        have hT3:∃t,out3=(a::tl)++t:=by
             obtain ⟨t,ht⟩:=hT;obtain ⟨t2,ht2⟩:=hO;exact ⟨t++t2,by rw[ht2,←Qay];exact congrArg (·++t2) ht⟩
        repeat refine ai ?_
        refine aH (e:=eB) (xs:=(Y s.kind ms x)) (hlt) (rfl) rfl ?_;repeat refine ai ?_
        cases out3 with
        |nil=>
         obtain ⟨t,ht⟩:=hO
         cases ht
        |cons z zs=>
         cases b3 with
         |false=>
          refine Or.inr (Or.inl (Qad _ (Qad _ (aj (aj rfl hc) ?_))));repeat refine ai ?_
          refine ay ?_;rw[iU g1' g2' hE] at hq;obtain ⟨rfl,rfl⟩:=Prod.mk.inj hq;refine aj rfl (aj rfl ⟨rfl,rfl,?_,?_,?_⟩)
          all_goals (repeat' first|exact rfl|exact trivial|exact ax|refine aj ?_ ?_)
         |true=>
          refine Or.inr (Or.inl (Qad _ (Qad _ (aj (aj rfl hc) ?_))));repeat refine ai ?_
          refine an ?_;repeat refine ai ?_
          exact cH ⟨st3,(z::zs)⟩ hlt hs ⟨hE,iS hin hI hk hy hv,hT3⟩ fun hw=>by repeat' first|exact rfl|exact trivial|exact nd hw|exact ax|refine aj ?_ ?_
       ·rw[fA (V h1)] at hE
        rw[js g1' g2' hE] at hq;obtain ⟨rfl,rfl⟩:=Prod.mk.inj hq;have hroom:=lP hx hI;repeat refine ai ?_
        refine aj (fun r hr=>by rw[List.mem_singleton.1 hr];rfl) ?_;repeat refine ai ?_
        refine aj (by simp only[Qah,Qak,Qaf,Qac] at*;unfold big at*;omega) ?_;refine aj rfl (aj rfl ⟨rfl,rfl,?_,?_,?_⟩);all_goals (repeat' first|exact rfl|exact trivial|exact ax|exact gF|exact jz|exact bV _ _ _ _ _|refine aj ?_ ?_)
end Go.Vc
end
section
namespace Go.Vc
open Go.Proofs
set_option maxRecDepth 100000
def jy (rd:Bs→List Bs) (all:List Bs):List Bs×Bool:=match ce (cw rd (all.length+1)) all D3 with
 |(true,u)=>(u.out,true)
 |(false,_)=>([],false)
theorem Dc {rd:Bs→List Bs} {all:List Bs}:(jy rd all).2=(ce (cw rd (all.length+1)) all D3).1:=by
 unfold jy;split<;>(rename_i h;rw[h])
theorem rF {rd:Bs→List Bs} {all:List Bs} {u:Wk} (h:ce (cw rd (all.length+1)) all D3=(false,u)):jy rd all=([],false):=by
 unfold jy;rw[h]
theorem sW {rd:Bs→List Bs} {all:List Bs} {u:Wk} (h:ce (cw rd (all.length+1)) all D3=(true,u)):jy rd all=(u.out,true):=by
 unfold jy;rw[h]
def hA (lo nx:Nat) (s:GateShape) (ms:List GateMend):Heap:=⟨[(1,oM ms),(0,oS s)],nx,lo⟩
theorem Kn (s:GateShape) (ms:List GateMend) (hm:ms.length≤12) (all:List Bs) (hN:all.length≤big) (hin:∀n∈all,∀y∈Y s.kind ms n,y∈all) (lo:Nat):
 HSpec P 230 [.d (lS all),yI] (hA lo 4 s ms) (.tup [.d (lS (jy (Y s.kind ms) all).1),.d (.bool (jy (Y s.kind ms) all).2)]) (hA lo 4 s ms):=by
 refine HSpec.of_vc aO aA [.tmp 4,.tmp 5] Tryz.func230 rfl rfl rfl rfl rfl (fun hok=>?_);have hs:=hN;repeat refine ai ?_
 refine kO (all) (fun i (u:Wk)=>ce (cw (Y s.kind ms) (all.length+1)) all D3=ce (cw (Y s.kind ms) (all.length+1)) (all.drop i) u∧pu (Y s.kind ms) all u) (fun i (u:Wk)=>[(7,.ptr 7 0),(8,.ptr 8 0),(13,.d (lS all)),(14,.d (.int .i64 (all.map eB).length)),(15,.d (.int .i64 i))]) (fun i (u:Wk)=>hW 4 s ms all u) (⟨rfl,Bx _ _⟩) ?_ ⟨rfl,rfl,⟨rfl,rfl,rfl,rfl,rfl,trivial⟩,(by repeat' first|exact rfl|exact trivial|exact ax|refine aj ?_ ?_),(by repeat' first|exact rfl|exact trivial|refine aj ?_ ?_)⟩;intro i u hi hr;obtain ⟨hE,hI⟩:=hr;obtain ⟨st1,out1⟩:=u
 cases out1 with
 |nil=>
  repeat refine ai ?_
  refine aj ?_ ?_<;>intro h1
  ·have hlt:i<all.length:=U h1
   have hy:all[i]∈all:=Qaj hlt;have hwl:white all ⟨st1,[]⟩<all.length+1:=Qa6 (lQ _ _);have hc:=lA s ms hm all all hN hin (all.length+1) 4 all[i] ⟨st1,[]⟩ hy hI hwl;have hg:=iu hin (all.length+1) all[i] ⟨st1,[]⟩ hy hI hwl;rw[ed hlt] at hE;generalize hv:cw (Y s.kind ms) (all.length+1) all[i] ⟨st1,[]⟩=v at hc hE hg;obtain ⟨b3,st3,out3⟩:=v;repeat refine ai ?_
   refine O (e:=eB) (xs:=all) (hlt) rfl ?_;repeat refine ai ?_
   cases b3 with
   |false=>
    cases out3 with
    |nil=>
     rw[rF hE];refine Or.inr (Or.inl (Qad _ (Qad _ (aj (aj rfl hc) ?_))));repeat refine ai ?_
     refine ay ?_;refine aj rfl (aj rfl ⟨rfl,rfl,?_,?_,?_⟩)
     all_goals (repeat' first|exact rfl|exact trivial|exact ax|refine aj ?_ ?_)
    |cons z zs=>
     rw[rF hE];refine Or.inr (Or.inl (Qad _ (Qad _ (aj (aj rfl hc) ?_))));repeat refine ai ?_
     refine ay ?_;refine aj rfl (aj rfl ⟨rfl,rfl,?_,?_,?_⟩)
     all_goals (repeat' first|exact rfl|exact trivial|exact ax|refine aj ?_ ?_)
   |true=>
    have hok3:pu (Y s.kind ms) all ⟨st3,out3⟩:=(hg.1 rfl).1
    cases out3 with
    |nil=>
     refine Or.inr (Or.inl (Qad _ (Qad _ (aj (aj rfl hc) ?_))));repeat refine ai ?_
     refine an ?_;repeat refine ai ?_
     exact cH ⟨st3,[]⟩ hlt hs ⟨hE,hok3⟩ fun hw=>by repeat' first|exact rfl|exact trivial|exact nd hw|exact ax|refine aj ?_ ?_
    |cons z zs=>
     refine Or.inr (Or.inl (Qad _ (Qad _ (aj (aj rfl hc) ?_))));repeat refine ai ?_
     refine an ?_;repeat refine ai ?_
     exact cH ⟨st3,(z::zs)⟩ hlt hs ⟨hE,hok3⟩ fun hw=>by repeat' first|exact rfl|exact trivial|exact nd hw|exact ax|refine aj ?_ ?_
  ·rw[fA (V h1)] at hE
   rw[sW hE];refine aj rfl (aj rfl ⟨rfl,rfl,?_,?_,?_⟩)
   all_goals (repeat' first|exact rfl|exact trivial|exact ax|refine aj ?_ ?_)
 |cons y ys=>
  repeat refine ai ?_
  refine aj ?_ ?_<;>intro h1
  ·have hlt:i<all.length:=U h1
   have hy:all[i]∈all:=Qaj hlt;have hwl:white all ⟨st1,(y::ys)⟩<all.length+1:=Qa6 (lQ _ _);have hc:=lA s ms hm all all hN hin (all.length+1) 4 all[i] ⟨st1,(y::ys)⟩ hy hI hwl;have hg:=iu hin (all.length+1) all[i] ⟨st1,(y::ys)⟩ hy hI hwl;rw[ed hlt] at hE;generalize hv:cw (Y s.kind ms) (all.length+1) all[i] ⟨st1,(y::ys)⟩=v at hc hE hg;obtain ⟨b3,st3,out3⟩:=v;repeat refine ai ?_
   refine O (e:=eB) (xs:=all) (hlt) rfl ?_;repeat refine ai ?_
   cases b3 with
   |false=>
    cases out3 with
    |nil=>
     rw[rF hE];refine Or.inr (Or.inl (Qad _ (Qad _ (aj (aj rfl hc) ?_))));repeat refine ai ?_
     refine ay ?_;refine aj rfl (aj rfl ⟨rfl,rfl,?_,?_,?_⟩)
     all_goals (repeat' first|exact rfl|exact trivial|exact ax|refine aj ?_ ?_)
    |cons z zs=>
     rw[rF hE];refine Or.inr (Or.inl (Qad _ (Qad _ (aj (aj rfl hc) ?_))));repeat refine ai ?_
     refine ay ?_;refine aj rfl (aj rfl ⟨rfl,rfl,?_,?_,?_⟩)
     all_goals (repeat' first|exact rfl|exact trivial|exact ax|refine aj ?_ ?_)
   |true=>
    have hok3:pu (Y s.kind ms) all ⟨st3,out3⟩:=(hg.1 rfl).1
    cases out3 with
    |nil=>
     refine Or.inr (Or.inl (Qad _ (Qad _ (aj (aj rfl hc) ?_))));repeat refine ai ?_
     refine an ?_;repeat refine ai ?_
     exact cH ⟨st3,[]⟩ hlt hs ⟨hE,hok3⟩ fun hw=>by repeat' first|exact rfl|exact trivial|exact nd hw|exact ax|refine aj ?_ ?_
    |cons z zs=>
     refine Or.inr (Or.inl (Qad _ (Qad _ (aj (aj rfl hc) ?_))));repeat refine ai ?_
     refine an ?_;repeat refine ai ?_
     exact cH ⟨st3,(z::zs)⟩ hlt hs ⟨hE,hok3⟩ fun hw=>by repeat' first|exact rfl|exact trivial|exact nd hw|exact ax|refine aj ?_ ?_
  ·rw[fA (V h1)] at hE
   rw[sW hE];refine aj rfl (aj rfl ⟨rfl,rfl,?_,?_,?_⟩);all_goals (repeat' first|exact rfl|exact trivial|exact ax|refine aj ?_ ?_)
theorem Jp (s:GateShape) (ms:List GateMend) (lo:Nat):HSpec P 230 [.nils,yI] (hA lo 2 s ms) (.tup [.d (lS []),.d (.bool true)]) (hA lo 2 s ms):=by
 refine HSpec.of_vc aO aA [.tmp 4,.tmp 5] Tryz.func230 rfl rfl rfl rfl rfl (fun hok=>?_);have hs:([]:List Bs).length≤big:=Qa1 _;repeat refine ai ?_
 refine d8 (([]:List Bs)) (fun i=>True) (fun i=>[(7,.ptr 5 0),(13,.nils),(14,.d (.int .i64 0)),(15,.d (.int .i64 i))]) (fun i=>⟨[(5,.cells 101 [.nils]),(1,oM ms),(0,oS s)],7,2⟩) (trivial) ?_;intro i hi hr;repeat refine ai ?_
 refine aj ?_ ?_<;>intro h1
 ·exact absurd (of_decide_eq_true h1) (by omega)
 ·refine aj rfl (aj rfl ⟨rfl,rfl,?_,?_,?_⟩)
  all_goals (repeat' first|exact rfl|exact trivial|refine aj ?_ ?_)
theorem yB (s:GateShape) (ms:List GateMend) (hm:ms.length≤12) (hin:∀n∈bE s,∀y∈Y s.kind ms n,y∈bE s):
 Spec P 212 [st s.e,.d (ap ms)] (.tup [.d (lS (jy (Y s.kind ms) (bE s)).1),.d (.bool (jy (Y s.kind ms) (bE s)).2)]):=by
 refine Spec.of_vc aO aA [.tmp 4,.tmp 5] Tryz.func212 rfl rfl rfl rfl (fun hok=>?_)
 have hs:s.fields.length≤big:=by
  have:=hok.1;simp only[st,AV.ok,GateShape.e,List.map,dQ] at this;exact az this.2.1.1
 repeat refine ai ?_
 refine kO (s.fields) (fun i (A:List Bs)=>A=(s.fields.take i).map (·.name)) (fun i (A:List Bs)=>[(2,.ptr 0 0),(3,.ptr 1 0),(6,F1 3 A),(10,.d (ad s.fields)),(11,.d (.int .i64 (s.fields.map GateField.e).length)),(12,.d (.int .i64 i))]) (fun i (A:List Bs)=>⟨(Dd [(1,oM ms),(0,oS s)] 2 3 A).objs,(Dd [(1,oM ms),(0,oS s)] 2 3 A).nx,0⟩) (rfl) ?_;intro i A hi hr;have hA:A.length≤s.fields.length:=by rw[hr,Qac,QaS];omega
 have hA2:A.length≤i:=by rw[hr,Qac,QaS];omega
 repeat refine ai ?_
 refine aj ?_ ?_<;>intro h1
 ·have hlt:i<s.fields.length:=U h1
  have hstep:(s.fields.take (i+1)).map (·.name)=A++[s.fields[i].name]:=by
   rw[Qax hlt,Qa0,←hr];rfl
  repeat refine ai ?_
  refine O (e:=GateField.e) (xs:=s.fields) (hlt) rfl ?_;repeat refine ai ?_
  cases A with
  |nil=>
   repeat refine ai ?_
   refine aj (fun r hr=>by rw[List.mem_singleton.1 hr];rfl) ?_;repeat refine ai ?_
   refine aj (by simp only[Qak,Qaf,Qac] at*;unfold big;omega) ?_;repeat refine ai ?_
   exact cH ([s.fields[i].name]) hlt hs (by rw[hstep];rfl)
  |cons a tl=>
   repeat refine ai ?_
   refine aj (fun r hr=>by rw[List.mem_singleton.1 hr];rfl) ?_;repeat refine ai ?_
   refine aj (by simp only[Qah,Qak,Qaf,Qac] at*;unfold big at*;omega) ?_;repeat refine ai ?_
   exact cH (a::(tl++[s.fields[i].name])) hlt hs (by rw[hstep];rfl) fun hw=>by repeat' first|exact rfl|exact trivial|exact nd hw|exact bV _ _ _ _ _|refine aj ?_ ?_
 ·have ha:A=bE s:=by rw[hr,Qao (V h1)];rfl
  rw[←ha] at hin ⊢
  cases A with
  |nil=>
   repeat refine ai ?_
   refine oh (Jp s ms _) ?_
   rfl
  |cons a tl=>
   repeat refine ai ?_
   refine op (Kn s ms hm (a::tl) (Nat.le_trans hA hs) hin _) ?_;rfl
def sX (s:GateShape) (ms:List GateMend):Bool:=((oq s ms).length:Int)==(s.fields.length:Int)
theorem m4 {xs:List GateShape} {ms:List GateMend} (h:aR xs=true) (hm:ms.all (bX xs)=true) {s:GateShape} (hs:s∈xs):(jy (Y s.kind ms) (bE s)).2=sX s ms:=by
 rw[Dc,zf (nU h hs) (fun n _=>lh h hm hs n)];have e:(bE s).length=s.fields.length:=by rw[bE,Qac]
 unfold sX oq gr;rw[e,QaY,decide_eq_true_eq,beq_iff_eq];omega
theorem EX {xs:List GateShape} {m:GateMend} {j:Nat} (hj:j<xs.length) (e:dC (·.kind==m.kind) xs=(j:Int)):bX xs m=jG xs[j].fields m:=by
 unfold bX;rw[e,QaD,Qai hj];have:decide ((j:Int)≥0)=true:=decide_eq_true (by omega);simp only[this,Qae]
theorem Au {xs:List GateShape} {m:GateMend} (h:decide (dC (·.kind==m.kind) xs<0)=true):bX xs m=false:=by
 have h':decide (dC (·.kind==m.kind) xs≥0)=false:=decide_eq_false (by have:=of_decide_eq_true h;omega);unfold bX;split<;>simp only[h',Qan]
theorem gK (xs:List GateShape) (ms:List GateMend):Spec P 181 [.d (ab xs),.d (ap ms)] (.d (.bool (bL xs ms))):=by
 refine Spec.of_vc aO aA [.tmp 4] Tryz.func181 rfl rfl rfl rfl (fun hok=>?_);have hs:xs.length≤big:=az hok.1.1;have hsm:ms.length≤big:=az hok.2.1.1;repeat refine ai ?_
 refine oc (fU _) ?_;repeat refine ai ?_
 refine aj ?_ ?_<;>intro h0
 ·simp only[Qab,Qaa] at h0
  repeat refine ai ?_
  refine aj ?_ ?_<;>intro h1
  ·rw[Qac] at h1
   refine bd ?_;simp only[bL,h1,bl]
  ·rw[Qac] at h1
   have hm12:ms.length≤12:=by have:=of_decide_eq_false h1;omega
   have e:bL xs ms=(ms.all (bX xs)&&xs.all fun s=>sX s ms):=by simp only[bL,h0,h1,bl];rfl
   rw[e];repeat refine ai ?_
   refine d8 (ms) (fun i=>ms.all (bX xs)=(ms.drop i).all (bX xs)) (fun i=>[(0,.d (ab xs)),(1,.d (ap ms)),(20,.d (ap ms)),(21,.d (.int .i64 (ms.map GateMend.e).length)),(22,.d (.int .i64 i))]) (fun i=>hp0) (rfl) ?_;intro i hi hr;repeat refine ai ?_
   refine aj ?_ ?_<;>intro h2
   ·have hlt:i<ms.length:=U h2
    rw[aM hlt] at hr;repeat refine ai ?_
    refine O (e:=GateMend.e) (xs:=ms) (hlt) rfl ?_;repeat refine ai ?_
    refine oc (iB _ _) ?_;repeat refine ai ?_
    refine ak ?_;repeat refine ai ?_
    refine aj ?_ ?_<;>intro h3
    ·obtain ⟨j,hj,ej,_⟩:=cW (p:=fun s:GateShape=>s.kind==ms[i].kind) (xs:=xs) (decide_eq_true (by have:=of_decide_eq_false h3;omega))
     repeat refine ai ?_
     refine aH (e:=GateShape.e) (xs:=xs) (hj) (ej) rfl ?_;repeat refine ai ?_
     refine oc (GQ _ _) ?_;rw[EX hj ej] at hr;repeat refine ai ?_
     refine aj ?_ ?_<;>intro h4
     ·change (!jG xs[j].fields ms[i])=true at h4
      simp only[Qab,Qaa] at h4;refine bd ?_;rw[hr,h4];rfl
     ·change (!jG xs[j].fields ms[i])=false at h4
      simp only[Qab,Qaa] at h4;repeat refine ai ?_
      exact bJ hlt hsm (by rw[hr,h4];rfl)
    ·repeat refine ai ?_
     refine ay ?_;refine bd ?_;rw[hr,Au h3];rfl
   ·rw[cJ (V h2)] at hr
    rw[hr,Qae];repeat refine ai ?_
    refine d8 (xs) (fun i=>(xs.all fun s=>sX s ms)=((xs.drop i).all fun s=>sX s ms)) (fun i=>[(0,.d (ab xs)),(1,.d (ap ms)),(43,.d (ab xs)),(44,.d (.int .i64 (xs.map GateShape.e).length)),(45,.d (.int .i64 i))]) (fun i=>hp0) (rfl) ?_;intro i hi hr;repeat refine ai ?_
    refine aj ?_ ?_<;>intro h5
    ·have hlt:i<xs.length:=U h5
     rw[aM hlt] at hr;repeat refine ai ?_
     refine O (e:=GateShape.e) (xs:=xs) (hlt) rfl ?_;repeat refine ai ?_
     refine oc (yB xs[i] ms hm12 (fun n _=>lh h0 (by assumption) (Qaj hlt) n)) ?_;rw[m4 h0 (by assumption) (Qaj hlt)];repeat refine ai ?_
     refine aj ?_ ?_<;>intro h6
     ·simp only[Qab,Qaa] at h6
      refine bd ?_;rw[hr,h6];rfl
     ·simp only[Qab,Qaa] at h6
      repeat refine ai ?_
      exact bJ hlt hs (by rw[hr,h6];rfl)
    ·refine bd ?_
     rw[hr,cJ (V h5)]
 ·simp only[Qab,Qaa] at h0
  refine bd ?_;simp only[bL,h0,Qan]
end Go.Vc
end
section
namespace Go.Vc
def cX (fs:List GateField) (vals:List Bs) (n:Bs):Bs:=match vals[(dC (·.name==n) fs).toNat]? with|some v=>v|none=>[]
def lJ (e:Bs→Bs) (k n:Bs) (m:GateMend):Bool:=(m.kind==k&&m.field==n)&&((m.when_==[]||e m.when_==m.is_)&&(m.from_==[]|| !(e m.from_==[])))
def mz (e:Bs→Bs) (m:GateMend):Bs:=bif m.from_==[] then m.put else e m.from_
def qm (e:Bs→Bs) (k n d:Bs):List GateMend→Bs
 |[]=>d
 |m::ms=>bif lJ e k n m then mz e m else qm e k n d ms
def uA (fs:List GateField) (ms:List GateMend) (k:Bs) (vals:List Bs) (n:Bs):Bs:=qm (cX fs vals) k n (cX fs vals n) ms
def bK (fs:List GateField) (ms:List GateMend) (k:Bs) (vals:List Bs) (n:Bs):List Bs:=vals.set (dC (·.name==n) fs).toNat (uA fs ms k vals n)
def cn (fs:List GateField) (ms:List GateMend) (k:Bs) (row:List Bs) (vals:List Bs):List Bs:=row.foldl (bK fs ms k) vals
theorem nq {e1 e2:Bs→Bs} {k n d:Bs}:∀{ms:List GateMend},(∀y∈Y k ms n,e1 y=e2 y)→qm e1 k n d ms=qm e2 k n d ms
 |[],_=>rfl
 |m::ms,h=>by
  have ih:=nq (e1:=e1) (e2:=e2) (k:=k) (n:=n) (d:=d) (ms:=ms) (fun y hy=>h y (by simp only[Y,Qap,QaP,QaX];exact .inr hy));simp only[qm,ih]
  cases hkf:(m.kind==k&&m.field==n) with
  |false=>simp only[lJ,hkf,Qan,cond_false]
  |true=>
   have hr:∀y∈kN m.when_++kN m.from_,e1 y=e2 y:=fun y hy=>h y (by simp only[Y,Qap,QaP,QaX,Df,hkf,cond_true];exact .inl (List.mem_append.1 hy))
   have hw:(m.when_==[])=true∨e1 m.when_=e2 m.when_:=by
    cases hq:m.when_==[] with
    |true=>exact .inl rfl
    |false=>exact .inr (hr _ (List.mem_append.2 (.inl (by simp[kN,hq]))))
   have hf:(m.from_==[])=true∨e1 m.from_=e2 m.from_:=by
    cases hq:m.from_==[] with
    |true=>exact .inl rfl
    |false=>exact .inr (hr _ (List.mem_append.2 (.inr (by simp[kN,hq]))))
   have hc:lJ e1 k n m=lJ e2 k n m:=by
    simp only[lJ];rcases hw with hw|hw<;>rcases hf with hf|hf<;>simp only[hw,hf,Qar]
   have hg:mz e1 m=mz e2 m:=by
    simp only[mz];rcases hf with hf|hf<;>simp only[hf,cond_true]
   rw[hc,hg]
theorem gT {fs:List GateField} {n:Bs} (h:n∈fs.map (·.name)):∃j:Nat,∃h:j<fs.length,dC (·.name==n) fs=(j:Int)∧fs[j].name=n:=by
 rcases iJ (p:=fun f:GateField=>f.name==n) fs 0 with ⟨h1,h2⟩|⟨j,hj,h1,h2,_⟩
 ·obtain ⟨f,hf,rfl⟩:=List.mem_map.1 h
  have:=List.any_eq_false.1 h2 f hf;simp at this
 ·exact ⟨j,hj,by unfold dC;rw[h1,Qa3],beq_iff_eq.1 h2⟩
theorem Gs {fs:List GateField} (hn:(fs.map (·.name)).Nodup) {i j:Nat} (hi:i<fs.length) (hj:j<fs.length) (h:fs[i].name=fs[j].name):i=j:=by
 have e:(fs.map GateField.name)[i]'(by simpa using hi)=(fs.map GateField.name)[j]'(by simpa using hj):=by simpa using h
 exact (List.getElem_inj hn).1 e
section
variable {fs:List GateField} {ms:List GateMend} {k:Bs}
theorem gP {vals:List Bs} {n:Bs} {j:Nat} (e:dC (·.name==n) fs=(j:Int)) (h:j<vals.length):cX fs vals n=vals[j]:=by
 unfold cX;rw[e,QaD,Qai h]
theorem pB {vals:List Bs} (hl:vals.length=fs.length) {n y v:Bs} (hn:n∈fs.map (·.name)) (hy:y∈fs.map (·.name)):cX fs (vals.set (dC (·.name==n) fs).toNat v) y=if y=n then v else cX fs vals y:=by
 obtain ⟨i,hi,e1,e2⟩:=gT hn;obtain ⟨j,hj,e3,e4⟩:=gT hy;rw[e1,QaD,gP e3 (by rw[Qa9];omega),List.getElem_set];by_cases h:i=j
 ·subst h
  rw[if_pos rfl,if_pos (by rw[←e4,←e2])]
 ·rw[if_neg h,gP e3 (by omega),if_neg]
  intro e;subst e;rw[e1] at e3;exact h (by omega)
theorem kj (vals:List Bs) (n:Bs):(bK fs ms k vals n).length=vals.length:=Qa9 ..
theorem iy:∀(row:List Bs) (vals:List Bs),(cn fs ms k row vals).length=vals.length
 |[],_=>rfl
 |n::row,vals=>by
  show (cn fs ms k row (bK fs ms k vals n)).length=_;rw[iy row,kj]
theorem i6:∀{row:List Bs} {vals:List Bs},vals.length=fs.length→(∀x∈row,x∈fs.map (·.name))→∀{y:Bs},y∈fs.map (·.name)→y ∉ row→cX fs (cn fs ms k row vals) y=cX fs vals y
 |[],_,_,_,_,_,_=>rfl
 |n::row,vals,hl,hr,y,hy,hne=>by
  show cX fs (cn fs ms k row (bK fs ms k vals n)) y=_;rw[i6 (by rw[kj];exact hl) (fun x hx=>hr x (Qaw _ hx)) hy (fun h=>hne (Qaw _ h))];unfold bK;rw[pB hl (hr n Qau) hy,if_neg (fun e:y=n=>hne (e▸Qau))]
theorem wl (a b:List Bs) (vals:List Bs):cn fs ms k (a++b) vals=cn fs ms k b (cn fs ms k a vals):=by
 unfold cn;exact List.foldl_append
theorem At {row:List Bs} (g:vM (Y k ms) (fs.map (·.name)) row) {vals:List Bs} (hl:vals.length=fs.length) {n:Bs} (hn:n∈row):
 cX fs (cn fs ms k row vals) n=qm (cX fs (cn fs ms k row vals)) k n (cX fs vals n) ms:=by
 obtain ⟨pre,post,rfl⟩:=List.append_of_mem hn;have hnd:=g.nd;rw[QaW] at hnd;obtain ⟨_,hpost,hdis⟩:=hnd;rw[Qa8] at hpost;have hpre:n ∉ pre:=fun h=>hdis n h n Qau rfl;have hsub:∀x∈pre++n::post,x∈fs.map (·.name):=g.sub;have hl1:(cn fs ms k pre vals).length=fs.length:=by rw[iy,hl]
 have hn':=hsub n (by simp);have e0:cn fs ms k (pre++n::post) vals=cn fs ms k post (bK fs ms k (cn fs ms k pre vals) n):=by rw[wl];rfl
 have hl2:(bK fs ms k (cn fs ms k pre vals) n).length=fs.length:=by rw[kj,hl1]
 have hps:∀x∈post,x∈fs.map (·.name):=fun x hx=>hsub x (by simp[hx])
 have e1:cX fs (cn fs ms k (pre++n::post) vals) n=uA fs ms k (cn fs ms k pre vals) n:=by
  rw[e0,i6 hl2 hps hn' hpost.1];unfold bK;rw[pB hl1 hn' hn',if_pos rfl]
 rw[e1];unfold uA;have e2:cX fs (cn fs ms k pre vals) n=cX fs vals n:=i6 hl (fun x hx=>hsub x (by simp[hx])) hn' hpre;rw[e2];refine nq fun y hy=>?_;have hb:=g.beh n (by simp) y hy;have hni:(pre++n::post).idxOf n=pre.length:=by rw[QaM,if_neg hpre];simp
 have hyp:y∈pre:=by
  rw[hni] at hb;rw[QaM] at hb;split at hb
  ·assumption
  ·omega
 have hy':=hsub y (by simp[hyp]);rw[e0,i6 hl2 hps hy' (fun h=>hdis y hyp y (Qaw _ h) rfl)];unfold bK;rw[pB hl1 hn' hy',if_neg (fun e:y=n=>hpre (e▸hyp))]
theorem As (hnd:(fs.map (·.name)).Nodup) {r1 r2:List Bs} (g1:vM (Y k ms) (fs.map (·.name)) r1) (g2:vM (Y k ms) (fs.map (·.name)) r2) (h1:∀n∈fs.map (·.name),n∈r1) (h2:∀n∈fs.map (·.name),n∈r2)
 {vals:List Bs} (hl:vals.length=fs.length):cn fs ms k r1 vals=cn fs ms k r2 vals:=by
 have key:∀(i:Nat) (n:Bs),n∈fs.map (·.name)→r1.idxOf n=i→cX fs (cn fs ms k r1 vals) n=cX fs (cn fs ms k r2 vals) n:=by
  intro i
  induction i using Nat.strongRecOn with
  |_ i ih=>
   intro n hn hi;rw[At g1 hl (h1 n hn),At g2 hl (h2 n hn)];refine nq fun y hy=>?_;have hb:=g1.beh n (h1 n hn) y hy;have hyr:y∈r1:=List.idxOf_lt_length_iff.1 (by have:=QaA (h1 n hn);omega);exact ih _ (hi▸hb) y (g1.sub y hyr) rfl
 have l1:(cn fs ms k r1 vals).length=fs.length:=by rw[iy,hl]
 have l2:(cn fs ms k r2 vals).length=fs.length:=by rw[iy,hl]
 apply List.ext_getElem (by rw[l1,l2]);intro j hj1 hj2;have hj:j<fs.length:=by omega
 have hm:fs[j].name∈fs.map (·.name):=List.mem_map.2 ⟨_,Qaj hj,rfl⟩;obtain ⟨j',hj',e1,e2⟩:=gT hm;have:=Gs hnd hj' hj e2;subst this;have hk:=key _ _ hm rfl;rw[gP e1 hj1,gP e1 hj2] at hk;exact hk
end
theorem wa (s:GateShape) (ms:List GateMend):vM (Y s.kind ms) (bE s) (oq s ms):=gW _ _ _
theorem GW:∀{ns row:List Bs},ns.Nodup→row.Nodup→(∀x∈row,x∈ns)→row.length=ns.length→∀n∈ns,n∈row:=by
 intro ns row hn hr hs hl n hm;refine Classical.byContradiction fun h=>?_
 have:(n::row).length≤ns.length:=ft (List.nodup_cons.2 ⟨h,hr⟩) (fun x hx=>by
  rcases List.mem_cons.1 hx with e|e
  ·exact e▸hm
  ·exact hs x e)
 simp only[Qaf] at this;omega
theorem v9 {rd:Bs→List Bs} {ns:List Bs} (hin:∀n∈ns,∀y∈rd n,y∈ns) (h:(jy rd ns).2=true):vM rd ns (jy rd ns).1∧∀n∈ns,n∈(jy rd ns).1:=by
 have g:=jQ (rd:=rd) (ns:=ns) (w:=cw rd (ns.length+1)) (n:=ns.length) ns D3
  (fun y hy s hs hl=>iu hin _ y s hy hs (by omega)) (Bx rd ns) (lQ _ _)
 rw[Dc] at h;obtain ⟨g1,g2,g3⟩:=g.1 h
 cases e:ce (cw rd (ns.length+1)) ns D3 with
 |mk b u=>
  rw[e] at h g1 g2 g3;simp only at h;subst h;rw[sW e];exact ⟨⟨g1.nd,g1.sub,g1.beh⟩,fun n hn=>(g1.two n).1 (g3 n hn)⟩
end Go.Vc
end
section
namespace Go.Vc
open Go.Proofs
set_option maxRecDepth 100000
theorem Ga {fs:List GateField} {vals:List Bs} (hl:vals.length=fs.length) (h0:0<fs.length) (y:Bs) (c:Prop) (hc:c→y∈fs.map (·.name)):∃j,∃hj:j<vals.length,c→(dC (·.name==y) fs=(j:Int)∧cX fs vals y=vals[j]):=by
 by_cases h:c
 ·obtain ⟨j,hj,e,_⟩:=gT (hc h)
  exact ⟨j,by omega,fun _=>⟨e,gP e (by omega)⟩⟩
 ·exact ⟨0,by omega,fun g=>absurd g h⟩
def Hz (fs:List GateField) (k:Bs) (m:GateMend):Prop:=(m.kind==k)=true→((m.when_==[])=false→m.when_∈fs.map (·.name))∧((m.from_==[])=false→m.from_∈fs.map (·.name))
theorem wO {e:Bs→Bs} {k n d:Bs} {ms:List GateMend} {i:Nat} (h:i<ms.length):qm e k n d (ms.drop i)=bif lJ e k n ms[i] then mz e ms[i] else qm e k n d (ms.drop (i+1)):=by
 rw[Qal h];rfl
theorem Bh {e:Bs→Bs} {k n d:Bs} {ms:List GateMend} {i:Nat} (h:ms.length≤i):qm e k n d (ms.drop i)=d:=by
 rw[Qam h];rfl
set_option maxHeartbeats 4000000 in
theorem zJ (fs:List GateField) (ms:List GateMend) (o:GateObject) (n:Bs) (hl:o.values.length=fs.length) (hn:n∈fs.map (·.name)) (hm:∀m∈ms,Hz fs o.kind m):
 Spec P 224 [.d (ad fs),.d (ap ms),st o.e,.d (.str n)] (.d (.str (uA fs ms o.kind o.values n))):=by
 refine Spec.of_vc aO aA [.tmp 8] Tryz.func224 rfl rfl rfl rfl (fun hok=>?_);have hs:ms.length≤big:=az hok.2.1.1;obtain ⟨jn,hjn,en,_⟩:=gT hn;repeat refine ai ?_
 refine d8 (ms) (fun i=>uA fs ms o.kind o.values n=qm (cX fs o.values) o.kind n (cX fs o.values n) (ms.drop i)) (fun i=>[(0,.d (ad fs)),(1,.d (ap ms)),(3,.d (.str n)),(6,.ptr 0 0),(9,.d (.int .i64 i))]) (fun i=>⟨[(0,.cells 103 (o.e.map .d))],1,0⟩) (rfl) ?_;intro i hi hr;repeat refine ai ?_
 refine aj ?_ ?_<;>intro h1
 ·have hlt:i<ms.length:=U h1
  rw[wO hlt] at hr;have hmi:=hm ms[i] (Qaj hlt);obtain ⟨jw,hjw,ew⟩:=Ga hl (by omega) ms[i].when_ ((ms[i].kind==o.kind)=true∧(ms[i].when_==[])=false) (fun h=>(hmi h.1).1 h.2);obtain ⟨jf,hjf,ef⟩:=Ga hl (by omega) ms[i].from_ ((ms[i].kind==o.kind)=true∧(ms[i].from_==[])=false) (fun h=>(hmi h.1).2 h.2);generalize hd:qm (cX fs o.values) o.kind n (cX fs o.values n) (ms.drop (i+1))=rest at hr;repeat refine ai ?_
  refine O (e:=GateMend.e) (xs:=ms) (hlt) rfl ?_;repeat refine ai ?_
  refine ak ?_;repeat refine ai ?_
  repeat' first
   |refine ai ?_
   |(refine aj ?_ ?_<;>intro h)
   |refine oc (jx _ _) ?_
   |refine ak ?_
   |refine aH (e:=eB) (xs:=o.values) hjw (ew (by simp_all)).1 rfl ?_
   |refine aH (e:=eB) (xs:=o.values) hjf (ef (by simp_all)).1 rfl ?_
  all_goals (simp only[cond_false,cond_true,Qab,Qaa,reduceCtorEq] at*)
  all_goals (try have ew':=(ew ⟨by assumption,by assumption⟩).2)
  all_goals (try have ef':=(ef ⟨by assumption,by assumption⟩).2)
  all_goals first
   |(refine sd ?_;rw[hr];simp only[lJ,mz, *,cond_true,cond_false,bl];done)
   |(have hq:uA fs ms o.kind o.values n=rest:=(by rw[hr];simp only[lJ,mz, *,cond_true,cond_false,bl]);exact bJ hlt hs (hq.trans hd.symm))
 ·repeat refine ai ?_
  refine ak ?_;repeat refine ai ?_
  refine oc (jx _ _) ?_;repeat refine ai ?_
  refine aH (e:=eB) (xs:=o.values) ((show jn<o.values.length by omega)) (en) rfl ?_;repeat refine ai ?_
  refine sd ?_;rw[hr,Bh (V h1),gP en (by omega)]
theorem wm {xs:List GateShape} {ms:List GateMend} (h:aR xs=true) (hm:ms.all (bX xs)=true) {s:GateShape} (hs:s∈xs):∀m∈ms,Hz s.fields s.kind m:=by
 intro m hmm hk;have hf:=Dq h hs (List.all_eq_true.1 hm m hmm) (beq_iff_eq.1 hk);unfold jG at hf;simp only[Qag,QaZ] at hf;obtain ⟨⟨_,h2,h3⟩,_⟩:=hf;refine ⟨fun g=>?_,fun g=>?_⟩
 ·rcases h2 with h2|h2
  ·rw[g] at h2;cases h2
  ·exact oC h2
 ·rcases h3 with h3|h3
  ·rw[g] at h3;cases h3
  ·exact oC h3
def eK (xs:List GateShape) (ms:List GateMend) (o:GateObject):GateObject:=match xs[(dC (·.kind==o.kind) xs).toNat]? with
 |some s=>bif (af xs o.kind o.values.length).2 then {o with values:=cn s.fields ms o.kind (oq s ms) o.values} else o
 |none=>o
theorem tF {xs:List GateShape} {ms:List GateMend} {o:GateObject} (h:(af xs o.kind o.values.length).2=false):eK xs ms o=o:=by
 unfold eK;split
 ·rw[h];rfl
 ·rfl
theorem tG {xs:List GateShape} {ms:List GateMend} {o:GateObject} {j:Nat} (hj:j<xs.length) (e:dC (·.kind==o.kind) xs=(j:Int)) (h:(af xs o.kind o.values.length).2=true):eK xs ms o={o with values:=cn xs[j].fields ms o.kind (oq xs[j] ms) o.values}:=by
 unfold eK;rw[e,QaD,Qai hj,h];rfl
theorem tH {fs:List GateField} {ms:List GateMend} {k:Bs} {row:List Bs} {vals:List Bs} {i:Nat} (h:i<row.length):cn fs ms k (row.take (i+1)) vals=bK fs ms k (cn fs ms k (row.take i) vals) row[i]:=by
 rw[Qax h,wl];rfl
set_option maxHeartbeats 1000000 in
theorem BQ (xs:List GateShape) (ms:List GateMend) (o:GateObject) (hx:aR xs=true) (hm:ms.all (bX xs)=true):
 Spec P 206 [.d (ab xs),.d (ap ms),st o.e] (st (eK xs ms o).e):=by
 refine Spec.of_vc aO aA [.cell 6 103] Tryz.func206 rfl rfl rfl rfl (fun hok=>?_);have hb:=ji (o:=o) ⟨hok.2.2.1,trivial⟩;repeat refine ai ?_
 refine ow (v6 o hb.1 hb.2) ?_;repeat refine ai ?_
 refine oc (fp _ _) ?_;repeat refine ai ?_
 refine aj ?_ ?_<;>intro h0
 ·simp only[Qab] at h0
  rw[tF h0];repeat refine ai ?_
  exact rfl
 ·simp only[Qaa] at h0
  rcases dS (xs:=xs) (k:=o.kind) (n:=o.values.length) with ⟨h1,_⟩|⟨j,hj,ej,ef,hl,hk⟩
  ·rw[h1] at h0;cases h0
  rw[tG hj ej h0];repeat refine ai ?_
  refine oc (ix _ _) ?_;repeat refine ai ?_
  refine aH (e:=GateShape.e) (xs:=xs) (hj) (ej) rfl ?_;repeat refine ai ?_
  refine oc (C7 xs[j] ms) ?_;have g:=wa xs[j] ms;have hmi:=wm hx hm (Qaj hj);rw[hk] at hmi;have hfs:(af xs o.kind o.values.length).1=xs[j].fields:=by rw[ef]
  rw[hfs];have hrl:(oq xs[j] ms).length≤xs[j].fields.length:=Jq _ _ _;have hsub:∀x∈oq xs[j] ms,x∈xs[j].fields.map (·.name):=g.sub;generalize hfe:xs[j].fields=fs at*;generalize oq xs[j] ms=row at*;repeat refine ai ?_
  refine kO (row) (fun i (W:List Bs)=>W=cn fs ms o.kind (row.take i) o.values) (fun i (W:List Bs)=>[(1,.d (ap ms)),(6,.ptr 1 0),(7,.ptr 6 0),(8,.d (ad fs)),(10,.d (lS row)),(11,.d (.int .i64 i))]) (fun i (W:List Bs)=>⟨[(6,.cells 103 [.d (.str o.kind),.d (.str o.name),.d (.str o.team),.own 4,.d (.bool o.ending),.own 5,.d (.int .i64 o.version)]),(4,.row 9 1 (W.map eB)),(5,.row 9 1 (o.holds.map eB)),(1,.cells 103 [.d (.str []),.d (.str []),.d (.str []),.nils,.d (.bool false),.nils,.d (.int .i64 0)])],7,0⟩) (rfl) ?_;intro i W hi hr;have hs:row.length≤big:=by omega
  have hW:W.length=fs.length:=by rw[hr,iy,hl]
  repeat refine ai ?_
  refine aj ?_ ?_<;>intro h1
  ·have hlt:i<row.length:=U h1
   have hin:=hsub _ (Qaj hlt);obtain ⟨p,hp,ep,_⟩:=gT hin;have hst:cn fs ms o.kind (row.take (i+1)) o.values=bK fs ms o.kind W row[i]:=by rw[tH hlt,←hr]
   repeat refine ai ?_
   refine Ll ?_;repeat refine ai ?_
   refine O (e:=eB) (xs:=row) (hlt) rfl ?_;repeat refine ai ?_
   refine oc (jx _ _) ?_;repeat refine ai ?_
   refine O (e:=eB) (xs:=row) (hlt) rfl ?_;repeat refine ai ?_
   refine oc (zJ fs ms {o with values:=W} row[i] hW hin hmi) ?_;repeat refine ai ?_
   refine aj (by rw[ep];exact Qat _) (aj (by rw[ep,Qac];omega) ?_);repeat refine ai ?_
   have hpt:(dC (·.name==row[i]) fs).toNat<W.length:=by rw[ep];omega
   refine ⟨eB W[(dC (·.name==row[i]) fs).toNat],by rw[QaN,Qai hpt];rfl,Qaz _,?_⟩;repeat refine ai ?_
   exact cH (bK fs ms o.kind W row[i]) hlt hs (by rw[hst]) fun hw=>by repeat' first|exact rfl|exact trivial|exact nd hw|exact sV hpt|refine aj ?_ ?_
  ·rw[Qao (V h1)] at hr
   rw[←hr];repeat refine ai ?_
   exact rfl
end Go.Vc
end
section
namespace Go.Vc
open Go.Proofs
set_option maxRecDepth 100000
theorem sR (xs:List GateShape) (ms:List GateMend) (o:GateObject) (hx:aR xs=true) (hm:ms.all (bX xs)=true):
 Spec P 174 [.d (ab xs),.d (ap ms),st o.e] (st (eK xs ms (gC xs o)).e):=by
 refine Spec.of_vc aO aA [.cell 6 103] Tryz.func174 rfl rfl rfl rfl (fun hok=>?_);repeat refine ai ?_
 refine oc (FU _ _) ?_;repeat refine ai ?_
 refine oc (BQ xs ms (gC xs o) hx hm) ?_;repeat refine ai ?_
 exact rfl
theorem wJ (fs:List GateField) (o:GateObject) (n:Bs) (hl:o.values.length=fs.length) (hn:n∈fs.map (·.name)):Spec P 233 [.d (.str n),.at_ o.e,.at_ [ad fs]] (.d (.str (cX fs o.values n))):=by
 refine Spec.of_vc aO aA [.tmp 4] Tryz.func233 rfl rfl rfl rfl (fun hok=>?_);obtain ⟨j,hj,e,_⟩:=gT hn;repeat refine ai ?_
 refine ak ?_;repeat refine ai ?_
 refine oc (l8 _ _) ?_;repeat refine ai ?_
 refine aH (e:=eB) (xs:=o.values) ((show j<o.values.length by omega)) (e) rfl ?_;repeat refine ai ?_
 refine sd ?_;rw[gP e (by omega)]
theorem py {b:Bool} (h:(!b)=false):b=true:=by simpa using h
theorem tx {b:Bool} (h:(!b)=true):b=false:=by simpa using h
theorem fD {xs:List GateShape} {ms:List GateMend} (h:bL xs ms=true):aR xs=true∧ms.all (bX xs)=true∧ms.length≤12∧∀s∈xs,sX s ms=true:=by
 unfold bL at h;simp only[Qag,Qab,decide_eq_false_iff_not] at h;obtain ⟨h1,h2,h3,h4⟩:=h;exact ⟨h1,h3,by omega,fun s hs=>List.all_eq_true.1 h4 s hs⟩
theorem FZ {xs:List GateShape} {ms:List GateMend} (h:bL xs ms=true) {s:GateShape} (hs:s∈xs) {vals:List Bs} (hl:vals.length=s.fields.length):
 cn s.fields ms s.kind (jy (Y s.kind ms) (bE s)).1 vals=cn s.fields ms s.kind (oq s ms) vals:=by
 obtain ⟨h1,h2,h3,h4⟩:=fD h;have hr:=h4 s hs;have hnd:=nU h1 hs;have hin:∀n∈bE s,∀y∈Y s.kind ms n,y∈bE s:=fun n _=>lh h1 h2 hs n;obtain ⟨g1,g2⟩:=v9 hin (by rw[m4 h1 h2 hs];exact hr);have g:=wa s ms;refine As hnd g1 g g2 (GW hnd g.nd g.sub ?_) hl;unfold sX at hr;have:=beq_iff_eq.1 hr;show _=(s.fields.map (·.name)).length;rw[Qac];omega
theorem wj (fs:List GateField) (ms:List GateMend) (k:Bs):∀row:List Bs,cn fs ms k row []=[]
 |[]=>rfl
 |n::row=>by
  show cn fs ms k row (bK fs ms k [] n)=[];have:bK fs ms k [] n=[]:=by unfold bK;rfl
  rw[this];exact wj fs ms k row
theorem Ar {xs:List GateShape} {ms:List GateMend} {o:GateObject} (h:o.values=[]):eK xs ms o=o:=by
 unfold eK;split
 ·cases (af xs o.kind o.values.length).2
  ·rfl
  ·rw[cond_true]
   cases o;simp only at h;subst h;simp only[wj]
 ·rfl
set_option maxHeartbeats 1000000 in
theorem vA (xs:List GateShape) (ms:List GateMend) (o:GateObject) (hv:o.values=[]):Spec P 216 [.d (ab xs),.d (ap ms),st o.e] (st o.e):=by
 refine Spec.of_vc aO aA [.cell 6 103] Tryz.func216 rfl rfl rfl rfl (fun hok=>?_);have hsm:ms.length≤big:=az hok.2.1.1;repeat refine ai ?_
 refine oc (Co _) ?_;repeat refine ai ?_
 refine oc (gy _ _) ?_;repeat refine ai ?_
 refine aj ?_ ?_<;>intro h0
 ·repeat refine ai ?_
  refine oc (gK _ _) ?_;repeat refine ai ?_
  refine aj ?_ ?_<;>intro h1
  ·repeat refine ai ?_
   exact rfl
  ·simp only[Qaa] at h0 h1
   obtain ⟨hx,hm,hm12,hro⟩:=fD h1;rcases dS (xs:=xs) (k:=o.kind) (n:=o.values.length) with ⟨h2,_⟩|⟨j,hj,ej,ef,hl,hk⟩
   ·rw[h2] at h0;cases h0
   have hjm:=Qaj hj;have hin:∀n∈bE xs[j],∀y∈Y xs[j].kind ms n,y∈bE xs[j]:=fun n _=>lh hx hm hjm n
   have hn0:bE xs[j]=[]:=by
    have:(bE xs[j]).length=xs[j].fields.length:=Qac ..;rw[hl,hv] at this;exact QaG this
   repeat refine ai ?_
   refine oc (iB _ _) ?_;repeat refine ai ?_
   refine aH (e:=GateShape.e) (xs:=xs) (hj) (ej) rfl ?_;repeat refine ai ?_
   refine oc (yB xs[j] ms hm12 hin) ?_;rw[hn0];generalize af xs o.kind o.values.length=ff at*;repeat refine ai ?_
   refine d8 (([]:List Bs)) (fun i=>True) (fun i=>[(5,.ptr 0 0),(6,.ptr 1 0),(47,.d (lS [])),(48,.d (.int .i64 0)),(49,.d (.int .i64 i))]) (fun i=>⟨[(0,.cells 103 [.d (.str o.kind),.d (.str o.name),.d (.str o.team),.d (lS o.values),.d (.bool o.ending),.d (lS o.holds),.d (.int .i64 o.version)]),(1,.cells 103 [.d (.str []),.d (.str []),.d (.str []),.nils,.d (.bool false),.nils,.d (.int .i64 0)])],2,0⟩) (trivial) ?_;intro i hi hr;repeat refine ai ?_
   refine aj ?_ ?_<;>intro g1
   ·exact absurd (of_decide_eq_true g1) (by omega)
   ·repeat refine ai ?_
    exact rfl
 ·repeat refine ai ?_
  exact rfl
set_option maxHeartbeats 4000000 in
theorem vz (xs:List GateShape) (ms:List GateMend) (o:GateObject) (hpos:0<o.values.length):Spec P 216 [.d (ab xs),.d (ap ms),st o.e] (st (bif bL xs ms then eK xs ms o else o).e):=by
 refine Spec.of_vc aO aA [.cell 6 103] Tryz.func216 rfl rfl rfl rfl (fun hok=>?_);have hb:=ji (o:=o) ⟨hok.2.2.1,trivial⟩;have hsm:ms.length≤big:=az hok.2.1.1;repeat refine ai ?_
 refine ow (DF o hpos) ?_;repeat refine ai ?_
 refine oe (fun g=>qJ xs o g 4) ?_;repeat refine ai ?_
 refine aj ?_ ?_<;>intro h0
 ·repeat refine ai ?_
  refine oc (gK _ _) ?_;repeat refine ai ?_
  refine aj ?_ ?_<;>intro h1
  ·simp only[Qab,Qaa] at h0 h1
   rw[h1];repeat refine ai ?_
   exact rfl
  ·simp only[Qaa] at h0 h1
   obtain ⟨hx,hm,hm12,hro⟩:=fD h1;rcases dS (xs:=xs) (k:=o.kind) (n:=o.values.length) with ⟨h2,_⟩|⟨j,hj,ej,ef,hl,hk⟩
   ·rw[h2] at h0;cases h0
   have hjm:=Qaj hj
   have hres:(bif bL xs ms then eK xs ms o else o)={o with values:=cn xs[j].fields ms o.kind (jy (Y o.kind ms) (bE xs[j])).1 o.values}:=by
    have:=FZ h1 hjm (vals:=o.values) hl.symm;rw[hk] at this;rw[h1,cond_true,tG hj ej h0,this]
   rw[hres];have hin:∀n∈bE xs[j],∀y∈Y xs[j].kind ms n,y∈bE xs[j]:=fun n _=>lh hx hm hjm n;obtain ⟨g,_⟩:=v9 hin (by rw[m4 hx hm hjm];exact hro _ hjm);have hmi:=wm hx hm hjm;rw[hk] at hmi;have hfs:(af xs o.kind o.values.length).1=xs[j].fields:=by rw[ef]
   rw[hfs];repeat refine ai ?_
   refine oc (iB _ _) ?_;repeat refine ai ?_
   refine aH (e:=GateShape.e) (xs:=xs) (hj) (ej) rfl ?_;repeat refine ai ?_
   refine oc (yB xs[j] ms hm12 hin) ?_;rw[hk];rw[hk] at g;have hsub:∀x∈(jy (Y o.kind ms) (bE xs[j])).1,x∈xs[j].fields.map (·.name):=g.sub
   have hrl:(jy (Y o.kind ms) (bE xs[j])).1.length≤xs[j].fields.length:=by
    have:=ft g.nd g.sub;have e:(bE xs[j]).length=xs[j].fields.length:=Qac ..;rw[e] at this;exact this
   generalize (jy (Y o.kind ms) (bE xs[j])).2=rb at*;generalize (jy (Y o.kind ms) (bE xs[j])).1=row at*;generalize xs[j].fields=fs at*;repeat refine ai ?_
   refine kO (row) (fun i (W:List Bs)=>W=cn fs ms o.kind (row.take i) o.values) (fun i (W:List Bs)=>[(1,.d (ap ms)),(5,.ptr 0 0),(6,.ptr 1 0),(7,.ptr 5 0),(11,.fn 233 [.ptr 0 0,.ptr 5 0]),(47,.d (lS row)),(48,.d (.int .i64 (row.map eB).length)),(49,.d (.int .i64 i))]) (fun i (W:List Bs)=>⟨[(5,.cells 162 [.d (ad fs)]),(4,.row 9 1 (W.map eB)),(1,.cells 103 [.d (.str []),.d (.str []),.d (.str []),.nils,.d (.bool false),.nils,.d (.int .i64 0)]),(0,.cells 103 [.d (.str o.kind),.d (.str o.name),.d (.str o.team),.own 4,.d (.bool o.ending),.d (lS o.holds),.d (.int .i64 o.version)])],6,0⟩) (rfl) ?_;intro i W hi hr;have hs:row.length≤big:=by omega
   have hW:W.length=fs.length:=by rw[hr,iy,hl]
   repeat refine ai ?_
   refine aj ?_ ?_<;>intro g1
   ·have hlt:i<row.length:=U g1
    have hnin:=hsub _ (Qaj hlt);obtain ⟨p,hp,ep,_⟩:=gT hnin;have hst:cn fs ms o.kind (row.take (i+1)) o.values=bK fs ms o.kind W row[i]:=by rw[tH hlt,←hr]
    have hpt:(dC (·.name==row[i]) fs).toNat<W.length:=by rw[ep];omega
    repeat refine ai ?_
    refine O (e:=eB) (xs:=row) (hlt) rfl ?_;repeat refine ai ?_
    generalize row[i]=nm at*;have hrW:=hr;clear hr;repeat refine ai ?_
    refine d8 (ms) (fun q=>uA fs ms o.kind W nm=qm (cX fs W) o.kind nm (cX fs W nm) (ms.drop q)) (fun q=>[(1,.d (ap ms)),(5,.ptr 0 0),(6,.ptr 1 0),(7,.ptr 5 0),(11,.fn 233 [.ptr 0 0,.ptr 5 0]),(13,.d (.str nm)),(47,.d (lS row)),(48,.d (.int .i64 (row.map eB).length)),(49,.d (.int .i64 i)),(53,.d (ap ms)),(54,.d (.int .i64 (ms.map GateMend.e).length)),(55,.d (.int .i64 q))]) (fun q=>⟨[(5,.cells 162 [.d (ad fs)]),(4,.row 9 1 (W.map eB)),(1,.cells 103 [.d (.str []),.d (.str []),.d (.str []),.nils,.d (.bool false),.nils,.d (.int .i64 0)]),(0,.cells 103 [.d (.str o.kind),.d (.str o.name),.d (.str o.team),.own 4,.d (.bool o.ending),.d (lS o.holds),.d (.int .i64 o.version)])],6,0⟩) (rfl) ?_;intro q hq hr;have hsq:ms.length≤big:=hsm;repeat refine ai ?_
    refine aj ?_ ?_<;>intro g2
    ·have hlq:q<ms.length:=U g2
     rw[wO hlq] at hr;have hmq:=hmi ms[q] (Qaj hlq);generalize hd:qm (cX fs W) o.kind nm (cX fs W nm) (ms.drop (q+1))=rest at hr;repeat refine ai ?_
     refine O (e:=GateMend.e) (xs:=ms) (hlq) rfl ?_;repeat refine ai ?_
     have hpi:(0:Int)≤dC (·.name==nm) fs:=by rw[ep];exact Qat _
     have hpl:dC (·.name==nm) fs<((W.map eB).length:Int):=by rw[ep,Qac];omega
     have hget:(W.map eB)[(dC (·.name==nm) fs).toNat]? =some (eB W[(dC (·.name==nm) fs).toNat]):=by rw[QaN,Qai hpt];rfl
     repeat' first
      |refine ai ?_
      |(refine aj ?_ ?_<;>intro h)
      |refine Or.inr (Or.inr (Or.inr (Or.inl (Qad _ (aj rfl (aj (wJ fs {o with values:=W} ms[q].when_ hW ((hmq (py (by assumption))).1 (tx (by assumption)))) ?_))))))
      |refine Or.inr (Or.inr (Or.inr (Or.inl (Qad _ (aj rfl (aj (wJ fs {o with values:=W} ms[q].from_ hW ((hmq (py (by assumption))).2 (tx (by assumption)))) ?_))))))
      |refine oc (l8 _ _) ?_
      |refine aj (by kernel_rfl) (aj (by kernel_rfl) ?_)
      |refine ak ?_
      |refine aj hpi (aj hpl ?_)
      |refine ⟨_,hget,Qaz _,?_⟩
     all_goals clear hok hmi hin hres g hro hpl hpi hget hsub
     all_goals first
      |(exfalso;clear hrW hr hst hd hmq hpt ep hnin g1 g2 hW hrl hfs hl ef hk hjm ej hm hx h1 h0 hsm hb;simp only[cond_false,cond_true,Qab,Qaa,reduceCtorEq,Qa4,Qa5] at*;done)
      |(exfalso;clear hrW hr hst hd hmq hpt ep hnin g1 g2 hW hrl hfs hl ef hk hjm ej hm hx h1 h0 hsm hb;simp only[cond_false,cond_true,Qab,Qaa,reduceCtorEq] at*;simp only[*,reduceCtorEq,Qa4,Qa5] at*;done)
      |(refine (fun hq:uA fs ms o.kind W nm=rest=>?_) ?_
        rotate_left
        ·(rw[hr];clear hrW hr hst hd hmq hpt ep hnin g1 g2 hW hrl hfs hl ef hk hjm ej hm hx h1 h0 hsm hb;simp only[cond_false,cond_true,Qab,Qaa,reduceCtorEq] at*;simp only[lJ,mz, *,cond_true,cond_false,bl];done)
        repeat refine ai ?_
        exact bJ hlq hsq (hq.trans hd.symm))
      |(refine (fun hq:uA fs ms o.kind W nm=ms[q].put=>?_) ?_
        rotate_left
        ·(rw[hr];clear hrW hr hst hd hmq hpt ep hnin g1 g2 hW hrl hfs hl ef hk hjm ej hm hx h1 h0 hsm hb;simp only[cond_false,cond_true,Qab,Qaa,reduceCtorEq] at*;simp only[lJ,mz, *,cond_true,cond_false,bl];done)
        repeat refine ai ?_
        exact cH (W.set (dC (·.name==nm) fs).toNat ms[q].put) hlt hs (by rw[hst];unfold bK;rw[hq]) fun hw=>by repeat' first|exact rfl|exact trivial|exact nd hw|exact sV hpt|refine aj ?_ ?_)
      |(refine (fun hq:uA fs ms o.kind W nm=cX fs W ms[q].from_=>?_) ?_
        rotate_left
        ·(rw[hr];clear hrW hr hst hd hmq hpt ep hnin g1 g2 hW hrl hfs hl ef hk hjm ej hm hx h1 h0 hsm hb;simp only[cond_false,cond_true,Qab,Qaa,reduceCtorEq] at*;simp only[lJ,mz, *,cond_true,cond_false,bl];done)
        repeat refine ai ?_
        exact cH (W.set (dC (·.name==nm) fs).toNat (cX fs W ms[q].from_)) hlt hs (by rw[hst];unfold bK;rw[hq]) fun hw=>by repeat' first|exact rfl|exact trivial|exact nd hw|exact sV hpt|refine aj ?_ ?_)
    ·have hq:uA fs ms o.kind W nm=cX fs W nm:=by rw[hr,Bh (V g2)]
     have hW2:bK fs ms o.kind W nm=W:=by
      unfold bK;refine sQ hpt ?_;rw[hq,gP ep (by omega)]
      congr 1
      rw[ep];rfl
     repeat refine ai ?_
     exact cH W hlt hs (by rw[hst,hW2])
   ·rw[Qao (V g1)] at hr
    rw[←hr];repeat refine ai ?_
    exact rfl
 ·simp only[Qab] at h0
  rw[tF h0];repeat refine ai ?_
  cases bL xs ms<;>exact rfl
theorem yD (xs:List GateShape) (ms:List GateMend) (o:GateObject):Spec P 216 [.d (ab xs),.d (ap ms),st o.e] (st (bif bL xs ms then eK xs ms o else o).e):=by
 by_cases h:0<o.values.length
 ·exact vz xs ms o h
 ·have hv:o.values=[]:=QaG (by omega)
  have:(bif bL xs ms then eK xs ms o else o)=o:=by
   rw[Ar hv];cases bL xs ms<;>rfl
  rw[this];exact vA xs ms o hv
def fi (xs:List GateShape) (ms:List GateMend) (o:GateObject):GateObject:=eK xs ms (gC xs o)
theorem ko (xs:List GateShape) (ms:List GateMend) (o:GateObject):Spec P 185 [.d (ab xs),.d (ap ms),st o.e] (st (bif bL xs ms then fi xs ms o else o).e):=by
 refine Spec.of_vc aO aA [.cell 6 103] Tryz.func185 rfl rfl rfl rfl (fun hok=>?_);repeat refine ai ?_
 refine oc (gK _ _) ?_;repeat refine ai ?_
 refine aj ?_ ?_<;>intro h
 ·simp only[Qab] at h
  rw[h,cond_false];repeat refine ai ?_
  refine oc (Co _) ?_;repeat refine ai ?_
  exact rfl
 ·simp only[Qaa] at h
  obtain ⟨hx,_⟩:=fD h;repeat refine ai ?_
  refine oc (Cu _ _) ?_;repeat refine ai ?_
  refine oc (yD _ _ _) ?_;rw[h,hx];repeat refine ai ?_
  exact rfl
end Go.Vc
end
section
namespace Go.Vc
open Go.Proofs
set_option maxRecDepth 100000
def cz:List GateField→List Bs→Nat→List (Nat×GateField)
 |f::fs,v::vs,i=>bif f.kind==4&& !(v==[]) then (i,f)::cz fs vs (i+1) else cz fs vs (i+1)
 |_,_,_=>[]
def gI (p:Nat×GateField):List AV→Prop:=thinL [.d (.int .i64 p.1),st p.2.e]
def cI (xs:List GateShape) (o:GateObject):List (Nat×GateField):=cz (af xs o.kind o.values.length).1 o.values 0
theorem na {fs:List GateField} {vs:List Bs} {i:Nat} (h:fs=[]):cz fs vs i=[]:=by subst h;rfl
theorem i9 {fs:List GateField} {vs:List Bs} {i:Nat} (h:i<fs.length) (h2:i<vs.length):cz (fs.drop i) (vs.drop i) i=bif fs[i].kind==4&& !(vs[i]==[]) then (i,fs[i])::cz (fs.drop (i+1)) (vs.drop (i+1)) (i+1) else cz (fs.drop (i+1)) (vs.drop (i+1)) (i+1):=by
 rw[Qal h,Qal h2];rfl
theorem Af {o:GateObject} (h:AV.ok (.at_ o.e)):o.values.length≤big∧o.holds.length≤big:=by
 simp only[AV.ok,GateObject.e,bP,D.ok] at h;exact ⟨az h.2.2.2.1.1,az h.2.2.2.2.2.1.1⟩
theorem rO (l:GateLaw) (o:GateObject):Spec P 106 [st l.e,st o.e] (.fn 165 [.at_ l.e,.at_ o.e]):=by
 refine Spec.of_vc aO aA [.tmp 4] Tryz.func106 rfl rfl rfl rfl (fun hok=>?_);repeat refine ai ?_
 exact rfl
set_option maxHeartbeats 1000000 in
theorem o8 (l:GateLaw) (o:GateObject) (hc:Heap):(dF P).iter 165 [.at_ l.e,.at_ o.e] hc ((cI l.shapes o).map gI):=by
 refine Ck aO aA Tryz.func165 rfl rfl rfl rfl rfl (fun y hok=>?_)
 have hfs:(af l.shapes o.kind o.values.length).2=false→(af l.shapes o.kind o.values.length).1=[]:=by
  rcases dS (xs:=l.shapes) (k:=o.kind) (n:=o.values.length) with ⟨h1,h2⟩|⟨j,hj,_,h,_⟩
  ·exact fun _=>h2
  ·rw[h];exact fun h=>by cases h
 obtain ⟨hl,hl2⟩:=cj (xs:=l.shapes) (k:=o.kind) (n:=o.values.length);repeat refine ai ?_
 refine oc (gy _ _) ?_;unfold cI;repeat refine ai ?_
 refine aj ?_ ?_<;>intro h0
 ·simp only[Qab] at h0
  rw[hfs h0];repeat refine ai ?_
  exact .inr rfl
 ·simp only[Qaa] at h0
  have hl:=hl2 h0;generalize (af l.shapes o.kind o.values.length).1=fs at*;repeat refine ai ?_
  refine ⟨fun m j l' h=>∃(i:Nat) (pre:List (Nat×GateField)),m=fs.length - i∧i≤fs.length∧cz fs o.values 0=pre++cz (fs.drop i) (o.values.drop i) i∧j=pre.length∧l'=[(0,.val (.func (.yield y) #[] #[])),(1,.at_ l.e),(2,.at_ o.e),(17,.d (ad fs)),(18,.d (.int .i64 (fs.map GateField.e).length)),(19,.d (.int .i64 i))]∧h=hp0,
   ⟨0,_,_,_,rfl,⟨0,[],rfl,Qa1 _,rfl,rfl,rfl,rfl⟩,rfl,rfl,⟨rfl,rfl,rfl,rfl,rfl,rfl,trivial⟩,trivial,trivial⟩,?_⟩
  rintro m j l' hh ⟨i,pre,rfl,hi,hr,rfl,rfl,rfl⟩;have hb:=Af hok.2.1;have hs:fs.length≤big:=by omega
  repeat refine ai ?_
  refine aj ?_ ?_<;>intro g1
  ·have hlt:i<fs.length:=U g1
   have hlt2:i<o.values.length:=by omega
   rw[i9 hlt hlt2] at hr;repeat refine ai ?_
   refine O (e:=GateField.e) (xs:=fs) (hlt) rfl ?_;repeat refine ai ?_
   refine aj ?_ ?_<;>intro h1
   ·repeat refine ai ?_
    refine O (e:=eB) (xs:=o.values) (hlt2) rfl ?_;repeat refine ai ?_
    refine aj ?_ ?_<;>intro h2
    ·have hc:(fs[i].kind==4&& !(o.values[i]==[]))=true:=by rw[h1,h2];rfl
     rw[hc,cond_true] at hr;repeat refine ai ?_
     refine ⟨⟨gI (i,fs[i]),?_,fun x h=>h⟩,?_,?_⟩
     ·rw[hr,QaN,List.getElem?_append_right (Qaz _),Nat.sub_self];rfl
     ·repeat refine ai ?_
      refine ⟨_,_,_,_,rfl,⟨i+1,pre++[(i,fs[i])],rfl,hlt,(by rw[hr,Qay];rfl),(by simp),rfl,rfl⟩,by omega,rfl,rfl,⟨rfl,rfl,rfl,rfl,rfl,nd (aa hlt hs),trivial⟩,trivial,trivial⟩
     ·repeat refine ai ?_
      exact .inl rfl
    ·have hc:(fs[i].kind==4&& !(o.values[i]==[]))=false:=by rw[h1,h2];rfl
     rw[hc,cond_false] at hr;repeat refine ai ?_
     refine ⟨_,_,_,_,rfl,⟨i+1,pre,rfl,hlt,hr,rfl,rfl,rfl⟩,by omega,rfl,rfl,⟨rfl,rfl,rfl,rfl,rfl,nd (aa hlt hs),trivial⟩,trivial,trivial⟩
   ·have hc:(fs[i].kind==4&& !(o.values[i]==[]))=false:=by rw[h1];rfl
    rw[hc,cond_false] at hr;repeat refine ai ?_
    refine ⟨_,_,_,_,rfl,⟨i+1,pre,rfl,hlt,hr,rfl,rfl,rfl⟩,by omega,rfl,rfl,⟨rfl,rfl,rfl,rfl,rfl,nd (aa hlt hs),trivial⟩,trivial,trivial⟩
  ·have hi':=V g1
   rw[Qam hi',na rfl,QaB] at hr;repeat refine ai ?_
   refine .inr ?_;rw[Qac,hr]
end Go.Vc
end
section
namespace Go.Vc
open Go.Proofs
set_option maxRecDepth 100000
def aB {α:Type} (r:Option α→α→Bool):Option α→List α→Bool
 |_,[]=>true
 |p,x::xs=>r p x&&aB r (some x) xs
def cY {α:Type} (xs:List α):Nat→Option α
 |0=>none
 |j+1=>xs[j]?
section
variable {α:Type} {r:Option α→α→Bool} {xs:List α} {i:Nat}
theorem eG (h:i<xs.length):aB r (cY xs i) (xs.drop i)=(r (cY xs i) xs[i]&&aB r (cY xs (i+1)) (xs.drop (i+1))):=by
 rw[Qal h];simp only[aB,cY,Qai h]
theorem fF {p:Option α} (h:xs.length≤i):aB r p (xs.drop i)=true:=by
 rw[Qam h];rfl
theorem cD (h0:0<i) (h:i<xs.length):cY xs i=some (xs[i - 1]'(by omega)):=by
 obtain ⟨j,rfl⟩:∃j,i=j+1:=⟨i - 1,by omega⟩;simp only[cY,Nat.add_sub_cancel];exact Qai _
theorem cE (h:i=0):cY xs i=none:=by
 subst h;rfl
end
theorem wu (a b c d:Bs):(!(Op.bytesLess a c||a==c)||(a==c&& !Op.bytesLess b d))= !fE a b c d:=by
 unfold fE
 cases e:(a==c) with
 |true=>rw[beq_iff_eq.1 e,kx];simp
 |false=>simp
theorem qc {n a b:Int} (h:decide (n<a)=true):fJ n a b=false:=by
 have:=of_decide_eq_true h;unfold fJ;rw[decide_eq_false (by omega)];rfl
theorem qd {n a b:Int} (h:decide (n>b)=true):fJ n a b=false:=by
 have:=of_decide_eq_true h;unfold fJ;rw[decide_eq_false (p:=n≤b) (by omega),Qaq]
theorem nf {n a b:Int} (h:decide (n<a)=false) (h2:decide (n>b)=false):fJ n a b=true:=by
 have:=of_decide_eq_false h;have:=of_decide_eq_false h2;unfold fJ;rw[decide_eq_true (by omega),decide_eq_true (by omega)];rfl
def xq (vs:List Bs) (i:Nat):Bs:=match vs[i]? with|some v=>v|none=>[]
theorem g9 {vs:List Bs} {i:Nat} (h:i<vs.length):xq vs i=vs[i]:=by unfold xq;rw[Qai h]
theorem tU:∀{fs:List GateField} {vs:List Bs} {i:Nat} {p:Nat×GateField},p∈cz fs vs i→i≤p.1∧p.1<i+vs.length∧p.2∈fs∧(p.2.kind==4)=true
 |[],vs,i,p,h=>by simp[cz] at h
 |f::fs,[],i,p,h=>by simp[cz] at h
 |f::fs,v::vs,i,p,h=>by
  have tail:p∈cz fs vs (i+1)→i≤p.1∧p.1<i+(v::vs).length∧p.2∈f::fs∧(p.2.kind==4)=true:=fun h=>by
   obtain ⟨h1,h2,h3,h4⟩:=tU h;exact ⟨by omega,by simp only[Qaf];omega,Qaw _ h3,h4⟩
  simp only[cz] at h
  cases hc:f.kind==4&& !(v==[]) with
  |false=>rw[hc] at h;exact tail h
  |true=>
   rw[hc,cond_true] at h;rcases List.mem_cons.1 h with e|h
   ·subst e
    rw[Qag] at hc;exact ⟨Qaz _,by simp,Qau,hc.1⟩
   ·exact tail h
theorem km {xs:List GateShape} {o:GateObject} {p:Nat×GateField} (h:p∈cI xs o):p.1<o.values.length:=by
 have:=(tU h).2.1;omega
theorem dH {p:Nat×GateField} {x:List AV} (h:gI p x):∃A c,x=[.d (.int .i64 p.1),.agg [.d (.str p.2.name),.d (.int .i64 p.2.kind),.d (.int .i64 p.2.least),.d (.int .i64 p.2.most),.d (.raw (.slice A (p.2.words.map eB).length c)),.d (.str p.2.to_),.d (.int .i64 p.2.role),.d (.bool p.2.must),.d (.bool p.2.fixed),.d (.str p.2.default_),.d (.str p.2.weighs)]]:=by
 unfold gI st GateField.e at h;simp only[thinL,thinC,List.map] at h;obtain ⟨y0,ys,rfl,⟨y1,rfl,rfl⟩,cs,y2,rfl,⟨z1,rfl,z2,rfl,z3,rfl,z4,rfl,A,c,z5,rfl,z6,rfl,z7,rfl,z8,rfl,z9,rfl,z10,rfl,z11,rfl,rfl⟩,rfl⟩:=h;exact ⟨A,c,rfl⟩
theorem lZ {xs:List (Nat×GateField)} {k:Nat} {X:List AV→Prop} (h:(xs.map gI)[k]? =some X):∃p,xs[k]? =some p∧p∈xs∧X=gI p:=by
 rw[QaN] at h
 cases hp:xs[k]? with
 |none=>rw[hp] at h;cases h
 |some p=>rw[hp] at h;cases h;exact ⟨p,rfl,List.mem_of_getElem? hp,rfl⟩
def gf (b:GateBook) (k n:Bs):Bool:=decide (dC (fun x=>x.kind==k&&x.name==n) b.objects≥0)
theorem lH {b:GateBook} {k n:Bs} (h:decide (dC (fun x:GateObject=>x.kind==k&&x.name==n) b.objects<0)=true):gf b k n=false:=by
 have:=of_decide_eq_true h;exact decide_eq_false (by omega)
theorem jM {b:GateBook} {k n:Bs} (h:decide (dC (fun x:GateObject=>x.kind==k&&x.name==n) b.objects<0)=false):gf b k n=true:=by
 have:=of_decide_eq_false h;exact decide_eq_true (by omega)
theorem CV {α:Type} {p:α→Bool} {xs:List α} {x:α} (h:x∈xs) (hp:p x=false):xs.all p=false:=by
 rw[List.all_eq_false];exact ⟨x,h,by rw[hp];simp⟩
def aK (L:GateLaw) (b:GateBook) (o:GateObject):Bool:=
 (DA L.shapes o).1==0&&(L.teams.any (·.name==o.team)&&(fJ o.version 1 b.now&&((fi L.shapes L.mends o).values==o.values&&(cI L.shapes o).all (fun p=>gf b p.2.to_ (xq o.values p.1)))))
def mh (L:GateLaw) (b:GateBook) (p:Option GateObject) (o:GateObject):Bool:=(match p with|some q=>fE q.kind q.name o.kind o.name|none=>true)&&aK L b o
def ln (L:GateLaw) (b:GateBook):Bool:= !decide ((b.objects.length:Int)>40)&&aB (mh L b) none b.objects
set_option maxHeartbeats 2000000 in
theorem AP (L:GateLaw) (b:GateBook) (hm:bL L.shapes L.mends=true):Spec P 126 [st b.e,st L.e] (.d (.bool (ln L b))):=by
 refine Spec.of_vc aO aA [.cell 4 4] Tryz.func126 rfl rfl rfl rfl (fun hok=>?_);have hs:=(bC (d6 hok)).1;obtain ⟨hx,hmm,hm12,hro⟩:=fD hm;repeat refine ai ?_
 refine aj ?_ ?_<;>intro h0
 ·repeat refine ai ?_
  refine bd ?_;rw[Qac] at h0;rw[ln,h0];rfl
 rw[Qac] at h0;have hob:ln L b=aB (mh L b) none b.objects:=by rw[ln,h0];rfl
 rw[hob];repeat refine ai ?_
 refine d8 (b.objects) (fun i=>aB (mh L b) none b.objects=aB (mh L b) (cY b.objects i) (b.objects.drop i)) (fun i=>[(2,.ptr 0 0),(3,.ptr 1 0),(4,.ptr 2 0),(17,.d (aC b.objects)),(18,.d (.int .i64 (b.objects.map GateObject.e).length)),(19,.d (.int .i64 i))]) (fun i=>⟨[(2,.cells 4 [.d (.bool false)]),(1,.cells 41 (L.e.map .d)),(0,.cells 48 (b.e.map .d))],3,0⟩) (rfl) ?_;intro i hi hr;repeat refine ai ?_
 refine aj ?_ ?_<;>intro h1
 ·have hlt:i<b.objects.length:=U h1
  rw[eG hlt] at hr;repeat refine ai ?_
  refine O (e:=GateObject.e) (xs:=b.objects) (hlt) rfl ?_;repeat refine ai ?_
  refine aj ?_ ?_<;>intro h2
  ·have h3:=ng h2
   repeat refine ai ?_
   refine aH (e:=GateObject.e) (xs:=b.objects) ((show i - 1<b.objects.length by omega)) (bc h3 hlt hs) rfl ?_;repeat refine ai ?_
   have hpv:cY b.objects i=some (b.objects[i - 1]'(by omega)):=cD h3 hlt;rw[hpv] at hr;generalize hq:b.objects[i - 1]'(by omega)=q at*
   have hno:∀c,(!(Op.bytesLess q.kind b.objects[i].kind||q.kind==b.objects[i].kind)||(q.kind==b.objects[i].kind&& !Op.bytesLess q.name b.objects[i].name))=c→mh L b (some q) b.objects[i]=(!c&&aK L b b.objects[i]):=fun c h=>by
    rw[wu] at h;rw[←h,Bool.not_not];rfl
   repeat refine ai ?_
   refine aj ?_ ?_<;>intro a1
   ·repeat refine ai ?_
    refine aj ?_ ?_<;>intro a2
    ·repeat refine ai ?_
     refine aj ?_ ?_<;>intro a3
     ·repeat refine ai ?_
      refine bd ?_;rw[hr,hno true (by rw[a1,a2];exact a3)];rfl
     ·rw[hno false (by rw[a1,a2];exact a3),Qas,Qae] at hr
      repeat refine ai ?_
      refine oc (lD _ _) ?_;rw[show ku L.shapes b.objects[i]=DA L.shapes b.objects[i] from by unfold ku;rw[hx];rfl];generalize ho:b.objects[i]=o at*;repeat refine ai ?_
      refine aj ?_ ?_<;>intro c1
      ·have c1:=tx c1
       repeat refine ai ?_
       refine bd ?_;rw[hr,show aK L b o=false from by simp only[aK,c1,bl]];rfl
      ·have c1:=py c1
       repeat refine ai ?_
       refine ak ?_;repeat refine ai ?_
       refine oc (gU _ _) ?_;repeat refine ai ?_
       refine aj ?_ ?_<;>intro c2
       ·have c2:=py (idx_lt.symm.trans c2)
        repeat refine ai ?_
        refine aj ?_ ?_<;>intro c3
        ·repeat refine ai ?_
         refine aj ?_ ?_<;>intro c4
         ·have c4':=nf c3 c4
          repeat refine ai ?_
          refine oc (ko _ _ _) ?_;rw[hm,cond_true];repeat refine ai ?_
          refine oc (kn _ _) ?_;repeat refine ai ?_
          refine aj ?_ ?_<;>intro c5
          ·have c5:((fi L.shapes L.mends o).values==o.values)=false:=tx c5
           repeat refine ai ?_
           refine bd ?_;rw[hr,show aK L b o=false from by simp only[aK,c1,c2,c4',c5,bl]];rfl
          ·have c5:((fi L.shapes L.mends o).values==o.values)=true:=py c5
           have hrest:aK L b o=(cI L.shapes o).all (fun p=>gf b p.2.to_ (xq o.values p.1)):=by simp only[aK,c1,c2,c4',c5,Qae]
           rw[hrest] at hr;repeat refine ai ?_
           refine oc (rO _ _) ?_;repeat refine ai ?_
           refine ⟨(cI L.shapes o).map gI,fun k=>∀p,(cI L.shapes o)[k]? =some p→gf b p.2.to_ (xq o.values p.1)=true,o8 L o _,?_,?_,?_⟩
           ·intro X hX x hx
            obtain ⟨p,_,rfl⟩:=List.mem_map.1 hX;obtain ⟨A,c,rfl⟩:=dH hx;rfl
           ·intro k X hX x hx
            obtain ⟨p,hp,hpm,rfl⟩:=lZ hX;obtain ⟨A,c,rfl⟩:=dH hx;have hpl:=km hpm;repeat refine ai ?_
            refine ⟨[(2,.ptr 0 0),(4,.ptr 2 0),(6,.ptr 3 0),(10,.d (.int .i64 p.1)),(11,.at_ [.str p.2.name,.int .i64 p.2.kind,.int .i64 p.2.least,.int .i64 p.2.most,.raw (.slice A (p.2.words.map eB).length c),.str p.2.to_,.int .i64 p.2.role,.bool p.2.must,.bool p.2.fixed,.str p.2.default_,.str p.2.weighs])],⟨rfl,rfl,⟨rfl,rfl,rfl,rfl,.inr ⟨_,_,_,_,rfl,QaO rfl,rfl,rfl,rfl⟩,trivial⟩,?_,?_⟩,?_⟩
            ·repeat' first|exact rfl|exact trivial|refine aj ?_ ?_
            ·repeat' first|exact rfl|exact trivial|refine aj ?_ ?_
            repeat refine ai ?_
            refine ak ?_;repeat refine ai ?_
            refine O (e:=eB) (xs:=o.values) (hpl) rfl ?_;repeat refine ai ?_
            refine oc (Cs _ _ _) ?_;repeat refine ai ?_
            refine aj ?_ ?_<;>intro d1
            ·repeat refine ai ?_
             refine bd ?_;rw[hr,CV hpm (by rw[g9 hpl];exact lH d1)];rfl
            ·repeat refine ai ?_
             refine ⟨fun p' hp'=>?_,rfl,rfl,trivial,?_,?_⟩
             ·rw[hp] at hp'
              cases hp';rw[g9 hpl];exact jM d1
             ·repeat' first|exact rfl|exact trivial|refine aj ?_ ?_
             ·repeat' first|exact rfl|exact trivial|refine aj ?_ ?_
           ·intro hall
            have hal:(cI L.shapes o).all (fun p=>gf b p.2.to_ (xq o.values p.1))=true:=by
                 rw[QaR];intro p hp;obtain ⟨k,hk,rfl⟩:=QaU hp;exact hall k (by rw[Qac];exact hk) _ (Qai hk)
            rw[hal,Qae] at hr;repeat refine ai ?_
            exact bJ hlt hs hr
         ·have c4':=qd (a:=1) c4
          repeat refine ai ?_
          refine ay ?_;repeat refine ai ?_
          refine bd ?_;rw[hr,show aK L b o=false from by simp only[aK,c1,c2,c4',bl]];rfl
        ·have c3':=qc (b:=b.now) c3
         repeat refine ai ?_
         refine an ?_;repeat refine ai ?_
         refine ay ?_;repeat refine ai ?_
         refine bd ?_;rw[hr,show aK L b o=false from by simp only[aK,c1,c2,c3',bl]];rfl
       ·have c2:=tx (idx_lt.symm.trans c2)
        repeat refine ai ?_
        refine an ?_;repeat refine ai ?_
        refine an ?_;repeat refine ai ?_
        refine ay ?_;repeat refine ai ?_
        refine bd ?_;rw[hr,show aK L b o=false from by simp only[aK,c1,c2,bl]];rfl
    ·rw[hno false (by rw[a1,a2];rfl),Qas,Qae] at hr
     repeat refine ai ?_
     refine oc (lD _ _) ?_;rw[show ku L.shapes b.objects[i]=DA L.shapes b.objects[i] from by unfold ku;rw[hx];rfl];generalize ho:b.objects[i]=o at*;repeat refine ai ?_
     refine aj ?_ ?_<;>intro c1
     ·have c1:=tx c1
      repeat refine ai ?_
      refine bd ?_;rw[hr,show aK L b o=false from by simp only[aK,c1,bl]];rfl
     ·have c1:=py c1
      repeat refine ai ?_
      refine ak ?_;repeat refine ai ?_
      refine oc (gU _ _) ?_;repeat refine ai ?_
      refine aj ?_ ?_<;>intro c2
      ·have c2:=py (idx_lt.symm.trans c2)
       repeat refine ai ?_
       refine aj ?_ ?_<;>intro c3
       ·repeat refine ai ?_
        refine aj ?_ ?_<;>intro c4
        ·have c4':=nf c3 c4
         repeat refine ai ?_
         refine oc (ko _ _ _) ?_;rw[hm,cond_true];repeat refine ai ?_
         refine oc (kn _ _) ?_;repeat refine ai ?_
         refine aj ?_ ?_<;>intro c5
         ·have c5:((fi L.shapes L.mends o).values==o.values)=false:=tx c5
          repeat refine ai ?_
          refine bd ?_;rw[hr,show aK L b o=false from by simp only[aK,c1,c2,c4',c5,bl]];rfl
         ·have c5:((fi L.shapes L.mends o).values==o.values)=true:=py c5
          have hrest:aK L b o=(cI L.shapes o).all (fun p=>gf b p.2.to_ (xq o.values p.1)):=by simp only[aK,c1,c2,c4',c5,Qae]
          rw[hrest] at hr;repeat refine ai ?_
          refine oc (rO _ _) ?_;repeat refine ai ?_
          refine ⟨(cI L.shapes o).map gI,fun k=>∀p,(cI L.shapes o)[k]? =some p→gf b p.2.to_ (xq o.values p.1)=true,o8 L o _,?_,?_,?_⟩
          ·intro X hX x hx
           obtain ⟨p,_,rfl⟩:=List.mem_map.1 hX;obtain ⟨A,c,rfl⟩:=dH hx;rfl
          ·intro k X hX x hx
           obtain ⟨p,hp,hpm,rfl⟩:=lZ hX;obtain ⟨A,c,rfl⟩:=dH hx;have hpl:=km hpm;repeat refine ai ?_
           refine ⟨[(2,.ptr 0 0),(4,.ptr 2 0),(6,.ptr 3 0),(10,.d (.int .i64 p.1)),(11,.at_ [.str p.2.name,.int .i64 p.2.kind,.int .i64 p.2.least,.int .i64 p.2.most,.raw (.slice A (p.2.words.map eB).length c),.str p.2.to_,.int .i64 p.2.role,.bool p.2.must,.bool p.2.fixed,.str p.2.default_,.str p.2.weighs])],⟨rfl,rfl,⟨rfl,rfl,rfl,rfl,.inr ⟨_,_,_,_,rfl,QaO rfl,rfl,rfl,rfl⟩,trivial⟩,?_,?_⟩,?_⟩
           ·repeat' first|exact rfl|exact trivial|refine aj ?_ ?_
           ·repeat' first|exact rfl|exact trivial|refine aj ?_ ?_
           repeat refine ai ?_
           refine ak ?_;repeat refine ai ?_
           refine O (e:=eB) (xs:=o.values) (hpl) rfl ?_;repeat refine ai ?_
           refine oc (Cs _ _ _) ?_;repeat refine ai ?_
           refine aj ?_ ?_<;>intro d1
           ·repeat refine ai ?_
            refine bd ?_;rw[hr,CV hpm (by rw[g9 hpl];exact lH d1)];rfl
           ·repeat refine ai ?_
            refine ⟨fun p' hp'=>?_,rfl,rfl,trivial,?_,?_⟩
            ·rw[hp] at hp'
             cases hp';rw[g9 hpl];exact jM d1
            ·repeat' first|exact rfl|exact trivial|refine aj ?_ ?_
            ·repeat' first|exact rfl|exact trivial|refine aj ?_ ?_
          ·intro hall
           have hal:(cI L.shapes o).all (fun p=>gf b p.2.to_ (xq o.values p.1))=true:=by
                rw[QaR];intro p hp;obtain ⟨k,hk,rfl⟩:=QaU hp;exact hall k (by rw[Qac];exact hk) _ (Qai hk)
           rw[hal,Qae] at hr;repeat refine ai ?_
           exact bJ hlt hs hr
        ·have c4':=qd (a:=1) c4
         repeat refine ai ?_
         refine ay ?_;repeat refine ai ?_
         refine bd ?_;rw[hr,show aK L b o=false from by simp only[aK,c1,c2,c4',bl]];rfl
       ·have c3':=qc (b:=b.now) c3
        repeat refine ai ?_
        refine an ?_;repeat refine ai ?_
        refine ay ?_;repeat refine ai ?_
        refine bd ?_;rw[hr,show aK L b o=false from by simp only[aK,c1,c2,c3',bl]];rfl
      ·have c2:=tx (idx_lt.symm.trans c2)
       repeat refine ai ?_
       refine an ?_;repeat refine ai ?_
       refine an ?_;repeat refine ai ?_
       refine ay ?_;repeat refine ai ?_
       refine bd ?_;rw[hr,show aK L b o=false from by simp only[aK,c1,c2,bl]];rfl
   ·repeat refine ai ?_
    refine bd ?_;rw[hr,hno true (by rw[a1];rfl)];rfl
  ·have hpv:cY b.objects i=none:=cE (rm h2)
   rw[hpv] at hr
   replace hr:aB (mh L b) none b.objects=(aK L b b.objects[i]&&aB (mh L b) (cY b.objects (i+1)) (b.objects.drop (i+1))):=by rw[hr];rfl
   repeat refine ai ?_
   refine oc (lD _ _) ?_;rw[show ku L.shapes b.objects[i]=DA L.shapes b.objects[i] from by unfold ku;rw[hx];rfl];generalize ho:b.objects[i]=o at*;repeat refine ai ?_
   refine aj ?_ ?_<;>intro c1
   ·have c1:=tx c1
    repeat refine ai ?_
    refine bd ?_;rw[hr,show aK L b o=false from by simp only[aK,c1,bl]];rfl
   ·have c1:=py c1
    repeat refine ai ?_
    refine ak ?_;repeat refine ai ?_
    refine oc (gU _ _) ?_;repeat refine ai ?_
    refine aj ?_ ?_<;>intro c2
    ·have c2:=py (idx_lt.symm.trans c2)
     repeat refine ai ?_
     refine aj ?_ ?_<;>intro c3
     ·repeat refine ai ?_
      refine aj ?_ ?_<;>intro c4
      ·have c4':=nf c3 c4
       repeat refine ai ?_
       refine oc (ko _ _ _) ?_;rw[hm,cond_true];repeat refine ai ?_
       refine oc (kn _ _) ?_;repeat refine ai ?_
       refine aj ?_ ?_<;>intro c5
       ·have c5:((fi L.shapes L.mends o).values==o.values)=false:=tx c5
        repeat refine ai ?_
        refine bd ?_;rw[hr,show aK L b o=false from by simp only[aK,c1,c2,c4',c5,bl]];rfl
       ·have c5:((fi L.shapes L.mends o).values==o.values)=true:=py c5
        have hrest:aK L b o=(cI L.shapes o).all (fun p=>gf b p.2.to_ (xq o.values p.1)):=by simp only[aK,c1,c2,c4',c5,Qae]
        rw[hrest] at hr;repeat refine ai ?_
        refine oc (rO _ _) ?_;repeat refine ai ?_
        refine ⟨(cI L.shapes o).map gI,fun k=>∀p,(cI L.shapes o)[k]? =some p→gf b p.2.to_ (xq o.values p.1)=true,o8 L o _,?_,?_,?_⟩
        ·intro X hX x hx
         obtain ⟨p,_,rfl⟩:=List.mem_map.1 hX;obtain ⟨A,c,rfl⟩:=dH hx;rfl
        ·intro k X hX x hx
         obtain ⟨p,hp,hpm,rfl⟩:=lZ hX;obtain ⟨A,c,rfl⟩:=dH hx;have hpl:=km hpm;repeat refine ai ?_
         refine ⟨[(2,.ptr 0 0),(4,.ptr 2 0),(6,.ptr 3 0),(10,.d (.int .i64 p.1)),(11,.at_ [.str p.2.name,.int .i64 p.2.kind,.int .i64 p.2.least,.int .i64 p.2.most,.raw (.slice A (p.2.words.map eB).length c),.str p.2.to_,.int .i64 p.2.role,.bool p.2.must,.bool p.2.fixed,.str p.2.default_,.str p.2.weighs])],⟨rfl,rfl,⟨rfl,rfl,rfl,rfl,.inr ⟨_,_,_,_,rfl,QaO rfl,rfl,rfl,rfl⟩,trivial⟩,?_,?_⟩,?_⟩
         ·repeat' first|exact rfl|exact trivial|refine aj ?_ ?_
         ·repeat' first|exact rfl|exact trivial|refine aj ?_ ?_
         repeat refine ai ?_
         refine ak ?_;repeat refine ai ?_
         refine O (e:=eB) (xs:=o.values) (hpl) rfl ?_;repeat refine ai ?_
         refine oc (Cs _ _ _) ?_;repeat refine ai ?_
         refine aj ?_ ?_<;>intro d1
         ·repeat refine ai ?_
          refine bd ?_;rw[hr,CV hpm (by rw[g9 hpl];exact lH d1)];rfl
         ·repeat refine ai ?_
          refine ⟨fun p' hp'=>?_,rfl,rfl,trivial,?_,?_⟩
          ·rw[hp] at hp'
           cases hp';rw[g9 hpl];exact jM d1
          ·repeat' first|exact rfl|exact trivial|refine aj ?_ ?_
          ·repeat' first|exact rfl|exact trivial|refine aj ?_ ?_
        ·intro hall
         have hal:(cI L.shapes o).all (fun p=>gf b p.2.to_ (xq o.values p.1))=true:=by
              rw[QaR];intro p hp;obtain ⟨k,hk,rfl⟩:=QaU hp;exact hall k (by rw[Qac];exact hk) _ (Qai hk)
         rw[hal,Qae] at hr;repeat refine ai ?_
         exact bJ hlt hs hr
      ·have c4':=qd (a:=1) c4
       repeat refine ai ?_
       refine ay ?_;repeat refine ai ?_
       refine bd ?_;rw[hr,show aK L b o=false from by simp only[aK,c1,c2,c4',bl]];rfl
     ·have c3':=qc (b:=b.now) c3
      repeat refine ai ?_
      refine an ?_;repeat refine ai ?_
      refine ay ?_;repeat refine ai ?_
      refine bd ?_;rw[hr,show aK L b o=false from by simp only[aK,c1,c2,c3',bl]];rfl
    ·have c2:=tx (idx_lt.symm.trans c2)
     repeat refine ai ?_
     refine an ?_;repeat refine ai ?_
     refine an ?_;repeat refine ai ?_
     refine ay ?_;repeat refine ai ?_
     refine bd ?_;rw[hr,show aK L b o=false from by simp only[aK,c1,c2,bl]];rfl
 ·repeat refine ai ?_
  refine bd ?_;rw[hr,fF (V h1)]
end Go.Vc
end
section
namespace Go.Vc
open Go.Proofs
set_option maxRecDepth 100000
theorem mr (xs ys:List Bs):Spec P 173 [.d (lS xs),.d (lS ys)] (.d (.bool (xs==ys))):=by
 refine Spec.of_vc aO aA [.tmp 4] Tryz.func173 rfl rfl rfl rfl (fun hok=>?_);have hs:xs.length≤big:=az hok.1.1;repeat refine ai ?_
 refine aj ?_ ?_<;>intro h0
 ·refine bd ?_
  rw[Qac,Qac] at h0
  cases e:xs==ys with
  |false=>rfl
  |true=>rw[beq_iff_eq.1 e] at h0;simp at h0
 ·rw[Qac,Qac] at h0
  have hl:xs.length=ys.length:=by simp at h0;omega
  repeat refine ai ?_
  refine d8 (xs) (fun i=>(xs==ys)=(xs.drop i==ys.drop i)) (fun i=>[(0,.d (lS xs)),(1,.d (lS ys)),(5,.d (.int .i64 i))]) (fun i=>hp0) (rfl) ?_;intro i hi hr;repeat refine ai ?_
  refine aj ?_ ?_<;>intro h1
  ·have hlt:i<xs.length:=U h1
   have hlt':i<ys.length:=by omega
   rw[Qal hlt,Qal hlt',List.cons_beq_cons] at hr;repeat refine ai ?_
   refine ak ?_;repeat refine ai ?_
   refine O (e:=eB) (xs:=xs) (hlt) rfl ?_;repeat refine ai ?_
   refine O (e:=eB) (xs:=ys) (hlt') rfl ?_;repeat refine ai ?_
   refine aj ?_ ?_<;>intro h2
   ·refine bd ?_
    simp only[Qab,Qaa] at h2;rw[hr,h2];rfl
   ·simp only[Qab,Qaa] at h2
    repeat refine ai ?_
    exact bJ hlt hs (by rw[hr,h2];rfl)
  ·refine bd ?_
   have hge:=V h1;rw[hr,Qam hge,Qam (by omega)];rfl
theorem AJ {xs:List GateShape} {o:GateObject} (h:((DA xs o).1==0)=true):(af xs o.kind o.values.length).2=true:=by
 unfold DA lG at h
 cases hf:(af xs o.kind o.values.length).2 with
 |true=>rfl
 |false=>rw[hf] at h;cases h
theorem rK {b:GateBook} (h:dQ [st b.e]) {o:GateObject} (ho:o∈b.objects):o.values.length≤big∧o.holds.length≤big:=by
 have:=h.1;simp only[st,AV.ok,GateBook.e,List.map,dQ] at this;refine Af ?_;simp only[AV.ok];exact okRows_iff.1 this.2.2.2.1.2 _ (List.mem_map.2 ⟨o,ho,rfl⟩)
set_option maxHeartbeats 2000000 in
theorem vj (L:GateLaw) (b:GateBook) (hm:bL L.shapes L.mends=true):Spec P 115 [st L.e,st b.e] (.d (.bool (ln L b))):=by
 refine Spec.of_vc aO aA [.tmp 4] Tryz.func115 rfl rfl rfl rfl (fun hok=>?_);have hs:=(bC hok.2).1;obtain ⟨hx,hmm,hm12,hro⟩:=fD hm;repeat refine ai ?_
 refine aj ?_ ?_<;>intro h0
 ·refine bd ?_
  rw[Qac] at h0;rw[ln,h0];rfl
 rw[Qac] at h0;have hob:ln L b=aB (mh L b) none b.objects:=by rw[ln,h0];rfl
 rw[hob];repeat refine ai ?_
 refine d8 (b.objects) (fun i=>aB (mh L b) none b.objects=aB (mh L b) (cY b.objects i) (b.objects.drop i)) (fun i=>[(2,.ptr 0 0),(3,.ptr 1 0),(5,.d (.int .i64 i))]) (fun i=>⟨[(1,.cells 48 (b.e.map .d)),(0,.cells 41 (L.e.map .d))],2,0⟩) (rfl) ?_;intro i hi hr;repeat refine ai ?_
 refine aj ?_ ?_<;>intro h1
 ·have hlt:i<b.objects.length:=U h1
  rw[eG hlt] at hr;repeat refine ai ?_
  refine O (e:=GateObject.e) (xs:=b.objects) (hlt) rfl ?_;repeat refine ai ?_
  have hvb:=(rK hok.2 (Qaj hlt)).1;generalize ho:b.objects[i]=o at*;have hob0:∀c,(match cY b.objects i with|some q=>fE q.kind q.name o.kind o.name|none=>true)=c→mh L b (cY b.objects i) o=(c&&aK L b o):=fun c h=>by rw[←h];rfl
  repeat refine ai ?_
  refine oc (Ex _ _) ?_;repeat refine ai ?_
  refine aj ?_ ?_<;>intro c1
  ·have c1:((DA L.shapes o).1==0)=true:=py c1
   repeat refine ai ?_
   refine oc (nX _ _) ?_;repeat refine ai ?_
   refine aj ?_ ?_<;>intro c2
   ·have c2:(L.teams.any (·.name==o.team))=true:=py c2
    repeat refine ai ?_
    refine oc (eU _ _ _) ?_;repeat refine ai ?_
    refine aj ?_ ?_<;>intro c3
    ·have c3:fJ o.version 1 b.now=false:=tx c3
     repeat refine ai ?_
     refine bd ?_;rw[hr,show mh L b (cY b.objects i) o=false from by rw[hob0 _ rfl];simp only[aK,c1,c2,c3,bl]];rfl
    ·have c3:fJ o.version 1 b.now=true:=py c3
     repeat refine ai ?_
     refine ak ?_;repeat refine ai ?_
     refine aj ?_ ?_<;>intro p1
     ·have h3:=ng p1
      have hpv:cY b.objects i=some (b.objects[i - 1]'(by omega)):=cD h3 hlt;repeat refine ai ?_
      refine aH (e:=GateObject.e) (xs:=b.objects) ((show i - 1<b.objects.length by omega)) (bc h3 hlt hs) rfl ?_;repeat refine ai ?_
      refine aH (e:=GateObject.e) (xs:=b.objects) ((show i - 1<b.objects.length by omega)) (bc h3 hlt hs) rfl ?_;repeat refine ai ?_
      rw[hpv] at hob0;repeat refine ai ?_
      refine oc (xQ _ _ _ _) ?_;repeat refine ai ?_
      refine aj ?_ ?_<;>intro p2
      ·have hp:=(rD _ _ _ _).symm.trans p2
       rw[Qab] at hp;repeat refine ai ?_
       refine bd ?_;rw[hr,hpv,hob0 false hp];rfl
      ·have hp:=(rD _ _ _ _).symm.trans p2
       rw[Qaa] at hp;rw[hpv,hob0 true hp,Qae] at hr;repeat refine ai ?_
       refine ak ?_;repeat refine ai ?_
       refine oc (sR L.shapes L.mends o hx hmm) ?_;repeat refine ai ?_
       refine oc (mr _ _) ?_;repeat refine ai ?_
       refine aj ?_ ?_<;>intro c5
       ·have c5:((fi L.shapes L.mends o).values==o.values)=false:=tx c5
        repeat refine ai ?_
        refine bd ?_;rw[hr,show aK L b o=false from by simp only[aK,c1,c2,c3,c5,bl]];rfl
       ·have c5:((fi L.shapes L.mends o).values==o.values)=true:=py c5
        have hrest:aK L b o=(cz (af L.shapes o.kind o.values.length).1 o.values 0).all (fun p=>gf b p.2.to_ (xq o.values p.1)):=by simp only[aK,c1,c2,c3,c5,Qae];rfl
        rw[hrest] at hr;repeat refine ai ?_
        refine oc (fp _ _) ?_;have hfl:=(cj (xs:=L.shapes) (k:=o.kind) (n:=o.values.length)).2 (AJ c1);generalize (af L.shapes o.kind o.values.length).1=fs at*;have hfs:fs.length≤big:=by omega
        generalize hlk:(cz fs o.values 0).all (fun p=>gf b p.2.to_ (xq o.values p.1))=lk at*;generalize hck:aB (mh L b) none b.objects=ck at*;have hrO:=hr;clear hr;repeat refine ai ?_
        refine d8 (fs) (fun k=>lk=(cz (fs.drop k) (o.values.drop k) k).all (fun p=>gf b p.2.to_ (xq o.values p.1))) (fun k=>[(2,.ptr 0 0),(3,.ptr 1 0),(5,.d (.int .i64 i)),(6,.ptr 2 0),(9,.d (ad fs)),(11,.d (.int .i64 k))]) (fun k=>⟨[(2,.cells 103 (o.e.map .d)),(1,.cells 48 (b.e.map .d)),(0,.cells 41 (L.e.map .d))],3,0⟩) (hlk.symm) ?_;intro k hk hr;repeat refine ai ?_
        refine aj ?_ ?_<;>intro g1
        ·have hlk1:k<fs.length:=U g1
         have hlk2:k<o.values.length:=by omega
         rw[i9 hlk1 hlk2] at hr;repeat refine ai ?_
         refine ak ?_;repeat refine ai ?_
         refine O (e:=GateField.e) (xs:=fs) (hlk1) rfl ?_;repeat refine ai ?_
         refine aj ?_ ?_<;>intro g2
         ·repeat refine ai ?_
          refine O (e:=eB) (xs:=o.values) (hlk2) rfl ?_;repeat refine ai ?_
          refine aj ?_ ?_<;>intro g3
          ·have hc:(fs[k].kind==4&& !(o.values[k]==[]))=true:=by rw[g2];exact g3
           rw[hc,cond_true,QaV] at hr;repeat refine ai ?_
           refine O (e:=GateField.e) (xs:=fs) (hlk1) rfl ?_;repeat refine ai ?_
           refine O (e:=eB) (xs:=o.values) (hlk2) rfl ?_;repeat refine ai ?_
           refine oc (BO _ _ _) ?_;repeat refine ai ?_
           refine aj ?_ ?_<;>intro g4
           ·refine bd ?_
            rw[g9 hlk2,lH g4,Qan] at hr;rw[hrO,hr];rfl
           ·rw[g9 hlk2,jM g4,Qae] at hr
            repeat refine ai ?_
            exact ⟨_,_,_,⟨k+1,rfl,hlk1,hr,rfl,rfl⟩,by omega,rfl,rfl,⟨rfl,rfl,rfl,rfl,rfl,nd (aa hlk1 hfs),trivial⟩,(by repeat' first|exact rfl|exact trivial|refine aj ?_ ?_),(by repeat' first|exact rfl|exact trivial|refine aj ?_ ?_)⟩
          ·have hc:(fs[k].kind==4&& !(o.values[k]==[]))=false:=by rw[g2];exact g3
           rw[hc,cond_false] at hr;repeat refine ai ?_
           refine an ?_;repeat refine ai ?_
           exact ⟨_,_,_,⟨k+1,rfl,hlk1,hr,rfl,rfl⟩,by omega,rfl,rfl,⟨rfl,rfl,rfl,rfl,rfl,nd (aa hlk1 hfs),trivial⟩,(by repeat' first|exact rfl|exact trivial|refine aj ?_ ?_),(by repeat' first|exact rfl|exact trivial|refine aj ?_ ?_)⟩
         ·have hc:(fs[k].kind==4&& !(o.values[k]==[]))=false:=by rw[g2];rfl
          rw[hc,cond_false] at hr;repeat refine ai ?_
          refine an ?_;repeat refine ai ?_
          refine an ?_;repeat refine ai ?_
          exact ⟨_,_,_,⟨k+1,rfl,hlk1,hr,rfl,rfl⟩,by omega,rfl,rfl,⟨rfl,rfl,rfl,rfl,rfl,nd (aa hlk1 hfs),trivial⟩,(by repeat' first|exact rfl|exact trivial|refine aj ?_ ?_),(by repeat' first|exact rfl|exact trivial|refine aj ?_ ?_)⟩
        ·rw[Qam (V g1),na rfl] at hr
         have hl:lk=true:=hr;rw[hl,Qae] at hrO;repeat refine ai ?_
         exact bJ hlt hs hrO
     ·have hpv:=cE (xs:=b.objects) (rm p1)
      rw[hpv] at hr;rw[hpv] at hob0;rw[hob0 true rfl,Qae] at hr;repeat refine ai ?_
      refine an ?_;repeat refine ai ?_
      refine ak ?_;repeat refine ai ?_
      refine oc (sR L.shapes L.mends o hx hmm) ?_;repeat refine ai ?_
      refine oc (mr _ _) ?_;repeat refine ai ?_
      refine aj ?_ ?_<;>intro c5
      ·have c5:((fi L.shapes L.mends o).values==o.values)=false:=tx c5
       repeat refine ai ?_
       refine bd ?_;rw[hr,show aK L b o=false from by simp only[aK,c1,c2,c3,c5,bl]];rfl
      ·have c5:((fi L.shapes L.mends o).values==o.values)=true:=py c5
       have hrest:aK L b o=(cz (af L.shapes o.kind o.values.length).1 o.values 0).all (fun p=>gf b p.2.to_ (xq o.values p.1)):=by simp only[aK,c1,c2,c3,c5,Qae];rfl
       rw[hrest] at hr;repeat refine ai ?_
       refine oc (fp _ _) ?_;have hfl:=(cj (xs:=L.shapes) (k:=o.kind) (n:=o.values.length)).2 (AJ c1);generalize (af L.shapes o.kind o.values.length).1=fs at*;have hfs:fs.length≤big:=by omega
       generalize hlk:(cz fs o.values 0).all (fun p=>gf b p.2.to_ (xq o.values p.1))=lk at*;generalize hck:aB (mh L b) none b.objects=ck at*;have hrO:=hr;clear hr;repeat refine ai ?_
       refine d8 (fs) (fun k=>lk=(cz (fs.drop k) (o.values.drop k) k).all (fun p=>gf b p.2.to_ (xq o.values p.1))) (fun k=>[(2,.ptr 0 0),(3,.ptr 1 0),(5,.d (.int .i64 i)),(6,.ptr 2 0),(9,.d (ad fs)),(11,.d (.int .i64 k))]) (fun k=>⟨[(2,.cells 103 (o.e.map .d)),(1,.cells 48 (b.e.map .d)),(0,.cells 41 (L.e.map .d))],3,0⟩) (hlk.symm) ?_;intro k hk hr;repeat refine ai ?_
       refine aj ?_ ?_<;>intro g1
       ·have hlk1:k<fs.length:=U g1
        have hlk2:k<o.values.length:=by omega
        rw[i9 hlk1 hlk2] at hr;repeat refine ai ?_
        refine ak ?_;repeat refine ai ?_
        refine O (e:=GateField.e) (xs:=fs) (hlk1) rfl ?_;repeat refine ai ?_
        refine aj ?_ ?_<;>intro g2
        ·repeat refine ai ?_
         refine O (e:=eB) (xs:=o.values) (hlk2) rfl ?_;repeat refine ai ?_
         refine aj ?_ ?_<;>intro g3
         ·have hc:(fs[k].kind==4&& !(o.values[k]==[]))=true:=by rw[g2];exact g3
          rw[hc,cond_true,QaV] at hr;repeat refine ai ?_
          refine O (e:=GateField.e) (xs:=fs) (hlk1) rfl ?_;repeat refine ai ?_
          refine O (e:=eB) (xs:=o.values) (hlk2) rfl ?_;repeat refine ai ?_
          refine oc (BO _ _ _) ?_;repeat refine ai ?_
          refine aj ?_ ?_<;>intro g4
          ·refine bd ?_
           rw[g9 hlk2,lH g4,Qan] at hr;rw[hrO,hr];rfl
          ·rw[g9 hlk2,jM g4,Qae] at hr
           repeat refine ai ?_
           exact ⟨_,_,_,⟨k+1,rfl,hlk1,hr,rfl,rfl⟩,by omega,rfl,rfl,⟨rfl,rfl,rfl,rfl,rfl,nd (aa hlk1 hfs),trivial⟩,(by repeat' first|exact rfl|exact trivial|refine aj ?_ ?_),(by repeat' first|exact rfl|exact trivial|refine aj ?_ ?_)⟩
         ·have hc:(fs[k].kind==4&& !(o.values[k]==[]))=false:=by rw[g2];exact g3
          rw[hc,cond_false] at hr;repeat refine ai ?_
          refine an ?_;repeat refine ai ?_
          exact ⟨_,_,_,⟨k+1,rfl,hlk1,hr,rfl,rfl⟩,by omega,rfl,rfl,⟨rfl,rfl,rfl,rfl,rfl,nd (aa hlk1 hfs),trivial⟩,(by repeat' first|exact rfl|exact trivial|refine aj ?_ ?_),(by repeat' first|exact rfl|exact trivial|refine aj ?_ ?_)⟩
        ·have hc:(fs[k].kind==4&& !(o.values[k]==[]))=false:=by rw[g2];rfl
         rw[hc,cond_false] at hr;repeat refine ai ?_
         refine an ?_;repeat refine ai ?_
         refine an ?_;repeat refine ai ?_
         exact ⟨_,_,_,⟨k+1,rfl,hlk1,hr,rfl,rfl⟩,by omega,rfl,rfl,⟨rfl,rfl,rfl,rfl,rfl,nd (aa hlk1 hfs),trivial⟩,(by repeat' first|exact rfl|exact trivial|refine aj ?_ ?_),(by repeat' first|exact rfl|exact trivial|refine aj ?_ ?_)⟩
       ·rw[Qam (V g1),na rfl] at hr
        have hl:lk=true:=hr;rw[hl,Qae] at hrO;repeat refine ai ?_
        exact bJ hlt hs hrO
   ·have c2:(L.teams.any (·.name==o.team))=false:=tx c2
    repeat refine ai ?_
    refine bd ?_;rw[hr,show mh L b (cY b.objects i) o=false from by rw[hob0 _ rfl];simp only[aK,c1,c2,bl]];rfl
  ·have c1:((DA L.shapes o).1==0)=false:=tx c1
   repeat refine ai ?_
   refine bd ?_;rw[hr,show mh L b (cY b.objects i) o=false from by rw[hob0 _ rfl];simp only[aK,c1,bl]];rfl
 ·refine bd ?_
  rw[hr,fF (V h1)]
end Go.Vc
end
section
namespace Go.Vc
open Go.Proofs
set_option maxRecDepth 100000
def zW (p:Option GateGrant) (n:Int):Bool:=match p with|some q=> !decide (q.number≥n)|none=>true
def fy (b:GateBook) (p:Option GateGrant) (g:GateGrant):Bool:=fJ g.number 1 b.given&&(zW p g.number&&(aX g.to_&&((g.by_==[]||aX g.by_)&&bn g.rule)))
def ip (b:GateBook):Bool:= !decide ((b.grants.length:Int)>24)&&aB (fy b) none b.grants
theorem o5 (n a b:Int):fJ n a b=(!decide (n<a)&& !decide (n>b)):=by
 unfold fJ
 congr 1
 ·by_cases h:n<a
  ·rw[decide_eq_true h,decide_eq_false (by omega)];rfl
  ·rw[decide_eq_false h,decide_eq_true (by omega)];rfl
 ·by_cases h:n>b
  ·rw[decide_eq_true h,decide_eq_false (by omega)];rfl
  ·rw[decide_eq_false h,decide_eq_true (by omega)];rfl
set_option maxHeartbeats 2000000 in
theorem Cr (b:GateBook):Spec P 127 [st b.e] (.d (.bool (ip b))):=by
 refine Spec.of_vc aO aA [.tmp 2] Tryz.func127 rfl rfl rfl rfl (fun hok=>?_);have hs:=(bC hok).2.1;repeat refine ai ?_
 refine aj ?_ ?_<;>intro h0
 ·refine bd ?_
  rw[Qac] at h0;rw[ip,h0];rfl
 rw[Qac] at h0;have hob:ip b=aB (fy b) none b.grants:=by rw[ip,h0];rfl
 rw[hob];repeat refine ai ?_
 refine d8 (b.grants) (fun i=>aB (fy b) none b.grants=aB (fy b) (cY b.grants i) (b.grants.drop i)) (fun i=>[(1,.ptr 0 0),(10,.d (bf b.grants)),(11,.d (.int .i64 (b.grants.map GateGrant.e).length)),(12,.d (.int .i64 i))]) (fun i=>⟨[(0,.cells 48 (b.e.map .d))],1,0⟩) (rfl) ?_;intro i hi hr;repeat refine ai ?_
 refine aj ?_ ?_<;>intro h1
 ·have hlt:i<b.grants.length:=U h1
  rw[eG hlt] at hr;repeat refine ai ?_
  refine O (e:=GateGrant.e) (xs:=b.grants) (hlt) rfl ?_;repeat refine ai ?_
  refine ak ?_;repeat refine ai ?_
  repeat' first
   |refine ai ?_
   |(refine n1 ?_;intro h)
   |(refine n2 ?_;intro h)
   |(refine n3 ?_;intro h)
   |(refine n4 ?_;intro h)
   |(refine aj ?_ ?_<;>intro h)
   |refine oc (dD _) ?_
   |refine oc (GN _) ?_
   |refine ak ?_
   |refine aH (e:=GateGrant.e) (xs:=b.grants) (k:=i - 1) (by omega) (bc (ng (by assumption)) hlt hs) rfl ?_
  all_goals (first|rw[cD (ng (by assumption)) hlt] at hr|rw[cE (rm (by assumption))] at hr|skip)
  all_goals (simp only[cond_false,cond_true,Qab,Qaa,reduceCtorEq] at*)
  all_goals first
   |(refine bd ?_
     rw[hr];clear hr;simp only[fy,zW,o5, *,bl]
     done)
   |(refine (fun hq:aB (fy b) none b.grants=aB (fy b) (cY b.grants (i+1)) (b.grants.drop (i+1))=>?_) ?_
     rotate_left
     ·rw[hr]
      clear hr;simp only[fy,zW,o5, *,bl]
      done
     ·repeat refine ai ?_
      exact bJ hlt hs hq)
 ·refine bd ?_
  rw[hr,fF (V h1)]
set_option maxHeartbeats 2000000 in
theorem xS (b:GateBook):Spec P 116 [st b.e] (.d (.bool (ip b))):=by
 refine Spec.of_vc aO aA [.tmp 2] Tryz.func116 rfl rfl rfl rfl (fun hok=>?_);have hs:=(bC hok).2.1;repeat refine ai ?_
 refine aj ?_ ?_<;>intro h0
 ·refine bd ?_
  rw[Qac] at h0;rw[ip,h0];rfl
 rw[Qac] at h0;have hob:ip b=aB (fy b) none b.grants:=by rw[ip,h0];rfl
 rw[hob];repeat refine ai ?_
 refine d8 (b.grants) (fun i=>aB (fy b) none b.grants=aB (fy b) (cY b.grants i) (b.grants.drop i)) (fun i=>[(1,.ptr 0 0),(3,.d (.int .i64 i))]) (fun i=>⟨[(0,.cells 48 (b.e.map .d))],1,0⟩) (rfl) ?_;intro i hi hr;repeat refine ai ?_
 refine aj ?_ ?_<;>intro h1
 ·have hlt:i<b.grants.length:=U h1
  rw[eG hlt] at hr;repeat refine ai ?_
  refine O (e:=GateGrant.e) (xs:=b.grants) (hlt) rfl ?_;repeat refine ai ?_
  refine ak ?_;repeat refine ai ?_
  repeat' first
   |refine ai ?_
   |(refine n1 ?_;intro h)
   |(refine n2 ?_;intro h)
   |(refine n3 ?_;intro h)
   |(refine n4 ?_;intro h)
   |(refine aj ?_ ?_<;>intro h)
   |refine oc (eU _ _ _) ?_
   |refine oc (bT _) ?_
   |refine oc (BP _) ?_
   |refine ak ?_
   |refine aH (e:=GateGrant.e) (xs:=b.grants) (k:=i - 1) (by omega) (bc (ng (by assumption)) hlt hs) rfl ?_
  all_goals (first|rw[cD (ng (by assumption)) hlt] at hr|rw[cE (rm (by assumption))] at hr|skip)
  all_goals (simp only[cond_false,cond_true,Qab,Qaa,reduceCtorEq] at*)
  all_goals first
   |(refine bd ?_
     rw[hr];clear hr;simp only[fy,zW, *,bl]
     done)
   |(refine (fun hq:aB (fy b) none b.grants=aB (fy b) (cY b.grants (i+1)) (b.grants.drop (i+1))=>?_) ?_
     rotate_left
     ·rw[hr]
      clear hr;simp only[fy,zW, *,bl]
      done
     ·repeat refine ai ?_
      exact bJ hlt hs hq)
 ·refine bd ?_
  rw[hr,fF (V h1)]
end Go.Vc
end
section
namespace Go.Vc
open Go.Proofs
set_option maxRecDepth 100000
def hH (xs:List GateTeam):Nat→Bs→Bs→Bool
 |0,a,b=>a==b
 |k+1,a,b=>a==b||(!(dG a xs==[])&&hH xs k (dG a xs) b)
def kV (xs:List GateTeam) (a b:Bs):Bool:=hH xs 4 a b
theorem tq:∀{xs:List GateTeam} {n:Bs},xs.any (·.name==n)=false→dG n xs=[]
 |[],_,_=>rfl
 |x::xs,n,h=>by
  rw[List.any_cons,Bool.or_eq_false_iff] at h;simp only[dG,h.1,cond_false];exact tq h.2
theorem C0 {k n:Nat} (h:k<n) (hn:n≤100):IntKind.i64.wrap ((k:Int)+1)=((k+1:Nat):Int):=by
 rw[IntKind.wrap_i64];omega
theorem qy (xs:List GateTeam) (a b:Bs):Spec P 155 [.d (ar xs),.d (.str a),.d (.str b)] (.d (.bool (kV xs a b))):=by
 refine Spec.of_vc aO aA [.tmp 6] Tryz.func155 rfl rfl rfl rfl (fun hok=>?_);repeat refine ai ?_
 refine aj ?_ ?_<;>intro h0
 ·refine bd ?_
  simp only[kV,hH,h0,Qar]
 have hu:kV xs a b=(!(dG a xs==[])&&hH xs 3 (dG a xs) b):=by simp only[kV,hH,h0,QaE]
 rw[hu];repeat refine ai ?_
 refine ⟨fun m l h=>∃(s:Nat) (x:Bs),m=4 - s∧s≤4∧(!(dG a xs==[])&&hH xs 3 (dG a xs) b)=(bif Nat.ble 4 s then false else (!(dG x xs==[])&&hH xs (3 - s) (dG x xs) b))∧l=[(0,.d (ar xs)),(1,.d (.str x)),(2,.d (.str b)),(7,.d (.int .i64 s))]∧h=hp0,
  ⟨_,_,_,⟨0,a,rfl,by decide,rfl,rfl,rfl⟩,rfl,rfl,⟨rfl,rfl,rfl,rfl,trivial⟩,trivial,trivial⟩,?_⟩
 rintro m l hh ⟨s,x,rfl,hs,hr,rfl,rfl⟩;repeat refine ai ?_
 refine aj ?_ ?_<;>intro h1
 ·have hs4:s<4:=by have:=of_decide_eq_true h1;omega
  rw[show Nat.ble 4 s=false from by cases e:Nat.ble 4 s;rfl;have:=QaO e;omega,cond_false] at hr;repeat refine ai ?_
  refine oc (k6 _ _) ?_;repeat refine ai ?_
  refine aj ?_ ?_<;>intro h2
  ·refine bd ?_
   rw[hr,h2];rfl
  ·rw[h2,Qas,Qae] at hr
   generalize dG x xs=y at*;repeat refine ai ?_
   refine aj ?_ ?_<;>intro h3
   ·refine bd ?_
    rw[hr];cases (3 - s)<;>simp only[hH,h3,Qar]
   ·repeat refine ai ?_
    refine ⟨_,_,_,⟨s+1,y,rfl,hs4,?_,rfl,rfl⟩,by omega,rfl,rfl,⟨rfl,rfl,rfl,nd (C0 hs4 (by decide)),trivial⟩,trivial,trivial⟩;rw[hr];rcases (show s=0∨s=1∨s=2∨s=3 by omega) with rfl|rfl|rfl|rfl
    ·show (y==b||_)=_
     rw[h3];rfl
    ·show (y==b||_)=_
     rw[h3];rfl
    ·show (y==b||_)=_
     rw[h3];rfl
    ·exact h3
 ·have hs4:s=4:=by have:=of_decide_eq_false h1;omega
  subst hs4;refine bd ?_;rw[hr];rfl
theorem qK (xs:List GateTeam) (a b:Bs):Spec P 159 [.d (ar xs),.d (.str a),.d (.str b)] (.d (.bool (kV xs a b))):=by
 refine Spec.of_vc aO aA [.tmp 6] Tryz.func159 rfl rfl rfl rfl (fun hok=>?_)
 refine ⟨fun m l h=>∃(s:Nat) (x:Bs),m=4 - s∧s≤4∧kV xs a b=hH xs (4 - s) x b∧l=[(0,.d (ar xs)),(1,.d (.str x)),(2,.d (.str b)),(7,.d (.int .i64 s))]∧h=hp0,
  ⟨_,_,_,⟨0,a,rfl,by decide,rfl,rfl,rfl⟩,rfl,rfl,⟨rfl,rfl,rfl,rfl,trivial⟩,trivial,trivial⟩,?_⟩
 rintro m l hh ⟨s,x,rfl,hs,hr,rfl,rfl⟩;repeat refine ai ?_
 refine aj ?_ ?_<;>intro h1
 ·have h1:(x==b)=false:=tx h1
  repeat refine ai ?_
  refine oc (gU _ _) ?_;repeat refine ai ?_
  refine aj ?_ ?_<;>intro h2
  ·have hs4:s<4:=by
    have:=beq_eq_false_iff_ne.1 h2;omega
   have hu:hH xs (4 - s) x b=(!(dG x xs==[])&&hH xs (4 - (s+1)) (dG x xs) b):=by
    rw[show 4 - s=(4 - (s+1))+1 from by omega];show (x==b||_)=_;rw[h1];rfl
   rw[hu] at hr;repeat refine ai ?_
   refine aj ?_ ?_<;>intro h3
   ·obtain ⟨j,hj,ej,_⟩:=cW (p:=fun t:GateTeam=>t.name==x) (xs:=xs) (decide_eq_true (by have:=of_decide_eq_false h3;omega))
    obtain ⟨_,eo⟩:=pU (n:=x) (xs:=xs) (k:=0) (j:=j) (by rw[Qa3];exact ej);repeat refine ai ?_
    refine aH (e:=GateTeam.e) (xs:=xs) (hj) (ej) rfl ?_;repeat refine ai ?_
    refine aj ?_ ?_<;>intro h4
    ·refine bd ?_
     rw[hr,eo,h4];rfl
    ·repeat refine ai ?_
     refine aH (e:=GateTeam.e) (xs:=xs) (hj) (ej) rfl ?_;repeat refine ai ?_
     rw[eo,h4,Qas,Qae] at hr;repeat refine ai ?_
     exact ⟨_,_,_,⟨s+1,_,rfl,hs4,hr,rfl,rfl⟩,by omega,rfl,rfl,⟨rfl,rfl,rfl,nd (C0 hs4 (by decide)),trivial⟩,trivial,trivial⟩
   ·have hn:=tx (idx_lt.symm.trans h3)
    rw[tq hn] at hr;refine bd ?_;rw[hr];rfl
  ·have hs4:s=4:=by
    have:=beq_iff_eq.1 h2;omega
   subst hs4;refine bd ?_;rw[hr];exact h1.symm
 ·have h1:(x==b)=true:=py h1
  refine bd ?_;rw[hr];cases (4 - s)<;>simp only[hH,h1,Qar]
def bR (a b:Int):Int:=IntKind.i64.wrap (a+b)
theorem vQ {a:Int} (h:IntKind.i64.wrap a=a):bR a 0=a:=by unfold bR;rw[Int.add_zero,h]
theorem DW (a:Int):IntKind.i64.wrap (IntKind.i64.wrap a)=IntKind.i64.wrap a:=by simp only[IntKind.wrap_i64];omega
theorem rC (a b:Int):IntKind.i64.wrap (bR a b)=bR a b:=DW _
theorem K0 (c:Bool):IntKind.i64.wrap (bif c then 1 else 0)=bif c then 1 else 0:=by cases c<;>rfl
def fo (r:Bs):List GateField→List Bs→Int→Int
 |f::fs,v::vs,n=>fo r fs vs (bif f.kind==1&&f.weighs==r then bR n (jD v) else n)
 |_,_,n=>n
theorem iT {r:Bs} {fs:List GateField} {vs:List Bs} {i:Nat} {n:Int} (h:i<fs.length) (h2:i<vs.length):fo r (fs.drop i) (vs.drop i) n=fo r (fs.drop (i+1)) (vs.drop (i+1)) (bif fs[i].kind==1&&fs[i].weighs==r then bR n (jD vs[i]) else n):=by
 rw[Qal h,Qal h2];rfl
theorem jP {r:Bs} {fs:List GateField} {vs:List Bs} {i:Nat} {n:Int} (h:fs.length≤i):fo r (fs.drop i) (vs.drop i) n=n:=by
 rw[Qam h];rfl
def eS (L:GateLaw) (o:GateObject) (r:Bs):Int:=bif !(af L.shapes o.kind o.values.length).2||r==[] then 0 else fo r (af L.shapes o.kind o.values.length).1 o.values (bif r==o.kind then 1 else 0)
theorem pa (L:GateLaw) (o:GateObject) (r:Bs):Spec P 160 [st L.e,st o.e,.d (.str r)] (.d (.int .i64 (eS L o r))):=by
 refine Spec.of_vc aO aA [.tmp 6] Tryz.func160 rfl rfl rfl rfl (fun hok=>?_);have hvb:=(ji (o:=o) ⟨hok.2.1,trivial⟩).1;repeat refine ai ?_
 refine oc (gy _ _) ?_;repeat refine ai ?_
 refine aj ?_ ?_<;>intro h0
 ·have h0:=py h0
  repeat refine ai ?_
  refine aj ?_ ?_<;>intro h1
  ·refine nd ?_
   simp only[eS,h0,h1,cond_true,bl]
  ·have hw:eS L o r=fo r (af L.shapes o.kind o.values.length).1 o.values (bif r==o.kind then 1 else 0):=by simp only[eS,h0,h1,cond_false,bl]
   have hfl:=(cj (xs:=L.shapes) (k:=o.kind) (n:=o.values.length)).2 h0;rw[hw];generalize (af L.shapes o.kind o.values.length).1=fs at*;repeat refine ai ?_
   refine aj ?_ ?_<;>intro h2
   ·rw[h2,cond_true]
    repeat refine ai ?_
    refine kO (fs) (fun i (n:Int)=>fo r fs o.values 1=fo r (fs.drop i) (o.values.drop i) n) (fun i (n:Int)=>[(2,.d (.str r)),(4,.ptr 1 0),(9,.d (.int .i64 n)),(31,.d (ad fs)),(32,.d (.int .i64 (fs.map GateField.e).length)),(33,.d (.int .i64 i))]) (fun i (n:Int)=>⟨[(1,.cells 103 (o.e.map .d)),(0,.cells 41 (L.e.map .d))],2,0⟩) (rfl) ?_;intro i n hi hr;have hs:fs.length≤big:=by omega
    repeat refine ai ?_
    refine aj ?_ ?_<;>intro g1
    ·have hlt:i<fs.length:=U g1
     have hlt2:i<o.values.length:=by omega
     rw[iT hlt hlt2] at hr;repeat refine ai ?_
     refine O (e:=GateField.e) (xs:=fs) (hlt) rfl ?_;repeat refine ai ?_
     refine aj ?_ ?_<;>intro g2
     ·repeat refine ai ?_
      refine aj ?_ ?_<;>intro g3
      ·have hc:(fs[i].kind==1&&fs[i].weighs==r)=false:=by rw[py g2,tx g3];rfl
       rw[hc,cond_false] at hr;repeat refine ai ?_
       exact cH n hlt hs hr
      ·have hc:(fs[i].kind==1&&fs[i].weighs==r)=true:=by rw[py g2,py g3];rfl
       rw[hc,cond_true] at hr;repeat refine ai ?_
       refine O (e:=eB) (xs:=o.values) (hlt2) rfl ?_;repeat refine ai ?_
       refine oc (qh _) ?_;repeat refine ai ?_
       exact cH (bR n (jD o.values[i])) hlt hs hr
     ·have hc:(fs[i].kind==1&&fs[i].weighs==r)=false:=by rw[tx g2];rfl
      rw[hc,cond_false] at hr;repeat refine ai ?_
      exact cH n hlt hs hr
    ·refine nd ?_
     rw[hr,jP (V g1)]
   ·rw[h2,cond_false]
    repeat refine ai ?_
    refine kO (fs) (fun i (n:Int)=>fo r fs o.values 0=fo r (fs.drop i) (o.values.drop i) n) (fun i (n:Int)=>[(2,.d (.str r)),(4,.ptr 1 0),(9,.d (.int .i64 n)),(31,.d (ad fs)),(32,.d (.int .i64 (fs.map GateField.e).length)),(33,.d (.int .i64 i))]) (fun i (n:Int)=>⟨[(1,.cells 103 (o.e.map .d)),(0,.cells 41 (L.e.map .d))],2,0⟩) (rfl) ?_;intro i n hi hr;have hs:fs.length≤big:=by omega
    repeat refine ai ?_
    refine aj ?_ ?_<;>intro g1
    ·have hlt:i<fs.length:=U g1
     have hlt2:i<o.values.length:=by omega
     rw[iT hlt hlt2] at hr;repeat refine ai ?_
     refine O (e:=GateField.e) (xs:=fs) (hlt) rfl ?_;repeat refine ai ?_
     refine aj ?_ ?_<;>intro g2
     ·repeat refine ai ?_
      refine aj ?_ ?_<;>intro g3
      ·have hc:(fs[i].kind==1&&fs[i].weighs==r)=false:=by rw[py g2,tx g3];rfl
       rw[hc,cond_false] at hr;repeat refine ai ?_
       exact cH n hlt hs hr
      ·have hc:(fs[i].kind==1&&fs[i].weighs==r)=true:=by rw[py g2,py g3];rfl
       rw[hc,cond_true] at hr;repeat refine ai ?_
       refine O (e:=eB) (xs:=o.values) (hlt2) rfl ?_;repeat refine ai ?_
       refine oc (qh _) ?_;repeat refine ai ?_
       exact cH (bR n (jD o.values[i])) hlt hs hr
     ·have hc:(fs[i].kind==1&&fs[i].weighs==r)=false:=by rw[tx g2];rfl
      rw[hc,cond_false] at hr;repeat refine ai ?_
      exact cH n hlt hs hr
    ·refine nd ?_
     rw[hr,jP (V g1)]
 ·refine nd ?_
  simp only[eS,h0,Qar,cond_true]
end Go.Vc
end
section
namespace Go.Vc
open Go.Proofs
set_option maxRecDepth 100000
theorem Dn {v:Bs} (h:decide (kg v>0)=true):jD v=kg v:=by
 have:=of_decide_eq_true h;unfold kg jD at*
 cases e:eA v with
 |none=>rw[e] at this;simp at this
 |some n=>rfl
theorem Do {v:Bs} (h:decide (kg v>0)=false):jD v=0:=by
 have:=of_decide_eq_false h;unfold kg jD at*
 cases e:eA v with
 |none=>rfl
 |some n=>
  rw[e] at this;simp only at this ⊢;have:=oJ e;omega
theorem nY (L:GateLaw) (o:GateObject) (r:Bs):Spec P 156 [st L.e,st o.e,.d (.str r)] (.d (.int .i64 (eS L o r))):=by
 refine Spec.of_vc aO aA [.tmp 6] Tryz.func156 rfl rfl rfl rfl (fun hok=>?_);have hvb:=(ji (o:=o) ⟨hok.2.1,trivial⟩).1;repeat refine ai ?_
 refine oc (fp _ _) ?_;repeat refine ai ?_
 refine aj ?_ ?_<;>intro h0
 ·have h0:=py h0
  repeat refine ai ?_
  refine aj ?_ ?_<;>intro h1
  ·refine nd ?_
   simp only[eS,h0,h1,cond_true,bl]
  ·have hw:eS L o r=fo r (af L.shapes o.kind o.values.length).1 o.values (bif r==o.kind then 1 else 0):=by simp only[eS,h0,h1,cond_false,bl]
   have hfl:=(cj (xs:=L.shapes) (k:=o.kind) (n:=o.values.length)).2 h0;rw[hw];generalize (af L.shapes o.kind o.values.length).1=fs at*;repeat refine ai ?_
   refine aj ?_ ?_<;>intro h2
   ·rw[h2,cond_true]
    repeat refine ai ?_
    refine kO (fs) (fun i (n:Int)=>fo r fs o.values 1=fo r (fs.drop i) (o.values.drop i) n∧IntKind.i64.wrap n=n) (fun i (n:Int)=>[(2,.d (.str r)),(4,.ptr 1 0),(7,.d (ad fs)),(9,.d (.int .i64 n)),(10,.d (.int .i64 i))]) (fun i (n:Int)=>⟨[(1,.cells 103 (o.e.map .d)),(0,.cells 41 (L.e.map .d))],2,0⟩) (⟨rfl,rfl⟩) ?_;intro i n hi hr;obtain ⟨hr,hwn⟩:=hr;have hs:fs.length≤big:=by omega
    repeat refine ai ?_
    refine aj ?_ ?_<;>intro g1
    ·have hlt:i<fs.length:=U g1
     have hlt2:i<o.values.length:=by omega
     rw[iT hlt hlt2] at hr;repeat refine ai ?_
     refine O (e:=eB) (xs:=o.values) (hlt2) rfl ?_;repeat refine ai ?_
     refine oc (mY _) ?_;repeat refine ai ?_
     refine O (e:=GateField.e) (xs:=fs) (hlt) rfl ?_;repeat refine ai ?_
     refine aj ?_ ?_<;>intro g2
     ·repeat refine ai ?_
      refine O (e:=GateField.e) (xs:=fs) (hlt) rfl ?_;repeat refine ai ?_
      refine aj ?_ ?_<;>intro g3
      ·have hc:(fs[i].kind==1&&fs[i].weighs==r)=true:=by rw[g2];exact g3
       rw[hc,cond_true] at hr;repeat refine ai ?_
       refine aj ?_ ?_<;>intro g4
       ·rw[Dn g4] at hr
        repeat refine ai ?_
        exact cH (bR n (kg o.values[i])) hlt hs ⟨hr,rC _ _⟩
       ·rw[Do g4,vQ hwn] at hr
        repeat refine ai ?_
        exact cH n hlt hs ⟨hr,hwn⟩
      ·have hc:(fs[i].kind==1&&fs[i].weighs==r)=false:=by rw[g2];exact g3
       rw[hc,cond_false] at hr;repeat refine ai ?_
       exact cH n hlt hs ⟨hr,hwn⟩
     ·have hc:(fs[i].kind==1&&fs[i].weighs==r)=false:=by rw[g2];rfl
      rw[hc,cond_false] at hr;repeat refine ai ?_
      exact cH n hlt hs ⟨hr,hwn⟩
    ·refine nd ?_
     rw[hr,jP (V g1)]
   ·rw[h2,cond_false]
    repeat refine ai ?_
    refine kO (fs) (fun i (n:Int)=>fo r fs o.values 0=fo r (fs.drop i) (o.values.drop i) n∧IntKind.i64.wrap n=n) (fun i (n:Int)=>[(2,.d (.str r)),(4,.ptr 1 0),(7,.d (ad fs)),(9,.d (.int .i64 n)),(10,.d (.int .i64 i))]) (fun i (n:Int)=>⟨[(1,.cells 103 (o.e.map .d)),(0,.cells 41 (L.e.map .d))],2,0⟩) (⟨rfl,rfl⟩) ?_;intro i n hi hr;obtain ⟨hr,hwn⟩:=hr;have hs:fs.length≤big:=by omega
    repeat refine ai ?_
    refine aj ?_ ?_<;>intro g1
    ·have hlt:i<fs.length:=U g1
     have hlt2:i<o.values.length:=by omega
     rw[iT hlt hlt2] at hr;repeat refine ai ?_
     refine O (e:=eB) (xs:=o.values) (hlt2) rfl ?_;repeat refine ai ?_
     refine oc (mY _) ?_;repeat refine ai ?_
     refine O (e:=GateField.e) (xs:=fs) (hlt) rfl ?_;repeat refine ai ?_
     refine aj ?_ ?_<;>intro g2
     ·repeat refine ai ?_
      refine O (e:=GateField.e) (xs:=fs) (hlt) rfl ?_;repeat refine ai ?_
      refine aj ?_ ?_<;>intro g3
      ·have hc:(fs[i].kind==1&&fs[i].weighs==r)=true:=by rw[g2];exact g3
       rw[hc,cond_true] at hr;repeat refine ai ?_
       refine aj ?_ ?_<;>intro g4
       ·rw[Dn g4] at hr
        repeat refine ai ?_
        exact cH (bR n (kg o.values[i])) hlt hs ⟨hr,rC _ _⟩
       ·rw[Do g4,vQ hwn] at hr
        repeat refine ai ?_
        exact cH n hlt hs ⟨hr,hwn⟩
      ·have hc:(fs[i].kind==1&&fs[i].weighs==r)=false:=by rw[g2];exact g3
       rw[hc,cond_false] at hr;repeat refine ai ?_
       exact cH n hlt hs ⟨hr,hwn⟩
     ·have hc:(fs[i].kind==1&&fs[i].weighs==r)=false:=by rw[g2];rfl
      rw[hc,cond_false] at hr;repeat refine ai ?_
      exact cH n hlt hs ⟨hr,hwn⟩
    ·refine nd ?_
     rw[hr,jP (V g1)]
 ·refine nd ?_
  simp only[eS,h0,Qar,cond_true]
def sc (L:GateLaw) (t r:Bs):List GateObject→Int→Int
 |[],n=>n
 |o::os,n=>sc L t r os (bif kV L.teams o.team t then bR n (eS L o r) else n)
def qq (L:GateLaw) (b:GateBook) (t r:Bs):Int:=sc L t r b.objects 0
theorem sb {L:GateLaw} {t r:Bs} {os:List GateObject} {i:Nat} {n:Int} (h:i<os.length):sc L t r (os.drop i) n=sc L t r (os.drop (i+1)) (bif kV L.teams os[i].team t then bR n (eS L os[i] r) else n):=by
 rw[Qal h];rfl
theorem vW {L:GateLaw} {t r:Bs} {os:List GateObject} {i:Nat} {n:Int} (h:os.length≤i):sc L t r (os.drop i) n=n:=by
 rw[Qam h];rfl
theorem Ct (L:GateLaw) (b:GateBook) (t r:Bs):Spec P 99 [st L.e,st b.e,.d (.str t),.d (.str r)] (.d (.int .i64 (qq L b t r))):=by
 refine Spec.of_vc aO aA [.tmp 8] Tryz.func99 rfl rfl rfl rfl (fun hok=>?_);have hs:=(bC (d6 hok.2)).1;repeat refine ai ?_
 refine kO (b.objects) (fun i (n:Int)=>qq L b t r=sc L t r (b.objects.drop i) n) (fun i (n:Int)=>[(2,.d (.str t)),(3,.d (.str r)),(4,.ptr 0 0),(5,.ptr 1 0),(9,.d (.int .i64 n)),(13,.d (aC b.objects)),(14,.d (.int .i64 (b.objects.map GateObject.e).length)),(15,.d (.int .i64 i))]) (fun i (n:Int)=>⟨[(1,.cells 48 (b.e.map .d)),(0,.cells 41 (L.e.map .d))],2,0⟩) (rfl) ?_;intro i n hi hr;repeat refine ai ?_
 refine aj ?_ ?_<;>intro g1
 ·have hlt:i<b.objects.length:=U g1
  rw[sb hlt] at hr
  skip
  repeat refine ai ?_
  refine O (e:=GateObject.e) (xs:=b.objects) (hlt) rfl ?_;repeat refine ai ?_
  refine oc (qK _ _ _) ?_;repeat refine ai ?_
  refine aj ?_ ?_<;>intro g2
  ·rw[g2,cond_true] at hr
   skip
   skip
   repeat refine ai ?_
   refine oc (pa _ _ _) ?_;repeat refine ai ?_
   exact cH (bR n (eS L b.objects[i] r)) hlt hs hr
  ·rw[g2,cond_false] at hr
   repeat refine ai ?_
   exact cH n hlt hs hr
 ·refine nd ?_
  rw[hr,vW (V g1)]
theorem BS (L:GateLaw) (b:GateBook) (t r:Bs):Spec P 94 [st L.e,st b.e,.d (.str t),.d (.str r)] (.d (.int .i64 (qq L b t r))):=by
 refine Spec.of_vc aO aA [.tmp 8] Tryz.func94 rfl rfl rfl rfl (fun hok=>?_);have hs:=(bC (d6 hok.2)).1;repeat refine ai ?_
 refine kO (b.objects) (fun i (n:Int)=>qq L b t r=sc L t r (b.objects.drop i) n) (fun i (n:Int)=>[(2,.d (.str t)),(3,.d (.str r)),(4,.ptr 0 0),(5,.ptr 1 0),(9,.d (.int .i64 n)),(10,.d (.int .i64 i))]) (fun i (n:Int)=>⟨[(1,.cells 48 (b.e.map .d)),(0,.cells 41 (L.e.map .d))],2,0⟩) (rfl) ?_;intro i n hi hr;repeat refine ai ?_
 refine aj ?_ ?_<;>intro g1
 ·have hlt:i<b.objects.length:=U g1
  rw[sb hlt] at hr;repeat refine ai ?_
  refine ak ?_;repeat refine ai ?_
  refine O (e:=GateObject.e) (xs:=b.objects) (hlt) rfl ?_;repeat refine ai ?_
  refine oc (qy _ _ _) ?_;repeat refine ai ?_
  refine aj ?_ ?_<;>intro g2
  ·rw[g2,cond_true] at hr
   repeat refine ai ?_
   refine ak ?_;repeat refine ai ?_
   refine O (e:=GateObject.e) (xs:=b.objects) (hlt) rfl ?_;repeat refine ai ?_
   refine oc (nY _ _ _) ?_;repeat refine ai ?_
   exact cH (bR n (eS L b.objects[i] r)) hlt hs hr
  ·rw[g2,cond_false] at hr
   repeat refine ai ?_
   exact cH n hlt hs hr
 ·refine nd ?_
  rw[hr,vW (V g1)]
def oH (t r:Bs):List GatePurse→Int→Int
 |[],n=>n
 |p::ps,n=>oH t r ps (bif p.team==t&&p.resource==r then bR n p.amount else n)
def HX (b:GateBook) (t r:Bs):Int:=oH t r b.purses 0
theorem EQ {t r:Bs} {os:List GatePurse} {i:Nat} {n:Int} (h:i<os.length):oH t r (os.drop i) n=oH t r (os.drop (i+1)) (bif os[i].team==t&&os[i].resource==r then bR n os[i].amount else n):=by
 rw[Qal h];rfl
theorem Gl {t r:Bs} {os:List GatePurse} {i:Nat} {n:Int} (h:os.length≤i):oH t r (os.drop i) n=n:=by
 rw[Qam h];rfl
theorem HN (b:GateBook) (t r:Bs):Spec P 177 [st b.e,.d (.str t),.d (.str r)] (.d (.int .i64 (HX b t r))):=by
 refine Spec.of_vc aO aA [.tmp 6] Tryz.func177 rfl rfl rfl rfl (fun hok=>?_);have hs:=(bC (d6 hok)).2.2.2;repeat refine ai ?_
 refine kO (b.purses) (fun i (n:Int)=>HX b t r=oH t r (b.purses.drop i) n) (fun i (n:Int)=>[(1,.d (.str t)),(2,.d (.str r)),(3,.ptr 0 0),(7,.d (.int .i64 n)),(8,.d (.int .i64 i))]) (fun i (n:Int)=>⟨[(0,.cells 48 (b.e.map .d))],1,0⟩) (rfl) ?_;intro i n hi hr;repeat refine ai ?_
 refine aj ?_ ?_<;>intro g1
 ·have hlt:i<b.purses.length:=U g1
  rw[EQ hlt] at hr;repeat refine ai ?_
  refine O (e:=GatePurse.e) (xs:=b.purses) (hlt) rfl ?_;repeat refine ai ?_
  refine aj ?_ ?_<;>intro g2
  ·repeat refine ai ?_
   refine O (e:=GatePurse.e) (xs:=b.purses) (hlt) rfl ?_;repeat refine ai ?_
   refine aj ?_ ?_<;>intro g3
   ·rw[g2,show (b.purses[i].resource==r)=true from g3,QaF,cond_true] at hr
    repeat refine ai ?_
    refine O (e:=GatePurse.e) (xs:=b.purses) (hlt) rfl ?_;repeat refine ai ?_
    exact cH (bR n b.purses[i].amount) hlt hs hr
   ·rw[g2,show (b.purses[i].resource==r)=false from g3,Qaq,cond_false] at hr
    repeat refine ai ?_
    exact cH n hlt hs hr
  ·rw[g2,Qan,cond_false] at hr
   repeat refine ai ?_
   exact cH n hlt hs hr
 ·refine nd ?_
  rw[hr,Gl (V g1)]
end Go.Vc
end
section
namespace Go.Vc
open Go.Proofs
abbrev gZ:=Bs×Bs
def vv (k:gZ):List D:=[.str k.1,.str k.2]
def kr (e:gZ×Int):List D×AV:=(vv e.1,.d (.int .i64 e.2))
def qQ (k k':gZ):Bool:=k.1==k'.1&&k.2==k'.2
def rh:List (gZ×Int)→gZ→Int→List (gZ×Int)
 |[],k,v=>[(k,v)]
 |(k',a)::r,k,v=>bif qQ k k' then (k',v)::r else (k',a)::rh r k v
def de:List (gZ×Int)→gZ→Option Int
 |[],_=>none
 |(k',a)::r,k=>bif qQ k k' then some a else de r k
def uE:List (gZ×Int)→gZ→Int→List (gZ×Int)
 |[],_,_=>[]
 |(k',a)::r,k,v=>bif qQ k k' then (k',bR a v)::r else (k',a)::uE r k v
theorem yv (k k':gZ):bY (vv k) (vv k')=qQ k k':=rfl
theorem Ax (k:gZ) (v:Int):∀en:List (gZ×Int),bp (en.map kr) (vv k) (.d (.int .i64 v))=(rh en k v).map kr
 |[]=>rfl
 |(k',a)::r=>by
  simp only[Qap,kr,bp,yv,rh]
  cases qQ k k' with
  |true=>rfl
  |false=>
   simp only[cond_false,Qap,kr,List.cons.injEq,true_and];exact Ax k v r
theorem wt (k:gZ):∀en:List (gZ×Int),av (en.map kr) (vv k)=(de en k).map fun v=> .d (.int .i64 v)
 |[]=>rfl
 |(k',a)::r=>by
  simp only[Qap,kr,av,yv,de]
  cases qQ k k' with
  |true=>rfl
  |false=>exact wt k r
theorem Dr {k:gZ} {v:Int}:∀{en:List (gZ×Int)} {i:Nat},de en k=some v→∃j,∃k':gZ,fc (en.map kr) (vv k) i=some (i+j,.d (.int .i64 v))∧en[j]? =some (k',v)∧∀x,uE en k x=en.set j (k',bR v x)
 |[],i,h=>by cases h
 |(k',a)::r,i,h=>by
  simp only[Qap,kr,fc,yv];simp only[de] at h
  cases he:qQ k k' with
  |true=>
   rw[he,cond_true] at h;cases h
   exact ⟨0,k',rfl,rfl,fun x=>by simp only[uE,he,cond_true,List.set_cons_zero]⟩
  |false=>
   rw[he,cond_false] at h;obtain ⟨j,k2,h1,h2,h3⟩:=Dr (i:=i+1) h;exact ⟨j+1,k2,by rw[h1,show i+1+j=i+(j+1) from by omega],h2,fun x=>by simp only[uE,he,cond_false,h3,List.set_cons_succ]⟩
theorem tL (n:Nat):∀en:List (gZ×Int),Fv n (en.map kr)
 |[]=>trivial
 |e::r=>⟨rfl,tL n r⟩
theorem eqA_iff {k k':gZ}:qQ k k'=true↔k=k':=by
 obtain ⟨a,b⟩:=k;obtain ⟨c,d⟩:=k';simp[qQ]
theorem ut (k:gZ):qQ k k=true:=eqA_iff.2 rfl
theorem JA {k k':gZ} (h:k≠k'):qQ k k'=false:=by
 cases e:qQ k k' with
 |false=>rfl
 |true=>exact absurd (eqA_iff.1 e) h
theorem tN (k:gZ) (v:Int):∀(en:List (gZ×Int)) (k':gZ),de (rh en k v) k'=bif qQ k' k then some v else de en k'
 |[],k'=>by simp only[rh,de]
 |(k2,a)::r,k'=>by
  simp only[rh]
  cases he:qQ k k2 with
  |true=>
   rw[cond_true];simp only[de];rw[eqA_iff.1 he]
   cases qQ k' k2<;>rfl
  |false=>
   rw[cond_false];simp only[de]
   cases h2:qQ k' k2 with
   |true=>
    rw[cond_true,cond_true];rw[eqA_iff.1 h2]
    have:qQ k2 k=false:=by
     cases e:qQ k2 k with
     |false=>rfl
     |true=>rw[eqA_iff.1 e,ut] at he;cases he
    rw[this];rfl
   |false=>rw[cond_false,cond_false];exact tN k v r k'
theorem AC (k:gZ) (x:Int):∀(en:List (gZ×Int)) (k':gZ),de (uE en k x) k'=(de en k').map fun v=>bif qQ k' k then bR v x else v
 |[],k'=>rfl
 |(k2,a)::r,k'=>by
  simp only[uE]
  cases he:qQ k k2 with
  |true=>
   rw[cond_true];simp only[de];have e:=eqA_iff.1 he;subst e
   cases h2:qQ k' k with
   |true=>rfl
   |false=>
    simp only[cond_false]
    cases de r k'<;>rfl
  |false=>
   rw[cond_false];simp only[de]
   cases h2:qQ k' k2 with
   |true=>
    have e:=eqA_iff.1 h2;subst e
    have:qQ k' k=false:=by
     cases e:qQ k' k with
     |false=>rfl
     |true=>rw[eqA_iff.1 e,ut] at he;cases he
    simp[this]
   |false=>rw[cond_false,cond_false];exact AC k x r k'
def rB (g:GateLedger):gZ:=(g.team,g.resource)
def Ht (p:GatePurse):gZ:=(p.team,p.resource)
def Il (f:GateLedger→Int) (gs:List GateLedger):List (gZ×Int):=gs.foldl (fun en g=>rh en (rB g) (f g)) []
def HB (en:List (gZ×Int)) (ps:List GatePurse):List (gZ×Int):=ps.foldl (fun en p=>uE en (Ht p) p.amount) en
theorem G7 (f:GateLedger→Int) (gs:List GateLedger) (g:GateLedger):Il f (gs++[g])=rh (Il f gs) (rB g) (f g):=by simp[Il]
theorem G5 (en:List (gZ×Int)) (ps:List GatePurse) (p:GatePurse):HB en (ps++[p])=uE (HB en ps) (Ht p) p.amount:=by simp[HB]
theorem tR (k:gZ):∀(ps:List GatePurse) (en:List (gZ×Int)),de (HB en ps) k=(de en k).map fun v=>oH k.1 k.2 ps v
 |[],en=>by simp[HB,oH]
 |p::ps,en=>by
  show de (HB (uE en (Ht p) p.amount) ps) k=_;rw[tR k ps,AC]
  cases de en k with
  |none=>rfl
  |some v=>
   simp only[Option.map_some,oH]
   congr 2
   have:qQ k (Ht p)=(p.team==k.1&&p.resource==k.2):=by
    simp only[qQ,Ht];rw[BEq.comm (a:=k.1),BEq.comm (a:=k.2)]
   rw[this]
def HK (t r:Bs):List GatePurse→Int
 |[]=>0
 |p::ps=>(bif p.team==t&&p.resource==r then p.amount else 0)+HK t r ps
theorem oG (t r:Bs):∀(ps:List GatePurse) (n:Int),IntKind.i64.wrap n=n→oH t r ps n=IntKind.i64.wrap (n+HK t r ps)
 |[],n,h=>by simp only[oH,HK,Int.add_zero,h]
 |p::ps,n,h=>by
  simp only[oH,HK]
  cases p.team==t&&p.resource==r with
  |false=>rw[cond_false,cond_false,oG t r ps n h,Int.zero_add]
  |true=>
   rw[cond_true,cond_true,oG t r ps _ (rC _ _)];unfold bR;simp only[IntKind.wrap_i64];omega
theorem EO (t r:Bs) (ps:List GatePurse) (a b:Int):oH t r ps (bR a b)=bR (bR b (oH t r ps 0)) a:=by
 rw[oG t r ps _ (rC _ _),oG t r ps 0 rfl];unfold bR;simp only[IntKind.wrap_i64];omega
theorem p8 (a b:Bs):fE a b a b=false:=by simp[fE,kx]
theorem qG {a b c d e f:Bs} (h:fE a b c d=true) (k:fE c d e f=true):fE a b e f=true:=by
 simp only[fE,QaZ,Qag,beq_iff_eq] at h k ⊢;rcases h with h|⟨rfl,h⟩
 ·rcases k with k|⟨rfl,k⟩
  ·exact .inl (po h k)
  ·exact .inl h
 ·rcases k with k|⟨rfl,k⟩
  ·exact .inl k
  ·exact .inr ⟨rfl,po h k⟩
def oB (p:Option GateLedger) (g:GateLedger):Bool:=match p with|some q=>fE q.team q.resource g.team g.resource|none=>true
theorem wY:∀{gs:List GateLedger} {q:GateLedger},aB oB (some q) gs=true→∀g∈gs,fE q.team q.resource g.team g.resource=true
 |[],_,_,g,h=>by cases h
 |x::gs,q,hc,g,h=>by
  simp only[aB,oB,Qag] at hc;rcases List.mem_cons.1 h with rfl|h
  ·exact hc.1
  ·exact qG hc.1 (wY hc.2 g h)
theorem Bd (f:GateLedger→Int) (k:gZ):∀(gs:List GateLedger) (en:List (gZ×Int)),(∀g∈gs,rB g≠k)→de (gs.foldl (fun en g=>rh en (rB g) (f g)) en) k=de en k
 |[],en,_=>rfl
 |g::gs,en,h=>by
  rw[Qb,Bd f k gs _ (fun x hx=>h x (Qaw _ hx)),tN,JA (fun e=>h g Qau e.symm)];rfl
theorem uu (f:GateLedger→Int):∀{gs:List GateLedger} {p:Option GateLedger} (en:List (gZ×Int)),aB oB p gs=true→∀g∈gs,de (gs.foldl (fun en g=>rh en (rB g) (f g)) en) (rB g)=some (f g)
 |[],_,_,_,g,h=>by cases h
 |x::gs,p,en,hc,g,h=>by
  simp only[aB,Qag] at hc;rw[Qb];rcases List.mem_cons.1 h with rfl|h
  ·rw[Bd f (rB g) gs _ (fun y hy e=>?_),tN,ut]
   ·rfl
   ·have:=wY hc.2 y hy
    simp only[rB,Prod.mk.injEq] at e;rw[e.1,e.2,p8] at this;cases this
  ·exact uu f _ hc.2 g h
theorem ir {α:Type} {r r':Option α→α→Bool} (h:∀p x,r p x=true→r' p x=true):∀{xs:List α} {p:Option α},aB r p xs=true→aB r' p xs=true
 |[],_,_=>rfl
 |x::xs,p,hc=>by
  simp only[aB,Qag] at hc ⊢;exact ⟨h _ _ hc.1,ir h hc.2⟩
theorem wS {α:Type} {r:Option α→α→Bool} {q:α→Bool}:∀{xs:List α} {p:Option α},aB (fun p x=>r p x&&q x) p xs=(aB r p xs&&xs.all q)
 |[],_=>rfl
 |x::xs,p=>by
  simp only[aB,QaV,wS (xs:=xs)];cases r p x<;>cases q x<;>simp
end Go.Vc
end
section
namespace Go.Vc
open Go.Proofs
set_option maxRecDepth 100000
def ic (L:GateLaw) (p:Option GateLedger) (g:GateLedger):Bool:=oB p g&&(L.teams.any (·.name==g.team)&&(aX g.resource&&(!decide (g.free<0)&&(!decide (g.free>g.most)&& !decide (g.most>1000000)))))
def zV (p:Option GatePurse) (x:GatePurse):Bool:=match p with|some q=>oz q x|none=>true
def mg (b:GateBook) (p:Option GatePurse) (x:GatePurse):Bool:=zV p x&&(b.ledgers.any (fun g=>g.team==x.team&&g.resource==x.resource)&&(aX x.door&&(fJ x.amount 1 1000000&&fJ x.until_ b.tick (bR b.tick 10))))
def vg (L:GateLaw) (b:GateBook) (g:GateLedger):Bool:=bR (bR (qq L b g.team g.resource) (HX b g.team g.resource)) g.free==g.most
def kZ (L:GateLaw) (b:GateBook):Bool:= !decide ((b.ledgers.length:Int)>10)&&(!decide ((b.purses.length:Int)>24)&&(aB (ic L) none b.ledgers&&(aB (mg b) none b.purses&&b.ledgers.all (vg L b))))
def zq (L:GateLaw) (b:GateBook) (g:GateLedger):Int:=bR g.free (qq L b g.team g.resource)
theorem wy {L:GateLaw}:∀(p:Option GateLedger) (g:GateLedger),ic L p g=true→oB p g=true:=fun p g h=>by
 simp only[ic,Qag] at h;exact h.1
theorem FQ {L:GateLaw} {b:GateBook} (h:aB (ic L) none b.ledgers=true) {g:GateLedger} (hg:g∈b.ledgers):∃v,de (HB (Il (zq L b) b.ledgers) b.purses) (rB g)=some v∧(v==g.most)=vg L b g:=by
 have h1:=uu (zq L b) [] (ir wy h) g hg;refine ⟨_,by rw[tR];unfold Il;rw[h1];rfl,?_⟩;unfold vg zq HX;simp only[rB];rw[EO]
theorem G6 {E:List (gZ×Int)} {k:gZ} (h:(de E k).isSome) (ps:List GatePurse):∃v,de (HB E ps) k=some v:=by
 obtain ⟨v,e⟩:=Option.isSome_iff_exists.1 h;exact ⟨_,by rw[tR,e];rfl⟩
theorem Ji {t:Nat} {tk:TK} {E:List (gZ×Int)} {a c:Bs} {v:Int}:some (AO.map t tk (bp (E.map kr) [.str a,.str c] (.d (.int .i64 v))))=some (AO.map t tk ((rh E (a,c) v).map kr)):=by
 rw[show ([D.str a,D.str c]:List D)=vv (a,c) from rfl,Ax]
theorem AB (a b c d:Bs):fE a b c d= !(!(Op.bytesLess a c||a==c)||(a==c&& !Op.bytesLess b d)):=by rw[wu,Bool.not_not]
theorem Dw {E:List (gZ×Int)} {a c:Bs} {v:Int} (h:de E (a,c)=some v):av (E.map kr) [.str a,.str c]=some (.d (.int .i64 v)):=by
 rw[show ([D.str a,D.str c]:List D)=vv (a,c) from rfl,wt,h];rfl
theorem G3 {E:List (gZ×Int)} {a c:Bs} {v:Int} (h:de E (a,c)=some v):∃j,∃k':gZ,fc (E.map kr) [.str a,.str c] 0=some (j,.d (.int .i64 v))∧(E.map kr)[(((j:Nat):Int)).toNat]? =some (vv k',.d (.int .i64 v))∧
 ∀t tk x,some (AO.map t tk ((E.map kr).set (((j:Nat):Int)).toNat (vv k',.d (.int .i64 (IntKind.i64.wrap (v+x))))))=some (AO.map t tk ((uE E (a,c) x).map kr)):=by
 obtain ⟨j,k',h1,h2,h3⟩:=Dr (i:=0) h;rw[Qa3] at h1;refine ⟨j,k',h1,?_,fun t tk x=>?_⟩
 ·rw[QaD,QaN,h2];rfl
 ·rw[h3,List.map_set,QaD];rfl
theorem F7 {L:GateLaw} {b:GateBook} (h:aB (ic L) none b.ledgers=true) {p:Option GatePurse} {x:GatePurse} (hx:mg b p x=true) (ps:List GatePurse):∃v,de (HB (Il (zq L b) b.ledgers) ps) (x.team,x.resource)=some v:=by
 simp only[mg,Qag] at hx;obtain ⟨g,hg,hk⟩:=List.any_eq_true.1 hx.2.1;simp only[Qag,beq_iff_eq] at hk;have h1:=uu (zq L b) [] (ir wy h) g hg;refine G6 ?_ ps;rw[←hk.1,←hk.2];show (de (Il (zq L b) b.ledgers) (rB g)).isSome;unfold Il;rw[h1];rfl
set_option maxHeartbeats 4000000 in
theorem GM (L:GateLaw) (b:GateBook):Spec P 128 [st b.e,st L.e] (.d (.bool (kZ L b))):=by
 refine Spec.of_vc aO aA [.tmp 4] Tryz.func128 rfl rfl rfl rfl (fun hok=>?_);have hsl:=(bC (d6 hok)).2.2.1;have hsp:=(bC (d6 hok)).2.2.2;repeat refine ai ?_
 refine aj ?_ ?_<;>intro h0
 ·have h0':decide ((b.ledgers.length:Int)>10)=false:=by rw[Qac] at h0;exact h0
  repeat refine ai ?_
  refine aj ?_ ?_<;>intro h00
  ·have h00:decide ((b.purses.length:Int)>24)=true:=by simp only[cond_false,Qac] at h00;exact h00
   refine bd ?_;rw[kZ,h0',h00];rfl
  have h00:decide ((b.purses.length:Int)>24)=false:=by simp only[cond_false,Qac] at h00;exact h00
  have hob:kZ L b=(aB (ic L) none b.ledgers&&(aB (mg b) none b.purses&&b.ledgers.all (vg L b))):=by rw[kZ,h0',h00];rfl
  rw[hob];repeat refine ai ?_
  refine kO (b.ledgers) (fun i (E:List (gZ×Int))=>E=Il (zq L b) (b.ledgers.take i)∧aB (ic L) none b.ledgers=aB (ic L) (cY b.ledgers i) (b.ledgers.drop i)) (fun i (E:List (gZ×Int))=>[(2,.ptr 0 0),(3,.ptr 1 0),(5,.mapr 2),(26,.d (aL b.ledgers)),(27,.d (.int .i64 (b.ledgers.map GateLedger.e).length)),(28,.d (.int .i64 i))]) (fun i (E:List (gZ×Int))=>⟨[(2,.map 224 .pair (E.map kr)),(1,.cells 41 (L.e.map .d)),(0,.cells 48 (b.e.map .d))],3,0⟩) (⟨rfl,rfl⟩) ?_ ⟨rfl,rfl,⟨rfl,rfl,rfl,rfl,rfl,rfl,trivial⟩,(by repeat' first|exact rfl|exact trivial|exact tL _ _|refine aj ?_ ?_),(by repeat' first|exact rfl|exact trivial|refine aj ?_ ?_)⟩;intro i E hi hr;obtain ⟨hE,hr⟩:=hr;repeat refine ai ?_
  refine aj ?_ ?_<;>intro h1
  ·have hlt:i<b.ledgers.length:=U h1
   rw[eG hlt] at hr;repeat refine ai ?_
   refine O (e:=GateLedger.e) (xs:=b.ledgers) (hlt) rfl ?_;repeat refine ai ?_
   repeat' first
    |refine ai ?_
    |(refine n1 ?_;intro h)
    |(refine n2 ?_;intro h)
    |(refine n3 ?_;intro h)
    |(refine n4 ?_;intro h)
    |(refine aj ?_ ?_<;>intro h)
    |refine oc (gU _ _) ?_
    |refine oc (dD _) ?_
    |refine aH (e:=GateLedger.e) (xs:=b.ledgers) (k:=i - 1) (by omega) (bc (ng (by assumption)) hlt hsl) rfl ?_
   all_goals (simp only[cond_false,cond_true,Qab,Qaa,reduceCtorEq,idx_lt] at*)
   all_goals first
    |(refine bd ?_
      rw[hr];clear hr hE hob h0 h0' h00;first|rw[cD (ng (by assumption)) hlt]|rw[cE (rm (by assumption))]
      simp_all only[ic,oB,AB,Qae,QaF,Qan,Qaq,Qar,QaL,QaE,QaJ,QaK,Qas]
      done)
    |(refine (fun hq:ic L (cY b.ledgers i) b.ledgers[i]=true=>?_) ?_
      rotate_left
      ·clear hr hE hob h0 h0' h00
       first|rw[cD (ng (by assumption)) hlt]|rw[cE (rm (by assumption))]
       simp_all only[ic,oB,AB,Qae,QaF,Qan,Qaq,Qar,QaL,QaE,QaJ,QaK,Qas]
       done
      ·rw[hq,Qae] at hr
       repeat refine ai ?_
       refine Ll ?_;repeat refine ai ?_
       refine oc (Ct _ _ _ _) ?_;repeat refine ai ?_
       exact cH (rh E (rB b.ledgers[i]) (zq L b b.ledgers[i])) hlt hsl ⟨by rw[hE,Qax hlt,G7],hr⟩ fun hw=>by repeat' first|exact rfl|exact trivial|exact nd hw|exact Ji|exact tL _ _|refine aj ?_ ?_
     )
  ·rw[fF (V h1)] at hr
   rw[Qao (V h1)] at hE;rw[hr,Qae];have hC:=hr;clear hr;repeat refine ai ?_
   refine kO (b.purses) (fun i (F:List (gZ×Int))=>F=HB E (b.purses.take i)∧aB (mg b) none b.purses=aB (mg b) (cY b.purses i) (b.purses.drop i)) (fun i (F:List (gZ×Int))=>[(2,.ptr 0 0),(5,.mapr 2),(107,.d (be b.purses)),(108,.d (.int .i64 (b.purses.map GatePurse.e).length)),(109,.d (.int .i64 i))]) (fun i (F:List (gZ×Int))=>⟨[(2,.map 224 .pair (F.map kr)),(0,.cells 48 (b.e.map .d))],3,0⟩) (⟨rfl,rfl⟩) ?_ ⟨rfl,rfl,⟨rfl,rfl,rfl,rfl,rfl,trivial⟩,(by repeat' first|exact rfl|exact trivial|exact tL _ _|refine aj ?_ ?_),(by repeat' first|exact rfl|exact trivial|refine aj ?_ ?_)⟩;intro i F hi hr;obtain ⟨hF,hr⟩:=hr;repeat refine ai ?_
   refine aj ?_ ?_<;>intro h2
   ·have hlt:i<b.purses.length:=U h2
    rw[eG hlt] at hr;repeat refine ai ?_
    refine O (e:=GatePurse.e) (xs:=b.purses) (hlt) rfl ?_;repeat refine ai ?_
    repeat' first
      |refine ai ?_
      |(refine n1 ?_;intro h)
      |(refine n2 ?_;intro h)
      |(refine n3 ?_;intro h)
      |(refine n4 ?_;intro h)
      |(refine aj ?_ ?_<;>intro h)
      |refine oc (vw _ _) ?_
      |refine oc (GS _ _ _) ?_
      |refine oc (dD _) ?_
      |refine ak ?_
      |refine aH (e:=GatePurse.e) (xs:=b.purses) (k:=i - 1) (by omega) (bc (ng (by assumption)) hlt hsp) rfl ?_
    all_goals (simp only[cond_false,cond_true,Qab,Qaa,reduceCtorEq,idx_lt] at*)
    all_goals first
      |(refine bd ?_
        rw[hr];clear hr hE hob h0 h0' h00 hF hC;first|rw[cD (ng (by assumption)) hlt]|rw[cE (rm (by assumption))]
        simp_all only[mg,zV,o5,bR,Qae,QaF,Qan,Qaq,Qar,QaL,QaE,QaJ,QaK,Qas]
        done)
      |(refine (fun hq:mg b (cY b.purses i) b.purses[i]=true=>?_) ?_
        rotate_left
        ·clear hr hE hob h0 h0' h00 hF hC
         first|rw[cD (ng (by assumption)) hlt]|rw[cE (rm (by assumption))]
         simp_all only[mg,zV,o5,bR,Qae,QaF,Qan,Qaq,Qar,QaL,QaE,QaJ,QaK,Qas]
         done
        ·rw[hq,Qae] at hr
         obtain ⟨v,hv⟩:=F7 hC hq (b.purses.take i);rw[←hE,←hF] at hv;obtain ⟨j,k',g1,g2,g3⟩:=G3 hv;refine ⟨_,Dw hv,?_⟩;repeat first|refine ai ?_|refine aj trivial ?_
         refine ⟨_,g1,?_⟩;repeat first|refine ai ?_|refine aj trivial ?_
         refine ⟨Qat _,_,g2,?_⟩;repeat refine ai ?_
         exact cH (uE F (b.purses[i].team,b.purses[i].resource) b.purses[i].amount) hlt hsp ⟨by rw[hF,Qax hlt,G5];rfl,hr⟩ fun hw=>by repeat' first|exact rfl|exact trivial|exact nd hw|exact g3 _ _ _|exact tL _ _|refine aj ?_ ?_
       )
   ·rw[fF (V h2)] at hr
    rw[Qao (V h2)] at hF;rw[hr,Qae];clear hr;repeat refine ai ?_
    refine d8 (b.ledgers) (fun i=>b.ledgers.all (vg L b)=(b.ledgers.drop i).all (vg L b)) (fun i=>[(5,.mapr 2),(180,.d (aL b.ledgers)),(181,.d (.int .i64 (b.ledgers.map GateLedger.e).length)),(182,.d (.int .i64 i))]) (fun i=>⟨[(2,.map 224 .pair (F.map kr))],3,0⟩) (rfl) ?_ ⟨rfl,rfl,⟨rfl,rfl,rfl,rfl,trivial⟩,(by repeat' first|exact rfl|exact trivial|exact tL _ _|refine aj ?_ ?_),(by repeat' first|exact rfl|exact trivial|refine aj ?_ ?_)⟩;intro i hi hr;repeat refine ai ?_
    refine aj ?_ ?_<;>intro h3
    ·have hlt:i<b.ledgers.length:=U h3
     rw[aM hlt] at hr;obtain ⟨v,hv,hs⟩:=FQ hC (Qaj hlt);rw[←hE,←hF] at hv;repeat refine ai ?_
     refine O (e:=GateLedger.e) (xs:=b.ledgers) (hlt) rfl ?_;repeat refine ai ?_
     refine ak ?_;repeat refine ai ?_
     refine ⟨_,Dw hv,?_⟩;repeat refine ai ?_
     refine aj ?_ ?_<;>intro h4
     ·refine bd ?_
      rw[hr,←hs,tx h4];rfl
     ·rw[←hs,py h4,Qae] at hr
      repeat refine ai ?_
      exact bJ hlt hsl hr fun hw=>⟨rfl,rfl,⟨rfl,rfl,rfl,nd hw,trivial⟩,(by repeat' first|exact rfl|exact trivial|exact tL _ _|refine aj ?_ ?_),(by repeat' first|exact rfl|exact trivial|refine aj ?_ ?_)⟩
    ·refine bd ?_
     rw[hr,cJ (V h3)]
 ·refine bd ?_
  rw[Qac] at h0;rw[kZ,h0];rfl
end Go.Vc
end
section
namespace Go.Vc
open Go.Proofs
set_option maxRecDepth 100000
def tY (L:GateLaw) (b:GateBook) (p:Option GateLedger) (g:GateLedger):Bool:=ic L p g&&vg L b g
set_option maxHeartbeats 4000000 in
theorem BM (L:GateLaw) (b:GateBook):Spec P 117 [st L.e,st b.e] (.d (.bool (kZ L b))):=by
 refine Spec.of_vc aO aA [.tmp 4] Tryz.func117 rfl rfl rfl rfl (fun hok=>?_);have hsl:=(bC hok.2).2.2.1;have hsp:=(bC hok.2).2.2.2;repeat refine ai ?_
 refine aj ?_ ?_<;>intro h0
 ·have h0':decide ((b.ledgers.length:Int)>10)=false:=by rw[Qac] at h0;exact h0
  repeat refine ai ?_
  refine aj ?_ ?_<;>intro h00
  ·have h00:decide ((b.purses.length:Int)>24)=true:=by simp only[cond_false,Qac] at h00;exact h00
   refine bd ?_;rw[kZ,h0',h00];rfl
  have h00:decide ((b.purses.length:Int)>24)=false:=by simp only[cond_false,Qac] at h00;exact h00
  have hob:kZ L b=(aB (mg b) none b.purses&&aB (tY L b) none b.ledgers):=by
   rw[kZ,h0',h00];rw[show aB (tY L b) none b.ledgers=(aB (ic L) none b.ledgers&&b.ledgers.all (vg L b)) from wS];cases aB (ic L) none b.ledgers<;>cases aB (mg b) none b.purses<;>rfl
  rw[hob];repeat refine ai ?_
  refine d8 (b.purses) (fun i=>aB (mg b) none b.purses=aB (mg b) (cY b.purses i) (b.purses.drop i)) (fun i=>[(2,.ptr 0 0),(3,.ptr 1 0),(5,.d (.int .i64 i))]) (fun i=>⟨[(1,.cells 48 (b.e.map .d)),(0,.cells 41 (L.e.map .d))],2,0⟩) (rfl) ?_;intro i hi hr;repeat refine ai ?_
  refine aj ?_ ?_<;>intro h1
  ·have hlt:i<b.purses.length:=U h1
   rw[eG hlt] at hr;repeat refine ai ?_
   refine O (e:=GatePurse.e) (xs:=b.purses) (hlt) rfl ?_;repeat refine ai ?_
   refine ak ?_;repeat refine ai ?_
   repeat' first
    |refine ai ?_
    |(refine n1 ?_;intro h)
    |(refine n2 ?_;intro h)
    |(refine n3 ?_;intro h)
    |(refine n4 ?_;intro h)
    |(refine aj ?_ ?_<;>intro h)
    |refine oc (bT _) ?_
    |refine oc (BN _ _ _) ?_
    |refine oc (eU _ _ _) ?_
    |refine oc (xR _ _) ?_
    |refine ak ?_
    |refine aH (e:=GatePurse.e) (xs:=b.purses) (k:=i - 1) (by omega) (bc (ng (by assumption)) hlt hsp) rfl ?_
   all_goals (simp only[cond_false,cond_true,Qab,Qaa,reduceCtorEq,idx_lt,EJ] at*)
   all_goals first
    |(refine bd ?_
      rw[hr];clear hr hob h0 h0' h00;first|rw[cD (ng (by assumption)) hlt]|rw[cE (rm (by assumption))]|skip
      simp_all only[mg,zV,bR,Qae,QaF,Qan,Qaq,Qar,QaL,QaE,QaJ,QaK,Qas]
      done)
    |(refine (fun hq:mg b (cY b.purses i) b.purses[i]=true=>?_) ?_
      rotate_left
      ·clear hr hob h0 h0' h00
       first|rw[cD (ng (by assumption)) hlt]|rw[cE (rm (by assumption))]
       simp_all only[mg,zV,bR,Qae,QaF,Qan,Qaq,Qar,QaL,QaE,QaJ,QaK,Qas]
       done
      ·rw[hq,Qae] at hr
       repeat first|refine ai ?_|refine aj trivial ?_
       exact ⟨_,_,_,⟨i+1,rfl,hlt,hr,rfl,rfl⟩,by omega,rfl,rfl,⟨rfl,rfl,nd (aa hlt hsp),trivial⟩,(by repeat' first|exact rfl|exact trivial|refine aj ?_ ?_),(by repeat' first|exact rfl|exact trivial|refine aj ?_ ?_)⟩
     )
  ·rw[fF (V h1)] at hr
   rw[hr,Qae];clear hr;repeat refine ai ?_
   refine d8 (b.ledgers) (fun i=>aB (tY L b) none b.ledgers=aB (tY L b) (cY b.ledgers i) (b.ledgers.drop i)) (fun i=>[(2,.ptr 0 0),(3,.ptr 1 0),(7,.d (.int .i64 i))]) (fun i=>⟨[(1,.cells 48 (b.e.map .d)),(0,.cells 41 (L.e.map .d))],2,0⟩) (rfl) ?_;intro i hi hr;repeat refine ai ?_
   refine aj ?_ ?_<;>intro h2
   ·have hlt:i<b.ledgers.length:=U h2
    rw[eG hlt] at hr;repeat refine ai ?_
    refine O (e:=GateLedger.e) (xs:=b.ledgers) (hlt) rfl ?_;repeat refine ai ?_
    repeat' first
      |refine ai ?_
      |(refine n1 ?_;intro h)
      |(refine n2 ?_;intro h)
      |(refine n3 ?_;intro h)
      |(refine n4 ?_;intro h)
      |(refine aj ?_ ?_<;>intro h)
      |refine oc (bT _) ?_
      |refine oc (nX _ _) ?_
      |refine oc (xQ _ _ _ _) ?_
      |refine oc (BS _ _ _ _) ?_
      |refine oc (HN _ _ _) ?_
      |refine ak ?_
      |refine aH (e:=GateLedger.e) (xs:=b.ledgers) (k:=i - 1) (by omega) (bc (ng (by assumption)) hlt hsl) rfl ?_
    all_goals (simp only[cond_false,cond_true,Qab,Qaa,reduceCtorEq,idx_lt,rD] at*)
    all_goals (try simp only[bne,Qab,Qaa] at*)
    all_goals first
      |(refine bd ?_
        rw[hr];clear hr hob h0 h0' h00;first|rw[cD (ng (by assumption)) hlt]|rw[cE (rm (by assumption))]|skip
        simp_all only[tY,ic,vg,oB,bR,Qae,QaF,Qan,Qaq,Qar,QaL,QaE,QaJ,QaK,Qas]
        done)
      |(refine (fun hq:tY L b (cY b.ledgers i) b.ledgers[i]=true=>?_) ?_
        rotate_left
        ·clear hr hob h0 h0' h00
         first|rw[cD (ng (by assumption)) hlt]|rw[cE (rm (by assumption))]
         simp_all only[tY,ic,vg,oB,bR,Qae,QaF,Qan,Qaq,Qar,QaL,QaE,QaJ,QaK,Qas]
         done
        ·rw[hq,Qae] at hr
         repeat first|refine ai ?_|refine aj trivial ?_
         exact ⟨_,_,_,⟨i+1,rfl,hlt,hr,rfl,rfl⟩,by omega,rfl,rfl,⟨rfl,rfl,nd (aa hlt hsl),trivial⟩,(by repeat' first|exact rfl|exact trivial|refine aj ?_ ?_),(by repeat' first|exact rfl|exact trivial|refine aj ?_ ?_)⟩
       )
   ·refine bd ?_
    rw[hr,fF (V h2)]
 ·refine bd ?_
  rw[Qac] at h0;rw[kZ,h0];rfl
end Go.Vc
end
section
namespace Go.Vc
open Go.Proofs
set_option maxRecDepth 100000
def o3 (l:GateLaw):Bool:=bL l.shapes l.mends&&gE l.teams
theorem zM (l:GateLaw):Spec P 114 [st l.e] (.d (.bool (o3 l))):=by
 refine Spec.of_vc aO aA [.tmp 2] Tryz.func114 rfl rfl rfl rfl (fun hok=>?_);repeat refine ai ?_
 refine oc (vl _ _) ?_;repeat refine ai ?_
 refine aj ?_ ?_<;>intro h
 ·repeat refine ai ?_
  refine oc (vk _) ?_;refine bd ?_;simp only[o3,h,Qae]
 ·refine bd ?_
  simp only[o3,h,Qan]
theorem AU (l:GateLaw):Spec P 125 [st l.e] (.d (.bool (o3 l))):=by
 refine Spec.of_vc aO aA [.tmp 2] Tryz.func125 rfl rfl rfl rfl (fun hok=>?_);repeat refine ai ?_
 refine oc (gK _ _) ?_;repeat refine ai ?_
 refine aj ?_ ?_<;>intro h
 ·repeat refine ai ?_
  refine oc (vy _) ?_;refine bd ?_;simp only[o3,h,Qae]
 ·refine bd ?_
  simp only[o3,h,Qan]
end Go.Vc
end
section
namespace Go.Vc
open Go.Proofs
set_option maxRecDepth 100000
def eW (L:GateLaw) (b:GateBook):Bool:=o3 L&&(fJ b.now 0 1000000&&(fJ b.tick 0 1000000&&(fJ b.given 0 b.now&&(ln L b&&(ip b&&kZ L b)))))
theorem wz {L:GateLaw} (h:o3 L=true):bL L.shapes L.mends=true:=by
 unfold o3 at h;rw[Qag] at h;exact h.1
theorem pc (L:GateLaw) (b:GateBook):Spec P 55 [st L.e,st b.e] (.d (.bool (eW L b))):=by
 refine Spec.of_vc aO aA [.tmp 4] Tryz.func55 rfl rfl rfl rfl (fun hok=>?_);repeat refine ai ?_
 refine oc (AU _) ?_
 repeat' first
  |refine ai ?_
  |(refine n1 ?_;intro h)
  |(refine n2 ?_;intro h)
  |(refine n3 ?_;intro h)
  |(refine n4 ?_;intro h)
  |(refine aj ?_ ?_<;>intro h)
  |refine oc (AP L b (wz (py (by assumption)))) ?_
  |refine oc (Cr b) ?_
  |refine oc (GM L b) ?_
 all_goals (refine bd ?_;simp only[cond_false,cond_true,Qab,Qaa,reduceCtorEq] at*;simp only[eW,o5, *,bl])
theorem nZ (L:GateLaw) (b:GateBook):Spec P 46 [st L.e,st b.e] (.d (.bool (eW L b))):=by
 refine Spec.of_vc aO aA [.tmp 4] Tryz.func46 rfl rfl rfl rfl (fun hok=>?_);repeat refine ai ?_
 refine oc (zM _) ?_
 repeat' first
  |refine ai ?_
  |(refine n1 ?_;intro h)
  |(refine n2 ?_;intro h)
  |(refine n3 ?_;intro h)
  |(refine n4 ?_;intro h)
  |(refine aj ?_ ?_<;>intro h)
  |refine oc (eU _ _ _) ?_
  |refine oc (vj L b (wz (py (by assumption)))) ?_
  |refine oc (xS b) ?_
  |refine oc (BM L b) ?_
 all_goals (refine bd ?_;simp only[cond_false,cond_true,Qab,Qaa,reduceCtorEq] at*;simp only[eW, *,bl])
end Go.Vc
end
