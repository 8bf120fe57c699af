/- Part 8 of a proof: Contracts: GateBound. Sizes of books that GateTick and GateB -/
import Derived.Test.YteongcjplmbkgaaGreatDoorSwa
import Derived.Test.YteongcjplmbkgaaGreatDoorSwb
import Derived.Test.YteongcjplmbkgaaGreatDoorSwc
import Derived.Test.YteongcjplmbkgaaGreatDoorSwd
import Derived.Test.YteongcjplmbkgaaGreatDoorSwe
import Derived.Test.YteongcjplmbkgaaGreatDoorSwf
import Derived.Test.YteongcjplmbkgaaGreatDoorSwg
open List renaming length_map → Qaa, drop_eq_getElem_cons → Qab, getElem?_eq_getElem → Qac, length_append → Qad, length_cons → Qae, length_nil → Qaf, take_succ_eq_append_getElem → Qah, drop_of_length_le → Qai, map_append → Qal, append_assoc → Qan, take_of_length_le → Qao, getElem_mem → Qap, map_cons → Qaq, any_eq_false → Qar, getElem_cons_zero → Qat, length_range → Qau, getElem_cons_succ → Qay, getElem?_set_self → Qaz, length_take → QaA, count_cons_of_ne → QaC, append_nil → QaD, set_cons_zero → QaF, any_cons → QaH, getElem?_set → QaI, getElem?_map → QaJ, cons_append → QaL, length_set → QaM, set_append_right → QaR, count_le_length → QaS, count_cons_self → QaT, getElem?_set_ne → QaU, getElem_of_mem → QaW, set_cons_succ → QaX, getElem_range → QaY, filter_append → QaZ, map_set → Qa1, zip_cons_cons → Qa2, foldl_append → Qa3, getElem_map → Qa4, length_drop → Qa5, getElem_zip → Qa6, count_cons → Qa7, range_succ → Qa8, length_zip → Qa9, foldl_cons → Qb
open Bool renaming and_eq_true → Qag, true_and → Qam, false_and → Qav, and_self → QaG, true_or → QaK, eq_iff_iff → QaO, not_false → QaP, and_false → QaQ, and_true → QaV
open Exists renaming intro → Qaj
open Nat renaming le_refl → Qak, zero_le → Qaw, le_of_ble_eq_true → QaB, sub_self → QaE, not_lt_zero → QaN, add_zero → Qa0
open Int renaming toNat_natCast → Qas, natCast_nonneg → Qax
open Prod.mk renaming injEq → Qba
set_option linter.unusedVariables false
set_option linter.unusedSimpArgs false
section
namespace Go.Vc
open Go.Proofs
set_option maxRecDepth 100000
section
variable {α:Type} {e:α→List D} {xs:List α} {k:Nat}
end
def HC (a b:Int):Int:=IntKind.i64.wrap (a - b)
def Ka (x:GateLedger):List GateLedger→List GateLedger
 |[]=>[x]
 |y::ys=>bif fE x.team x.resource y.team y.resource then x::y::ys else y::Ka x ys
def Hg (L:GateLaw) (b:GateBook) (t r:Bs) (n:Int):GateBook×Int:=
 bif eW L b then
  bif L.teams.any (fun x=>x.name==t)&&(aX r&&fJ n 0 1000000) then
   bif decide (GC b t r≥0) then
    (match b.ledgers[(GC b t r).toNat]? with
    |some g=>bif decide (HC (bR g.free n) g.most<0) then (b,3) else ({b with ledgers:=b.ledgers.set (GC b t r).toNat {g with most:=n,free:=HC (bR g.free n) g.most}},0)
    |none=>(b,3))
   else bif decide (HC n (qq L b t r)<0) then (b,3) else bif b.ledgers.length==10 then (b,4) else ({b with ledgers:=Ka ⟨t,r,n,HC n (qq L b t r)⟩ b.ledgers},0)
  else (b,2)
 else (nilBk,1)
section
variable {L:GateLaw} {b:GateBook} {t r:Bs} {n:Int}
theorem KW (hb:eW L b=false):Hg L b t r n=(nilBk,1):=by unfold Hg;rw[hb];rfl
end
end Go.Vc
end
section
namespace Go.Vc
end Go.Vc
end
section
namespace Go.Vc
open Go.Proofs
set_option maxRecDepth 100000
def ao {α:Type} (p:α→Bool):List α→Nat→List Int
 |[],_=>[]
 |x::xs,i=>bif p x then (i:Int)::ao p xs (i+1) else ao p xs (i+1)
section
variable {α:Type} {p:α→Bool} {xs:List α} {i:Nat}
theorem kb (h:i<xs.length):ao p (xs.drop i) i=bif p xs[i] then (i:Int)::ao p (xs.drop (i+1)) (i+1) else ao p (xs.drop (i+1)) (i+1):=by
 rw[Qab h];rfl
theorem lj (h:xs.length≤i):ao p (xs.drop i) i=[]:=by
 rw[Qai h];rfl
theorem iZ:∀(xs:List α) (i:Nat),(ao p xs i).length≤xs.length
 |[],_=>Qak _
 |x::xs,i=>by
  have:=iZ xs (i+1);unfold ao;cases p x<;>simp only[cond_true,cond_false,Qae]<;>omega
end
def jk (o to:GateObject) (role:Int) (p:Nat×GateField):Bool:=p.2.role==role&&(p.2.to_==to.kind&&xq o.values p.1==to.name)
def eb (xs:List GateShape) (o to:GateObject) (role:Int):Bool:=(cI xs o).any (jk o to role)
def ib (L:GateLaw) (b:GateBook) (o:GateObject):Bool:= !o.ending&&b.objects.any (fun x=>x.ending&&eb L.shapes o x 3)
def Lv (L:GateLaw) (b:GateBook):List Int:=bif eW L b then ao (ib L b) b.objects 0 else []
theorem Ca {fs:List GateField} {vs:List Bs} {i:Nat} {q:Nat×GateField→Bool} (h:i<fs.length) (h2:i<vs.length):
 (cz (fs.drop i) (vs.drop i) i).any q=((fs[i].kind==4&& !(vs[i]==[])&&q (i,fs[i]))||(cz (fs.drop (i+1)) (vs.drop (i+1)) (i+1)).any q):=by
 rw[i9 h h2];cases fs[i].kind==4&& !(vs[i]==[])<;>rfl
theorem EU {fs:List GateField} {vs:List Bs} {i:Nat} {q:Nat×GateField→Bool} (h:fs.length≤i):(cz (fs.drop i) (vs.drop i) i).any q=false:=by
 rw[Qai h];rfl
theorem pM (L:GateLaw) (b:GateBook) (p q:Nat) (hp:p<b.objects.length) (hq:q<b.objects.length) (role:Int):Spec P 75 [st L.e,st b.e,.d (.int .i64 (p:Int)),.d (.int .i64 (q:Int)),.d (.int .i64 role)] (.d (.bool (eb L.shapes b.objects[p] b.objects[q] role))):=by
 refine Spec.of_vc aO aA [.tmp 10] Tryz.func75 rfl rfl rfl rfl (fun hok=>?_);have hvb:=(rK ⟨hok.2.1,trivial⟩ (Qap hp)).1;repeat refine ai ?_
 refine O (e:=GateObject.e) (xs:=b.objects) (hp) rfl ?_;repeat refine ai ?_
 generalize ho:b.objects[p]=o at*;repeat refine ai ?_
 refine oc (fp _ _) ?_;have hl:=(cj (xs:=L.shapes) (k:=o.kind) (n:=o.values.length)).1;rw[show eb L.shapes o b.objects[q] role=(cz (af L.shapes o.kind o.values.length).1 o.values 0).any (jk o b.objects[q] role) from rfl];generalize (af L.shapes o.kind o.values.length).1=fs at*;repeat refine ai ?_
 refine d8 (fs) (fun i=>(cz fs o.values 0).any (jk o b.objects[q] role)=(cz (fs.drop i) (o.values.drop i) i).any (jk o b.objects[q] role)) (fun i=>[(3,.d (.int .i64 q)),(4,.d (.int .i64 role)),(5,.ptr 0 0),(6,.ptr 1 0),(11,.ptr 2 0),(12,.d (ad fs)),(14,.d (.int .i64 i))]) (fun i=>⟨[(2,.cells 103 (o.e.map .d)),(1,.cells 48 (b.e.map .d)),(0,.cells 41 (L.e.map .d))],3,0⟩) (rfl) ?_;intro i hi hr;have hs:fs.length≤big:=by omega
 repeat refine ai ?_
 refine aj ?_ ?_<;>intro h1
 ·have hlt:i<fs.length:=U h1
  have hlt2:i<o.values.length:=by omega
  rw[Ca hlt hlt2,show jk o b.objects[q] role (i,fs[i])=(fs[i].role==role&&(fs[i].to_==b.objects[q].kind&&o.values[i]==b.objects[q].name)) from by simp only[jk,g9 hlt2]] at hr;repeat refine ai ?_
  refine O (e:=GateField.e) (xs:=fs) (hlt) rfl ?_;repeat refine ai ?_
  refine ak ?_;repeat refine ai ?_
  refine aj ?_ ?_<;>intro c1
  ·repeat refine ai ?_
   refine aj ?_ ?_<;>intro c2
   ·repeat refine ai ?_
    refine O (e:=eB) (xs:=o.values) (hlt2) rfl ?_;repeat refine ai ?_
    refine aj ?_ ?_<;>intro c3
    ·repeat refine ai ?_
     refine O (e:=GateObject.e) (xs:=b.objects) (hq) rfl ?_;repeat refine ai ?_
     refine aj ?_ ?_<;>intro c4
     ·repeat refine ai ?_
      refine O (e:=eB) (xs:=o.values) (hlt2) rfl ?_;repeat refine ai ?_
      refine O (e:=GateObject.e) (xs:=b.objects) (hq) rfl ?_;repeat refine ai ?_
      refine aj ?_ ?_<;>intro c5
      ·repeat refine ai ?_
       refine bd ?_;rw[hr];simp only[cond_true] at c2 c3 c4 c5;simp only[c1,c2,c3,c4,c5,QaG,QaK]
      ·try simp only[cond_true] at*
       repeat' first
        |refine ai ?_
        |refine aj (fun h=>nomatch (show false=true from h)) (fun _=>?_)
       exact bJ hlt hs (by rw[hr];simp only[c5,bl])
     ·try simp only[cond_true] at*
      repeat' first
       |refine ai ?_
       |refine aj (fun h=>nomatch (show false=true from h)) (fun _=>?_)
      exact bJ hlt hs (by rw[hr];simp only[c4,bl])
    ·try simp only[cond_true] at*
     repeat' first
      |refine ai ?_
      |refine aj (fun h=>nomatch (show false=true from h)) (fun _=>?_)
     exact bJ hlt hs (by rw[hr];simp only[c3,bl])
   ·try simp only[cond_true] at*
    repeat' first
     |refine ai ?_
     |refine aj (fun h=>nomatch (show false=true from h)) (fun _=>?_)
    exact bJ hlt hs (by rw[hr];simp only[c2,bl])
  ·try simp only[cond_true] at*
   repeat' first
    |refine ai ?_
    |refine aj (fun h=>nomatch (show false=true from h)) (fun _=>?_)
   exact bJ hlt hs (by rw[hr];simp only[c1,bl])
 ·repeat refine ai ?_
  refine bd ?_;rw[hr,EU (V h1)]
end Go.Vc
end
section
namespace Go.Vc
section
variable {n:Nat} {nm:Nat→Nat→Bool}
def CY (n:Nat) (nm:Nat→Nat→Bool) (C:Nat→Bool):Prop:=∀x,x<n→C x=true→∀y,y<n→C y=false→nm y x=false
open Classical in
noncomputable def ry (n:Nat) (nm:Nat→Nat→Bool) (I:Nat→Bool) (x:Nat):Bool:=decide (∃C,CY n nm C∧(∀z,z<n→C z=true→I z=true)∧C x=true)
theorem gst_iff {I:Nat→Bool} {x:Nat}:ry n nm I x=true↔∃C,CY n nm C∧(∀z,z<n→C z=true→I z=true)∧C x=true:=by
 unfold ry;exact @decide_eq_true_iff _ (Classical.propDecidable _)
theorem Cy {I:Nat→Bool} {x:Nat} (hx:x<n) (h:ry n nm I x=true):I x=true:=by
 obtain ⟨C,_,h2,h3⟩:=gst_iff.1 h;exact h2 x hx h3
theorem AX {I:Nat→Bool}:CY n nm (ry n nm I):=by
 intro x hx h y hy hn;obtain ⟨C,h1,h2,h3⟩:=gst_iff.1 h;refine h1 x hx h3 y hy ?_
 cases hc:C y with
 |false=>rfl
 |true=>rw[gst_iff.2 ⟨C,h1,h2,hc⟩] at hn;cases hn
structure Gi (n:Nat) (nm:Nat→Nat→Bool) (I S:Nat→Bool):Prop where
 sub:∀x,x<n→S x=true→I x=true
 big:∀x,x<n→ry n nm I x=true→S x=true
theorem Gi.done {I S:Nat→Bool} (g:Gi n nm I S) (hs:CY n nm S) {x:Nat} (hx:x<n):S x=ry n nm I x:=by
 cases h:S x with
 |false=>
  cases h2:ry n nm I x with
  |false=>rfl
  |true=>rw[g.big x hx h2] at h;cases h
 |true=>exact (gst_iff.2 ⟨S,hs,g.sub,h⟩).symm
theorem Gi.out {I S:Nat→Bool} (g:Gi n nm I S) {x y:Nat} (hx:x<n) (hy:y<n) (hn:S y=false) (h:nm y x=true):ry n nm I x=false:=by
 cases hg:ry n nm I x with
 |false=>rfl
 |true=>
  have:ry n nm I y=false:=by
   cases h2:ry n nm I y with
   |false=>rfl
   |true=>rw[g.big y hy h2] at hn;cases hn
  rw[AX x hx hg y hy this] at h;cases h
theorem Gi.start {I:Nat→Bool}:Gi n nm I I:=⟨fun _ _ h=>h,fun _ hx h=>Cy hx h⟩
theorem Gi.drop {I S S':Nat→Bool} (g:Gi n nm I S) {x:Nat} (hg:x<n→ry n nm I x=false) (h:∀z,S' z=(S z&& !(z==x))):Gi n nm I S':=by
 refine ⟨fun z hz hs=>?_,fun z hz hs=>?_⟩
 ·rw[h,Qag] at hs
  exact g.sub z hz hs.1
 ·rw[h,g.big z hz hs,Qam]
  cases e:z==x with
  |false=>rfl
  |true=>rw[beq_iff_eq] at e;subst e;rw[hg hz] at hs;cases hs
end
def kz (s:List Bool) (i:Nat):Bool:=match s[i]? with|some v=>v|none=>false
theorem ky {s:List Bool} {i:Nat} (h:i<s.length):kz s i=s[i]:=by unfold kz;rw[Qac h]
theorem Iq {s:List Bool} {i j:Nat} (h:i<s.length):kz (s.set i false) j=(kz s j&& !(j==i)):=by
 unfold kz;rw[QaI];by_cases e:i=j
 ·subst e
  rw[if_pos rfl,if_pos h];simp
 ·rw[if_neg e]
  have:(j==i)=false:=by rw[beq_eq_false_iff_ne];exact fun h=>e h.symm
  rw[this,QaP,QaV]
theorem wQ:∀{s:List Bool} {i:Nat} (h:i<s.length),s[i]=true→(s.set i false).count true+1=s.count true
 |[],i,h,_=>by simp at h
 |b::s,0,h,e=>by
  simp only[Qat] at e;subst e
  simp
 |b::s,i+1,h,e=>by
  have:=wQ (s:=s) (i:=i) (by simpa using h) (by simpa using e);rw[QaX,Qa7,Qa7,←this];omega
theorem Fh (s:List Bool):s.count true≤s.length:=QaS
theorem ph {l0:List Nat} (hn:l0.Nodup) {p:Nat→Bool} {x:Nat}:(l0.filter p).erase x=l0.filter (fun z=>p z&& !(z==x)):=by
 rw[List.Nodup.erase_eq_filter (hn.filter p),List.filter_filter]
 congr 1
 funext z
 rw[Bool.and_comm];rfl
theorem Ff {l:List Nat} {x:Nat} (h:x∈l):(l.erase x).length+1=l.length:=by
 have:=List.length_erase_of_mem h;have:=List.length_pos_of_mem h;omega
end Go.Vc
end
section
namespace Go.Vc
open Go.Proofs
set_option maxRecDepth 100000
def eT (v:Bool):List D:=[.bool v]
abbrev lB (s:List Bool):D:= .list (s.map eT)
theorem Js (xs:List Bool):∀r∈xs.map eT,gM 1 r:=fun r hr=>by
 obtain ⟨x,_,rfl⟩:=List.mem_map.1 hr;exact ⟨rfl,fun d hd=>by rw[List.mem_singleton.1 hd];rfl⟩
def tt (L:GateLaw) (b:GateBook) (y x:Nat):Bool:=match b.objects[y]?,b.objects[x]? with
 |some o,some p=>eb L.shapes o p 1||eb L.shapes o p 3
 |_,_=>false
theorem yh {L:GateLaw} {b:GateBook} {x y:Nat} (hy:y<b.objects.length) (hx:x<b.objects.length):tt L b y x=(eb L.shapes b.objects[y] b.objects[x] 1||eb L.shapes b.objects[y] b.objects[x] 3):=by
 unfold tt;rw[Qac hy,Qac hx]
def Cw (b:GateBook) (x:Nat):Bool:=match b.objects[x]? with|some o=>o.holds.length==0|none=>false
theorem Cv {b:GateBook} {x:Nat} (hx:x<b.objects.length):Cw b x=(b.objects[x].holds.length==0):=by
 unfold Cw;rw[Qac hx]
def pK (L:GateLaw) (b:GateBook) (s:List Bool) (x:Nat):Bool:=(List.range b.objects.length).any fun y=> !kz s y&&tt L b y x
theorem B1 {n i:Nat} {f:Nat→Bool} (h:i<n):((List.range n).drop i).any f=(f i||((List.range n).drop (i+1)).any f):=by
 have h':i<(List.range n).length:=by rw[Qau];exact h
 rw[fY h',QaY]
theorem EH {n i:Nat} {f:Nat→Bool} (h:n≤i):((List.range n).drop i).any f=false:=by
 rw[Qai (by rw[Qau];exact h)];rfl
theorem Er (L:GateLaw) (b:GateBook) (s:List Bool) (x:Nat) (hx:x<b.objects.length) (hl:s.length=b.objects.length):Spec P 139 [st L.e,st b.e,.d (lB s),.d (.int .i64 (x:Int))] (.d (.bool (pK L b s x))):=by
 refine Spec.of_vc aO aA [.tmp 8] Tryz.func139 rfl rfl rfl rfl (fun hok=>?_);have hs:b.objects.length≤big:=(bC ⟨hok.2.1,trivial⟩).1;repeat refine ai ?_
 refine d8 (b.objects) (fun i=>pK L b s x=((List.range b.objects.length).drop i).any (fun y=> !kz s y&&tt L b y x)) (fun i=>[(2,.d (lB s)),(3,.d (.int .i64 (x:Int))),(4,.ptr 0 0),(5,.ptr 1 0),(9,.d (.int .i64 i))]) (fun i=>⟨[(1,.cells 48 (b.e.map .d)),(0,.cells 41 (L.e.map .d))],2,0⟩) (rfl) ?_;intro i hi hr;repeat refine ai ?_
 refine aj ?_ ?_<;>intro h1
 ·have hlt:i<b.objects.length:=U h1
  have hlt2:i<s.length:=by omega
  rw[B1 hlt,ky hlt2,yh hlt hx] at hr;repeat refine ai ?_
  refine O (e:=eT) (xs:=s) (hlt2) rfl ?_;repeat refine ai ?_
  refine aj ?_ ?_<;>intro c1
  ·repeat refine ai ?_
   refine oc (pM L b i x hlt hx 1) ?_;repeat refine ai ?_
   refine aj ?_ ?_<;>intro c2
   ·repeat refine ai ?_
    refine oc (pM L b i x hlt hx 3) ?_;repeat refine ai ?_
    refine aj ?_ ?_<;>intro c3
    ·refine bd ?_
     rw[hr,c1,c2,c3];rfl
    ·repeat refine ai ?_
     exact bJ hlt hs (by rw[hr,c1,c2,c3];rfl)
   ·refine bd ?_
    rw[hr,c1,c2];rfl
  ·repeat refine ai ?_
   exact bJ hlt hs (by rw[hr,c1];rfl)
 ·refine bd ?_
  rw[hr,EH (V h1)]
theorem zI (b:GateBook):HSpec P 73 [st b.e] hp0 (.own 0) ⟨[(0,.tree 4 1 [.leaf] ((b.objects.map GateObject.ending).map eT))],1,0⟩:=by
 refine ae cd aA [.tmp 2] Tryz.func73 rfl rfl rfl rfl (fun hok=>?_);have hs:b.objects.length≤big:=(bC ⟨hok.1,trivial⟩).1;repeat refine ai ?_
 refine d8 (b.objects) (fun i=>True) (fun i=>[(1,.ptr 0 0),(3,.own 1),(4,.d (.int .i64 i))]) (fun i=>⟨[(1,.tree 4 1 [.leaf] (((b.objects.take i).map GateObject.ending).map eT)),(0,.cells 48 (b.e.map .d))],2,0⟩) (trivial) ?_;intro i hi hr;repeat refine ai ?_
 refine aj ?_ ?_<;>intro h1
 ·have hlt:i<b.objects.length:=U h1
  repeat refine ai ?_
  refine O (e:=GateObject.e) (xs:=b.objects) (hlt) rfl ?_;repeat refine ai ?_
  refine aj trivial ?_;repeat refine ai ?_
  refine aj (by simp only[Qad,Qaf,Qae,Qaa,QaA] at*;unfold big at*;omega) ?_;repeat refine ai ?_
  exact bJ hlt hs trivial fun hw=>by repeat' first|exact rfl|exact trivial|exact nd hw|exact (bM (by rw[Qah hlt,Qal,Qal];rfl))|refine aj ?_ ?_
 ·repeat refine ai ?_
  rw[Qao (V h1)];exact ⟨[some 1],by repeat' first|exact rfl|exact trivial|refine aj ?_ ?_⟩
theorem HD {k:Nat} (h:k≤big+1):IntKind.i64.wrap ((k:Int)+1)=((k+1:Nat):Int):=by
 unfold big at h;rw[IntKind.wrap_i64];omega
section
variable {n:Nat} {nm:Nat→Nat→Bool}
structure Gj (n:Nat) (nm:Nat→Nat→Bool) (I0 I S:Nat→Bool):Prop where
 sub:∀x,x<n→S x=true→I0 x=true
 big:∀x,x<n→ry n nm I x=true→S x=true
variable {I0 I S S':Nat→Bool}
theorem Gj.out (g:Gj n nm I0 I S) {x y:Nat} (hx:x<n) (hy:y<n) (hn:S y=false) (h:nm y x=true):ry n nm I x=false:=by
 cases hg:ry n nm I x with
 |false=>rfl
 |true=>
  have:ry n nm I y=false:=by
   cases h2:ry n nm I y with
   |false=>rfl
   |true=>rw[g.big y hy h2] at hn;cases hn
  rw[AX x hx hg y hy this] at h;cases h
theorem Gj.drop (g:Gj n nm I0 I S) {x:Nat} (hg:ry n nm I x=false) (h:∀z,S' z=(S z&& !(z==x))):Gj n nm I0 I S':=by
 refine ⟨fun z hz hs=>?_,fun z hz hs=>?_⟩
 ·rw[h,Qag] at hs
  exact g.sub z hz hs.1
 ·rw[h,g.big z hz hs,Qam]
  cases e:z==x with
  |false=>rfl
  |true=>rw[beq_iff_eq] at e;subst e;rw[hg] at hs;cases hs
theorem Gj.done (g:Gj n nm I0 I S) (hs:CY n nm S) (hi:∀x,x<n→S x=true→I x=true) {x:Nat} (hx:x<n):S x=ry n nm I x:=by
 cases h:S x with
 |false=>
  cases h2:ry n nm I x with
  |false=>rfl
  |true=>rw[g.big x hx h2] at h;cases h
 |true=>exact (gst_iff.2 ⟨S,hs,hi,h⟩).symm
end
noncomputable def Fw (L:GateLaw) (b:GateBook) (s:List Bool):List Bool:=(List.range b.objects.length).map (ry b.objects.length (tt L b) fun x=>kz s x&&Cw b x)
def qP (L:GateLaw) (b:GateBook) (s:List Bool) (x:Nat):Prop:=kz s x=true→Cw b x=true∧pK L b s x=false
section
variable {L:GateLaw} {b:GateBook} {s0 s:List Bool}
theorem Ek {x:Nat} (h:pK L b s x=true):∃y,y<b.objects.length∧kz s y=false∧tt L b y x=true:=by
 obtain ⟨y,hy,h⟩:=List.any_eq_true.1 h;rw[Qag,Bool.not_eq_true'] at h;exact ⟨y,List.mem_range.1 hy,h.1,h.2⟩
theorem Fc (hl:s.length=b.objects.length) (g:Gj b.objects.length (tt L b) (kz s0) (fun x=>kz s0 x&&Cw b x) (kz s)) (hf:∀x,x<b.objects.length→qP L b s x):s=Fw L b s0:=by
 have hs:CY b.objects.length (tt L b) (kz s):=by
  intro x hx h y hy hn
  cases e:tt L b y x with
  |false=>rfl
  |true=>
   have:=(hf x hx h).2;unfold pK at this;rw[Qar] at this;exact absurd (by rw[hn,e];rfl) (this y (List.mem_range.2 hy))
 have hd:∀x,x<b.objects.length→kz s x=ry b.objects.length (tt L b) (fun x=>kz s0 x&&Cw b x) x:=fun x hx=>g.done hs (fun z hz h=>by rw[Qag];exact ⟨g.sub z hz h,(hf z hz h).1⟩) hx;refine List.ext_getElem (by simp[Fw,hl]) (fun i h1 h2=>?_);rw[←ky h1,hd i (by omega)];simp[Fw]
structure Rnd (L:GateLaw) (b:GateBook) (s0 s s':List Bool) (i:Nat):Prop where
 len:s'.length=b.objects.length
 gj:Gj b.objects.length (tt L b) (kz s0) (fun x=>kz s0 x&&Cw b x) (kz s')
 less:(s'=s∧∀x,x<i→qP L b s x)∨s'.count true<s.count true
 fix:(∀x,x<b.objects.length→qP L b s x)→s'=s
theorem Rnd.keep {s':List Bool} {i:Nat} (r:Rnd L b s0 s s' i) (hf:qP L b s' i):Rnd L b s0 s s' (i+1):=by
 refine ⟨r.len,r.gj,?_,r.fix⟩;rcases r.less with ⟨e,h⟩|h
 ·refine .inl ⟨e,fun x hx=>?_⟩
  rcases Nat.lt_succ_iff_lt_or_eq.1 hx with g|g
  ·exact h x g
  ·rw[g,←e];exact hf
 ·exact .inr h
theorem Rnd.drop {s':List Bool} {i:Nat} (r:Rnd L b s0 s s' i) (hi:i<b.objects.length) (hb:kz s' i=true) (hn:Cw b i=false∨pK L b s' i=true):Rnd L b s0 s (s'.set i false) (i+1):=by
 have hi':i<s'.length:=by rw[r.len];exact hi
 have hg:ry b.objects.length (tt L b) (fun x=>kz s0 x&&Cw b x) i=false:=by
  rcases hn with hn|hn
  ·cases e:ry b.objects.length (tt L b) (fun x=>kz s0 x&&Cw b x) i with
   |false=>rfl
   |true=>
    have:=Cy hi e;simp only[hn,QaQ] at this;cases this
  ·obtain ⟨y,h1,h2,h3⟩:=Ek hn
   exact r.gj.out hi h1 h2 h3
 have hc:=wQ hi' (by rw[←ky hi'];exact hb)
 have hle:s'.count true≤s.count true:=by
  rcases r.less with ⟨e,_⟩|h
  ·rw[e];exact Qak _
  ·omega
 refine ⟨by rw[QaM];exact r.len,r.gj.drop hg (fun z=>Iq hi'),.inr (by omega),fun hf=>?_⟩
 exfalso
 have e:=r.fix hf;subst e;obtain ⟨g1,g2⟩:=hf i hi hb;rcases hn with hn|hn
 ·rw[g1] at hn;cases hn
 ·rw[g2] at hn;cases hn
end
set_option maxHeartbeats 2000000 in
theorem vi (L:GateLaw) (b:GateBook) (s0:List Bool) (hl0:s0.length=b.objects.length):HSpec P 72 [st L.e,st b.e,.d (lB s0)] hp0 (.own 0) ⟨[(0,.tree 4 1 [.leaf] ((Fw L b s0).map eT))],1,0⟩:=by
 refine ae cd aA [.tmp 6] Tryz.func72 rfl rfl rfl rfl (fun hok=>?_);have hs:b.objects.length≤big:=(bC ⟨hok.2.1,trivial⟩).1;repeat refine ai ?_
 refine aj (Js _) ?_;repeat refine ai ?_
 refine aj (by simp only[Qaf,Qaa,Qad];omega) ?_;repeat refine ai ?_
 refine kO ((List.range (b.objects.length+1))) (fun k (s:List Bool)=>s.length=b.objects.length∧Gj b.objects.length (tt L b) (kz s0) (fun x=>kz s0 x&&Cw b x) (kz s)∧((∀x,x<b.objects.length→qP L b s x)∨s.count true+k≤b.objects.length)) (fun k (s:List Bool)=>[(3,.ptr 0 0),(4,.ptr 1 0),(7,.own 2),(8,.d (.int .i64 k))]) (fun k (s:List Bool)=>⟨[(2,.tree 4 1 [.leaf] (s.map eT)),(1,.cells 48 (b.e.map .d)),(0,.cells 41 (L.e.map .d))],3,0⟩) ((show s0.length=b.objects.length∧Gj b.objects.length (tt L b) (kz s0) (fun x=>kz s0 x&&Cw b x) (kz s0)∧((∀x,x<b.objects.length→qP L b s0 x)∨s0.count true+0≤b.objects.length) from ⟨hl0,⟨fun _ _ h=>h,fun x hx h=>by have:=Cy hx h;rw[Qag] at this;exact this.1⟩,.inr (by have:=Fh s0;omega)⟩)) ?_;intro k s hk hr;obtain ⟨hl,hg,hc⟩:=hr;have hkl:k≤b.objects.length+1:=by rw[Qau] at hk;exact hk
 repeat refine ai ?_
 refine aj ?_ ?_<;>intro h1
 ·have hk1:k<(List.range (b.objects.length+1)).length:=by
   have:=of_decide_eq_true h1;rw[Qaa,hl] at this;rw[Qau];omega
  repeat refine ai ?_
  refine kO (b.objects) (fun i (u:List Bool)=>Rnd L b s0 s u i) (fun i (u:List Bool)=>[(3,.ptr 0 0),(4,.ptr 1 0),(7,.own 2),(8,.d (.int .i64 k)),(9,.d (.int .i64 i))]) (fun i (u:List Bool)=>⟨[(2,.tree 4 1 [.leaf] (u.map eT)),(1,.cells 48 (b.e.map .d)),(0,.cells 41 (L.e.map .d))],3,0⟩) ((show Rnd L b s0 s s 0 from ⟨hl,hg,.inl ⟨rfl,fun x hx=>absurd hx (QaN _)⟩,fun _=>rfl⟩)) ?_;intro i u hi hr;repeat refine ai ?_
  refine aj ?_ ?_<;>intro h2
  ·have hlt:i<b.objects.length:=by
    have:=of_decide_eq_true h2;rw[Qaa,hr.len] at this;omega
   have hlt2:i<u.length:=by rw[hr.len];exact hlt
   repeat refine ai ?_
   refine dm (e:=eT) (xs:=u) hlt2 ?_;repeat refine ai ?_
   refine fu (e:=eT) (xs:=u) hlt2 ?_;repeat refine ai ?_
   refine aj ?_ ?_<;>intro c1
   ·have c1:kz u i=true:=by rw[ky hlt2];exact c1
    repeat refine ai ?_
    refine O (e:=GateObject.e) (xs:=b.objects) (hlt) rfl ?_;repeat refine ai ?_
    refine aj ?_ ?_<;>intro c2
    ·have c2:Cw b i=true:=by
      rw[Cv hlt];have:=of_decide_eq_false c2;rw[Qaa] at this;exact beq_iff_eq.2 (by omega)
     repeat refine ai ?_
     refine oc (Er L b u i hlt hr.len) ?_;repeat refine ai ?_
     refine aj ?_ ?_<;>intro c3
     ·repeat refine ai ?_
      refine dm (e:=eT) (xs:=u) hlt2 ?_;repeat refine ai ?_
      refine ⟨_,ri hlt2,Qak _,?_⟩;repeat refine ai ?_
      exact cH (u.set i false) hlt hs (hr.drop hlt c1 (.inr c3)) fun hw=>by repeat' first|exact rfl|exact trivial|exact nd hw|exact C5 rfl|refine aj ?_ ?_
     ·repeat refine ai ?_
      exact cH u hlt hs (hr.keep (fun _=>⟨c2,c3⟩))
    ·have c2:Cw b i=false:=by
      rw[Cv hlt];have:=of_decide_eq_true c2;rw[Qaa] at this;exact beq_eq_false_iff_ne.2 (by omega)
     repeat refine ai ?_
     refine dm (e:=eT) (xs:=u) hlt2 ?_;repeat refine ai ?_
     refine ⟨_,ri hlt2,Qak _,?_⟩;repeat refine ai ?_
     exact cH (u.set i false) hlt hs (hr.drop hlt c1 (.inl c2)) fun hw=>by repeat' first|exact rfl|exact trivial|exact nd hw|exact C5 rfl|refine aj ?_ ?_
   ·repeat refine ai ?_
    exact cH u hlt hs (hr.keep (fun h=>by rw[ky hlt2,show u[i]=false from c1] at h;cases h))
  ·have hge:b.objects.length≤i:=by
    have:=of_decide_eq_false h2;rw[Qaa,hr.len] at this;omega
   have hq:(∀x,x<b.objects.length→qP L b u x)∨u.count true+(k+1)≤b.objects.length:=by
    rcases hr.less with ⟨e,h⟩|h
    ·exact .inl (fun x hx=>by rw[e];exact h x (by omega))
    ·rcases hc with g|g
     ·exact .inl (fun x hx=>by rw[hr.fix g];exact g x hx)
     ·exact .inr (by omega)
   repeat refine ai ?_
   exact ⟨_,_,_,⟨k+1,u,rfl,hk1,⟨hr.len,hr.gj,hq⟩,rfl,rfl⟩,by omega,by repeat' first|exact rfl|exact trivial|exact nd (HD (k:=k) (by omega))|refine aj ?_ ?_⟩
 ·have hf:∀x,x<b.objects.length→qP L b s x:=by
   rcases hc with g|g
   ·exact g
   ·have:=of_decide_eq_false h1
    rw[Qaa,hl] at this;omega
  rw[←Fc hl hg hf];repeat refine ai ?_
  exact ⟨[some 2],by repeat' first|exact rfl|exact trivial|refine aj ?_ ?_⟩
noncomputable def Ld (L:GateLaw) (b:GateBook):List Int:=bif eW L b then ao (fun v=>v) (Fw L b (b.objects.map GateObject.ending)) 0 else []
end Go.Vc
end
section
namespace Go.Vc
open Go.Proofs
set_option maxRecDepth 100000
theorem Jb {A B:Prop} (h:B):(false=true→A)∧B:=⟨fun g=>(by cases g),h⟩
theorem qe (L:GateLaw) (o to:GateObject) (role:Int):Spec P 77 [st L.e,st o.e,st to.e,.d (.int .i64 role)] (.d (.bool (eb L.shapes o to role))):=by
 refine Spec.of_vc aO aA [.cell 8 4] Tryz.func77 rfl rfl rfl rfl (fun hok=>?_);repeat refine ai ?_
 refine oc (rO _ _) ?_;repeat refine ai ?_
 refine ⟨(cI L.shapes o).map gI,fun k=>∀p,(cI L.shapes o)[k]? =some p→jk o to role p=false,o8 L o _,?_,?_,?_⟩
 ·intro X hX x hx
  obtain ⟨p,_,rfl⟩:=List.mem_map.1 hX;obtain ⟨A,c,rfl⟩:=dH hx;rfl
 ·intro k X hX x hx
  obtain ⟨p,hp,hpm,rfl⟩:=lZ hX;obtain ⟨A,c,rfl⟩:=dH hx;have hpl:=km hpm;have hpn:jk o to role p=(p.2.role==role&&(p.2.to_==to.kind&&o.values[p.1]==to.name)):=by simp only[jk,g9 hpl]
  repeat refine ai ?_
  refine ⟨[(5,.ptr 1 0),(6,.ptr 2 0),(7,.ptr 3 0),(8,.ptr 4 0),(9,.d (.int .i64 p.1)),(10,.at_ [.str p.2.name,.int .i64 p.2.kind,.int .i64 p.2.least,.int .i64 p.2.most,.raw (.slice A (p.2.words.map eB).length c),.str p.2.to_,.int .i64 p.2.role,.bool p.2.must,.bool p.2.fixed,.str p.2.default_,.str p.2.weighs])],⟨rfl,rfl,⟨rfl,rfl,rfl,rfl,rfl,.inr ⟨_,_,_,_,rfl,QaB rfl,rfl,rfl,rfl⟩,trivial⟩,?_,?_⟩,?_⟩
  ·repeat' first|exact rfl|exact trivial|refine aj ?_ ?_
  ·repeat' first|exact rfl|exact trivial|refine aj ?_ ?_
  repeat refine ai ?_
  refine ak ?_;repeat refine ai ?_
  refine aj ?_ ?_<;>intro d1
  ·repeat refine ai ?_
   refine aj ?_ ?_<;>intro d2
   ·repeat refine ai ?_
    refine O (e:=eB) (xs:=o.values) (hpl) rfl ?_;repeat refine ai ?_
    refine aj ?_ ?_<;>intro d3
    ·repeat refine ai ?_
     refine bd ?_;simp only[cond_true] at d2 d3;exact (List.any_eq_true.2 ⟨p,hpm,show jk o to role p=true by rw[hpn];simp only[d1,d2,d3,QaG]⟩).symm
    ·try simp only[cond_true] at*
     repeat' first
      |refine ai ?_
      |refine Jb (fun _=>?_)
     refine ⟨fun p' hp'=>?_,rfl,rfl,trivial,?_,?_⟩
     ·rw[hp] at hp'
      cases hp';rw[hpn];simp only[d3,bl]
     ·repeat' first|exact rfl|exact trivial|refine aj ?_ ?_
     ·repeat' first|exact rfl|exact trivial|refine aj ?_ ?_
   ·try simp only[cond_true] at*
    repeat' first
     |refine ai ?_
     |refine Jb (fun _=>?_)
    refine ⟨fun p' hp'=>?_,rfl,rfl,trivial,?_,?_⟩
    ·rw[hp] at hp'
     cases hp';rw[hpn];simp only[d2,bl]
    ·repeat' first|exact rfl|exact trivial|refine aj ?_ ?_
    ·repeat' first|exact rfl|exact trivial|refine aj ?_ ?_
  ·try simp only[cond_true] at*
   repeat' first
    |refine ai ?_
    |refine Jb (fun _=>?_)
   refine ⟨fun p' hp'=>?_,rfl,rfl,trivial,?_,?_⟩
   ·rw[hp] at hp'
    cases hp';rw[hpn];simp only[d1,bl]
   ·repeat' first|exact rfl|exact trivial|refine aj ?_ ?_
   ·repeat' first|exact rfl|exact trivial|refine aj ?_ ?_
 ·intro hall
  have hal:eb L.shapes o to role=false:=by
   unfold eb;rw[Qar];intro p hp;obtain ⟨k,hk,rfl⟩:=QaW hp;rw[hall k (by rw[Qaa];exact hk) _ (Qac hk)];simp
  rw[hal];repeat refine ai ?_
  exact rfl
theorem GR (L:GateLaw) (b:GateBook):HSpec P 56 [st L.e,st b.e] hp0 (.own 0) ⟨[(0,.tree 3 1 [.leaf] ((ao (ib L b) b.objects 0).map eN))],1,0⟩:=by
 refine ae cd aA [.tmp 4] Tryz.func56 rfl rfl rfl rfl (fun hok=>?_);have hs:=(bC hok.2).1;repeat refine ai ?_
 refine kO (b.objects) (fun i (ns:List Int)=>ao (ib L b) b.objects 0=ns++ao (ib L b) (b.objects.drop i) i∧ns.length≤i) (fun i (ns:List Int)=>[(2,.ptr 0 0),(3,.ptr 1 0),(5,.own 2),(11,.d (aC b.objects)),(12,.d (.int .i64 (b.objects.map GateObject.e).length)),(13,.d (.int .i64 i))]) (fun i (ns:List Int)=>⟨[(2,.tree 3 1 [.leaf] (ns.map eN)),(1,.cells 48 (b.e.map .d)),(0,.cells 41 (L.e.map .d))],3,0⟩) ((show ao (ib L b) b.objects 0=([]:List Int)++ao (ib L b) (b.objects.drop 0) 0∧([]:List Int).length≤0 from ⟨rfl,Qak 0⟩)) ?_;intro i ns hi hr;obtain ⟨ho,hn⟩:=hr;repeat refine ai ?_
 refine aj ?_ ?_<;>intro h1
 ·have hlt:i<b.objects.length:=U h1
  rw[kb hlt] at ho;have hP:ib L b b.objects[i]=(!b.objects[i].ending&&b.objects.any (fun x=>x.ending&&eb L.shapes b.objects[i] x 3)):=rfl;repeat refine ai ?_
  refine O (e:=GateObject.e) (xs:=b.objects) (hlt) rfl ?_;repeat refine ai ?_
  refine aj ?_ ?_<;>intro h5
  ·rw[hP,h5,Bool.not_true,Qav,cond_false] at ho
   repeat refine ai ?_
   exact cH ns hlt hs ⟨ho,by omega⟩
  ·rw[hP,h5,QaP,Qam] at ho
   repeat refine ai ?_
   refine d8 (b.objects) (fun q=>b.objects.any (fun x=>x.ending&&eb L.shapes b.objects[i] x 3)=(b.objects.drop q).any (fun x=>x.ending&&eb L.shapes b.objects[i] x 3)) (fun q=>[(2,.ptr 0 0),(3,.ptr 1 0),(5,.own 2),(6,.d (.int .i64 i)),(7,.ptr 3 0),(11,.d (aC b.objects)),(12,.d (.int .i64 (b.objects.map GateObject.e).length)),(13,.d (.int .i64 i)),(21,.d (aC b.objects)),(22,.d (.int .i64 (b.objects.map GateObject.e).length)),(23,.d (.int .i64 q))]) (fun q=>⟨[(3,.cells 103 (b.objects[i].e.map .d)),(2,.tree 3 1 [.leaf] (ns.map eN)),(1,.cells 48 (b.e.map .d)),(0,.cells 41 (L.e.map .d))],4,0⟩) (rfl) ?_;intro q hq hr;repeat refine ai ?_
   refine aj ?_ ?_<;>intro h2
   ·have hlq:q<b.objects.length:=U h2
    rw[fY hlq] at hr;repeat refine ai ?_
    refine O (e:=GateObject.e) (xs:=b.objects) (hlq) rfl ?_;repeat refine ai ?_
    refine aj ?_ ?_<;>intro h3
    ·repeat refine ai ?_
     refine oc (qe L _ _ 3) ?_;repeat refine ai ?_
     refine aj ?_ ?_<;>intro h4
     ·rw[hr,h3,h4,Qam,QaK,cond_true] at ho
      repeat refine ai ?_
      refine aj trivial ?_;repeat refine ai ?_
      refine aj (by simp only[Qad,Qaf,Qae,Qaa] at*;unfold big at*;omega) ?_;repeat refine ai ?_
      exact cH (ns++[(i:Int)]) hlt hs ⟨by rw[ho,Qan];rfl,by rw[Qad];simp only[Qae,Qaf];omega⟩ fun hw=>by repeat' first|exact rfl|exact trivial|exact nd hw|(rw[Qal];exact rfl)|refine aj ?_ ?_
     ·repeat refine ai ?_
      exact bJ hlq hs (by rw[hr,h3,h4];simp only[bl])
    ·repeat refine ai ?_
     exact bJ hlq hs (by rw[hr,h3];simp only[bl])
   ·rw[hr,jb (V h2),cond_false] at ho
    repeat refine ai ?_
    exact cH ns hlt hs ⟨ho,by omega⟩
 ·rw[ho,lj (V h1),QaD]
  repeat refine ai ?_
  exact ⟨[some 2],by repeat' first|exact rfl|exact trivial|refine aj ?_ ?_⟩
end Go.Vc
end
section
namespace Go.Vc
open Go.Proofs
set_option maxRecDepth 100000
def eV (x:Nat):List D×AV:=([.int .i64 (x:Int)],.d (.int .i64 1))
theorem Jn (x y:Nat):bY [.int .i64 (x:Int)] [.int .i64 (y:Int)]=(x==y):=by
 show (fv .i64 .i64&&((x:Int)==(y:Int)))=(x==y);rw[show fv .i64 .i64=true from rfl,Qam,QaO,beq_iff_eq,beq_iff_eq];omega
theorem IG:∀(l:List Nat) (x:Nat),av (l.map eV) [.int .i64 (x:Int)]=if x∈l then some (.d (.int .i64 1)) else none
 |[],x=>rfl
 |y::l,x=>by
  simp only[Qaq,eV,av,Jn];by_cases e:x=y
  ·subst e;simp
  ·rw[show (x==y)=false from by rw[beq_eq_false_iff_ne];exact e]
   have:=IG l x;rw[this];simp[e]
theorem KA:∀(l:List Nat) (x:Nat),fS (l.map eV) [.int .i64 (x:Int)]=(l.erase x).map eV
 |[],x=>rfl
 |y::l,x=>by
  simp only[Qaq,eV,fS,Jn];by_cases e:x=y
  ·subst e;simp
  ·rw[show (x==y)=false from by rw[beq_eq_false_iff_ne];exact e]
   have:=KA l x;simp only[this];rw[List.erase_cons_tail (by rw[beq_iff_eq];exact fun h=>e h.symm)];rfl
theorem Kc:∀(l:List Nat) (x:Nat),x ∉ l→bp (l.map eV) [.int .i64 (x:Int)] (.d (.int .i64 1))=(l++[x]).map eV
 |[],x,_=>rfl
 |y::l,x,h=>by
  simp only[Qaq,eV,bp,Jn,QaL];rw[show (x==y)=false from by rw[beq_eq_false_iff_ne];rintro rfl;exact h List.mem_cons_self];have:=Kc l x (fun g=>h (List.mem_cons_of_mem _ g));simp only[this]
theorem wv:∀(m:Nat) (l:List Nat),Fv m (l.map eV)
 |_,[]=>trivial
 |m,x::l=>⟨rfl,wv m l⟩
theorem H2 (f:Nat→Option Nat):∀l:List Nat,eC f (l.map eV)=l.map eV
 |[]=>rfl
 |x::l=>by
  have:=H2 f l;simp only[Qaq,eV,eC,AV.map] at this ⊢;rw[this]
theorem IF (f g:Nat→Option Nat) (l:List Nat):eC f (eC g (l.map eV))=l.map eV:=by rw[H2,H2]
structure Ordn (n:Nat) (o:List Nat):Prop where
 nd:o.Nodup
 all:∀x,x∈o↔x<n
theorem Ordn.range (n:Nat):Ordn n (List.range n):=⟨List.nodup_range,fun _=>List.mem_range⟩
def fl (o:List Nat) (p:Nat→Bool):List Nat:=o.filter p
section
variable {n:Nat} {o:List Nat} (on:Ordn n o)
include on
theorem CF {x:Nat} {p:Nat→Bool} (h:x<n):x∈fl o p↔p x=true:=by
 simp[fl,(on.all x).2 h]
theorem DK {x:Nat} {p:Nat→Bool} (h:x<n):av ((fl o p).map eV) [.int .i64 (x:Int)]=bif p x then some (.d (.int .i64 1)) else none:=by
 rw[IG]
 cases e:p x with
 |true=>rw[if_pos ((CF on h).2 e)];rfl
 |false=>rw[if_neg (fun g=>by rw[(CF on h).1 g] at e;cases e)];rfl
omit on
def Bf (p:Nat→Bool) (x:Nat):Nat→Bool:=fun z=>p z&& !(z==x)
include on
theorem GZ {x:Nat} {p:Nat→Bool}:fS ((fl o p).map eV) [.int .i64 (x:Int)]=(fl o (Bf p x)).map eV:=by
 rw[KA];unfold fl;rw[ph on.nd];rfl
theorem Ig {x:Nat} {p:Nat→Bool} (h:x<n) (hp:p x=true):(fl o (Bf p x)).length+1=(fl o p).length:=by
 have:=Ff (l:=fl o p) (x:=x) ((CF on h).2 hp);unfold fl at this ⊢;rw[ph on.nd] at this;exact this
omit on in
theorem cU {t:Nat} {tk:TK} {es es':List (List D×AV)} (h:es=es'):some (AO.map t tk es)=some (AO.map t tk es'):=by rw[h]
theorem tM {x:Nat} {p:Nat→Bool} {K:Option AV→Prop} (h:x<n) (hp:p x=true) (k:K (some (.d (.int .i64 1)))):∃r,av ((fl o p).map eV) [.int .i64 (x:Int)]=r∧K r:=⟨_,by rw[DK on h,hp];rfl,k⟩
theorem yq {x:Nat} {p:Nat→Bool} {K:Option AV→Prop} (h:x<n) (hp:p x=false) (k:K none):∃r,av ((fl o p).map eV) [.int .i64 (x:Int)]=r∧K r:=⟨_,by rw[DK on h,hp];rfl,k⟩
end
section
variable {L:GateLaw} {b:GateBook} {I:Nat→Bool} {o:List Nat}
noncomputable abbrev KT (L:GateLaw) (b:GateBook) (I:Nat→Bool):Nat→Bool:=ry b.objects.length (tt L b) I
def KP (L:GateLaw) (b:GateBook) (p:Nat→Bool) (x:Nat):Prop:=p x=true→∀y,y<b.objects.length→p y=false→tt L b y x=false
structure Rnk (L:GateLaw) (b:GateBook) (o:List Nat) (I p0 p:Nat→Bool) (ag:Bool) (q:Nat):Prop where
 gi:Gi b.objects.length (tt L b) I p
 no:ag=false→p=p0∧∀z,z<q→KP L b p z
 yes:ag=true→(fl o p).length<(fl o p0).length
theorem Rnk.keep {p0 p:Nat→Bool} {ag:Bool} {q:Nat} (r:Rnk L b o I p0 p ag q) (h:KP L b p q):Rnk L b o I p0 p ag (q+1):=
 ⟨r.gi,fun e=>⟨(r.no e).1,fun z hz=>by
   rcases Nat.lt_succ_iff_lt_or_eq.1 hz with g|g
   ·exact (r.no e).2 z g
   ·rw[g];exact h⟩,r.yes⟩
theorem Rnk.drop (on:Ordn b.objects.length o) {p0 p:Nat→Bool} {ag:Bool} {q y:Nat} (r:Rnk L b o I p0 p ag q) (hq:q<b.objects.length) (hp:p q=true) (hy:y<b.objects.length) (hn:p y=false) (h:tt L b y q=true):Rnk L b o I p0 (Bf p q) true (q+1):=by
 have hl:=Ig on hq hp;refine ⟨r.gi.drop (fun _=>r.gi.out hq hy hn h) (fun z=>rfl),fun e=>(by cases e),fun _=>?_⟩
 cases ag with
 |true=>have:=r.yes rfl;omega
 |false=>rw[←(r.no rfl).1];omega
theorem Gp (on:Ordn b.objects.length o) {p:Nat→Bool} (g:Gi b.objects.length (tt L b) I p) (h:∀z,z<b.objects.length→KP L b p z):fl o p=fl o (KT L b I):=by
 have hs:CY b.objects.length (tt L b) p:=fun x hx hp y hy hn=>h x hx hp y hy hn;unfold fl;refine List.filter_congr (fun x hx=>?_);exact g.done hs ((on.all x).1 hx)
end
def K8 (ag:Bool):Nat:=bif ag then 1 else 0
set_option maxHeartbeats 2000000 in
theorem Ih (L:GateLaw) (b:GateBook) (o:List Nat) (on:Ordn b.objects.length o) (I:Nat→Bool) (tk:TK) (htk:tk.base= .int .i64):FSpec P 79 [st L.e,st b.e,.mapr 0] ⟨[(0,.map 99 tk ((fl o I).map eV))],1,1⟩ (.mapr 0) ⟨[(0,.map 99 (.del (.int .i64)) ((fl o (KT L b I)).map eV))],1,1⟩:=by
 refine FSpec.of_vc cd aA [.tmp 6] Tryz.func79 rfl rfl rfl rfl rfl (fun hok hob=>?_);have hs:b.objects.length≤big:=(bC ⟨hok.2.1,trivial⟩).1;repeat refine ai ?_
 refine LN (2*(fl o I).length+1) (fun m (a:(Nat→Bool)×Bool)=>m=2*(fl o a.1).length+K8 a.2∧Gi b.objects.length (tt L b) I a.1∧(a.2=false→∀z,z<b.objects.length→KP L b a.1 z)) (fun m a=>[(2,.mapr 0),(3,.ptr 1 0),(4,.ptr 2 0),(7,.d (.bool a.2))]) (fun m a=>⟨[(0,.map 99 (.del (.int .i64)) ((fl o a.1).map eV)),(2,.cells 48 (b.e.map .d)),(1,.cells 41 (L.e.map .d))],3,1⟩)
  (I,true) ⟨rfl,Gi.start,fun e=>by cases e⟩ ?_ (by repeat' first|exact rfl|exact trivial|exact htk|exact wv _ _|refine aj ?_ ?_)
 intro m a hJ;obtain ⟨p0,ag0⟩:=a;obtain ⟨hm,hg,hc⟩:=hJ
 dsimp only at hm hg hc ⊢
 cases ag0 with
 |false=>
  rw[←Gp on hg (hc rfl)];repeat refine ai ?_
  refine an ?_;repeat refine ai ?_
  all_goals (repeat' first|exact rfl|exact trivial|exact wv _ _|refine aj ?_ ?_)
 |true=>
  repeat refine ai ?_
  refine ay ?_;refine ⟨I2 b.objects (fun q p ag=>Rnk L b o I p0 p ag q) (fun q p ag=>[(2,.mapr 0),(3,.ptr 1 0),(4,.ptr 2 0),(7,.d (.bool ag)),(14,.d (.int .i64 (b.objects.map GateObject.e).length)),(15,.d (.int .i64 q))]) (fun q p ag=>⟨[(0,.map 99 (.del (.int .i64)) ((fl o p).map eV)),(2,.cells 48 (b.e.map .d)),(1,.cells 41 (L.e.map .d))],3,1⟩),⟨_,_,_,⟨0,p0,false,rfl,Qaw _,(show Rnk L b o I p0 p0 false 0 from ⟨hg,fun _=>⟨rfl,fun z hz=>absurd hz (QaN _)⟩,fun e=>by cases e⟩),rfl,rfl⟩,by repeat' first|exact rfl|exact trivial|exact wv _ _|refine aj ?_ ?_⟩,?_⟩;rintro m' l' hh ⟨q,p,ag,rfl,hq,hr,rfl,rfl⟩;have hR:=hr;repeat refine ai ?_
  refine aj ?_ ?_<;>intro h1
  ·have hlq:q<b.objects.length:=U h1
   cases hp:p q with
   |false=>
    repeat refine ai ?_
    refine yq on hlq hp ?_;repeat refine ai ?_
    refine ay ?_;repeat refine ai ?_
    exact B8 p ag hlq hs (hR.keep (fun h=>by rw[hp] at h;cases h)) fun hw=>by repeat' first|exact rfl|exact trivial|exact nd hw|exact wv _ _|refine aj ?_ ?_
   |true=>
    repeat refine ai ?_
    refine tM on hlq hp ?_;repeat refine ai ?_
    refine an ?_;repeat refine ai ?_
    refine ⟨I0 b.objects (fun i=>∀z,z<i→p z=false→tt L b z q=false) (fun i=>[(2,.mapr 0),(3,.ptr 1 0),(4,.ptr 2 0),(7,.d (.bool ag)),(8,.d (.int .i64 q)),(14,.d (.int .i64 (b.objects.map GateObject.e).length)),(15,.d (.int .i64 q)),(23,.d (aC b.objects)),(24,.d (.int .i64 (b.objects.map GateObject.e).length)),(25,.d (.int .i64 i))]) (fun i=>⟨[(0,.map 99 (.del (.int .i64)) ((fl o p).map eV)),(2,.cells 48 (b.e.map .d)),(1,.cells 41 (L.e.map .d))],3,1⟩),⟨_,_,_,⟨0,rfl,Qaw _,(fun z hz=>absurd hz (QaN _)),rfl,rfl⟩,by repeat' first|exact rfl|exact trivial|exact wv _ _|refine aj ?_ ?_⟩,?_⟩;rintro m' l' hh ⟨i,rfl,hi,hr,rfl,rfl⟩;repeat refine ai ?_
    refine aj ?_ ?_<;>intro h2
    ·have hlt:i<b.objects.length:=U h2
     repeat refine ai ?_
     refine O (e:=GateObject.e) (xs:=b.objects) (hlt) rfl ?_;repeat refine ai ?_
     refine ak ?_;repeat refine ai ?_
     cases hy:p i with
     |true=>
      refine tM on hlt hy ?_;repeat refine ai ?_
      refine an ?_;repeat refine ai ?_
      refine an ?_;repeat refine ai ?_
      exact bJ hlt hs (fun z hz hz2=>(Nat.lt_succ_iff_lt_or_eq.1 hz).elim (fun g=>hr z g hz2) (fun g=>by rw[g,hy] at hz2;cases hz2)) fun hw=>by repeat' first|exact rfl|exact trivial|exact nd hw|exact wv _ _|refine aj ?_ ?_
     |false=>
      refine yq on hlt hy ?_;repeat refine ai ?_
      refine ay ?_;repeat refine ai ?_
      refine O (e:=GateObject.e) (xs:=b.objects) (hlq) rfl ?_;repeat refine ai ?_
      refine oc (qe L _ _ 1) ?_;repeat refine ai ?_
      refine aj ?_ ?_<;>intro c1
      ·repeat refine ai ?_
       refine O (e:=GateObject.e) (xs:=b.objects) (hlq) rfl ?_;repeat refine ai ?_
       refine oc (qe L _ _ 3) ?_;repeat refine ai ?_
       refine aj ?_ ?_<;>intro c2
       ·have c2:eb L.shapes b.objects[i] b.objects[q] 3=true:=c2
        repeat refine ai ?_
        exact B8 (Bf p q) true hlq hs (hR.drop on hlq hp hlt hy (by rw[yh hlt hlq,c2,Bool.or_true])) fun hw=>by repeat' first|exact rfl|exact trivial|exact nd hw|exact wv _ _|exact GZ on|refine aj ?_ ?_
       ·have c2:eb L.shapes b.objects[i] b.objects[q] 3=false:=c2
        repeat refine ai ?_
        exact bJ hlt hs (fun z hz hz2=>(Nat.lt_succ_iff_lt_or_eq.1 hz).elim (fun g=>hr z g hz2) (fun g=>by rw[g,yh hlt hlq,c1,c2];rfl)) fun hw=>by repeat' first|exact rfl|exact trivial|exact nd hw|exact wv _ _|refine aj ?_ ?_
      ·repeat refine ai ?_
       refine ay ?_;repeat refine ai ?_
       exact B8 (Bf p q) true hlq hs (hR.drop on hlq hp hlt hy (by rw[yh hlt hlq,c1,QaK])) fun hw=>by repeat' first|exact rfl|exact trivial|exact nd hw|exact wv _ _|exact GZ on|refine aj ?_ ?_
    ·repeat refine ai ?_
     exact B8 p ag hlq hs (hR.keep (fun _ y hy hn=>hr y (by have:=V h2;omega) hn)) fun hw=>by repeat' first|exact rfl|exact trivial|exact nd hw|exact wv _ _|refine aj ?_ ?_
  ·have hge:=V h1
   repeat refine ai ?_
   refine LK (p,ag) ?_ ⟨rfl,hR.gi,fun e z hz=>(hR.no e).2 z (by omega)⟩ (by repeat' first|exact rfl|exact trivial|exact wv _ _|refine aj ?_ ?_);rw[hm]
   dsimp only
   cases ag with
   |false=>rw[(hR.no rfl).1];simp only[K8,cond_true,cond_false];omega
   |true=>have:=hR.yes rfl;simp only[K8,cond_true];omega
theorem G1 (b:GateBook) (t:Nat) (tk:TK) (htk:tk.base= .int .i64) (o:List Nat) (on:Ordn b.objects.length o) (p:Nat→Bool):FSpec P 78 [st b.e,.mapr 0] ⟨[(0,.map 99 (.del (.int .i64)) ((fl o p).map eV))],1,1⟩ (.own 2) ⟨[(0,.map 99 (.del (.int .i64)) ((fl o p).map eV)),(2,.tree 3 1 [.leaf] ((ao (fun v=>v) ((List.range b.objects.length).map p) 0).map eN))],3,1⟩:=by
 refine FSpec.of_vc cd aA [.tmp 4] Tryz.func78 rfl rfl rfl rfl rfl (fun hok hob=>?_);have hs:b.objects.length≤big:=(bC ⟨hok.1,trivial⟩).1;have hlen:((List.range b.objects.length).map p).length=b.objects.length:=by rw[Qaa,Qau]
 repeat refine ai ?_
 refine ⟨I1 b.objects (fun i (ns:List Int)=>ao (fun v=>v) ((List.range b.objects.length).map p) 0=ns++ao (fun v=>v) (((List.range b.objects.length).map p).drop i) i∧ns.length≤i) (fun i ns=>[(1,.mapr 0),(5,.own 2),(9,.d (.int .i64 (b.objects.map GateObject.e).length)),(10,.d (.int .i64 i))]) (fun i ns=>⟨[(0,.map 99 (.del (.int .i64)) ((fl o p).map eV)),(2,.tree 3 1 [.leaf] (ns.map eN))],3,1⟩),⟨_,_,_,⟨0,[],rfl,Qaw _,⟨rfl,Qaw _⟩,rfl,rfl⟩,by repeat' first|exact rfl|exact trivial|exact wv _ _|refine aj ?_ ?_⟩,?_⟩;rintro m l hh ⟨i,ns,rfl,hi,hr,rfl,rfl⟩;obtain ⟨ho,hn⟩:=hr;repeat refine ai ?_
 refine aj ?_ ?_<;>intro h1
 ·have hlt:i<b.objects.length:=U h1
  rw[kb (by rw[hlen];exact hlt),Qa4,QaY] at ho
  cases hp:p i with
  |true=>
   rw[hp,cond_true] at ho;repeat refine ai ?_
   refine tM on hlt hp ?_;repeat refine ai ?_
   refine ay ?_;repeat refine ai ?_
   refine aj trivial ?_;repeat refine ai ?_
   refine aj (by simp only[Qad,Qaf,Qae,Qaa] at*;unfold big at*;omega) ?_;repeat refine ai ?_
   exact cH (ns++[(i:Int)]) hlt hs ⟨by rw[ho,Qan];rfl,by rw[Qad];simp only[Qae,Qaf];omega⟩ fun hw=>by repeat' first|exact rfl|exact trivial|exact nd hw|exact wv _ _|exact (bM (by rw[Qal];rfl))|exact IF _ _ _|refine aj ?_ ?_
  |false=>
   rw[hp,cond_false] at ho;repeat refine ai ?_
   refine yq on hlt hp ?_;repeat refine ai ?_
   refine an ?_;repeat refine ai ?_
   exact cH ns hlt hs ⟨ho,by omega⟩ fun hw=>by repeat' first|exact rfl|exact trivial|exact nd hw|exact wv _ _|refine aj ?_ ?_
 ·rw[ho,lj (by rw[hlen];exact V h1),QaD]
  repeat refine ai ?_
  all_goals (repeat' first|exact rfl|exact trivial|exact wv _ _|refine aj ?_ ?_)
theorem G0 (L:GateLaw) (b:GateBook) (o:List Nat) (on:Ordn b.objects.length o) (I:Nat→Bool) (tk:TK) (htk:tk.base= .int .i64) (es:List (List D×AV)) (he:es=(fl o I).map eV):FSpec P 79 [st L.e,st b.e,.mapr 0] ⟨[(0,.map 99 tk es)],1,1⟩ (.mapr 0) ⟨[(0,.map 99 (.del (.int .i64)) ((fl o (KT L b I)).map eV))],1,1⟩:=by
 rw[he];exact Ih L b o on I tk htk
theorem Fe (b:GateBook) (o:List Nat) (on:Ordn b.objects.length o) (p:Nat→Bool) (es:List (List D×AV)) (he:es=(fl o p).map eV):FSpec P 78 [st b.e,.mapr 0] ⟨[(0,.map 99 (.del (.int .i64)) es)],1,1⟩ (.own 2) ⟨[(0,.map 99 (.del (.int .i64)) es),(2,.tree 3 1 [.leaf] ((ao (fun v=>v) ((List.range b.objects.length).map p) 0).map eN))],3,1⟩:=by
 rw[he];exact G1 b 0 (.int .i64) rfl o on p
end Go.Vc
end
section
namespace Go.Vc
open Go.Proofs
set_option maxRecDepth 100000
def Bc (b:GateBook) (x:Nat):Bool:=kz (b.objects.map GateObject.ending) x&&Cw b x
theorem yR {b:GateBook} {x:Nat} (h:x<b.objects.length):Bc b x=(b.objects[x].ending&&(b.objects[x].holds.length==0)):=by
 unfold Bc;rw[ky (by rw[Qaa];exact h),Cv h,Qa4]
theorem Jv {i:Nat} {p:Nat→Bool} (h:p i=true):fl (List.range (i+1)) p=fl (List.range i) p++[i]:=by
 unfold fl;rw[Qa8,QaZ];simp[h]
theorem IL {i:Nat} {p:Nat→Bool} (h:p i=false):fl (List.range (i+1)) p=fl (List.range i) p:=by
 unfold fl;rw[Qa8,QaZ];simp[h]
theorem Jw {i:Nat} {p:Nat→Bool} (h:p i=true):bp ((fl (List.range i) p).map eV) [.int .i64 (i:Int)] (.d (.int .i64 1))=(fl (List.range (i+1)) p).map eV:=by
 rw[Kc _ _ (fun g=>by simp[fl] at g),Jv h]
theorem DG (L:GateLaw) (b:GateBook):HSpec P 74 [st L.e,st b.e] hp0 (.own 0) ⟨[(0,.tree 3 1 [.leaf] ((ao (fun v=>v) (Fw L b (b.objects.map GateObject.ending)) 0).map eN))],1,0⟩:=by
 refine ae cd aA [.tmp 4] Tryz.func74 rfl rfl rfl rfl (fun hok=>?_);have hs:b.objects.length≤big:=(bC ⟨hok.2.1,trivial⟩).1;repeat refine ai ?_
 refine ⟨I0 b.objects (fun i=>True) (fun i=>[(2,.ptr 0 0),(3,.ptr 1 0),(5,.mapr 2),(10,.d (aC b.objects)),(11,.d (.int .i64 (b.objects.map GateObject.e).length)),(12,.d (.int .i64 i))]) (fun i=>⟨[(2,.map 99 (.int .i64) ((fl (List.range i) (Bc b)).map eV)),(1,.cells 48 (b.e.map .d)),(0,.cells 41 (L.e.map .d))],3,0⟩),⟨_,_,_,⟨0,rfl,Qaw _,trivial,rfl,rfl⟩,by repeat' first|exact rfl|exact trivial|exact wv _ _|refine aj ?_ ?_⟩,?_⟩;rintro m l hh ⟨i,rfl,hi,hr,rfl,rfl⟩;repeat refine ai ?_
 refine aj ?_ ?_<;>intro h1
 ·have hlt:i<b.objects.length:=U h1
  repeat refine ai ?_
  refine O (e:=GateObject.e) (xs:=b.objects) (hlt) rfl ?_;repeat refine ai ?_
  refine aj ?_ ?_<;>intro c1
  ·repeat refine ai ?_
   refine aj ?_ ?_<;>intro c2
   ·have hp:Bc b i=true:=by
     have c2:((((b.objects[i].holds.map eB).length:Nat):Int)==0)=true:=c2;rw[Qaa] at c2;have:=beq_iff_eq.1 c2;rw[yR hlt,show b.objects[i].ending=true from c1,Qam];exact beq_iff_eq.2 (by omega)
    repeat refine ai ?_
    exact bJ hlt hs trivial fun hw=>by repeat' first|exact rfl|exact trivial|exact nd hw|exact wv _ _|exact cU (Jw hp)|refine aj ?_ ?_
   ·have hp:Bc b i=false:=by
     have c2:((((b.objects[i].holds.map eB).length:Nat):Int)==0)=false:=c2;rw[Qaa] at c2;have:=beq_eq_false_iff_ne.1 c2;rw[yR hlt,show b.objects[i].ending=true from c1,Qam];exact beq_eq_false_iff_ne.2 (by omega)
    repeat refine ai ?_
    exact bJ hlt hs trivial fun hw=>by repeat' first|exact rfl|exact trivial|exact nd hw|exact wv _ _|exact cU (by rw[IL hp])|refine aj ?_ ?_
  ·have hp:Bc b i=false:=by rw[yR hlt,show b.objects[i].ending=false from c1,Qav]
   repeat refine ai ?_
   exact bJ hlt hs trivial fun hw=>by repeat' first|exact rfl|exact trivial|exact nd hw|exact wv _ _|exact cU (by rw[IL hp])|refine aj ?_ ?_
 ·have e:i=b.objects.length:=by have:=V h1;omega
  subst e;repeat refine ai ?_
  refine akp 6 (.one [0,1,2,3] [] 4 (.one [] [0] 5 (.fin [] []))) ?_;repeat refine ai ?_
  refine om [2] none (G0 L b (List.range b.objects.length) (Ordn.range _) (Bc b) (.int .i64) rfl _ (H2 _ _)) ?_;repeat refine ai ?_
  refine om [2] none (Fe b (List.range b.objects.length) (Ordn.range _) (KT L b (Bc b)) _ (IF _ _ _)) ?_;repeat refine ai ?_
  exact ⟨[some 6],by repeat' first|exact rfl|exact trivial|refine aj ?_ ?_⟩
end Go.Vc
end
section
namespace Go.Vc
open Go.Proofs
set_option maxRecDepth 100000
def qE (o:GateObject) (v:Int):GateObject:={o with ending:=true,version:=v}
def ge (p:Int×List GateObject) (i:Int):Int×List GateObject:=(bR p.1 1,match p.2[i.toNat]? with|some o=>p.2.set i.toNat (qE o (bR p.1 1))|none=>p.2)
theorem AA {n:Int} {os:List GateObject} {k:Nat} (hk:k<os.length):ge (n,os) (k:Int)=(bR n 1,os.set k (qE os[k] (bR n 1))):=by
 simp only[ge,Qas,Qac hk]
theorem E0 (p:Int×List GateObject) (i:Int):(ge p i).2.length=p.2.length:=by
 simp only[ge];split<;>simp
def gc (p:Int×List GateObject) (ms:List Int):Int×List GateObject:=ms.foldl ge p
theorem pX (p:Int×List GateObject):∀ms,(gc p ms).2.length=p.2.length:=fun ms=>by
 induction ms generalizing p with
 |nil=>rfl
 |cons m ms ih=>exact (ih (ge p m)).trans (E0 p m)
theorem tI {p:Int×List GateObject} {ms:List Int} {q:Nat} (h:q<ms.length):gc p (ms.take (q+1))=ge (gc p (ms.take q)) ms[q]:=by
 unfold gc;rw[Qah h,Qa3];rfl
theorem iY {α:Type} {p:α→Bool}:∀(xs:List α) (i:Nat),∀x∈ao p xs i,∃k:Nat,x=(k:Int)∧i≤k∧k<i+xs.length
 |[],_,x,h=>by cases h
 |y::xs,i,x,h=>by
  unfold ao at h
  have rest:x∈ao p xs (i+1)→∃k:Nat,x=(k:Int)∧i≤k∧k<i+(y::xs).length:=fun h=>by
   obtain ⟨k,h1,h2,h3⟩:=iY xs (i+1) x h;exact ⟨k,h1,by omega,by simp only[Qae];omega⟩
  cases hp:p y with
  |true=>
   rw[hp,cond_true] at h;rcases List.mem_cons.1 h with rfl|h
   ·exact ⟨i,rfl,Qak _,by simp only[Qae];omega⟩
   ·exact rest h
  |false=>rw[hp,cond_false] at h;exact rest h
theorem m6 {α:Type} {p:α→Bool} {xs:List α} {q:Nat} (h:q<(ao p xs 0).length):∃k:Nat,(ao p xs 0)[q]=(k:Int)∧k<xs.length:=by
 obtain ⟨k,h1,_,h3⟩:=iY xs 0 _ (Qap h);exact ⟨k,h1,by omega⟩
def aI (L:GateLaw) (b:GateBook):List Int:=ao (ib L b) b.objects 0
abbrev DU (b:GateBook) (p:Int×List GateObject):GateBook:={b with now:=p.1,objects:=p.2}
def bv (L:GateLaw) (b:GateBook):GateBook:=DU b (gc (b.now,b.objects) (aI L b))
def qN (objs:List GateObject) (inn:List Bool) (t v:Bs):Bool:=(objs.zip inn).any fun p=>p.2&&(p.1.kind==t&&p.1.name==v)
def kH (objs:List GateObject) (inn:List Bool) (f:GateField) (v:Bs):Bool:=f.kind==4&&(!(v==[])&&(f.role==2&&qN objs inn f.to_ v))
def Be (p:GateField→Bs→Bool):List GateField→List Bs→List Bs×Bool
 |f::fs,v::vs=>bif p f v then ([]::(Be p fs vs).1,true) else (v::(Be p fs vs).1,(Be p fs vs).2)
 |_,vs=>(vs,false)
section
variable {p:GateField→Bs→Bool} {fs:List GateField} {vs:List Bs} {i:Nat}
theorem Im (h:i<fs.length) (h2:i<vs.length) (hp:p fs[i] vs[i]=true):Be p (fs.drop i) (vs.drop i)=([]::(Be p (fs.drop (i+1)) (vs.drop (i+1))).1,true):=by
 rw[Qab h,Qab h2];simp only[Be,hp,cond_true]
theorem JB (h:i<fs.length) (h2:i<vs.length) (hp:p fs[i] vs[i]=false):Be p (fs.drop i) (vs.drop i)=(vs[i]::(Be p (fs.drop (i+1)) (vs.drop (i+1))).1,(Be p (fs.drop (i+1)) (vs.drop (i+1))).2):=by
 rw[Qab h,Qab h2];simp only[Be,hp,cond_false]
theorem In (h:fs.length≤i):Be p (fs.drop i) vs=(vs,false):=by
 rw[Qai h];rfl
theorem DO:∀(fs:List GateField) (vs:List Bs),(Be p fs vs).1.length=vs.length
 |[],vs=>rfl
 |f::fs,[]=>rfl
 |f::fs,v::vs=>by
  simp only[Be];cases p f v<;>simp only[cond_true,cond_false,Qae,DO fs vs]
end
def cF (L:GateLaw) (objs:List GateObject) (inn:List Bool) (o:GateObject):List Bs×Bool:=Be (kH objs inn) (af L.shapes o.kind o.values.length).1 o.values
def E6 (L:GateLaw) (o:GateObject) (g:GateLedger):GateLedger:=bif kV L.teams o.team g.team then rT g (eS L o g.resource) else g
def rl (L:GateLaw) (o:GateObject) (ls:List GateLedger):List GateLedger:=ls.map (E6 L o)
theorem GA (L:GateLaw) (o:GateObject) (ls:List GateLedger):(rl L o ls).length=ls.length:=Qaa _
def iP (L:GateLaw) (o:GateObject) (ls:List GateLedger) (i:Nat):List GateLedger:=(ls.take i).map (E6 L o)++ls.drop i
section
variable {L:GateLaw} {o:GateObject} {ls:List GateLedger} {i:Nat}
theorem JR:iP L o ls 0=ls:=rfl
theorem jJ:(iP L o ls i).length=ls.length:=by simp only[iP,Qad,Qaa,QaA,Qa5];omega
theorem AH (h:ls.length≤i):iP L o ls i=rl L o ls:=by
 unfold iP rl;rw[Qao h,Qai h,QaD]
theorem Dy (h:i<ls.length):(iP L o ls i)[i]'(by rw[jJ];exact h)=ls[i]:=by
 simp only[iP];rw[List.getElem_append_right (by simp;omega)];simp only[Qaa,QaA,Nat.min_eq_left (Nat.le_of_lt h),QaE,List.getElem_drop,Qa0]
theorem AF (h:i<ls.length):iP L o ls (i+1)=(iP L o ls i).set i (E6 L o ls[i]):=by
 simp only[iP];rw[Qah h,Qal,Qab h,QaR _ _ (by simp;omega)];simp only[Qaa,QaA,Nat.min_eq_left (Nat.le_of_lt h),QaE,QaF,Qaq,List.map_nil,Qan,List.singleton_append]
theorem Dx (h:i<ls.length) (hu:kV L.teams o.team ls[i].team=false):iP L o ls (i+1)=iP L o ls i:=by
 rw[AF h,show E6 L o ls[i]=(iP L o ls i)[i]'(by rw[jJ];exact h) from by rw[Dy h];simp only[E6,hu,cond_false],List.set_getElem_self]
end
def oY (L:GateLaw):List GateObject→List Bool→List GateLedger→List GateLedger
 |o::os,v::vs,ls=>oY L os vs (bif v then rl L o ls else ls)
 |_,_,ls=>ls
def eO (L:GateLaw) (objs:List GateObject) (inn:List Bool):List GateObject→List Bool→Int→List GateObject→Int×List GateObject
 |o::os,v::vs,now,r=>bif v then eO L objs inn os vs now r
  else bif (cF L objs inn o).2 then eO L objs inn os vs (bR now 1) (r++[{o with values:=(cF L objs inn o).1,version:=bR now 1}])
  else eO L objs inn os vs now (r++[{o with values:=(cF L objs inn o).1}])
 |_,_,now,r=>(now,r)
section
variable {L:GateLaw} {objs os:List GateObject} {inn vs:List Bool} {i:Nat}
theorem qa (h:i<os.length) (h2:i<vs.length) (ls:List GateLedger):oY L (os.drop i) (vs.drop i) ls=oY L (os.drop (i+1)) (vs.drop (i+1)) (bif vs[i] then rl L os[i] ls else ls):=by
 rw[Qab h,Qab h2];rfl
theorem GB (h:os.length≤i) (ls:List GateLedger):oY L (os.drop i) vs ls=ls:=by
 rw[Qai h];rfl
theorem vZ (h:i<os.length) (h2:i<vs.length) (hv:vs[i]=true) (now:Int) (r:List GateObject):eO L objs inn (os.drop i) (vs.drop i) now r=eO L objs inn (os.drop (i+1)) (vs.drop (i+1)) now r:=by
 rw[Qab h,Qab h2];simp only[eO,hv,cond_true]
theorem sO (h:i<os.length) (h2:i<vs.length) (hv:vs[i]=false) (he:(cF L objs inn os[i]).2=true) (now:Int) (r:List GateObject):
 eO L objs inn (os.drop i) (vs.drop i) now r=eO L objs inn (os.drop (i+1)) (vs.drop (i+1)) (bR now 1) (r++[{os[i] with values:=(cF L objs inn os[i]).1,version:=bR now 1}]):=by
 rw[Qab h,Qab h2];simp only[eO,hv,he,cond_true,cond_false]
theorem sP (h:i<os.length) (h2:i<vs.length) (hv:vs[i]=false) (he:(cF L objs inn os[i]).2=false) (now:Int) (r:List GateObject):
 eO L objs inn (os.drop i) (vs.drop i) now r=eO L objs inn (os.drop (i+1)) (vs.drop (i+1)) now (r++[{os[i] with values:=(cF L objs inn os[i]).1}]):=by
 rw[Qab h,Qab h2];simp only[eO,hv,he,cond_false]
theorem v3 (h:os.length≤i) (now:Int) (r:List GateObject):eO L objs inn (os.drop i) vs now r=(now,r):=by
 rw[Qai h];rfl
end
theorem AI (L:GateLaw):∀(os:List GateObject) (vs:List Bool) (ls:List GateLedger),(oY L os vs ls).length=ls.length
 |[],_,ls=>rfl
 |_::_,[],ls=>rfl
 |o::os,v::vs,ls=>by
  simp only[oY];rw[AI L os vs];cases v<;>simp only[cond_true,cond_false,GA]
noncomputable def o4 (L:GateLaw) (b:GateBook):List Bool:=Fw L b (b.objects.map GateObject.ending)
noncomputable def IK (L:GateLaw) (b:GateBook):List Int:=ao (fun v=>v) (o4 L b) 0
theorem AM (L:GateLaw) (b:GateBook):(o4 L b).length=b.objects.length:=by simp[o4,Fw]
noncomputable def zH (L:GateLaw) (b:GateBook):Int×List GateObject:=eO L b.objects (o4 L b) b.objects (o4 L b) b.now []
noncomputable def iH (L:GateLaw) (b:GateBook):GateBook:={DU b (zH L b) with ledgers:=oY L b.objects (o4 L b) b.ledgers}
noncomputable def bx (L:GateLaw) (b:GateBook):GateBook×Int:=bif eW L b then
 bif (aI L b).length==0&&(IK L (bv L b)).length==0 then (b,2)
 else bif decide ((iH L (bv L b)).now>1000000) then (b,3) else (iH L (bv L b),0)
 else (nilBk,1)
theorem Gq {L:GateLaw} {b:GateBook} (h:ln L b=true):aB (fun (p:Option GateObject) (o:GateObject)=>match p with|some q=>fE q.kind q.name o.kind o.name|none=>true) none b.objects=true:=by
 unfold ln at h;rw[Qag] at h;exact ir (fun p x h=>(Bool.and_eq_true_iff.1 h).1) h.2
def y6 (objs:List GateObject):Prop:=∀i j (hi:i<objs.length) (hj:j<objs.length),objs[i].kind=objs[j].kind→objs[i].name=objs[j].name→i=j
theorem Bl:∀{xs:List GateObject} {q:Option GateObject},aB (fun (p:Option GateObject) (o:GateObject)=>match p with|some q=>fE q.kind q.name o.kind o.name|none=>true) q xs=true→
 (∀p,q=some p→∀x∈xs,fE p.kind p.name x.kind x.name=true)∧y6 xs
 |[],q,_=>⟨fun _ _ _ h=>(by cases h),fun i j hi=>(by cases hi)⟩
 |y::xs,q,h=>by
  simp only[aB,Qag] at h;obtain ⟨h1,h2⟩:=Bl h.2;have h1:=h1 y rfl;refine ⟨fun p e x hx=>?_,fun i j hi hj e1 e2=>?_⟩
  ·subst e
   rcases List.mem_cons.1 hx with rfl|hx
   ·exact h.1
   ·exact qG h.1 (h1 x hx)
  ·cases i with
   |zero=>
    cases j with
    |zero=>rfl
    |succ j=>
     have:=h1 _ (Qap (l:=xs) (by simpa using hj));simp only[Qat,Qay] at e1 e2;rw[←e1,←e2,p8] at this
     cases this
   |succ i=>
    cases j with
    |zero=>
     have:=h1 _ (Qap (l:=xs) (by simpa using hi));simp only[Qat,Qay] at e1 e2;rw[e1,e2,p8] at this
     cases this
    |succ j=>
     simp only[Qay] at e1 e2;rw[h2 i j (by simpa using hi) (by simpa using hj) e1 e2]
theorem wW {L:GateLaw} {b:GateBook} (h:eW L b=true):y6 b.objects:=by
 unfold eW at h;simp only[Qag] at h;exact (Bl (Gq h.2.2.2.2.1)).2
def AK (o:GateObject):Bs×Bs:=(o.kind,o.name)
theorem E1 (p:Int×List GateObject) (m:Int) (i:Nat):((ge p m).2[i]?).map AK=(p.2[i]?).map AK:=by
 unfold ge
 cases h:p.2[m.toNat]? with
 |none=>rfl
 |some o=>
  simp only[QaI];split
  ·rename_i e
   subst e;rw[h];split<;>simp_all [AK,qE]
  ·rfl
theorem wr:∀(ms:List Int) (p:Int×List GateObject) (i:Nat),((gc p ms).2[i]?).map AK=(p.2[i]?).map AK
 |[],p,i=>rfl
 |m::ms,p,i=>(wr ms (ge p m) i).trans (E1 p m i)
theorem lX (L:GateLaw) (b:GateBook):(bv L b).objects.length=b.objects.length:=pX (b.now,b.objects) (aI L b)
theorem vX {L:GateLaw} {b:GateBook} (h:y6 b.objects):y6 (bv L b).objects:=by
 have hl:=lX L b
 have key:∀i (hi:i<(bv L b).objects.length) (hi':i<b.objects.length),AK (bv L b).objects[i]=AK b.objects[i]:=fun i hi hi'=>by
  have:=wr (aI L b) (b.now,b.objects) i;rw[show (gc (b.now,b.objects) (aI L b)).2=(bv L b).objects from rfl,Qac hi,Qac hi'] at this;simpa using this
 intro i j hi hj e1 e2;have hi':i<b.objects.length:=by omega
 have hj':j<b.objects.length:=by omega
 have k1:=key i hi hi';have k2:=key j hj hj';simp only[AK,Qba] at k1 k2;exact h i j hi' hj' (by rw[←k1.1,←k2.1];exact e1) (by rw[←k1.2,←k2.2];exact e2)
theorem Fa {objs:List GateObject} {inn:List Bool} (hu:y6 objs) (hl:inn.length=objs.length) (t v:Bs):
 qN objs inn t v=(decide (dC (fun x=>x.kind==t&&x.name==v) objs≥0)&&kz inn (dC (fun x=>x.kind==t&&x.name==v) objs).toNat):=by
 cases hp:decide (dC (fun x=>x.kind==t&&x.name==v) objs≥0) with
 |false=>
  obtain ⟨_,ha⟩:=DE hp;rw[Qav,qN,Qar];rintro ⟨o,w⟩ hm hc;simp only[Qag] at hc;have:=List.any_eq_false.1 ha o (List.of_mem_zip hm).1
  exact this (by simp only[Qag];exact hc.2)
 |true=>
  obtain ⟨k,hk,e,hpk,_⟩:=cW hp;rw[e,Qas,Qam,ky (by omega)];simp only[Qag,beq_iff_eq] at hpk
  cases hi:inn[k] with
  |true=>
   rw[qN,List.any_eq_true];have hz:k<(objs.zip inn).length:=by rw[Qa9];omega
   refine ⟨(objs.zip inn)[k],Qap hz,?_⟩;rw[Qa6]
   simp only[hi,hpk.1,hpk.2,beq_self_eq_true,QaG]
  |false=>
   rw[qN,Qar];rintro ⟨o,w⟩ hm hc;simp only[Qag,beq_iff_eq] at hc;obtain ⟨j,hj,ej⟩:=QaW hm;rw[Qa6] at ej;simp only[Qba] at ej;have hj1:j<objs.length:=by rw[Qa9] at hj;omega
   have:=hu j k hj1 hk (by rw[ej.1,hc.2.1,hpk.1]) (by rw[ej.1,hc.2.2,hpk.2]);subst this;rw[ej.2,hc.1] at hi;cases hi
end Go.Vc
end
section
namespace Go.Vc
open Go.Proofs
set_option maxRecDepth 100000
theorem Et (L:GateLaw) (b:GateBook):HSpec P 47 [st L.e,st b.e] hp0 (.own 0) ⟨[(0,.tree 3 1 [.leaf] ((ao (ib L b) b.objects 0).map eN))],1,0⟩:=by
 refine ae cd aA [.tmp 4] Tryz.func47 rfl rfl rfl rfl (fun hok=>?_);have hs:=(bC hok.2).1;repeat refine ai ?_
 refine kO (b.objects) (fun i (ns:List Int)=>ao (ib L b) b.objects 0=ns++ao (ib L b) (b.objects.drop i) i∧ns.length≤i) (fun i (ns:List Int)=>[(2,.ptr 0 0),(3,.ptr 1 0),(5,.own 2),(6,.d (.int .i64 i))]) (fun i (ns:List Int)=>⟨[(2,.tree 3 1 [.leaf] (ns.map eN)),(1,.cells 48 (b.e.map .d)),(0,.cells 41 (L.e.map .d))],3,0⟩) ((show ao (ib L b) b.objects 0=([]:List Int)++ao (ib L b) (b.objects.drop 0) 0∧([]:List Int).length≤0 from ⟨rfl,Qak 0⟩)) ?_;intro i ns hi hr;obtain ⟨ho,hn⟩:=hr;repeat refine ai ?_
 refine aj ?_ ?_<;>intro h1
 ·have hlt:i<b.objects.length:=U h1
  rw[kb hlt] at ho;have hP:ib L b b.objects[i]=(!b.objects[i].ending&&b.objects.any (fun x=>x.ending&&eb L.shapes b.objects[i] x 3)):=rfl;repeat refine ai ?_
  refine kO (b.objects) (fun q (v:Bool)=>b.objects.any (fun x=>x.ending&&eb L.shapes b.objects[i] x 3)=(v||(b.objects.drop q).any (fun x=>x.ending&&eb L.shapes b.objects[i] x 3))) (fun q (v:Bool)=>[(2,.ptr 0 0),(3,.ptr 1 0),(5,.own 2),(6,.d (.int .i64 i)),(7,.d (.bool v)),(8,.d (.int .i64 q))]) (fun q (v:Bool)=>⟨[(2,.tree 3 1 [.leaf] (ns.map eN)),(1,.cells 48 (b.e.map .d)),(0,.cells 41 (L.e.map .d))],3,0⟩) (rfl) ?_;intro q v hq hr;repeat refine ai ?_
  refine aj ?_ ?_<;>intro h2
  ·have hlq:q<b.objects.length:=U h2
   rw[fY hlq] at hr;repeat refine ai ?_
   refine O (e:=GateObject.e) (xs:=b.objects) (hlq) rfl ?_;repeat refine ai ?_
   refine aj ?_ ?_<;>intro h3
   ·repeat refine ai ?_
    refine oc (pM L b i q hlt hlq 3) ?_;repeat refine ai ?_
    refine aj ?_ ?_<;>intro h4
    ·repeat refine ai ?_
     exact cH true hlq hs (by rw[hr,h3,h4];simp only[QaG,bl])
    ·repeat refine ai ?_
     exact cH v hlq hs (by rw[hr,h3,h4];simp only[bl])
   ·repeat refine ai ?_
    exact cH v hlq hs (by rw[hr,h3];simp only[bl])
  ·rw[jb (V h2),Bool.or_false] at hr
   rw[hr] at hP;repeat refine ai ?_
   refine O (e:=GateObject.e) (xs:=b.objects) (hlt) rfl ?_;repeat refine ai ?_
   refine aj ?_ ?_<;>intro h5
   ·have h5:b.objects[i].ending=false:=by simpa using h5
    repeat refine ai ?_
    refine aj ?_ ?_<;>intro h6
    ·rw[hP,h5,h6,QaP,Qam,cond_true] at ho
     repeat refine ai ?_
     refine aj trivial ?_;repeat refine ai ?_
     refine aj (by simp only[Qad,Qaf,Qae,Qaa] at*;unfold big at*;omega) ?_;repeat refine ai ?_
     exact cH (ns++[(i:Int)]) hlt hs ⟨by rw[ho,Qan];rfl,by rw[Qad];simp only[Qae,Qaf];omega⟩ fun hw=>by repeat' first|exact rfl|exact trivial|exact nd hw|(rw[Qal];exact rfl)|refine aj ?_ ?_
    ·rw[hP,h5,h6,QaQ,cond_false] at ho
     repeat refine ai ?_
     exact cH ns hlt hs ⟨ho,by omega⟩
   ·have h5:b.objects[i].ending=true:=by simpa using h5
    rw[hP,h5,Bool.not_true,Qav,cond_false] at ho;repeat refine ai ?_
    exact cH ns hlt hs ⟨ho,by omega⟩
 ·rw[ho,lj (V h1),QaD]
  repeat refine ai ?_
  exact ⟨[some 2],by repeat' first|exact rfl|exact trivial|refine aj ?_ ?_⟩
def IC (o:GateObject) (id i:Nat):AV:= .agg [.d (.str o.kind),.d (.str o.name),.d (.str o.team),.nest id i 3 2 0,.d (.bool o.ending),.nest id i 5 2 1,.d (.int .i64 o.version)]
theorem tE {L:GateLaw} {o:GateObject} {ls:List GateLedger} {i:Nat} (h:i<ls.length):((iP L o ls i).map GateLedger.e)[i]? =some (GateLedger.e ls[i]):=by
 have h':i<(iP L o ls i).length:=by rw[jJ];exact h
 rw[ri h',Dy h]
theorem H3 {L:GateLaw} {o:GateObject} {ls:List GateLedger} {i:Nat} (h:decide ((i:Int)<(((iP L o ls i).map GateLedger.e).length:Int))=true):i<ls.length:=by
 have:=of_decide_eq_true h;rw[Qaa,jJ] at this;omega
theorem H4 {L:GateLaw} {o:GateObject} {ls:List GateLedger} {i:Nat} (h:decide ((i:Int)<(((iP L o ls i).map GateLedger.e).length:Int))=false):ls.length≤i:=by
 have:=of_decide_eq_false h;rw[Qaa,jJ] at this;omega
theorem nc {L:GateLaw} {o:GateObject} {ls:List GateLedger} {i:Nat} {K:Prop} (h:i<ls.length) (q:K):(0:Int)≤(i:Int)∧(i:Int)<((((iP L o ls i).map GateLedger.e).length:Nat):Int)∧K:=⟨Qax _,by rw[Qaa,jJ];omega,q⟩
theorem AG {L:GateLaw} {o:GateObject} {ls:List GateLedger} {i:Nat} (h:i<ls.length) (hu:kV L.teams o.team ls[i].team=true) {r:List D} (hr:r=GateLedger.e (rT ls[i] (eS L o ls[i].resource))):
 ((iP L o ls i).map GateLedger.e).set i r=(iP L o ls (i+1)).map GateLedger.e:=by
 rw[AF h,Qa1,hr];simp only[E6,hu,cond_true]
set_option maxHeartbeats 2000000 in
theorem Ii (L:GateLaw) (b:GateBook) (i:Nat) (hi:i<b.objects.length):FSpec P 163 [st L.e,K2 b 0 1 2 3,IC b.objects[i] 0 i] ⟨[(0,Ef b),(1,C4 b),(2,C3 b),(3,C2 b)],4,4⟩ (.tup [])
 ⟨[(0,Ef b),(1,C4 b),(2,C3 {b with ledgers:=rl L b.objects[i] b.ledgers}),(3,C2 b)],4,4⟩:=by
 refine FSpec.of_vc cd aA [] Tryz.func163 rfl rfl rfl rfl rfl (fun hok hob=>?_);have hs:b.ledgers.length≤big:=az (hob 2 _ rfl).1;repeat refine ai ?_
 refine d8 (b.ledgers) (fun k=>True) (fun k=>[(3,.ptr 4 0),(4,.ptr 5 0),(5,.ptr 6 0),(6,.d (.int .i64 k))]) (fun k=>⟨[(6,.cells 103 [.d (.str b.objects[i].kind),.d (.str b.objects[i].name),.d (.str b.objects[i].team),.nest 0 i 3 2 0,.d (.bool b.objects[i].ending),.nest 0 i 5 2 1,.d (.int .i64 b.objects[i].version)]),(5,kL b 0 1 2 3),(4,.cells 41 (L.e.map .d)),(0,Ef b),(1,C4 b),(2,C3 {b with ledgers:=iP L b.objects[i] b.ledgers k}),(3,C2 b)],7,4⟩) (trivial) ?_;intro k hk hr;repeat refine ai ?_
 refine aj ?_ ?_<;>intro h1
 ·have hlt:k<b.ledgers.length:=H3 h1
  repeat refine ai ?_
  refine ak ?_;repeat refine ai ?_
  refine nc hlt ?_;repeat refine ai ?_
  refine ⟨_,tE hlt,?_⟩;repeat refine ai ?_
  refine oc (qy _ _ _) ?_;repeat refine ai ?_
  refine aj ?_ ?_<;>intro h2
  ·repeat refine ai ?_
   refine ak ?_;repeat refine ai ?_
   refine nc hlt ?_;repeat refine ai ?_
   refine ⟨_,tE hlt,?_⟩;repeat refine ai ?_
   refine nc hlt ?_;repeat refine ai ?_
   refine ⟨_,tE hlt,?_⟩;repeat refine ai ?_
   refine La (nY L b.objects[i] b.ledgers[k].resource) (by repeat' first|exact rfl|exact trivial|exact aj rfl (Qaj _ (aj (ri hi) rfl))|exact Qaj _ (aj rfl rfl)|exact Qaj _ rfl|refine Qaj _ (Qaj _ (aj rfl (aj ?_ ?_)))|refine Qaj _ (aj rfl ?_)) ?_;repeat refine ai ?_
   refine nc hlt ?_;repeat refine ai ?_
   refine ⟨_,tE hlt,Qak _,?_⟩;repeat refine ai ?_
   exact bJ hlt hs trivial fun hw=>by repeat' first|exact rfl|exact trivial|exact nd hw|exact (bM (AG hlt h2 rfl))|refine aj ?_ ?_
  ·repeat refine ai ?_
   exact bJ hlt hs trivial fun hw=>by repeat' first|exact rfl|exact trivial|exact nd hw|exact (bM (by rw[Dx hlt h2]))|refine aj ?_ ?_
 ·repeat refine ai ?_
  rw[AH (H4 h1)];repeat refine ai ?_
  all_goals (repeat' first|exact rfl|exact trivial|refine aj ?_ ?_)
theorem ux {pre vs:List Bs} {i:Nat} (hp:pre.length=i) (h:i<vs.length):((pre++vs.drop i).map eB)[i]? =some (eB vs[i]):=by
 rw[QaJ,List.getElem?_append_right (by omega),hp,QaE,List.getElem?_drop,Qa0,Qac h];rfl
theorem uw {pre vs:List Bs} {i:Nat} (hp:pre.length=i) (h:i≤vs.length):(pre++vs.drop i).length=vs.length:=by
 rw[Qad,Qa5];omega
theorem uv {pre vs:List Bs} {i:Nat} {r:List D} (hp:pre.length=i) (h:i<vs.length) (hr:r=eB []):((pre++vs.drop i).map eB).set i r=((pre++[[]])++vs.drop (i+1)).map eB:=by
 rw[hr,Qab h,←Qa1,QaR _ _ (by omega),hp,QaE,QaF,Qan];rfl
theorem df {pre vs:List Bs} {i:Nat} (h:i<vs.length):pre++vs.drop i=(pre++[vs[i]])++vs.drop (i+1):=by
 rw[Qab h,Qan];rfl
structure Em (p:GateField→Bs→Bool) (fs:List GateField) (vs:List Bs) (R:List Bs×Bool) (i:Nat) (pre:List Bs) (sm:Bool):Prop where
 len:pre.length=i
 le:i≤vs.length
 eq:R=(pre++(Be p (fs.drop i) (vs.drop i)).1,sm||(Be p (fs.drop i) (vs.drop i)).2)
section
variable {p:GateField→Bs→Bool} {fs:List GateField} {vs pre:List Bs} {R:List Bs×Bool} {i:Nat} {sm:Bool}
theorem Em.start:Em p fs vs (Be p fs vs) 0 [] false:=⟨rfl,Qaw _,by simp⟩
theorem Em.yes (e:Em p fs vs R i pre sm) (h:i<fs.length) (h2:i<vs.length) (hp:p fs[i] vs[i]=true):Em p fs vs R (i+1) (pre++[[]]) true:=by
 refine ⟨by rw[Qad,e.len];rfl,h2,?_⟩;rw[e.eq,Im h h2 hp,Qan,Bool.or_true,QaK];rfl
theorem Em.no (e:Em p fs vs R i pre sm) (h:i<fs.length) (h2:i<vs.length) (hp:p fs[i] vs[i]=false):Em p fs vs R (i+1) (pre++[vs[i]]) sm:=by
 refine ⟨by rw[Qad,e.len];rfl,h2,?_⟩;rw[e.eq,JB h h2 hp,Qan];rfl
theorem Em.done (e:Em p fs vs R i pre sm) (h:fs.length≤i):pre++vs.drop i=R.1∧sm=R.2:=by
 rw[e.eq,In h,Bool.or_false];exact ⟨rfl,rfl⟩
end
def KY:List AV:=[.d (.str []),.d (.str []),.d (.str []),.nils,.d (.bool false),.nils,.d (.int .i64 0)]
def yS (L:GateLaw) (objs:List GateObject) (inn:List Bool) (o:GateObject):GateObject:={o with values:=(cF L objs inn o).1}
theorem l6 {objs:List GateObject} {inn:List Bool} (hu:y6 objs) (hl:inn.length=objs.length) (f:GateField) (v:Bs):
 kH objs inn f v=(f.kind==4&&(!(v==[])&&(f.role==2&&(decide (dC (fun x=>x.kind==f.to_&&x.name==v) objs≥0)&&kz inn (dC (fun x=>x.kind==f.to_&&x.name==v) objs).toNat)))):=by
 unfold kH;rw[Fa hu hl]
set_option maxHeartbeats 4000000 in
theorem Eu (L:GateLaw) (b:GateBook) (inn:List Bool) (j:Nat) (hj:j<b.objects.length) (hu:y6 b.objects) (hl:inn.length=b.objects.length):HSpec P 164 [st L.e,st b.e,.d (lB inn),.d (.int .i64 (j:Int))] hp0
 (.tup [.agg (yS L b.objects inn b.objects[j]).a,.d (.bool (cF L b.objects inn b.objects[j]).2)]) ⟨(yS L b.objects inn b.objects[j]).o,2,0⟩:=by
 refine ae cd aA [.cell 8 103,.tmp 9] Tryz.func164 rfl rfl rfl rfl (fun hok=>?_);have hvb:=(rK ⟨hok.2.1,trivial⟩ (Qap hj)).1;repeat refine ai ?_
 refine O (e:=GateObject.e) (xs:=b.objects) (hj) rfl ?_;repeat refine ai ?_
 generalize ho:b.objects[j]=o at*;repeat refine ai ?_
 refine ow (v5 o) ?_;repeat refine ai ?_
 refine oe ((fun g=>zK L.shapes o g 3 4)) ?_;have hlf:=(cj (xs:=L.shapes) (k:=o.kind) (n:=o.values.length)).1;obtain ⟨R,hR⟩:∃R,cF L b.objects inn o=R:=⟨_,rfl⟩;rw[show yS L b.objects inn o={o with values:=R.1} from by rw[←hR];rfl,hR];have hE:Em (kH b.objects inn) (af L.shapes o.kind o.values.length).1 o.values R 0 [] false:=by rw[←hR];exact Em.start
 generalize (af L.shapes o.kind o.values.length).1=fs at*;have hs:fs.length≤big:=by omega
 repeat refine ai ?_
 refine LL (fs) (fun i (pre:List Bs) (sm:Bool)=>Em (kH b.objects inn) fs o.values R i pre sm) (fun i (pre:List Bs) (sm:Bool)=>[(2,.d (lB inn)),(4,.ptr 0 0),(5,.ptr 1 0),(8,.ptr 2 0),(10,.ptr 5 0),(11,.d (ad fs)),(13,.d (.bool sm)),(14,.d (.int .i64 i))]) (fun i (pre:List Bs) (sm:Bool)=>⟨[(0,.cells 41 (L.e.map .d)),(1,.cells 48 (b.e.map .d)),(2,.cells 103 KY),(3,.tree 9 1 [.leaf] ((pre++o.values.drop i).map eB)),(4,.tree 9 1 [.leaf] (o.holds.map eB)),(5,.cells 103 [.d (.str o.kind),.d (.str o.name),.d (.str o.team),.own 3,.d (.bool o.ending),.own 4,.d (.int .i64 o.version)])],6,0⟩) (hE) ?_;intro i pre sm hi hr;repeat refine ai ?_
 refine aj ?_ ?_<;>intro h1
 ·have hlt:i<fs.length:=U h1
  have hlt2:i<o.values.length:=by omega
  repeat refine ai ?_
  refine O (e:=GateField.e) (xs:=fs) (hlt) rfl ?_;repeat refine ai ?_
  have hlt3:i<(pre++o.values.drop i).length:=by rw[uw hr.len hr.le];exact hlt2
  have hg:(pre++o.values.drop i)[i]'hlt3=o.values[i]:=by
   have:=ux hr.len hlt2;rw[QaJ,Qac hlt3] at this;exact List.cons.inj (Option.some.inj this) |>.1 |> D.str.inj
  repeat refine ai ?_
  refine aj ?_ ?_<;>intro h2
  ·repeat refine ai ?_
   refine aj ?_ ?_<;>intro h3
   ·repeat refine ai ?_
    refine dm (e:=eB) (xs:=pre++o.values.drop i) hlt3 ?_;repeat refine ai ?_
    refine fu (e:=eB) (xs:=pre++o.values.drop i) hlt3 ?_;repeat refine ai ?_
    refine aj ?_ ?_<;>intro h4
    ·have h4:(o.values[i]==[])=true:=by rw[←hg];exact h4
     repeat refine ai ?_
     exact B8 (pre++[o.values[i]]) sm hlt hs (hr.no hlt hlt2 (by rw[l6 hu hl,h4];cases (fs[i].kind==4)<;>rfl)) fun hw=>by repeat' first|exact rfl|exact trivial|exact nd hw|exact (bM (by rw[df hlt2]))|refine aj ?_ ?_
    ·have h4:(o.values[i]==[])=false:=by rw[←hg];exact h4
     have h2:(fs[i].kind==4)=true:=by simpa using h2
     have h3:(fs[i].role==2)=true:=by simpa using h3
     have hq:kH b.objects inn fs[i] o.values[i]=(decide (dC (fun x=>x.kind==fs[i].to_&&x.name==o.values[i]) b.objects≥0)&&kz inn (dC (fun x=>x.kind==fs[i].to_&&x.name==o.values[i]) b.objects).toNat):=by rw[l6 hu hl,h2,h3,h4];rfl
     repeat refine ai ?_
     refine ak ?_;repeat refine ai ?_
     refine dm (e:=eB) (xs:=pre++o.values.drop i) hlt3 ?_;repeat refine ai ?_
     refine fu (e:=eB) (xs:=pre++o.values.drop i) hlt3 ?_;repeat refine ai ?_
     rw[show (pre++o.values.drop i)[(i:Int).toNat]'hlt3=o.values[i] from hg];repeat refine ai ?_
     refine oc (BO b fs[i].to_ o.values[i]) ?_;repeat refine ai ?_
     refine aj ?_ ?_<;>intro h5
     ·obtain ⟨x,hx,ex,_,_⟩:=cW h5
      have hx2:x<inn.length:=by omega
      rw[h5,ex,Qas,ky hx2,Qam] at hq;repeat refine ai ?_
      refine aH (e:=eT) (xs:=inn) (hx2) (ex) rfl ?_;repeat refine ai ?_
      refine aj ?_ ?_<;>intro h6
      ·repeat refine ai ?_
       refine dm (e:=eB) (xs:=pre++o.values.drop i) hlt3 ?_;repeat refine ai ?_
       refine ⟨_,ri hlt3,Qak _,?_⟩;repeat refine ai ?_
       exact B8 (pre++[[]]) true hlt hs (hr.yes hlt hlt2 (by rw[hq];exact h6)) fun hw=>by repeat' first|exact rfl|exact trivial|exact nd hw|exact (bM (uv hr.len hlt2 rfl))|refine aj ?_ ?_
      ·repeat refine ai ?_
       exact B8 (pre++[o.values[i]]) sm hlt hs (hr.no hlt hlt2 (by rw[hq];exact h6)) fun hw=>by repeat' first|exact rfl|exact trivial|exact nd hw|exact (bM (by rw[df hlt2]))|refine aj ?_ ?_
     ·repeat refine ai ?_
      exact B8 (pre++[o.values[i]]) sm hlt hs (hr.no hlt hlt2 (by rw[hq,h5];rfl)) fun hw=>by repeat' first|exact rfl|exact trivial|exact nd hw|exact (bM (by rw[df hlt2]))|refine aj ?_ ?_
   ·have h3:(fs[i].role==2)=false:=by simpa using h3
    repeat refine ai ?_
    exact B8 (pre++[o.values[i]]) sm hlt hs (hr.no hlt hlt2 (by rw[l6 hu hl,h3];cases (fs[i].kind==4)<;>cases (o.values[i]==[])<;>rfl)) fun hw=>by repeat' first|exact rfl|exact trivial|exact nd hw|exact (bM (by rw[df hlt2]))|refine aj ?_ ?_
  ·have h2:(fs[i].kind==4)=false:=by simpa using h2
   repeat refine ai ?_
   exact B8 (pre++[o.values[i]]) sm hlt hs (hr.no hlt hlt2 (by rw[l6 hu hl,h2];rfl)) fun hw=>by repeat' first|exact rfl|exact trivial|exact nd hw|exact (bM (by rw[df hlt2]))|refine aj ?_ ?_
 ·obtain ⟨e1,e2⟩:=hr.done (V h1)
  rw[e1,e2];repeat refine ai ?_
  exact ⟨[some 3,some 4],by repeat' first|exact rfl|exact trivial|refine aj ?_ ?_⟩
end Go.Vc
end
section
namespace Go.Vc
open Go.Proofs
set_option maxRecDepth 100000
structure KE where
 ls:List GateLedger
 now:Int
 r:List GateObject
 c:Nat
abbrev vJ (B:GateBook) (now:Int) (ls:List GateLedger):GateBook:={B with now:=now,ledgers:=ls}
structure SwJ (L:GateLaw) (B:GateBook) (inn:List Bool) (LR:List GateLedger) (SR:Int×List GateObject) (N i:Nat) (s:KE):Prop where
 ls:oY L (B.objects.drop i) (inn.drop i) s.ls=LR
 st:eO L B.objects inn (B.objects.drop i) (inn.drop i) s.now s.r=SR
 c:s.c+(inn.drop i).count true=N
 r:s.r.length≤i
section
variable {L:GateLaw} {B:GateBook} {inn:List Bool} {LR:List GateLedger} {SR:Int×List GateObject} {N i:Nat} {s:KE}
theorem SwJ.go (J:SwJ L B inn LR SR N i s) (h:i<B.objects.length) (h2:i<inn.length) (hv:inn[i]=true):SwJ L B inn LR SR N (i+1) {s with ls:=rl L B.objects[i] s.ls,c:=s.c+1}:=by
 obtain ⟨a,b,c,d⟩:=J;rw[qa h h2,hv,cond_true] at a;rw[vZ h h2 hv] at b;rw[Qab h2,hv,QaT] at c;exact ⟨a,b,by simp only;omega,by simp only;omega⟩
theorem SwJ.turn (J:SwJ L B inn LR SR N i s) (h:i<B.objects.length) (h2:i<inn.length) (hv:inn[i]=false) (he:(cF L B.objects inn B.objects[i]).2=true):
 SwJ L B inn LR SR N (i+1) {s with now:=bR s.now 1,r:=s.r++[{B.objects[i] with values:=(cF L B.objects inn B.objects[i]).1,version:=bR s.now 1}]}:=by
 obtain ⟨a,b,c,d⟩:=J;rw[qa h h2,hv,cond_false] at a;rw[sO h h2 hv he] at b;rw[Qab h2,hv,QaC (by simp)] at c;exact ⟨a,b,c,by simp only[Qad,Qae,Qaf];omega⟩
theorem SwJ.same (J:SwJ L B inn LR SR N i s) (h:i<B.objects.length) (h2:i<inn.length) (hv:inn[i]=false) (he:(cF L B.objects inn B.objects[i]).2=false):
 SwJ L B inn LR SR N (i+1) {s with r:=s.r++[{B.objects[i] with values:=(cF L B.objects inn B.objects[i]).1}]}:=by
 obtain ⟨a,b,c,d⟩:=J;rw[qa h h2,hv,cond_false] at a;rw[sP h h2 hv he] at b;rw[Qab h2,hv,QaC (by simp)] at c;exact ⟨a,b,c,by simp only[Qad,Qae,Qaf];omega⟩
theorem SwJ.done (J:SwJ L B inn LR SR N i s) (h:B.objects.length≤i) (hl:inn.length=B.objects.length):s.ls=LR∧(s.now,s.r)=SR∧s.c=N:=by
 obtain ⟨a,b,c,d⟩:=J;rw[GB h] at a;rw[v3 h] at b;rw[Qai (by omega),List.count_nil,Qa0] at c;exact ⟨a,b,c⟩
end
theorem wo {os:List GateObject} {k:Nat} {v:Int} {r1 r2:List D} (hk:k<os.length) (h1:r1=GateObject.e {os[k] with ending:=true}) (h2:r2=GateObject.e (qE os[k] v)):((os.map GateObject.e).set k r1).set k r2=(os.set k (qE os[k] v)).map GateObject.e:=by
 rw[List.set_set,h2,Qa1]
theorem IS {k:Nat} (h:k≤2*big):IntKind.i64.wrap ((k:Int)+1)=((k+1:Nat):Int):=by
 unfold big at h;rw[IntKind.wrap_i64];omega
def Ix:List AV:=[.d (.int .i64 0),.d (.int .i64 0),.d (.int .i64 0),.nils,.nils,.nils,.nils]
set_option maxHeartbeats 4000000 in
theorem Eq (L:GateLaw) (b:GateBook) (hu:y6 b.objects):HSpec P 103 [st L.e,st b.e] hp0
 (.tup [.agg (iH L (bv L b)).a,.d (.int .i64 (((aI L b).length+(o4 L (bv L b)).count true:Nat):Int))]) ⟨(iH L (bv L b)).o,4,0⟩:=by
 refine ae cd aA [.cell 4 48,.tmp 5] Tryz.func103 rfl rfl rfl rfl (fun hok=>?_);have hbo:=(bC hok.2).1;repeat refine ai ?_
 refine ow (pN b) ?_;repeat refine ai ?_
 refine ov (Et L b) ?_;have hml:(aI L b).length≤b.objects.length:=by unfold aI;exact iZ _ _
 have hsm:(aI L b).length≤big:=by omega
 repeat refine ai ?_
 refine kO (aI L b) (fun q (p:Int×List GateObject)=>gc (b.now,b.objects) ((aI L b).take q)=p) (fun q (p:Int×List GateObject)=>[(2,.ptr 0 0),(3,.ptr 1 0),(4,.ptr 2 0),(6,.ptr 7 0),(7,.own 8),(8,.d (.int .i64 q))]) (fun q (p:Int×List GateObject)=>⟨[(8,.tree 3 1 [.leaf] ((aI L b).map eN)),(7,kL (DU b p) 3 4 5 6),(3,Ef (DU b p)),(4,C4 (DU b p)),(5,C3 (DU b p)),(6,C2 (DU b p)),(2,.cells 48 Ix),(1,.cells 48 (b.e.map .d)),(0,.cells 41 (L.e.map .d))],9,0⟩) ((show gc (b.now,b.objects) ((aI L b).take 0)=(b.now,b.objects) from rfl)) ?_;intro q p hq hr;repeat refine ai ?_
 refine aj ?_ ?_<;>intro h1
 ·have hlt:q<(aI L b).length:=U h1
  obtain ⟨k,ek,hk⟩:=m6 (p:=ib L b) (xs:=b.objects) hlt;have hs2:gc (b.now,b.objects) ((aI L b).take (q+1))=ge (gc (b.now,b.objects) ((aI L b).take q)) (k:Int):=by rw[tI hlt];exact congrArg _ ek
  have hpl:=pX (b.now,b.objects) ((aI L b).take q);rw[hr] at hs2 hpl;have ek:(aI L b)[((q:Nat):Int).toNat]'hlt=(k:Int):=ek;have hk':k<p.2.length:=by rw[hpl];exact hk
  rw[show p=(p.1,p.2) from rfl,AA hk'] at hs2;repeat refine ai ?_
  refine ak ?_;repeat refine ai ?_
  refine dm (e:=eN) (xs:=aI L b) hlt ?_;repeat refine ai ?_
  refine fu (e:=eN) (xs:=aI L b) hlt ?_;repeat refine ai ?_
  rw[ek];refine dm (e:=GateObject.e) (xs:=p.2) hk' ?_;repeat refine ai ?_
  refine ⟨_,ri hk',QaB rfl,?_⟩;repeat refine ai ?_
  refine ak ?_;repeat refine ai ?_
  refine dm (e:=eN) (xs:=aI L b) hlt ?_;repeat refine ai ?_
  refine fu (e:=eN) (xs:=aI L b) hlt ?_;repeat refine ai ?_
  rw[ek];refine aj (Qax _) (aj (by rw[QaM,Qaa];exact Int.ofNat_lt.2 hk') ?_);repeat refine ai ?_
  refine ⟨_,Qaz (by rw[Qaa];exact hk'),Qak _,?_⟩;repeat refine ai ?_
  exact cH (bR p.1 1,p.2.set k (qE p.2[k] (bR p.1 1))) hlt hsm hs2 fun hw=>by repeat' first|exact rfl|exact trivial|exact nd hw|exact bM (wo hk' rfl rfl)|refine aj ?_ ?_
 ·rw[Qao (V h1)] at hr
  rw[show DU b p=bv L b from by rw[←hr];rfl];have hul:=vX (L:=L) hu;have hll:=lX L b;have hle:(bv L b).ledgers=b.ledgers:=rfl;rw[←hll] at hbo hml;unfold iH zH o4;generalize bv L b=B at*;repeat refine ai ?_
  refine akp 5 (.one [0,1,2] [] 3 (.one [] [0,1] 4 (.fin [] []))) ?_;repeat refine ai ?_
  refine ov (zI B) ?_;repeat refine ai ?_
  refine ov (vi L B (B.objects.map GateObject.ending) (by rw[Qaa])) ?_;have hil:(Fw L B (B.objects.map GateObject.ending)).length=B.objects.length:=AM L B;generalize Fw L B (B.objects.map GateObject.ending)=inn at*;obtain ⟨LR,hLR⟩:∃LR,oY L B.objects inn B.ledgers=LR:=⟨_,rfl⟩;obtain ⟨SR,hSR⟩:∃SR,eO L B.objects inn B.objects inn B.now []=SR:=⟨_,rfl⟩;obtain ⟨N,hN⟩:∃N,(aI L b).length+inn.count true=N:=⟨_,rfl⟩;rw[hLR,hSR,hN];have hNb:N≤2*big:=by have:=QaS (a:=true) (l:=inn);omega
  repeat refine ai ?_
  refine kO (inn) (fun i (s:KE)=>SwJ L B inn LR SR N i s) (fun i (s:KE)=>[(2,.ptr 0 0),(3,.ptr 1 0),(4,.ptr 2 0),(6,.ptr 7 0),(9,.own 10),(10,.own 11),(11,.d (.int .i64 (s.c:Int))),(12,.d (.int .i64 i))]) (fun i (s:KE)=>⟨[(11,.tree 103 7 GateObject.n (s.r.map GateObject.e)),(10,.tree 4 1 [.leaf] (inn.map eT)),(7,kL (vJ B s.now s.ls) 3 4 5 6),(3,Ef (vJ B s.now s.ls)),(4,C4 (vJ B s.now s.ls)),(5,C3 (vJ B s.now s.ls)),(6,C2 (vJ B s.now s.ls)),(2,.cells 48 Ix),(1,.cells 48 (b.e.map .d)),(0,.cells 41 (L.e.map .d))],12,0⟩) ((show SwJ L B inn LR SR N 0 ⟨B.ledgers,B.now,[],(aI L b).length⟩ from ⟨hLR,hSR,hN,Qak _⟩)) ?_ (by repeat' first|exact rfl|exact trivial|exact nd (by rw[Qaa])|refine aj ?_ ?_);intro i s hi hr;have hsi:inn.length≤big:=by omega
  repeat refine ai ?_
  refine aj ?_ ?_<;>intro h2
  ·have hlt:i<inn.length:=U h2
   have hlo:i<B.objects.length:=by omega
   repeat refine ai ?_
   refine dm (e:=eT) (xs:=inn) hlt ?_;repeat refine ai ?_
   refine fu (e:=eT) (xs:=inn) hlt ?_;repeat refine ai ?_
   refine aj ?_ ?_<;>intro h3
   ·repeat refine ai ?_
    refine ak ?_;repeat refine ai ?_
    refine dm (e:=GateObject.e) (xs:=B.objects) hlo ?_;repeat refine ai ?_
    refine fu (e:=GateObject.e) (xs:=B.objects) hlo ?_;repeat refine ai ?_
    refine on [3,4,5,6] none (Ii L (vJ B s.now s.ls) i hlo) ?_;repeat refine ai ?_
    exact cH ({s with ls:=rl L B.objects[i] s.ls,c:=s.c+1}) hlt hsi (hr.go hlo hlt h3) fun hw=>by repeat' first|exact rfl|exact trivial|exact nd hw|exact nd (IS (by have:=hr.c;omega))|refine aj ?_ ?_
   ·repeat refine ai ?_
    refine ov (Eu L (vJ B s.now s.ls) inn i hlo hul hil) ?_;have hrl:=hr.r;repeat refine ai ?_
    refine aj ?_ ?_<;>intro h4
    ·repeat refine ai ?_
     refine aj trivial ?_;repeat refine ai ?_
     refine aj (by simp only[Qad,Qaf,Qae,Qaa] at*;unfold big at*;omega) ?_;repeat refine ai ?_
     exact cH ({s with now:=bR s.now 1,r:=s.r++[{B.objects[i] with values:=(cF L B.objects inn B.objects[i]).1,version:=bR s.now 1}]}) hlt hsi (hr.turn hlo hlt h3 h4) fun hw=>by repeat' first|exact rfl|exact trivial|exact nd hw|exact (bM (by rw[Qal];rfl))|refine aj ?_ ?_
    ·repeat refine ai ?_
     refine aj trivial ?_;repeat refine ai ?_
     refine aj (by simp only[Qad,Qaf,Qae,Qaa] at*;unfold big at*;omega) ?_;repeat refine ai ?_
     exact cH ({s with r:=s.r++[{B.objects[i] with values:=(cF L B.objects inn B.objects[i]).1}]}) hlt hsi (hr.same hlo hlt h3 h4) fun hw=>by repeat' first|exact rfl|exact trivial|exact nd hw|exact (bM (by rw[Qal];rfl))|refine aj ?_ ?_
  ·obtain ⟨e1,e2,e3⟩:=hr.done (by have:=V h2;omega) hil
   rw[←e1,←e2,←e3];repeat refine ai ?_
   exact ⟨[some 11,some 4,some 5,some 6],by repeat' first|exact rfl|exact trivial|refine aj ?_ ?_⟩
theorem mu:∀(vs:List Bool) (i:Nat),(ao (fun v=>v) vs i).length=vs.count true
 |[],_=>rfl
 |v::vs,i=>by
  have ih:=mu vs (i+1);cases v
  ·simp only[ao,cond_false,ih];rw[QaC (by simp)]
  ·simp only[ao,cond_true,Qae,ih];rw[QaT]
theorem sM (L:GateLaw) (b:GateBook):((((aI L b).length+(o4 L (bv L b)).count true:Nat):Int)==0)=((aI L b).length==0&&(IK L (bv L b)).length==0):=by
 unfold IK;rw[mu,QaO];simp only[beq_iff_eq,Qag];omega
theorem zL (L:GateLaw) (b:GateBook):Spec P 37 [st L.e,st b.e] (.tup [st (bx L b).1.e,.d (.int .i64 (bx L b).2)]):=by
 refine Spec.of_vc cd aA [.cell 4 48,.tmp 5] Tryz.func37 rfl rfl rfl rfl (fun hok=>?_)
 cases hb:eW L b with
 |false=>
  rw[show bx L b=(nilBk,1) from by unfold bx;rw[hb];rfl];repeat refine ai ?_
  refine oc (nZ L b) ?_;rw[hb];repeat refine ai ?_
  refine ay ?_;repeat refine ai ?_
  rfl
 |true=>
  repeat refine ai ?_
  refine oc (nZ L b) ?_;rw[hb];repeat refine ai ?_
  refine an ?_;repeat refine ai ?_
  refine ow (Eq L b (wW hb)) ?_;repeat refine ai ?_
  refine aj ?_ ?_<;>intro h1
  ·have h1:=(sM L b).symm.trans h1
   rw[show bx L b=(b,2) from by unfold bx;rw[hb,h1];rfl];repeat refine ai ?_
   refine ow (pN b) ?_;repeat refine ai ?_
   rfl
  ·have h1:=(sM L b).symm.trans h1
   repeat refine ai ?_
   refine aj ?_ ?_<;>intro h2
   ·rw[show bx L b=(b,3) from by unfold bx;rw[hb,h1,h2];rfl]
    repeat refine ai ?_
    refine ow (pN b) ?_;repeat refine ai ?_
    rfl
   ·rw[show bx L b=(iH L (bv L b),0) from by unfold bx;rw[hb,h1,h2];rfl]
    repeat refine ai ?_
    rfl
end Go.Vc
end
section
namespace Go.Vc
open Go.Proofs
set_option maxRecDepth 100000
theorem AD (g:Int→List D) (k:List D):∀l:List Int,av (l.map fun x=>(g x,AV.agg [])) k=bif l.any (fun x=>bY k (g x)) then some (.agg []) else none
 |[]=>rfl
 |x::l=>by
  simp only[Qaq,av,QaH,AD g k l];cases bY k (g x)<;>rfl
theorem tA:∀{es:List (List D×AV)} {k:List D} {v:AV},av es k=none→bp es k v=es++[(k,v)]
 |[],_,_,_=>rfl
 |(k',a)::r,k,v,h=>by
  simp only[av] at h;simp only[bp,QaL]
  cases e:bY k k' with
  |true=>rw[e] at h;cases h
  |false=>rw[e] at h;simp only[tA h]
def tZ (x:Int):List D:=[.int .i64 x]
def H6 (os:List GateObject) (x:Int):List D:=match os[x.toNat]? with|some o=>[.str o.kind,.str o.name]|none=>[.str [],.str []]
def nk (x:Int):List D×AV:=(tZ x,.agg [])
def np (os:List GateObject) (x:Int):List D×AV:=(H6 os x,.agg [])
theorem DB (x y:Int):bY (tZ x) (tZ y)=(x==y):=rfl
theorem rM {os:List GateObject} {k:Nat} (h:k<os.length):H6 os (k:Int)=[.str os[k].kind,.str os[k].name]:=by
 simp only[H6,Qas,Qac h]
theorem jh:∀(vs:List Bool) (i:Nat),(ao (fun v=>v) vs i).Nodup
 |[],_=>List.nodup_nil
 |v::vs,i=>by
  have ih:=jh vs (i+1);cases v
  ·exact ih
  ·refine List.nodup_cons.2 ⟨fun h=>?_,ih⟩
   obtain ⟨k,e,h1,_⟩:=iY vs (i+1) _ h;omega
theorem zB {l:List Int} (h:l.Nodup) {q:Nat} (hq:q<l.length):∀y∈l.take q,y≠l[q]:=fun y hy e=>by
 have h1:(l.take q++[l[q]]).Nodup:=by
  rw[←Qah hq];exact h.sublist (List.take_sublist _ _)
 have:=List.nodup_append.1 h1;exact this.2.2 y hy l[q] (by simp) e
theorem K6 {l:List Int} (h:l.Nodup) {q:Nat} (hq:q<l.length):bp ((l.take q).map nk) (tZ l[q]) (.agg [])=(l.take (q+1)).map nk:=by
 rw[tA,Qah hq,Qal];rfl;rw[show (l.take q).map nk=(l.take q).map fun x=>(tZ x,AV.agg []) from rfl,AD,show (l.take q).any (fun x=>bY (tZ l[q]) (tZ x))=false from ?_];rfl;rw[Qar];intro y hy hc;rw[DB] at hc;exact zB h hq y hy (beq_iff_eq.1 hc).symm
theorem Kb {os:List GateObject} {inn:List Bool} (hu:y6 os) (hl:inn.length=os.length) {q:Nat} (hq:q<(ao (fun v=>v) inn 0).length):
 bp (((ao (fun v=>v) inn 0).take q).map (np os)) (H6 os (ao (fun v=>v) inn 0)[q]) (.agg [])=((ao (fun v=>v) inn 0).take (q+1)).map (np os):=by
 have hnd:=jh inn 0
 have hall:∀y∈ao (fun v=>v) inn 0,∃k:Nat,y=(k:Int)∧k<os.length:=fun y hy=>by
  obtain ⟨k,e,_,h⟩:=iY inn 0 y hy;exact ⟨k,e,by omega⟩
 generalize ao (fun v=>v) inn 0=l at*;rw[tA,Qah hq,Qal];rfl;rw[show (l.take q).map (np os)=(l.take q).map fun x=>(H6 os x,AV.agg []) from rfl,AD,show (l.take q).any (fun x=>bY (H6 os l[q]) (H6 os x))=false from ?_];rfl;rw[Qar];intro y hy hc;obtain ⟨k,ek,hk⟩:=hall l[q] (Qap hq);obtain ⟨m,em,hm⟩:=hall y (List.mem_of_mem_take hy);have hne:=zB hnd hq y hy;rw[ek,em,rM hk,rM hm] at hc;simp only[bY,Qag,beq_iff_eq] at hc;have:=hu k m hk hm hc.1 hc.2;rw[ek,em,this] at hne;exact hne rfl
theorem Hq:∀(vs:List Bool) (i j:Nat),(ao (fun v=>v) vs i).any (fun x=>bY (tZ (j:Int)) (tZ x))=(decide (i≤j)&&kz vs (j - i))
 |[],i,j=>by simp[ao,kz]
 |v::vs,i,j=>by
  have ih:=Hq vs (i+1) j
  have hz:(decide (i≤j)&&kz (v::vs) (j - i))=(((j==i)&&v)||(decide (i+1≤j)&&kz vs (j - (i+1)))):=by
   by_cases h1:j=i
   ·subst h1;simp only[show ¬j+1≤j from by omega,decide_false,QaE,kz,List.getElem?_cons_zero,Qak,decide_true,beq_self_eq_true,bl]
   ·by_cases h2:i+1≤j
    ·rw[show j - i=(j - (i+1))+1 from by omega]
     have h3:i≤j:=by omega
     simp only[h1,h2,h3,decide_true,kz,List.getElem?_cons_succ,show (j==i)=false from beq_eq_false_iff_ne.2 h1,bl]
    ·have h3:¬i≤j:=by omega
     simp only[h2,h3,decide_false,Qav,show (j==i)=false from beq_eq_false_iff_ne.2 h1,Bool.or_self]
  rw[hz];cases v
  ·simp only[ao,cond_false,ih,bl]
  ·simp only[ao,cond_true,QaH,ih,DB,QaV]
   congr 1
   rw[QaO,beq_iff_eq,beq_iff_eq];omega
theorem Cg {inn:List Bool} {i:Nat} (h:i<inn.length):av ((ao (fun v=>v) inn 0).map nk) [.int .i64 (i:Int)]=bif inn[i] then some (.agg []) else none:=by
 have:=AD tZ (tZ (i:Int)) (ao (fun v=>v) inn 0);rw[Hq,Nat.sub_zero,ky h,show decide (0≤i)=true from decide_eq_true (Qaw _),Qam] at this;exact this
theorem Bp (objs:List GateObject) (t v:Bs):∀(os:List GateObject) (vs:List Bool) (i:Nat),objs.drop i=os→(ao (fun v=>v) vs i).any (fun x=>bY [.str t,.str v] (H6 objs x))=(os.zip vs).any (fun p=>p.2&&(p.1.kind==t&&p.1.name==v))∨vs.length>os.length
 |os,[],i,_=> .inl (by simp[ao])
 |[],w::vs,i,_=> .inr (by simp)
 |o::os,w::vs,i,h=>by
  have hi:i<objs.length:=by
   rcases Nat.lt_or_ge i objs.length with h1|h1
   ·exact h1
   ·rw[Qai h1] at h;cases h
  have hd:objs.drop (i+1)=os:=by
   rw[Qab hi] at h;exact (List.cons.inj h).2
  have ho:objs[i]=o:=by
   rw[Qab hi] at h;exact (List.cons.inj h).1
  rcases Bp objs t v os vs (i+1) hd with ih|ih
  ·left
   cases w
   ·simp only[ao,cond_false,ih,Qa2,QaH,bl]
   ·simp only[ao,cond_true,QaH,ih,Qa2,rM hi,ho,bY,Qam]
    congr 1
    rw[BEq.comm (a:=t),BEq.comm (a:=v)]
  ·right;simp only[Qae];omega
theorem E4 {objs:List GateObject} {inn:List Bool} (hl:inn.length=objs.length) (t v:Bs):av ((ao (fun v=>v) inn 0).map (np objs)) [.str t,.str v]=bif qN objs inn t v then some (.agg []) else none:=by
 have:=AD (H6 objs) [.str t,.str v] (ao (fun v=>v) inn 0);rcases Bp objs t v objs inn 0 rfl with h|h
 ·rw[h] at this;exact this
 ·omega
theorem Du:∀(m:Nat) (l:List Int),Fv m (l.map nk)
 |_,[]=>trivial
 |m,x::l=>⟨rfl,Du m l⟩
theorem Dv (os:List GateObject):∀(m:Nat) (l:List Int),Fv m (l.map (np os))
 |_,[]=>trivial
 |m,x::l=>⟨rfl,Dv os m l⟩
theorem pY (f:Nat→Option Nat):∀l:List Int,eC f (l.map nk)=l.map nk
 |[]=>rfl
 |x::l=>by
  have:=pY f l;simp only[Qaq,nk,eC,AV.map,aG] at this ⊢;rw[this]
theorem pZ (os:List GateObject) (f:Nat→Option Nat):∀l:List Int,eC f (l.map (np os))=l.map (np os)
 |[]=>rfl
 |x::l=>by
  have:=pZ os f l;simp only[Qaq,np,eC,AV.map,aG] at this ⊢;rw[this]
theorem Jo (o:GateObject):Spec P 104 [st o.e] (.agg [.d (.str o.kind),.d (.str o.name)]):=by
 refine Spec.of_vc aO aA [.cell 2 130] Tryz.func104 rfl rfl rfl rfl (fun hok=>?_);repeat refine ai ?_
 exact rfl
set_option maxHeartbeats 2000000 in
theorem Ij (L:GateLaw) (b:GateBook) (i:Nat) (hi:i<b.objects.length):FSpec P 105 [.ptr 0 0,st L.e,IC b.objects[i] 1 i]
 ⟨[(0,kL b 1 2 3 4),(1,Ef b),(2,C4 b),(3,C3 b),(4,C2 b)],5,5⟩ (.tup [])
 ⟨[(0,kL b 1 2 3 4),(1,Ef b),(2,C4 b),(3,C3 {b with ledgers:=rl L b.objects[i] b.ledgers}),(4,C2 b)],5,5⟩:=by
 refine FSpec.of_vc cd aA [] Tryz.func105 rfl rfl rfl rfl rfl (fun hok hob=>?_);have hs:b.ledgers.length≤big:=az (hob 3 _ rfl).1;repeat refine ai ?_
 refine d8 (b.ledgers) (fun k=>True) (fun k=>[(0,.ptr 0 0),(4,.ptr 5 0),(5,.ptr 6 0),(11,.own 3),(12,.d (.int .i64 (b.ledgers.map GateLedger.e).length)),(13,.d (.int .i64 k))]) (fun k=>⟨[(6,.cells 103 [.d (.str b.objects[i].kind),.d (.str b.objects[i].name),.d (.str b.objects[i].team),.nest 1 i 3 2 0,.d (.bool b.objects[i].ending),.nest 1 i 5 2 1,.d (.int .i64 b.objects[i].version)]),(5,.cells 41 (L.e.map .d)),(0,kL b 1 2 3 4),(1,Ef b),(2,C4 b),(3,C3 {b with ledgers:=iP L b.objects[i] b.ledgers k}),(4,C2 b)],7,5⟩) (trivial) ?_;intro k hk hr;repeat refine ai ?_
 refine aj ?_ ?_<;>intro h1
 ·have hlt:k<b.ledgers.length:=U h1
  repeat refine ai ?_
  refine nc hlt ?_;repeat refine ai ?_
  refine ⟨_,tE hlt,?_⟩;repeat refine ai ?_
  refine oc (qK _ _ _) ?_;repeat refine ai ?_
  refine aj ?_ ?_<;>intro h2
  ·repeat refine ai ?_
   refine ak ?_;repeat refine ai ?_
   refine nc hlt ?_;repeat refine ai ?_
   refine ⟨_,tE hlt,?_⟩;repeat refine ai ?_
   refine La (pa L b.objects[i] b.ledgers[k].resource) (by repeat' first|exact rfl|exact trivial|exact aj rfl (Qaj _ (aj (ri hi) rfl))|exact Qaj _ (aj rfl rfl)|exact Qaj _ rfl|refine Qaj _ (Qaj _ (aj rfl (aj ?_ ?_)))|refine Qaj _ (aj rfl ?_)) ?_;repeat refine ai ?_
   refine nc hlt ?_;repeat refine ai ?_
   refine ⟨_,tE hlt,Qak _,?_⟩;repeat refine ai ?_
   exact bJ hlt hs trivial fun hw=>by repeat' first|exact rfl|exact trivial|exact nd hw|exact (bM (AG hlt h2 rfl))|refine aj ?_ ?_
  ·repeat refine ai ?_
   exact bJ hlt hs trivial fun hw=>by repeat' first|exact rfl|exact trivial|exact nd hw|exact (bM (by rw[Dx hlt h2]))|refine aj ?_ ?_
 ·repeat refine ai ?_
  rw[AH (V h1)];repeat refine ai ?_
  all_goals (repeat' first|exact rfl|exact trivial|refine aj ?_ ?_)
end Go.Vc
end
section
namespace Go.Vc
open Go.Proofs
set_option maxRecDepth 100000
theorem G2 (L:GateLaw) (o:GateObject):FSpec P 106 [st L.e,.agg [.d (.str o.kind),.d (.str o.name),.d (.str o.team),.own 0,.d (.bool o.ending),.own 1,.d (.int .i64 o.version)]]
 ⟨[(0,.tree 9 1 [.leaf] (o.values.map eB)),(1,.tree 9 1 [.leaf] (o.holds.map eB))],2,2⟩
 (.fn 165 [.ptr 2 0,.ptr 3 0])
 ⟨[(3,.cells 103 [.d (.str o.kind),.d (.str o.name),.d (.str o.team),.own 0,.d (.bool o.ending),.own 1,.d (.int .i64 o.version)]),(2,.cells 41 (L.e.map .d)),(0,.tree 9 1 [.leaf] (o.values.map eB)),(1,.tree 9 1 [.leaf] (o.holds.map eB))],4,2⟩:=by
 refine FSpec.of_vc cd aA [.tmp 4] Tryz.func106 rfl rfl rfl rfl rfl (fun hok hob=>?_);repeat refine ai ?_
 all_goals (repeat' first|exact rfl|exact trivial|refine aj ?_ ?_)
theorem HT {f:FuncId} {ys bs:List AV} {r:AV} (h:Spec P f ys r) (e:ys=bs):Spec P f bs r:=e▸h
theorem A6 {xs:List GateShape} {k:Bs} {n:Nat} (h:(!(af xs k n).2)=true):(af xs k n).1=[]:=by
 unfold af at*;split at h
 ·rename_i s _
  cases hc:(decide (dC (·.kind==k) xs≥0)&&s.fields.length==n) with
  |true=>rw[hc] at h;cases h
  |false=>rfl
 ·rfl
def HS (o:GateObject) (A:Option Addr) (z c:Nat):List D:=[.str o.kind,.str o.name,.str o.team,.raw (.slice A z c),.bool o.ending,lS o.holds,.int .i64 o.version]
def HR (o:GateObject) (A:Option Addr) (z c:Nat) (A2:Option Addr) (z2 c2:Nat):List D:=[.str o.kind,.str o.name,.str o.team,.raw (.slice A z c),.bool o.ending,.raw (.slice A2 z2 c2),.int .i64 o.version]
theorem EZ (p:Int×List GateObject) (m:Int) (i:Nat):((ge p m).2[i]?).map GateObject.values=(p.2[i]?).map GateObject.values:=by
 unfold ge
 cases h:p.2[m.toNat]? with
 |none=>rfl
 |some o=>
  simp only[QaI];split
  ·rename_i e
   subst e;rw[h];split<;>simp_all [qE]
  ·rfl
theorem wq:∀(ms:List Int) (p:Int×List GateObject) (i:Nat),((gc p ms).2[i]?).map GateObject.values=(p.2[i]?).map GateObject.values
 |[],p,i=>rfl
 |m::ms,p,i=>(wq ms (ge p m) i).trans (EZ p m i)
theorem EY {L:GateLaw} {b:GateBook} (h:∀o∈b.objects,o.values.length≤big):∀i (hi:i<(bv L b).objects.length),(bv L b).objects[i].values.length≤big:=fun i hi=>by
 have hi':i<b.objects.length:=by rw[←lX L b];exact hi
 have:=wq (aI L b) (b.now,b.objects) i;rw[show (gc (b.now,b.objects) (aI L b)).2=(bv L b).objects from rfl,Qac hi,Qac hi'] at this;simp only[Option.map_some,Option.some.injEq] at this;rw[this];exact h _ (Qap hi')
theorem bne_eq_true_iff {a b:Bs}:(a !=b)=true↔(a==b)=false:=by unfold bne;cases a==b<;>simp
theorem bne_eq_false_iff {a b:Bs}:(a !=b)=false↔(a==b)=true:=by unfold bne;cases a==b<;>simp
theorem ID (f g:Nat→Option Nat) (l:List Int):eC f (eC g (l.map nk))=l.map nk:=by rw[pY,pY]
theorem IE (os:List GateObject) (f g:Nat→Option Nat) (l:List Int):eC f (eC g (l.map (np os)))=l.map (np os):=by rw[pZ,pZ]
theorem Kg (f g e:Nat→Option Nat) (l:List Int):eC f (eC g (eC e (l.map nk)))=l.map nk:=by rw[pY,pY,pY]
theorem Kh (os:List GateObject) (f g e:Nat→Option Nat) (l:List Int):eC f (eC g (eC e (l.map (np os))))=l.map (np os):=by rw[pZ,pZ,pZ]
theorem J1 (C:Prop) {G A B A' B':Prop} (a:(C→G)→A'→A) (b:(C→G)→B'→B) (g:C→G):(A'→A)∧(B'→B):=⟨a g,b g⟩
theorem ws {L:GateLaw} {b:GateBook} (h:(aI L b).length=0):bv L b=b:=by
 unfold bv;rw[List.length_eq_zero_iff.1 h];rfl
def ud (L:GateLaw) (os:List GateObject) (gs:List Int) (ls:List GateLedger):List GateLedger:=gs.foldl (fun ls x=>match os[x.toNat]? with|some o=>rl L o ls|none=>ls) ls
theorem CC {L:GateLaw} {os:List GateObject} {gs:List Int} {ls:List GateLedger} {q k:Nat} (h:q<gs.length) (hk:k<os.length) (e:gs[q]=(k:Int)):ud L os (gs.take (q+1)) ls=rl L os[k] (ud L os (gs.take q) ls):=by
 unfold ud;rw[Qah h,Qa3,e];simp only[Qb,List.foldl_nil,Qas,Qac hk]
theorem wK {L:GateLaw} (objs:List GateObject):∀(os:List GateObject) (vs:List Bool) (i:Nat) (ls:List GateLedger),objs.drop i=os→vs.length=os.length→ud L objs (ao (fun v=>v) vs i) ls=oY L os vs ls
 |[],[],i,ls,_,_=>rfl
 |o::os,w::vs,i,ls,h,hl=>by
  have hi:i<objs.length:=by
   rcases Nat.lt_or_ge i objs.length with h1|h1
   ·exact h1
   ·rw[Qai h1] at h;cases h
  rw[Qab hi] at h;have ih:=fun ls=>wK (L:=L) objs os vs (i+1) ls (List.cons.inj h).2 (by simpa using hl);have ho:=(List.cons.inj h).1;cases w
  ·simp only[ao,cond_false,oY];exact ih ls
  ·simp only[ao,cond_true,oY]
   rw[←ih];simp only[ud,Qb,Qas,Qac hi,ho]
structure KF where
 now:Int
 r:List GateObject
 R:List (List D)
structure StJ (L:GateLaw) (B:GateBook) (inn:List Bool) (SR:Int×List GateObject) (i:Nat) (s:KF):Prop where
 st:eO L B.objects inn (B.objects.drop i) (inn.drop i) s.now s.r=SR
 r:s.r.length≤i
 len:s.R.length=B.objects.length
 old:∀j (h:j<B.objects.length),i≤j→s.R[j]? =some (GateObject.e B.objects[j])
section
variable {L:GateLaw} {B:GateBook} {inn:List Bool} {SR:Int×List GateObject} {i:Nat} {s:KF}
theorem StJ.go (J:StJ L B inn SR i s) (h:i<B.objects.length) (h2:i<inn.length) (hv:inn[i]=true):StJ L B inn SR (i+1) s:=
 ⟨by rw[←J.st,vZ h h2 hv],Nat.le_succ_of_le J.r,J.len,fun j hj hi=>J.old j hj (by omega)⟩
theorem rJ {R:List (List D)} {r1 r2:List D} (hl:R.length=B.objects.length) (ho:∀j (h:j<B.objects.length),i≤j→R[j]? =some (GateObject.e B.objects[j])):
 ((R.set i r1).set i r2).length=B.objects.length∧∀j (h:j<B.objects.length),i+1≤j→((R.set i r1).set i r2)[j]? =some (GateObject.e B.objects[j]):=by
 refine ⟨by simp[hl],fun j hj hi=>?_⟩;rw[QaU (by omega),QaU (by omega)];exact ho j hj (by omega)
theorem StJ.turn {r1 r2:List D} (J:StJ L B inn SR i s) (h:i<B.objects.length) (h2:i<inn.length) (hv:inn[i]=false) (he:(cF L B.objects inn B.objects[i]).2=true):
 StJ L B inn SR (i+1) ⟨bR s.now 1,s.r++[{B.objects[i] with values:=(cF L B.objects inn B.objects[i]).1,version:=bR s.now 1}],(s.R.set i r1).set i r2⟩:=
 ⟨by rw[←J.st,sO h h2 hv he],by have:=J.r;simp only[Qad,Qae,Qaf];omega,(rJ J.len J.old).1,(rJ J.len J.old).2⟩
theorem StJ.same {r1 r2:List D} (J:StJ L B inn SR i s) (h:i<B.objects.length) (h2:i<inn.length) (hv:inn[i]=false) (he:(cF L B.objects inn B.objects[i]).2=false):
 StJ L B inn SR (i+1) ⟨s.now,s.r++[{B.objects[i] with values:=(cF L B.objects inn B.objects[i]).1}],(s.R.set i r1).set i r2⟩:=
 ⟨by rw[←J.st,sP h h2 hv he],by have:=J.r;simp only[Qad,Qae,Qaf];omega,(rJ J.len J.old).1,(rJ J.len J.old).2⟩
end
set_option maxHeartbeats 8000000 in
theorem AT (L:GateLaw) (b:GateBook):HSpec P 38 [st L.e,st b.e] hp0 (.tup [.agg (bx L b).1.a,.d (.int .i64 (bx L b).2)]) ⟨(bx L b).1.o,4,0⟩:=by
 refine vL cd aA [.cell 4 48,.tmp 5] Tryz.func38 rfl rfl rfl rfl (fun hok=>?_)
 cases hb:eW L b with
 |false=>
  rw[show bx L b=(nilBk,1) from by unfold bx;rw[hb];rfl];repeat first|refine ai ?_|refine ug ?_|refine rg ?_
  refine oc (pc L b) ?_;rw[hb];repeat first|refine ai ?_|refine ug ?_|refine rg ?_
  refine ay ?_;repeat first|refine ai ?_|refine ug ?_|refine rg ?_
  exact ⟨[none,none,none,none],by repeat' first|exact rfl|exact trivial|refine aj ?_ ?_⟩
 |true=>
  have hu:=wW hb;have hbo:=(bC hok.2).1;repeat first|refine ai ?_|refine ug ?_|refine rg ?_
  refine oc (pc L b) ?_;rw[hb];repeat first|refine ai ?_|refine ug ?_|refine rg ?_
  refine an ?_;repeat first|refine ai ?_|refine ug ?_|refine rg ?_
  refine ow (t9 b) ?_;repeat first|refine ai ?_|refine ug ?_|refine rg ?_
  refine ov (GR L b) ?_;have hml:(aI L b).length≤b.objects.length:=by unfold aI;exact iZ _ _
  have hsm:(aI L b).length≤big:=by omega
  repeat first|refine ai ?_|refine ug ?_|refine rg ?_
  apply J1 (((aI L b).length==0&&(IK L (bv L b)).length==0)=false)
  ·intro key h1
   repeat first|refine ai ?_|refine ug ?_|refine rg ?_
   refine ov (DG L b) ?_;repeat first|refine ai ?_|refine ug ?_|refine rg ?_
   refine aj ?_ ?_<;>intro h2
   ·have h1:(aI L b).length=0:=by
     have h1:((((aI L b).map eN).length:Nat):Int)=0:=beq_iff_eq.1 h1;rw[Qaa] at h1;omega
    have h2:(IK L b).length=0:=by
     have h2:((((IK L b).map eN).length:Nat):Int)=0:=beq_iff_eq.1 h2;rw[Qaa] at h2;omega
    rw[show bx L b=(b,2) from by unfold bx;rw[hb,ws h1,h1,h2];rfl];repeat first|refine ai ?_|refine ug ?_|refine rg ?_
    exact ⟨[some 3,some 4,some 5,some 6],by repeat' first|exact rfl|exact trivial|refine aj ?_ ?_⟩
   ·repeat first|refine ai ?_|refine rg ?_
    refine .weak [(2,.ptr 0 0),(3,.ptr 1 0),(4,.ptr 2 0),(6,.ptr 7 0),(7,.own 8)] ⟨[(8,.tree 3 1 [.leaf] ((aI L b).map eN)),(7,kL b 3 4 5 6),(3,Ef b),(4,C4 b),(5,C3 b),(6,C2 b),(2,.cells 48 Ix),(1,.cells 48 (b.e.map .d)),(0,.cells 41 (L.e.map .d))],10,0⟩ (by repeat' first|exact rfl|exact trivial|refine aj ?_ ?_) ?_
    exact key (by
     have h1:(aI L b).length=0:=by
      have h1:((((aI L b).map eN).length:Nat):Int)=0:=beq_iff_eq.1 h1;rw[Qaa] at h1;omega
     rw[ws h1,h1,beq_self_eq_true,Qam,beq_eq_false_iff_ne];intro e;have h2:¬((((IK L b).map eN).length:Nat):Int)=0:=beq_eq_false_iff_ne.1 h2;rw[Qaa,e] at h2;exact h2 rfl)
  ·intro key h1
   repeat first|refine ai ?_|refine rg ?_
   refine ug ?_;refine .weak [(2,.ptr 0 0),(3,.ptr 1 0),(4,.ptr 2 0),(6,.ptr 7 0),(7,.own 8)] ⟨[(8,.tree 3 1 [.leaf] ((aI L b).map eN)),(7,kL b 3 4 5 6),(3,Ef b),(4,C4 b),(5,C3 b),(6,C2 b),(2,.cells 48 Ix),(1,.cells 48 (b.e.map .d)),(0,.cells 41 (L.e.map .d))],10,0⟩ (by repeat' first|exact rfl|exact trivial|refine aj ?_ ?_) ?_
   exact key (by
    have h1:¬((((aI L b).map eN).length:Nat):Int)=0:=beq_eq_false_iff_ne.1 h1;rw[Qaa] at h1;rw[beq_eq_false_iff_ne.2 (fun e=>h1 (by omega)),Qav])
  ·intro hne
   repeat first|refine ai ?_|refine ug ?_|refine rg ?_
   repeat first|refine ai ?_|refine ug ?_|refine rg ?_
   refine kO (aI L b) (fun q (p:Int×List GateObject)=>gc (b.now,b.objects) ((aI L b).take q)=p) (fun q (p:Int×List GateObject)=>[(2,.ptr 0 0),(3,.ptr 1 0),(4,.ptr 2 0),(6,.ptr 7 0),(45,.own 8),(46,.d (.int .i64 ((aI L b).map eN).length)),(47,.d (.int .i64 q))]) (fun q (p:Int×List GateObject)=>⟨[(8,.tree 3 1 [.leaf] ((aI L b).map eN)),(7,kL (DU b p) 3 4 5 6),(3,Ef (DU b p)),(4,C4 (DU b p)),(5,C3 (DU b p)),(6,C2 (DU b p)),(2,.cells 48 Ix),(1,.cells 48 (b.e.map .d)),(0,.cells 41 (L.e.map .d))],10,0⟩) ((show gc (b.now,b.objects) ((aI L b).take 0)=(b.now,b.objects) from rfl)) ?_;intro q p hq hr;repeat first|refine ai ?_|refine ug ?_|refine rg ?_
   refine aj ?_ ?_<;>intro h1
   ·have hlt:q<(aI L b).length:=U h1
    obtain ⟨k,ek,hk⟩:=m6 (p:=ib L b) (xs:=b.objects) hlt;have hs2:gc (b.now,b.objects) ((aI L b).take (q+1))=ge (gc (b.now,b.objects) ((aI L b).take q)) (k:Int):=by rw[tI hlt];exact congrArg _ ek
    have hpl:=pX (b.now,b.objects) ((aI L b).take q);rw[hr] at hs2 hpl;have ek:(aI L b)[((q:Nat):Int).toNat]'hlt=(k:Int):=ek;have hk':k<p.2.length:=by rw[hpl];exact hk
    rw[show p=(p.1,p.2) from rfl,AA hk'] at hs2;repeat first|refine ai ?_|refine ug ?_|refine rg ?_
    refine dm (e:=eN) (xs:=aI L b) hlt ?_;repeat first|refine ai ?_|refine ug ?_|refine rg ?_
    refine fu (e:=eN) (xs:=aI L b) hlt ?_;repeat first|refine ai ?_|refine ug ?_|refine rg ?_
    rw[ek];refine dm (e:=GateObject.e) (xs:=p.2) hk' ?_;repeat first|refine ai ?_|refine ug ?_|refine rg ?_
    refine ⟨_,ri hk',QaB rfl,?_⟩;repeat first|refine ai ?_|refine ug ?_|refine rg ?_
    refine aj (Qax _) (aj (by rw[QaM,Qaa];exact Int.ofNat_lt.2 hk') ?_);repeat first|refine ai ?_|refine ug ?_|refine rg ?_
    refine ⟨_,Qaz (by rw[Qaa];exact hk'),Qak _,?_⟩;repeat first|refine ai ?_|refine ug ?_|refine rg ?_
    exact cH (bR p.1 1,p.2.set k (qE p.2[k] (bR p.1 1))) hlt hsm hs2 fun hw=>by repeat' first|exact rfl|exact trivial|exact nd hw|exact bM (wo hk' rfl rfl)|refine aj ?_ ?_
   ·rw[Qao (V h1)] at hr
    rw[show DU b p=bv L b from by rw[←hr];rfl];have hul:=vX (L:=L) hu;have hvl:=EY (L:=L) (b:=b) (fun o ho=>(rK (b:=b) ⟨hok.2.1,trivial⟩ ho).1);have hll:=lX L b;have hsw:bx L b=bif decide ((iH L (bv L b)).now>1000000) then (b,3) else (iH L (bv L b),0):=by unfold bx;rw[hb,hne];rfl
    rw[←hll] at hbo hml;repeat first|refine ai ?_|refine ug ?_|refine rg ?_
    refine ov (DG L (bv L b)) ?_;unfold iH zH o4 at hsw;clear hr h1;clear p;generalize bv L b=B at*;have hil:(Fw L B (B.objects.map GateObject.ending)).length=B.objects.length:=AM L B;generalize Fw L B (B.objects.map GateObject.ending)=inn at*;have hgl:(ao (fun v=>v) inn 0).length≤big:=by have:=iZ (p:=fun v=>v) inn 0;omega
    have hat:∀(q:Nat) (h:q<(ao (fun v=>v) inn 0).length),∃k:Nat,(ao (fun v=>v) inn 0)[q]=(k:Int)∧k<B.objects.length:=fun q h=>by
     obtain ⟨k,e,h⟩:=m6 h;exact ⟨k,e,by omega⟩
    have hpk:=fun (q:Nat) (h:q<(ao (fun v=>v) inn 0).length)=>Kb hul hil h;have hpu:=fun (q:Nat) (h:q<(ao (fun v=>v) inn 0).length)=>K6 (jh inn 0) h;have hlv:=fun (i:Nat) (h:i<inn.length)=>Cg h;have hlg:=fun (t v:Bs)=>E4 hil t v;have hfr:=wK (L:=L) B.objects B.objects inn 0 B.ledgers rfl hil;generalize ao (fun v=>v) inn 0=gs at*;obtain ⟨LR,hLR⟩:∃LR,oY L B.objects inn B.ledgers=LR:=⟨_,rfl⟩;obtain ⟨SR,hSR⟩:∃SR,eO L B.objects inn B.objects inn B.now []=SR:=⟨_,rfl⟩;rw[hLR] at hfr hsw;rw[hSR] at hsw;repeat first|refine ai ?_|refine ug ?_|refine rg ?_
    repeat first|refine ai ?_|refine ug ?_|refine rg ?_
    refine kO (gs) (fun q (ls:List GateLedger)=>ud L B.objects (gs.take q) B.ledgers=ls) (fun q (ls:List GateLedger)=>[(2,.ptr 0 0),(3,.ptr 1 0),(4,.ptr 2 0),(6,.ptr 7 0),(10,.ptr 11 0),(11,.mapr 12),(72,.own 13),(73,.d (.int .i64 (gs.map eN).length)),(74,.d (.int .i64 q))]) (fun q (ls:List GateLedger)=>⟨[(13,.tree 3 1 [.leaf] (gs.map eN)),(12,.map 127 (.int .i64) ((gs.take q).map nk)),(11,.cells 126 [.mapr 10]),(10,.map 126 .pair ((gs.take q).map (np B.objects))),(7,kL (vJ B B.now ls) 3 4 5 6),(3,Ef (vJ B B.now ls)),(4,C4 (vJ B B.now ls)),(5,C3 (vJ B B.now ls)),(6,C2 (vJ B B.now ls)),(2,.cells 48 Ix),(1,.cells 48 (b.e.map .d)),(0,.cells 41 (L.e.map .d))],14,0⟩) ((show ud L B.objects (gs.take 0) B.ledgers=B.ledgers from rfl)) ?_ (by repeat' first|exact rfl|exact trivial|exact Du _ _|exact Dv _ _ _|refine aj ?_ ?_);intro q ls hq hr;repeat first|refine ai ?_|refine ug ?_|refine rg ?_
    refine aj ?_ ?_<;>intro h2
    ·have hlt:q<gs.length:=U h2
     obtain ⟨k,ek,hk⟩:=hat q hlt;have hpk:=hpk q hlt;have hpu:=hpu q hlt;rw[ek,rM hk] at hpk;rw[ek] at hpu;have hfs:=CC (L:=L) (ls:=B.ledgers) hlt hk ek;rw[hr] at hfs;have ek:gs[((q:Nat):Int).toNat]'hlt=(k:Int):=ek;repeat first|refine ai ?_|refine ug ?_|refine rg ?_
     refine dm (e:=eN) (xs:=gs) hlt ?_;repeat first|refine ai ?_|refine ug ?_|refine rg ?_
     refine fu (e:=eN) (xs:=gs) hlt ?_;repeat first|refine ai ?_|refine ug ?_|refine rg ?_
     refine ak ?_;repeat first|refine ai ?_|refine ug ?_|refine rg ?_
     rw[ek];refine dm (e:=GateObject.e) (xs:=B.objects) hk ?_;repeat first|refine ai ?_|refine ug ?_|refine rg ?_
     refine fu (e:=GateObject.e) (xs:=B.objects) hk ?_;repeat first|refine ai ?_|refine ug ?_|refine rg ?_
     refine La (Jo B.objects[k]) (by repeat' first|exact rfl|exact trivial|exact aj rfl (Qaj _ (aj (ri hk) rfl))|exact Qaj _ (aj rfl rfl)|exact Qaj _ rfl|refine Qaj _ (Qaj _ (aj rfl (aj ?_ ?_)))|refine Qaj _ (aj rfl ?_)) ?_;repeat first|refine ai ?_|refine ug ?_|refine rg ?_
     refine ak ?_;repeat first|refine ai ?_|refine ug ?_|refine rg ?_
     refine dm (e:=GateObject.e) (xs:=B.objects) hk ?_;repeat first|refine ai ?_|refine ug ?_|refine rg ?_
     refine fu (e:=GateObject.e) (xs:=B.objects) hk ?_;repeat first|refine ai ?_|refine ug ?_|refine rg ?_
     refine on [7,3,4,5,6] none (Ij L (vJ B B.now ls) k hk) ?_;repeat first|refine ai ?_|refine ug ?_|refine rg ?_
     exact cH (rl L B.objects[k] ls) hlt hgl hfs fun hw=>by repeat' first|exact rfl|exact trivial|exact nd hw|exact Du _ _|exact Dv _ _ _|exact cU ((congrArg (eC _) hpk).trans (pZ _ _ _))|exact cU ((congrArg (eC _) hpu).trans (pY _ _))|refine aj ?_ ?_
    ·rw[Qao (V h2)] at hr
     rw[Qao (V h2)];rw[hfr] at hr;subst hr;have hsi:B.objects.length≤big:=hbo;repeat first|refine ai ?_|refine ug ?_|refine rg ?_
     repeat first|refine ai ?_|refine ug ?_|refine rg ?_
     refine kO (B.objects) (fun i (s:KF)=>StJ L B inn SR i s) (fun i (s:KF)=>[(2,.ptr 0 0),(3,.ptr 1 0),(4,.ptr 2 0),(6,.ptr 7 0),(10,.ptr 11 0),(11,.mapr 12),(14,.own 14),(98,.own 3),(99,.d (.int .i64 (B.objects.map GateObject.e).length)),(100,.d (.int .i64 i))]) (fun i (s:KF)=>⟨[(14,.tree 103 7 GateObject.n (s.r.map GateObject.e)),(12,.map 127 (.int .i64) (gs.map nk)),(11,.cells 126 [.mapr 10]),(10,.map 126 .pair (gs.map (np B.objects))),(7,kL (vJ B s.now LR) 3 4 5 6),(3,.tree 103 7 GateObject.n s.R),(4,C4 (vJ B s.now LR)),(5,C3 (vJ B s.now LR)),(6,C2 (vJ B s.now LR)),(2,.cells 48 Ix),(1,.cells 48 (b.e.map .d)),(0,.cells 41 (L.e.map .d))],15,0⟩) ((show StJ L B inn SR 0 ⟨B.now,[],B.objects.map GateObject.e⟩ from ⟨hSR,Qak _,Qaa _,fun j h _=>ri h⟩)) ?_ (by repeat' first|exact rfl|exact trivial|exact Du _ _|exact Dv _ _ _|refine aj ?_ ?_);intro i s hi hr;repeat first|refine ai ?_|refine ug ?_|refine rg ?_
     refine aj ?_ ?_<;>intro h3
     ·have hlt:i<B.objects.length:=U h3
      have hlt2:i<inn.length:=by omega
      repeat first|refine ai ?_|refine ug ?_|refine rg ?_
      refine aj (Qax _) (aj (by rw[hr.len];exact Int.ofNat_lt.2 hlt) ?_);repeat first|refine ai ?_|refine ug ?_|refine rg ?_
      refine ⟨_,hr.old i hlt (Qak i),?_⟩;repeat first|refine ai ?_|refine ug ?_|refine rg ?_
      have hlvi:=hlv i hlt2
      cases hv:inn[i] with
      |true=>
       rw[hv,cond_true] at hlvi;refine ⟨_,hlvi,?_⟩;repeat first|refine ai ?_|refine ug ?_|refine rg ?_
       exact cH s hlt hsi (hr.go hlt hlt2 hv) fun hw=>by repeat' first|exact rfl|exact trivial|exact nd hw|exact Du _ _|exact Dv _ _ _|refine aj ?_ ?_
      |false=>
       rw[hv,cond_false] at hlvi;refine ⟨_,hlvi,?_⟩;repeat first|refine ai ?_|refine rg ?_
       refine ug ?_;repeat first|refine ai ?_|refine rg ?_
       refine ug ?_;repeat first|refine ai ?_|refine rg ?_
       refine ug ?_;repeat first|refine ai ?_|refine rg ?_
       refine Lq 15 3 ⟨rfl,_,_,hr.old i hlt (Qak i),rfl,?_⟩;intro A1 z1 c1;refine Lq 15 5 ⟨rfl,_,_,Qaz (by rw[hr.len];exact hlt),rfl,?_⟩;intro A2 z2 c2;repeat first|refine ai ?_|refine ug ?_|refine rg ?_
       refine om [18,19] none (G2 L B.objects[i]) ?_;repeat first|refine ai ?_|refine ug ?_|refine rg ?_
       refine ⟨_,_,⟨_,Tryz.func165,rfl,rfl,rfl,rfl⟩,rfl,fun y=>?_⟩;repeat first|refine ai ?_|refine ug ?_|refine rg ?_
       refine oe ((fun g=>HT (AR L.shapes B.objects[i] g 18 19) (by repeat' first|refine List.cons_eq_cons.2 ⟨?_,?_⟩|refine congrArg AV.agg ?_|rfl))) ?_;have hvb:=hvl i hlt;have hrl:=hr.r;have hsame:=fun (r1 r2:List D)=>hr.same (r1:=r1) (r2:=r2) hlt hlt2 hv;have hturn:=fun (r1 r2:List D)=>hr.turn (r1:=r1) (r2:=r2) hlt hlt2 hv;clear hr;generalize ho:B.objects[i]=o at*;repeat first|refine ai ?_|refine ug ?_|refine rg ?_
       refine aj ?_ ?_<;>intro h4
       ·have hf:(af L.shapes o.kind o.values.length).1=[]:=A6 h4
        have he:cF L B.objects inn o=(o.values,false):=by unfold cF;rw[hf];rfl
        rw[he] at hsame;repeat first|refine ai ?_|refine ug ?_|refine rg ?_
        refine aj trivial ?_;repeat first|refine ai ?_|refine ug ?_|refine rg ?_
        refine aj (by simp only[Qad,Qaf,Qae,Qaa];unfold big at*;omega) ?_;repeat first|refine ai ?_|refine ug ?_|refine rg ?_
        exact cH ⟨s.now,s.r++[{o with values:=o.values}],(s.R.set i (HS o A1 z1 c1)).set i (HR o A1 z1 c1 A2 z2 c2)⟩ hlt hsi (hsame _ _ rfl) fun hw=>by repeat' first|exact rfl|exact trivial|exact nd hw|exact bM (by rw[Qal];rfl)|exact Du _ _|exact Dv _ _ _|exact cU (Kg _ _ _ _)|exact cU (Kh _ _ _ _ _)|refine aj ?_ ?_
       ·have hlf:=(cj (xs:=L.shapes) (k:=o.kind) (n:=o.values.length)).1
        obtain ⟨R,hR⟩:∃R,cF L B.objects inn o=R:=⟨_,rfl⟩;have hE:Em (kH B.objects inn) (af L.shapes o.kind o.values.length).1 o.values R 0 [] false:=by rw[←hR];exact Em.start
        generalize (af L.shapes o.kind o.values.length).1=fs at*;have hs:fs.length≤big:=by omega
        repeat first|refine ai ?_|refine ug ?_|refine rg ?_
        repeat first|refine ai ?_|refine ug ?_|refine rg ?_
        refine K9 (fs) (fun k (pre:List Bs) (sm:Bool)=>Em (kH B.objects inn) fs o.values R k pre sm) (fun k (pre:List Bs) (sm:Bool)=>[(0,.val (.func (.yield y) #[] #[])),(1,.ptr 22 0),(2,.ptr 23 0),(17,.d (ad fs)),(18,.d (.int .i64 (fs.map GateField.e).length)),(19,.d (.int .i64 k))]) (fun k (pre:List Bs) (sm:Bool)=>⟨[(23,.cells 103 [.d (.str o.kind),.d (.str o.name),.d (.str o.team),.own 18,.d (.bool o.ending),.own 19,.d (.int .i64 o.version)]),(22,.cells 41 (L.e.map .d)),(18,.tree 9 1 [.leaf] ((pre++o.values.drop k).map eB)),(19,.tree 9 1 [.leaf] (o.holds.map eB)),(17,.cells 4 [.val (.bool sm)]),(15,.cells 103 [.d (.str o.kind),.d (.str o.name),.d (.str o.team),.own 18,.d (.bool o.ending),.own 19,.d (.int .i64 o.version)]),(14,.tree 103 7 GateObject.n (s.r.map GateObject.e)),(12,.map 127 (.int .i64) (gs.map nk)),(11,.cells 126 [.mapr 10]),(10,.map 126 .pair (gs.map (np B.objects))),(7,kL (vJ B s.now LR) 3 4 5 6),(3,.tree 103 7 GateObject.n ((s.R.set i (HS o A1 z1 c1)).set i (HR o A1 z1 c1 A2 z2 c2))),(4,C4 (vJ B s.now LR)),(5,C3 (vJ B s.now LR)),(6,C2 (vJ B s.now LR)),(2,.cells 48 Ix),(1,.cells 48 (b.e.map .d)),(0,.cells 41 (L.e.map .d))],24,24⟩) (hE) ?_ (by repeat' first|exact rfl|exact trivial|exact Du _ _|exact Dv _ _ _|exact cU (pY _ _)|exact cU (pZ _ _ _)|refine aj ?_ ?_);intro k pre sm hk hr;repeat first|refine ai ?_|refine ug ?_|refine rg ?_
        refine aj ?_ ?_<;>intro d1
        ·have hlf1:k<fs.length:=U d1
         have hlf2:k<o.values.length:=by omega
         have hlf3:k<(pre++o.values.drop k).length:=by rw[uw hr.len hr.le];exact hlf2
         have hg:(pre++o.values.drop k)[k]'hlf3=o.values[k]:=by
          have:=ux hr.len hlf2;rw[QaJ,Qac hlf3] at this;exact List.cons.inj (Option.some.inj this) |>.1 |> D.str.inj
         repeat first|refine ai ?_|refine ug ?_|refine rg ?_
         refine O (e:=GateField.e) (xs:=fs) (hlf1) rfl ?_;repeat first|refine ai ?_|refine ug ?_|refine rg ?_
         repeat first|refine ai ?_|refine ug ?_|refine rg ?_
         refine aj ?_ ?_<;>intro d2
         ·repeat first|refine ai ?_|refine ug ?_|refine rg ?_
          refine dm (e:=eB) (xs:=pre++o.values.drop k) hlf3 ?_;repeat first|refine ai ?_|refine ug ?_|refine rg ?_
          refine fu (e:=eB) (xs:=pre++o.values.drop k) hlf3 ?_;repeat first|refine ai ?_|refine ug ?_|refine rg ?_
          refine aj ?_ ?_<;>intro d3
          ·have d3:(o.values[k]==[])=false:=by rw[←hg];exact bne_eq_true_iff.1 d3
           have hq:kH B.objects inn fs[k] o.values[k]=(fs[k].role==2&&qN B.objects inn fs[k].to_ o.values[k]):=by unfold kH;rw[d2,d3];rfl
           repeat first|refine ai ?_|refine ug ?_|refine rg ?_
           refine akp 15 (.one [0,1,2,3,4,5,6,7,8,9,10,11,12] [] 13 (.one [] [0,1,2,3,4,5,6,7,8,9,10,11,12] 14 (.fin [] [12]))) ?_;repeat first|refine ai ?_|refine ug ?_|refine rg ?_
           refine dm (e:=eB) (xs:=pre++o.values.drop k) hlf3 ?_;repeat first|refine ai ?_|refine ug ?_|refine rg ?_
           refine fu (e:=eB) (xs:=pre++o.values.drop k) hlf3 ?_;repeat first|refine ai ?_|refine ug ?_|refine rg ?_
           rw[show (pre++o.values.drop k)[(k:Int).toNat]'hlf3=o.values[k] from hg];have hlgk:=hlg fs[k].to_ o.values[k]
           cases hgo:qN B.objects inn fs[k].to_ o.values[k] with
           |true=>
            rw[hgo,cond_true] at hlgk;rw[hgo,QaV] at hq;refine ⟨_,hlgk,?_⟩;repeat first|refine ai ?_|refine ug ?_|refine rg ?_
            refine dm (e:=eB) (xs:=pre++o.values.drop k) hlf3 ?_;repeat first|refine ai ?_|refine ug ?_|refine rg ?_
            refine fu (e:=eB) (xs:=pre++o.values.drop k) hlf3 ?_;repeat first|refine ai ?_|refine ug ?_|refine rg ?_
            refine aj (congrArg (fun x=>AV.d (.str x)) hg) ?_;repeat first|refine ai ?_|refine ug ?_|refine rg ?_
            refine ⟨_,hlgk,?_⟩;repeat first|refine ai ?_|refine ug ?_|refine rg ?_
            refine aj ?_ ?_<;>intro d4
            ·repeat first|refine ai ?_|refine ug ?_|refine rg ?_
             refine dm (e:=eB) (xs:=pre++o.values.drop k) hlf3 ?_;repeat first|refine ai ?_|refine ug ?_|refine rg ?_
             refine ⟨_,ri hlf3,Qak _,?_⟩;repeat first|refine ai ?_|refine ug ?_|refine rg ?_
             exact B8 (pre++[[]]) true hlf1 hs (hr.yes hlf1 hlf2 (by rw[hq];exact d4)) fun hw=>by repeat' first|exact rfl|exact trivial|exact nd hw|exact (bM (uv hr.len hlf2 rfl))|exact Du _ _|exact Dv _ _ _|exact cU (pY _ _)|exact cU (pZ _ _ _)|refine aj ?_ ?_
            ·repeat first|refine ai ?_|refine ug ?_|refine rg ?_
             exact B8 (pre++[o.values[k]]) sm hlf1 hs (hr.no hlf1 hlf2 (by rw[hq];exact d4)) fun hw=>by repeat' first|exact rfl|exact trivial|exact nd hw|exact (bM (by rw[df hlf2]))|exact Du _ _|exact Dv _ _ _|exact cU (pY _ _)|exact cU (pZ _ _ _)|refine aj ?_ ?_
           |false=>
            rw[hgo,cond_false] at hlgk;rw[hgo,QaQ] at hq;refine ⟨_,hlgk,?_⟩;repeat first|refine ai ?_|refine ug ?_|refine rg ?_
            refine dm (e:=eB) (xs:=pre++o.values.drop k) hlf3 ?_;repeat first|refine ai ?_|refine ug ?_|refine rg ?_
            refine fu (e:=eB) (xs:=pre++o.values.drop k) hlf3 ?_;repeat first|refine ai ?_|refine ug ?_|refine rg ?_
            refine aj (congrArg (fun x=>AV.d (.str x)) hg) ?_;repeat first|refine ai ?_|refine ug ?_|refine rg ?_
            refine ⟨_,hlgk,?_⟩;repeat first|refine ai ?_|refine ug ?_|refine rg ?_
            exact B8 (pre++[o.values[k]]) sm hlf1 hs (hr.no hlf1 hlf2 hq) fun hw=>by repeat' first|exact rfl|exact trivial|exact nd hw|exact (bM (by rw[df hlf2]))|exact Du _ _|exact Dv _ _ _|exact cU (pY _ _)|exact cU (pZ _ _ _)|refine aj ?_ ?_
          ·have d3:(o.values[k]==[])=true:=by rw[←hg];exact bne_eq_false_iff.1 d3
           repeat first|refine ai ?_|refine ug ?_|refine rg ?_
           exact B8 (pre++[o.values[k]]) sm hlf1 hs (hr.no hlf1 hlf2 (by unfold kH;rw[d2,d3];rfl)) fun hw=>by repeat' first|exact rfl|exact trivial|exact nd hw|exact (bM (by rw[df hlf2]))|exact Du _ _|exact Dv _ _ _|exact cU (pY _ _)|exact cU (pZ _ _ _)|refine aj ?_ ?_
         ·repeat first|refine ai ?_|refine ug ?_|refine rg ?_
          exact B8 (pre++[o.values[k]]) sm hlf1 hs (hr.no hlf1 hlf2 (by unfold kH;rw[d2];rfl)) fun hw=>by repeat' first|exact rfl|exact trivial|exact nd hw|exact (bM (by rw[df hlf2]))|exact Du _ _|exact Dv _ _ _|exact cU (pY _ _)|exact cU (pZ _ _ _)|refine aj ?_ ?_
        ·obtain ⟨e1,e2⟩:=hr.done (V d1)
         rw[hR] at hsame hturn
         cases hsm2:R.2 with
         |true=>
          rw[e1,e2,hsm2];repeat first|refine ai ?_|refine ug ?_|refine rg ?_
          refine aj trivial ?_;repeat first|refine ai ?_|refine ug ?_|refine rg ?_
          refine aj (by simp only[Qad,Qaf,Qae,Qaa];unfold big at*;omega) ?_;repeat first|refine ai ?_|refine ug ?_|refine rg ?_
          exact cH ⟨bR s.now 1,s.r++[{o with values:=R.1,version:=bR s.now 1}],(s.R.set i (HS o A1 z1 c1)).set i (HR o A1 z1 c1 A2 z2 c2)⟩ hlt hsi (hturn _ _ hsm2) fun hw=>by repeat' first|exact rfl|exact trivial|exact nd hw|exact bM (by rw[Qal];rfl)|exact Du _ _|exact Dv _ _ _|exact cU (ID _ _ _)|exact cU (IE _ _ _ _)|refine aj ?_ ?_
         |false=>
          rw[e1,e2,hsm2];repeat first|refine ai ?_|refine ug ?_|refine rg ?_
          refine aj trivial ?_;repeat first|refine ai ?_|refine ug ?_|refine rg ?_
          refine aj (by simp only[Qad,Qaf,Qae,Qaa];unfold big at*;omega) ?_;repeat first|refine ai ?_|refine ug ?_|refine rg ?_
          exact cH ⟨s.now,s.r++[{o with values:=R.1}],(s.R.set i (HS o A1 z1 c1)).set i (HR o A1 z1 c1 A2 z2 c2)⟩ hlt hsi (hsame _ _ hsm2) fun hw=>by repeat' first|exact rfl|exact trivial|exact nd hw|exact bM (by rw[Qal];rfl)|exact Du _ _|exact Dv _ _ _|exact cU (ID _ _ _)|exact cU (IE _ _ _ _)|refine aj ?_ ?_
     ·have hst:=hr.st
      rw[v3 (V h3)] at hst;subst hst;repeat first|refine ai ?_|refine ug ?_|refine rg ?_
      refine aj ?_ ?_<;>intro h4
      ·rw[show bx L b=(b,3) from by rw[hsw,show decide (s.now>1000000)=true from h4];rfl]
       repeat first|refine ai ?_|refine ug ?_|refine rg ?_
       refine ow (t9 b) ?_;repeat first|refine ai ?_|refine ug ?_|refine rg ?_
       exact ⟨[some 15,some 16,some 17,some 18],by repeat' first|exact rfl|exact trivial|refine aj ?_ ?_⟩
      ·rw[hsw,show decide (s.now>1000000)=false from h4,cond_false]
       repeat first|refine ai ?_|refine ug ?_|refine rg ?_
       exact ⟨[some 14,some 4,some 5,some 6],by repeat' first|exact rfl|exact trivial|refine aj ?_ ?_⟩
end Go.Vc
end
section
namespace Go.Vc
theorem yT {α:Type} (f:α→Int):∀xs ys:List α,fm f (xs++ys)=fm f xs+fm f ys
 |[],ys=>by simp[fm]
 |x::xs,ys=>by simp only[QaL,fm,yT f xs ys];omega
theorem DP {α:Type} (f:α→Int):∀(xs:List α) (i:Nat) (h:i<xs.length) (y:α),f y=f xs[i]→fm f (xs.set i y)=fm f xs
 |x::xs,0,_,y,e=>by simp only[QaF,fm];simp only[Qat] at e;omega
 |x::xs,i+1,h,y,e=>by simp only[QaX,fm,DP f xs i (by simpa using h) y (by simpa using e)]
theorem Gr {o o':GateObject} (h:o'.values.length=o.values.length) (h2:o'.holds=o.holds):o'.el=o.el:=by
 unfold GateObject.el;rw[jN (f:=Bv) (fun _=>rfl) o'.values,jN (f:=Bv) (fun _=>rfl) o.values,h,h2]
theorem Gy (p:Int×List GateObject) (m:Int):fm GateObject.el (ge p m).2=fm GateObject.el p.2:=by
 unfold ge
 cases h:p.2[m.toNat]? with
 |none=>rfl
 |some o=>
  obtain ⟨hi,e⟩:=List.getElem?_eq_some_iff.1 h;exact DP _ _ _ hi _ (Gr (by rw[e];rfl) (by rw[e];rfl))
theorem Aw:∀(ms:List Int) (p:Int×List GateObject),fm GateObject.el (gc p ms).2=fm GateObject.el p.2
 |[],p=>rfl
 |m::ms,p=>(Aw ms (ge p m)).trans (Gy p m)
theorem nS (L:GateLaw) (objs:List GateObject) (inn:List Bool):∀(os:List GateObject) (vs:List Bool) (now:Int) (r:List GateObject),fm GateObject.el (eO L objs inn os vs now r).2≤fm GateObject.el r+fm GateObject.el os
 |[],_,now,r=>by simp only[eO,fm];omega
 |o::os,[],now,r=>by have:=cr GateObject.el_nn (o::os);simp only[eO];omega
 |o::os,v::vs,now,r=>by
  have h0:=GateObject.el_nn o;have e1:∀n,({o with values:=(cF L objs inn o).1,version:=n}:GateObject).el=o.el:=fun n=>Gr (DO _ _) rfl;simp only[eO,fm]
  cases v with
  |true=>
   have:=nS L objs inn os vs now r
   simp only[cond_true];omega
  |false=>
   simp only[cond_false]
   cases (cF L objs inn o).2 with
   |true=>
    simp only[cond_true];refine Int.le_trans (nS L objs inn os vs _ _) ?_
    rw[yT];simp only[fm,e1];omega
   |false=>
    simp only[cond_false];refine Int.le_trans (nS L objs inn os vs _ _) ?_;rw[yT];simp only[fm];have:=e1 o.version;omega
theorem FP (L:GateLaw) (b:GateBook):(iH L (bv L b)).el≤b.el:=by
 rw[Lz,Lz];have h1:=Aw (aI L b) (b.now,b.objects);have h2:=nS L (bv L b).objects (o4 L (bv L b)) (bv L b).objects (o4 L (bv L b)) (bv L b).now [];have h3:=AI L (bv L b).objects (o4 L (bv L b)) (bv L b).ledgers;have h4:fm GateObject.el (bv L b).objects=fm GateObject.el b.objects:=h1;have h5:(bv L b).ledgers=b.ledgers:=rfl;rw[h5] at h3;simp only[fm] at h2;show fm GateObject.el (zH L (bv L b)).2+fm GateGrant.el b.grants+((oY L (bv L b).objects (o4 L (bv L b)) (bv L b).ledgers).length:Nat)+b.purses.length≤_;unfold zH;rw[h5];omega
theorem Ej (L:GateLaw) (b:GateBook):(bx L b).1.el≤b.el:=by
 unfold bx
 cases eW L b with
 |false=>exact Gt b
 |true=>
  simp only[cond_true]
  cases ((aI L b).length==0&&(IK L (bv L b)).length==0) with
  |true=>exact Int.le_refl _
  |false=>
   simp only[cond_false]
   cases decide ((iH L (bv L b)).now>1000000) with
   |true=>exact Int.le_refl _
   |false=>exact FP L b
end Go.Vc
end
