/- Part 6 of a proof: Contracts of the functions that the laws bring with them, printed by genlaws.py. Helpers of the contracts' proofs: trees. Pure data of the laws as trees of the call's own, printed by genlaws.py. Contracts of the laws' own functions that make trees, printed by genlaws.py. Purses and ledgers, as pure data; helpers for trees that are read and written in place. Contracts: copies of books, as trees of the call's own. Contracts: a purse goes back, by the implementation. Contracts: copies of books, and a purse that goes back, by the specification. Contracts: a purse that goes back; GateBack. The text -/
import Derived.Test.YteongcjplmbkgaaGreatDoorDwa
import Derived.Test.YteongcjplmbkgaaGreatDoorDwb
import Derived.Test.YteongcjplmbkgaaGreatDoorDwc
import Derived.Test.YteongcjplmbkgaaGreatDoorDwd
import Derived.Test.YteongcjplmbkgaaGreatDoorDwe
set_option linter.unusedVariables false
set_option linter.unusedSimpArgs false
section
namespace Go.Vc
open Go.Proofs
set_option maxRecDepth 100000
def bc (xs:List Bs) (n:Int):Int:=aN (IntKind.i64.wrap (n - ((xs.map eB).length:Int))) fun n=>hZ (fun (s:Bs) n=>IntKind.i64.wrap (n - (s.length:Int))) xs n
theorem xC (xs:List Bs) (n:Int):Spec P 168 [.d (lS xs),.d (.int .i64 n)] (.d (.int .i64 (aN (IntKind.i64.wrap (n - ((xs.map eB).length:Int))) fun n=>hZ (fun (s:Bs) n=>IntKind.i64.wrap (n - (s.length:Int))) xs n))):=by
 refine Spec.of_vc aQ az [.tmp 4] Tryz.func168 rfl rfl rfl rfl (fun hok=>?_)
 have hs:xs.length≤ap:=by have:=hok.1.1;rwa [List.length_map] at this
 refine aj (fun h=>nd (by simp only[aN,h,cond_true,cond_false])) (fun h=>?_)
 simp only[aN,h,cond_true,cond_false]
 refine ⟨fun k l h=>∃(i:Nat) (v:Int),k=xs.length - i∧i≤xs.length∧hZ (fun (s:Bs) n=>IntKind.i64.wrap (n - (s.length:Int))) xs (IntKind.i64.wrap (n - ((xs.map eB).length:Int)))=hZ (fun (s:Bs) n=>IntKind.i64.wrap (n - (s.length:Int))) (xs.drop i) v∧l=[(0,.d (lS xs)),(1,.d (.int .i64 v)),(5,.d (.int .i64 i))]∧h=hp0,
  ⟨_,_,_,⟨0,_,rfl,Nat.zero_le _,rfl,rfl,rfl⟩,rfl,rfl,⟨rfl,rfl,rfl,trivial⟩,trivial,trivial⟩,?_⟩
 rintro k l h1 ⟨i,v,rfl,hi,hr,rfl,rfl⟩
 refine aj ?_ ?_<;>intro h1
 ·have hlt:i<xs.length:=Y h1
  repeat refine ai ?_
  refine O (e:=eB) (xs:=xs) (hlt) rfl ?_
  repeat refine ai ?_
  refine aj ?_ ?_<;>intro h2
  ·refine nd ?_
   rw[hr,bS hlt]
   simp only[aN,h2,cond_true]
  ·refine ⟨_,_,_,⟨i+1,_,rfl,hlt,?_,rfl,rfl⟩,by omega,rfl,rfl,⟨rfl,rfl,nd (V hlt hs),trivial⟩,trivial,trivial⟩
   rw[hr,bS hlt]
   simp only[aN,h2,cond_false]
 ·refine nd ?_
  rw[hr,List.drop_of_length_le (Z h1)];rfl
theorem j6 (xs:List Bs) (n:Int):Spec P 168 [.d (lS xs),.d (.int .i64 n)] (.d (.int .i64 (bc xs n))):=xC xs n
def dG (x:List Int) (n:Int):Int:=aN (IntKind.i64.wrap (n - ((x.map eN).length:Int))) fun n=>n
theorem CX (x:List Int) (n:Int):Spec P 200 [.d (lI x),.d (.int .i64 n)] (.d (.int .i64 (aN (IntKind.i64.wrap (n - ((x.map eN).length:Int))) fun n=>n))):=by
 refine Spec.of_vc aQ az [.tmp 4] Tryz.func200 rfl rfl rfl rfl (fun hok=>?_)
 refine aj (fun h=>nd (by simp only[aN,h,cond_true,cond_false])) (fun h=>nd (by simp only[aN,h,cond_true,cond_false]))
theorem CW (x:List Int) (n:Int):Spec P 200 [.d (lI x),.d (.int .i64 n)] (.d (.int .i64 (dG x n))):=CX x n
def cx (x:GateField) (n:Int):Int:=aN (IntKind.i64.wrap (n - (x.name.length:Int))) fun n=>aN (bc x.words n) fun n=>aN (IntKind.i64.wrap (n - (x.to_.length:Int))) fun n=>aN (IntKind.i64.wrap (n - (x.default_.length:Int))) fun n=>aN (IntKind.i64.wrap (n - (x.weighs.length:Int))) fun n=>n
theorem tz (x:GateField) (n:Int):Spec P 199 [st x.e,.d (.int .i64 n)] (.d (.int .i64 (aN (IntKind.i64.wrap (n - (x.name.length:Int))) fun n=>aN (bc x.words n) fun n=>aN (IntKind.i64.wrap (n - (x.to_.length:Int))) fun n=>aN (IntKind.i64.wrap (n - (x.default_.length:Int))) fun n=>aN (IntKind.i64.wrap (n - (x.weighs.length:Int))) fun n=>n))):=by
 refine Spec.of_vc aQ az [.tmp 4] Tryz.func199 rfl rfl rfl rfl (fun hok=>?_)
 refine aj (fun h=>nd (by simp only[aN,h, *,cond_true,cond_false])) (fun h0=>?_)
 repeat refine ai ?_
 refine oc (j6 _ _) ?_
 refine aj (fun h=>nd (by simp only[aN,h, *,cond_true,cond_false])) (fun h1=>?_)
 refine aj (fun h=>nd (by simp only[aN,h, *,cond_true,cond_false])) (fun h2=>?_)
 refine aj (fun h=>nd (by simp only[aN,h, *,cond_true,cond_false])) (fun h3=>?_)
 refine aj (fun h=>nd (by simp only[aN,h, *,cond_true,cond_false])) (fun h4=>?_)
 exact nd (by simp only[aN, *,cond_true,cond_false])
theorem tq (x:GateField) (n:Int):Spec P 199 [st x.e,.d (.int .i64 n)] (.d (.int .i64 (cx x n))):=tz x n
def d6 (xs:List GateField) (n:Int):Int:=aN (IntKind.i64.wrap (n - ((xs.map GateField.e).length:Int))) fun n=>hZ cx xs n
theorem qY (xs:List GateField) (n:Int):Spec P 167 [.d (ac xs),.d (.int .i64 n)] (.d (.int .i64 (aN (IntKind.i64.wrap (n - ((xs.map GateField.e).length:Int))) fun n=>hZ cx xs n))):=by
 refine Spec.of_vc aQ az [.tmp 4] Tryz.func167 rfl rfl rfl rfl (fun hok=>?_)
 have hs:xs.length≤ap:=by have:=hok.1.1;rwa [List.length_map] at this
 refine aj (fun h=>nd (by simp only[aN,h,cond_true,cond_false])) (fun h=>?_)
 simp only[aN,h,cond_true,cond_false]
 refine ⟨fun k l h=>∃(i:Nat) (v:Int),k=xs.length - i∧i≤xs.length∧hZ cx xs (IntKind.i64.wrap (n - ((xs.map GateField.e).length:Int)))=hZ cx (xs.drop i) v∧l=[(0,.d (ac xs)),(1,.d (.int .i64 v)),(5,.d (.int .i64 i))]∧h=hp0,
  ⟨_,_,_,⟨0,_,rfl,Nat.zero_le _,rfl,rfl,rfl⟩,rfl,rfl,⟨rfl,rfl,rfl,trivial⟩,trivial,trivial⟩,?_⟩
 rintro k l h1 ⟨i,v,rfl,hi,hr,rfl,rfl⟩
 refine aj ?_ ?_<;>intro h1
 ·have hlt:i<xs.length:=Y h1
  repeat refine ai ?_
  refine O (e:=GateField.e) (xs:=xs) (hlt) rfl ?_
  repeat refine ai ?_
  refine oc (tq _ _) ?_
  refine aj ?_ ?_<;>intro h2
  ·refine nd ?_
   rw[hr,bS hlt]
   simp only[aN,h2,cond_true]
  ·refine ⟨_,_,_,⟨i+1,_,rfl,hlt,?_,rfl,rfl⟩,by omega,rfl,rfl,⟨rfl,rfl,nd (V hlt hs),trivial⟩,trivial,trivial⟩
   rw[hr,bS hlt]
   simp only[aN,h2,cond_false]
 ·refine nd ?_
  rw[hr,List.drop_of_length_le (Z h1)];rfl
theorem qS (xs:List GateField) (n:Int):Spec P 167 [.d (ac xs),.d (.int .i64 n)] (.d (.int .i64 (d6 xs n))):=qY xs n
def cu (x:GateShape) (n:Int):Int:=aN (IntKind.i64.wrap (n - (x.kind.length:Int))) fun n=>aN (d6 x.fields n) fun n=>n
theorem tt (x:GateShape) (n:Int):Spec P 107 [st x.e,.d (.int .i64 n)] (.d (.int .i64 (aN (IntKind.i64.wrap (n - (x.kind.length:Int))) fun n=>aN (d6 x.fields n) fun n=>n))):=by
 refine Spec.of_vc aQ az [.tmp 4] Tryz.func107 rfl rfl rfl rfl (fun hok=>?_)
 refine aj (fun h=>nd (by simp only[aN,h, *,cond_true,cond_false])) (fun h0=>?_)
 repeat refine ai ?_
 refine oc (qS _ _) ?_
 refine aj (fun h=>nd (by simp only[aN,h, *,cond_true,cond_false])) (fun h1=>?_)
 exact nd (by simp only[aN, *,cond_true,cond_false])
theorem tg (x:GateShape) (n:Int):Spec P 107 [st x.e,.d (.int .i64 n)] (.d (.int .i64 (cu x n))):=tt x n
def cB (xs:List GateShape) (n:Int):Int:=aN (IntKind.i64.wrap (n - ((xs.map GateShape.e).length:Int))) fun n=>hZ cu xs n
theorem qT (xs:List GateShape) (n:Int):Spec P 39 [.d (ab xs),.d (.int .i64 n)] (.d (.int .i64 (aN (IntKind.i64.wrap (n - ((xs.map GateShape.e).length:Int))) fun n=>hZ cu xs n))):=by
 refine Spec.of_vc aQ az [.tmp 4] Tryz.func39 rfl rfl rfl rfl (fun hok=>?_)
 have hs:xs.length≤ap:=by have:=hok.1.1;rwa [List.length_map] at this
 refine aj (fun h=>nd (by simp only[aN,h,cond_true,cond_false])) (fun h=>?_)
 simp only[aN,h,cond_true,cond_false]
 refine ⟨fun k l h=>∃(i:Nat) (v:Int),k=xs.length - i∧i≤xs.length∧hZ cu xs (IntKind.i64.wrap (n - ((xs.map GateShape.e).length:Int)))=hZ cu (xs.drop i) v∧l=[(0,.d (ab xs)),(1,.d (.int .i64 v)),(5,.d (.int .i64 i))]∧h=hp0,
  ⟨_,_,_,⟨0,_,rfl,Nat.zero_le _,rfl,rfl,rfl⟩,rfl,rfl,⟨rfl,rfl,rfl,trivial⟩,trivial,trivial⟩,?_⟩
 rintro k l h1 ⟨i,v,rfl,hi,hr,rfl,rfl⟩
 refine aj ?_ ?_<;>intro h1
 ·have hlt:i<xs.length:=Y h1
  repeat refine ai ?_
  refine O (e:=GateShape.e) (xs:=xs) (hlt) rfl ?_
  repeat refine ai ?_
  refine oc (tg _ _) ?_
  refine aj ?_ ?_<;>intro h2
  ·refine nd ?_
   rw[hr,bS hlt]
   simp only[aN,h2,cond_true]
  ·refine ⟨_,_,_,⟨i+1,_,rfl,hlt,?_,rfl,rfl⟩,by omega,rfl,rfl,⟨rfl,rfl,nd (V hlt hs),trivial⟩,trivial,trivial⟩
   rw[hr,bS hlt]
   simp only[aN,h2,cond_false]
 ·refine nd ?_
  rw[hr,List.drop_of_length_le (Z h1)];rfl
theorem qN (xs:List GateShape) (n:Int):Spec P 39 [.d (ab xs),.d (.int .i64 n)] (.d (.int .i64 (cB xs n))):=qT xs n
def cQ (x:GateMend) (n:Int):Int:=aN (IntKind.i64.wrap (n - (x.kind.length:Int))) fun n=>aN (IntKind.i64.wrap (n - (x.field.length:Int))) fun n=>aN (IntKind.i64.wrap (n - (x.when_.length:Int))) fun n=>aN (IntKind.i64.wrap (n - (x.is_.length:Int))) fun n=>aN (IntKind.i64.wrap (n - (x.put.length:Int))) fun n=>aN (IntKind.i64.wrap (n - (x.from_.length:Int))) fun n=>n
theorem vU (x:GateMend) (n:Int):Spec P 108 [st x.e,.d (.int .i64 n)] (.d (.int .i64 (aN (IntKind.i64.wrap (n - (x.kind.length:Int))) fun n=>aN (IntKind.i64.wrap (n - (x.field.length:Int))) fun n=>aN (IntKind.i64.wrap (n - (x.when_.length:Int))) fun n=>aN (IntKind.i64.wrap (n - (x.is_.length:Int))) fun n=>aN (IntKind.i64.wrap (n - (x.put.length:Int))) fun n=>aN (IntKind.i64.wrap (n - (x.from_.length:Int))) fun n=>n))):=by
 refine Spec.of_vc aQ az [.tmp 4] Tryz.func108 rfl rfl rfl rfl (fun hok=>?_)
 refine aj (fun h=>nd (by simp only[aN,h, *,cond_true,cond_false])) (fun h0=>?_)
 refine aj (fun h=>nd (by simp only[aN,h, *,cond_true,cond_false])) (fun h1=>?_)
 refine aj (fun h=>nd (by simp only[aN,h, *,cond_true,cond_false])) (fun h2=>?_)
 refine aj (fun h=>nd (by simp only[aN,h, *,cond_true,cond_false])) (fun h3=>?_)
 refine aj (fun h=>nd (by simp only[aN,h, *,cond_true,cond_false])) (fun h4=>?_)
 refine aj (fun h=>nd (by simp only[aN,h, *,cond_true,cond_false])) (fun h5=>?_)
 exact nd (by simp only[aN, *,cond_true,cond_false])
theorem vQ (x:GateMend) (n:Int):Spec P 108 [st x.e,.d (.int .i64 n)] (.d (.int .i64 (cQ x n))):=vU x n
def dJ (xs:List GateMend) (n:Int):Int:=aN (IntKind.i64.wrap (n - ((xs.map GateMend.e).length:Int))) fun n=>hZ cQ xs n
theorem tw (xs:List GateMend) (n:Int):Spec P 40 [.d (ah xs),.d (.int .i64 n)] (.d (.int .i64 (aN (IntKind.i64.wrap (n - ((xs.map GateMend.e).length:Int))) fun n=>hZ cQ xs n))):=by
 refine Spec.of_vc aQ az [.tmp 4] Tryz.func40 rfl rfl rfl rfl (fun hok=>?_)
 have hs:xs.length≤ap:=by have:=hok.1.1;rwa [List.length_map] at this
 refine aj (fun h=>nd (by simp only[aN,h,cond_true,cond_false])) (fun h=>?_)
 simp only[aN,h,cond_true,cond_false]
 refine ⟨fun k l h=>∃(i:Nat) (v:Int),k=xs.length - i∧i≤xs.length∧hZ cQ xs (IntKind.i64.wrap (n - ((xs.map GateMend.e).length:Int)))=hZ cQ (xs.drop i) v∧l=[(0,.d (ah xs)),(1,.d (.int .i64 v)),(5,.d (.int .i64 i))]∧h=hp0,
  ⟨_,_,_,⟨0,_,rfl,Nat.zero_le _,rfl,rfl,rfl⟩,rfl,rfl,⟨rfl,rfl,rfl,trivial⟩,trivial,trivial⟩,?_⟩
 rintro k l h1 ⟨i,v,rfl,hi,hr,rfl,rfl⟩
 refine aj ?_ ?_<;>intro h1
 ·have hlt:i<xs.length:=Y h1
  repeat refine ai ?_
  refine O (e:=GateMend.e) (xs:=xs) (hlt) rfl ?_
  repeat refine ai ?_
  refine oc (vQ _ _) ?_
  refine aj ?_ ?_<;>intro h2
  ·refine nd ?_
   rw[hr,bS hlt]
   simp only[aN,h2,cond_true]
  ·refine ⟨_,_,_,⟨i+1,_,rfl,hlt,?_,rfl,rfl⟩,by omega,rfl,rfl,⟨rfl,rfl,nd (V hlt hs),trivial⟩,trivial,trivial⟩
   rw[hr,bS hlt]
   simp only[aN,h2,cond_false]
 ·refine nd ?_
  rw[hr,List.drop_of_length_le (Z h1)];rfl
theorem to (xs:List GateMend) (n:Int):Spec P 40 [.d (ah xs),.d (.int .i64 n)] (.d (.int .i64 (dJ xs n))):=tw xs n
def cP (x:GateTeam) (n:Int):Int:=aN (IntKind.i64.wrap (n - (x.name.length:Int))) fun n=>aN (IntKind.i64.wrap (n - (x.over.length:Int))) fun n=>n
theorem vS (x:GateTeam) (n:Int):Spec P 109 [st x.e,.d (.int .i64 n)] (.d (.int .i64 (aN (IntKind.i64.wrap (n - (x.name.length:Int))) fun n=>aN (IntKind.i64.wrap (n - (x.over.length:Int))) fun n=>n))):=by
 refine Spec.of_vc aQ az [.tmp 4] Tryz.func109 rfl rfl rfl rfl (fun hok=>?_)
 refine aj (fun h=>nd (by simp only[aN,h, *,cond_true,cond_false])) (fun h0=>?_)
 refine aj (fun h=>nd (by simp only[aN,h, *,cond_true,cond_false])) (fun h1=>?_)
 exact nd (by simp only[aN, *,cond_true,cond_false])
theorem vO (x:GateTeam) (n:Int):Spec P 109 [st x.e,.d (.int .i64 n)] (.d (.int .i64 (cP x n))):=vS x n
def eA (xs:List GateTeam) (n:Int):Int:=aN (IntKind.i64.wrap (n - ((xs.map GateTeam.e).length:Int))) fun n=>hZ cP xs n
theorem tr (xs:List GateTeam) (n:Int):Spec P 41 [.d (ao xs),.d (.int .i64 n)] (.d (.int .i64 (aN (IntKind.i64.wrap (n - ((xs.map GateTeam.e).length:Int))) fun n=>hZ cP xs n))):=by
 refine Spec.of_vc aQ az [.tmp 4] Tryz.func41 rfl rfl rfl rfl (fun hok=>?_)
 have hs:xs.length≤ap:=by have:=hok.1.1;rwa [List.length_map] at this
 refine aj (fun h=>nd (by simp only[aN,h,cond_true,cond_false])) (fun h=>?_)
 simp only[aN,h,cond_true,cond_false]
 refine ⟨fun k l h=>∃(i:Nat) (v:Int),k=xs.length - i∧i≤xs.length∧hZ cP xs (IntKind.i64.wrap (n - ((xs.map GateTeam.e).length:Int)))=hZ cP (xs.drop i) v∧l=[(0,.d (ao xs)),(1,.d (.int .i64 v)),(5,.d (.int .i64 i))]∧h=hp0,
  ⟨_,_,_,⟨0,_,rfl,Nat.zero_le _,rfl,rfl,rfl⟩,rfl,rfl,⟨rfl,rfl,rfl,trivial⟩,trivial,trivial⟩,?_⟩
 rintro k l h1 ⟨i,v,rfl,hi,hr,rfl,rfl⟩
 refine aj ?_ ?_<;>intro h1
 ·have hlt:i<xs.length:=Y h1
  repeat refine ai ?_
  refine O (e:=GateTeam.e) (xs:=xs) (hlt) rfl ?_
  repeat refine ai ?_
  refine oc (vO _ _) ?_
  refine aj ?_ ?_<;>intro h2
  ·refine nd ?_
   rw[hr,bS hlt]
   simp only[aN,h2,cond_true]
  ·refine ⟨_,_,_,⟨i+1,_,rfl,hlt,?_,rfl,rfl⟩,by omega,rfl,rfl,⟨rfl,rfl,nd (V hlt hs),trivial⟩,trivial,trivial⟩
   rw[hr,bS hlt]
   simp only[aN,h2,cond_false]
 ·refine nd ?_
  rw[hr,List.drop_of_length_le (Z h1)];rfl
theorem tc (xs:List GateTeam) (n:Int):Spec P 41 [.d (ao xs),.d (.int .i64 n)] (.d (.int .i64 (eA xs n))):=tr xs n
def eZ (x:GateLaw) (n:Int):Int:=aN (cB x.shapes n) fun n=>aN (dJ x.mends n) fun n=>aN (eA x.teams n) fun n=>n
theorem xD (x:GateLaw) (n:Int):Spec P 11 [st x.e,.d (.int .i64 n)] (.d (.int .i64 (aN (cB x.shapes n) fun n=>aN (dJ x.mends n) fun n=>aN (eA x.teams n) fun n=>n))):=by
 refine Spec.of_vc aQ az [.tmp 4] Tryz.func11 rfl rfl rfl rfl (fun hok=>?_)
 repeat refine ai ?_
 refine oc (qN _ _) ?_
 refine aj (fun h=>nd (by simp only[aN,h, *,cond_true,cond_false])) (fun h0=>?_)
 repeat refine ai ?_
 refine oc (to _ _) ?_
 refine aj (fun h=>nd (by simp only[aN,h, *,cond_true,cond_false])) (fun h1=>?_)
 repeat refine ai ?_
 refine oc (tc _ _) ?_
 refine aj (fun h=>nd (by simp only[aN,h, *,cond_true,cond_false])) (fun h2=>?_)
 exact nd (by simp only[aN, *,cond_true,cond_false])
theorem xB (x:GateLaw) (n:Int):Spec P 11 [st x.e,.d (.int .i64 n)] (.d (.int .i64 (eZ x n))):=xD x n
def ce (x:GateObject) (n:Int):Int:=aN (IntKind.i64.wrap (n - (x.kind.length:Int))) fun n=>aN (IntKind.i64.wrap (n - (x.name.length:Int))) fun n=>aN (IntKind.i64.wrap (n - (x.team.length:Int))) fun n=>aN (bc x.values n) fun n=>aN (bc x.holds n) fun n=>n
theorem qV (x:GateObject) (n:Int):Spec P 110 [st x.e,.d (.int .i64 n)] (.d (.int .i64 (aN (IntKind.i64.wrap (n - (x.kind.length:Int))) fun n=>aN (IntKind.i64.wrap (n - (x.name.length:Int))) fun n=>aN (IntKind.i64.wrap (n - (x.team.length:Int))) fun n=>aN (bc x.values n) fun n=>aN (bc x.holds n) fun n=>n))):=by
 refine Spec.of_vc aQ az [.tmp 4] Tryz.func110 rfl rfl rfl rfl (fun hok=>?_)
 refine aj (fun h=>nd (by simp only[aN,h, *,cond_true,cond_false])) (fun h0=>?_)
 refine aj (fun h=>nd (by simp only[aN,h, *,cond_true,cond_false])) (fun h1=>?_)
 refine aj (fun h=>nd (by simp only[aN,h, *,cond_true,cond_false])) (fun h2=>?_)
 repeat refine ai ?_
 refine oc (j6 _ _) ?_
 refine aj (fun h=>nd (by simp only[aN,h, *,cond_true,cond_false])) (fun h3=>?_)
 repeat refine ai ?_
 refine oc (j6 _ _) ?_
 refine aj (fun h=>nd (by simp only[aN,h, *,cond_true,cond_false])) (fun h4=>?_)
 exact nd (by simp only[aN, *,cond_true,cond_false])
theorem qP (x:GateObject) (n:Int):Spec P 110 [st x.e,.d (.int .i64 n)] (.d (.int .i64 (ce x n))):=qV x n
def bN (xs:List GateObject) (n:Int):Int:=aN (IntKind.i64.wrap (n - ((xs.map GateObject.e).length:Int))) fun n=>hZ ce xs n
theorem pK (xs:List GateObject) (n:Int):Spec P 42 [.d (aD xs),.d (.int .i64 n)] (.d (.int .i64 (aN (IntKind.i64.wrap (n - ((xs.map GateObject.e).length:Int))) fun n=>hZ ce xs n))):=by
 refine Spec.of_vc aQ az [.tmp 4] Tryz.func42 rfl rfl rfl rfl (fun hok=>?_)
 have hs:xs.length≤ap:=by have:=hok.1.1;rwa [List.length_map] at this
 refine aj (fun h=>nd (by simp only[aN,h,cond_true,cond_false])) (fun h=>?_)
 simp only[aN,h,cond_true,cond_false]
 refine ⟨fun k l h=>∃(i:Nat) (v:Int),k=xs.length - i∧i≤xs.length∧hZ ce xs (IntKind.i64.wrap (n - ((xs.map GateObject.e).length:Int)))=hZ ce (xs.drop i) v∧l=[(0,.d (aD xs)),(1,.d (.int .i64 v)),(5,.d (.int .i64 i))]∧h=hp0,
  ⟨_,_,_,⟨0,_,rfl,Nat.zero_le _,rfl,rfl,rfl⟩,rfl,rfl,⟨rfl,rfl,rfl,trivial⟩,trivial,trivial⟩,?_⟩
 rintro k l h1 ⟨i,v,rfl,hi,hr,rfl,rfl⟩
 refine aj ?_ ?_<;>intro h1
 ·have hlt:i<xs.length:=Y h1
  repeat refine ai ?_
  refine O (e:=GateObject.e) (xs:=xs) (hlt) rfl ?_
  repeat refine ai ?_
  refine oc (qP _ _) ?_
  refine aj ?_ ?_<;>intro h2
  ·refine nd ?_
   rw[hr,bS hlt]
   simp only[aN,h2,cond_true]
  ·refine ⟨_,_,_,⟨i+1,_,rfl,hlt,?_,rfl,rfl⟩,by omega,rfl,rfl,⟨rfl,rfl,nd (V hlt hs),trivial⟩,trivial,trivial⟩
   rw[hr,bS hlt]
   simp only[aN,h2,cond_false]
 ·refine nd ?_
  rw[hr,List.drop_of_length_le (Z h1)];rfl
theorem pI (xs:List GateObject) (n:Int):Spec P 42 [.d (aD xs),.d (.int .i64 n)] (.d (.int .i64 (bN xs n))):=pK xs n
def eg (x:GateRule) (n:Int):Int:=aN (dG x.verbs n) fun n=>aN (IntKind.i64.wrap (n - (x.kind.length:Int))) fun n=>aN (IntKind.i64.wrap (n - (x.team.length:Int))) fun n=>aN (IntKind.i64.wrap (n - (x.prefix_.length:Int))) fun n=>n
theorem vT (x:GateRule) (n:Int):Spec P 169 [st x.e,.d (.int .i64 n)] (.d (.int .i64 (aN (dG x.verbs n) fun n=>aN (IntKind.i64.wrap (n - (x.kind.length:Int))) fun n=>aN (IntKind.i64.wrap (n - (x.team.length:Int))) fun n=>aN (IntKind.i64.wrap (n - (x.prefix_.length:Int))) fun n=>n))):=by
 refine Spec.of_vc aQ az [.tmp 4] Tryz.func169 rfl rfl rfl rfl (fun hok=>?_)
 repeat refine ai ?_
 refine oc (CW _ _) ?_
 refine aj (fun h=>nd (by simp only[aN,h, *,cond_true,cond_false])) (fun h0=>?_)
 refine aj (fun h=>nd (by simp only[aN,h, *,cond_true,cond_false])) (fun h1=>?_)
 refine aj (fun h=>nd (by simp only[aN,h, *,cond_true,cond_false])) (fun h2=>?_)
 refine aj (fun h=>nd (by simp only[aN,h, *,cond_true,cond_false])) (fun h3=>?_)
 exact nd (by simp only[aN, *,cond_true,cond_false])
theorem vP (x:GateRule) (n:Int):Spec P 169 [st x.e,.d (.int .i64 n)] (.d (.int .i64 (eg x n))):=vT x n
def cw (x:GateGrant) (n:Int):Int:=aN (IntKind.i64.wrap (n - (x.to_.length:Int))) fun n=>aN (IntKind.i64.wrap (n - (x.by_.length:Int))) fun n=>aN (eg x.rule n) fun n=>n
theorem tx (x:GateGrant) (n:Int):Spec P 111 [st x.e,.d (.int .i64 n)] (.d (.int .i64 (aN (IntKind.i64.wrap (n - (x.to_.length:Int))) fun n=>aN (IntKind.i64.wrap (n - (x.by_.length:Int))) fun n=>aN (eg x.rule n) fun n=>n))):=by
 refine Spec.of_vc aQ az [.tmp 4] Tryz.func111 rfl rfl rfl rfl (fun hok=>?_)
 refine aj (fun h=>nd (by simp only[aN,h, *,cond_true,cond_false])) (fun h0=>?_)
 refine aj (fun h=>nd (by simp only[aN,h, *,cond_true,cond_false])) (fun h1=>?_)
 repeat refine ai ?_
 refine oc (vP _ _) ?_
 refine aj (fun h=>nd (by simp only[aN,h, *,cond_true,cond_false])) (fun h2=>?_)
 exact nd (by simp only[aN, *,cond_true,cond_false])
theorem tp (x:GateGrant) (n:Int):Spec P 111 [st x.e,.d (.int .i64 n)] (.d (.int .i64 (cw x n))):=tx x n
def cC (xs:List GateGrant) (n:Int):Int:=aN (IntKind.i64.wrap (n - ((xs.map GateGrant.e).length:Int))) fun n=>hZ cw xs n
theorem qX (xs:List GateGrant) (n:Int):Spec P 43 [.d (aU xs),.d (.int .i64 n)] (.d (.int .i64 (aN (IntKind.i64.wrap (n - ((xs.map GateGrant.e).length:Int))) fun n=>hZ cw xs n))):=by
 refine Spec.of_vc aQ az [.tmp 4] Tryz.func43 rfl rfl rfl rfl (fun hok=>?_)
 have hs:xs.length≤ap:=by have:=hok.1.1;rwa [List.length_map] at this
 refine aj (fun h=>nd (by simp only[aN,h,cond_true,cond_false])) (fun h=>?_)
 simp only[aN,h,cond_true,cond_false]
 refine ⟨fun k l h=>∃(i:Nat) (v:Int),k=xs.length - i∧i≤xs.length∧hZ cw xs (IntKind.i64.wrap (n - ((xs.map GateGrant.e).length:Int)))=hZ cw (xs.drop i) v∧l=[(0,.d (aU xs)),(1,.d (.int .i64 v)),(5,.d (.int .i64 i))]∧h=hp0,
  ⟨_,_,_,⟨0,_,rfl,Nat.zero_le _,rfl,rfl,rfl⟩,rfl,rfl,⟨rfl,rfl,rfl,trivial⟩,trivial,trivial⟩,?_⟩
 rintro k l h1 ⟨i,v,rfl,hi,hr,rfl,rfl⟩
 refine aj ?_ ?_<;>intro h1
 ·have hlt:i<xs.length:=Y h1
  repeat refine ai ?_
  refine O (e:=GateGrant.e) (xs:=xs) (hlt) rfl ?_
  repeat refine ai ?_
  refine oc (tp _ _) ?_
  refine aj ?_ ?_<;>intro h2
  ·refine nd ?_
   rw[hr,bS hlt]
   simp only[aN,h2,cond_true]
  ·refine ⟨_,_,_,⟨i+1,_,rfl,hlt,?_,rfl,rfl⟩,by omega,rfl,rfl,⟨rfl,rfl,nd (V hlt hs),trivial⟩,trivial,trivial⟩
   rw[hr,bS hlt]
   simp only[aN,h2,cond_false]
 ·refine nd ?_
  rw[hr,List.drop_of_length_le (Z h1)];rfl
theorem qR (xs:List GateGrant) (n:Int):Spec P 43 [.d (aU xs),.d (.int .i64 n)] (.d (.int .i64 (cC xs n))):=qX xs n
def cf (x:GateLedger) (n:Int):Int:=aN (IntKind.i64.wrap (n - (x.team.length:Int))) fun n=>aN (IntKind.i64.wrap (n - (x.resource.length:Int))) fun n=>n
theorem qW (x:GateLedger) (n:Int):Spec P 112 [st x.e,.d (.int .i64 n)] (.d (.int .i64 (aN (IntKind.i64.wrap (n - (x.team.length:Int))) fun n=>aN (IntKind.i64.wrap (n - (x.resource.length:Int))) fun n=>n))):=by
 refine Spec.of_vc aQ az [.tmp 4] Tryz.func112 rfl rfl rfl rfl (fun hok=>?_)
 refine aj (fun h=>nd (by simp only[aN,h, *,cond_true,cond_false])) (fun h0=>?_)
 refine aj (fun h=>nd (by simp only[aN,h, *,cond_true,cond_false])) (fun h1=>?_)
 exact nd (by simp only[aN, *,cond_true,cond_false])
theorem qQ (x:GateLedger) (n:Int):Spec P 112 [st x.e,.d (.int .i64 n)] (.d (.int .i64 (cf x n))):=qW x n
def cM (xs:List GateLedger) (n:Int):Int:=aN (IntKind.i64.wrap (n - ((xs.map GateLedger.e).length:Int))) fun n=>hZ cf xs n
theorem pL (xs:List GateLedger) (n:Int):Spec P 44 [.d (aK xs),.d (.int .i64 n)] (.d (.int .i64 (aN (IntKind.i64.wrap (n - ((xs.map GateLedger.e).length:Int))) fun n=>hZ cf xs n))):=by
 refine Spec.of_vc aQ az [.tmp 4] Tryz.func44 rfl rfl rfl rfl (fun hok=>?_)
 have hs:xs.length≤ap:=by have:=hok.1.1;rwa [List.length_map] at this
 refine aj (fun h=>nd (by simp only[aN,h,cond_true,cond_false])) (fun h=>?_)
 simp only[aN,h,cond_true,cond_false]
 refine ⟨fun k l h=>∃(i:Nat) (v:Int),k=xs.length - i∧i≤xs.length∧hZ cf xs (IntKind.i64.wrap (n - ((xs.map GateLedger.e).length:Int)))=hZ cf (xs.drop i) v∧l=[(0,.d (aK xs)),(1,.d (.int .i64 v)),(5,.d (.int .i64 i))]∧h=hp0,
  ⟨_,_,_,⟨0,_,rfl,Nat.zero_le _,rfl,rfl,rfl⟩,rfl,rfl,⟨rfl,rfl,rfl,trivial⟩,trivial,trivial⟩,?_⟩
 rintro k l h1 ⟨i,v,rfl,hi,hr,rfl,rfl⟩
 refine aj ?_ ?_<;>intro h1
 ·have hlt:i<xs.length:=Y h1
  repeat refine ai ?_
  refine O (e:=GateLedger.e) (xs:=xs) (hlt) rfl ?_
  repeat refine ai ?_
  refine oc (qQ _ _) ?_
  refine aj ?_ ?_<;>intro h2
  ·refine nd ?_
   rw[hr,bS hlt]
   simp only[aN,h2,cond_true]
  ·refine ⟨_,_,_,⟨i+1,_,rfl,hlt,?_,rfl,rfl⟩,by omega,rfl,rfl,⟨rfl,rfl,nd (V hlt hs),trivial⟩,trivial,trivial⟩
   rw[hr,bS hlt]
   simp only[aN,h2,cond_false]
 ·refine nd ?_
  rw[hr,List.drop_of_length_le (Z h1)];rfl
theorem pJ (xs:List GateLedger) (n:Int):Spec P 44 [.d (aK xs),.d (.int .i64 n)] (.d (.int .i64 (cM xs n))):=pL xs n
def cv (x:GatePurse) (n:Int):Int:=aN (IntKind.i64.wrap (n - (x.door.length:Int))) fun n=>aN (IntKind.i64.wrap (n - (x.team.length:Int))) fun n=>aN (IntKind.i64.wrap (n - (x.resource.length:Int))) fun n=>n
theorem tu (x:GatePurse) (n:Int):Spec P 113 [st x.e,.d (.int .i64 n)] (.d (.int .i64 (aN (IntKind.i64.wrap (n - (x.door.length:Int))) fun n=>aN (IntKind.i64.wrap (n - (x.team.length:Int))) fun n=>aN (IntKind.i64.wrap (n - (x.resource.length:Int))) fun n=>n))):=by
 refine Spec.of_vc aQ az [.tmp 4] Tryz.func113 rfl rfl rfl rfl (fun hok=>?_)
 refine aj (fun h=>nd (by simp only[aN,h, *,cond_true,cond_false])) (fun h0=>?_)
 refine aj (fun h=>nd (by simp only[aN,h, *,cond_true,cond_false])) (fun h1=>?_)
 refine aj (fun h=>nd (by simp only[aN,h, *,cond_true,cond_false])) (fun h2=>?_)
 exact nd (by simp only[aN, *,cond_true,cond_false])
theorem tn (x:GatePurse) (n:Int):Spec P 113 [st x.e,.d (.int .i64 n)] (.d (.int .i64 (cv x n))):=tu x n
def dZ (xs:List GatePurse) (n:Int):Int:=aN (IntKind.i64.wrap (n - ((xs.map GatePurse.e).length:Int))) fun n=>hZ cv xs n
theorem qU (xs:List GatePurse) (n:Int):Spec P 45 [.d (aG xs),.d (.int .i64 n)] (.d (.int .i64 (aN (IntKind.i64.wrap (n - ((xs.map GatePurse.e).length:Int))) fun n=>hZ cv xs n))):=by
 refine Spec.of_vc aQ az [.tmp 4] Tryz.func45 rfl rfl rfl rfl (fun hok=>?_)
 have hs:xs.length≤ap:=by have:=hok.1.1;rwa [List.length_map] at this
 refine aj (fun h=>nd (by simp only[aN,h,cond_true,cond_false])) (fun h=>?_)
 simp only[aN,h,cond_true,cond_false]
 refine ⟨fun k l h=>∃(i:Nat) (v:Int),k=xs.length - i∧i≤xs.length∧hZ cv xs (IntKind.i64.wrap (n - ((xs.map GatePurse.e).length:Int)))=hZ cv (xs.drop i) v∧l=[(0,.d (aG xs)),(1,.d (.int .i64 v)),(5,.d (.int .i64 i))]∧h=hp0,
  ⟨_,_,_,⟨0,_,rfl,Nat.zero_le _,rfl,rfl,rfl⟩,rfl,rfl,⟨rfl,rfl,rfl,trivial⟩,trivial,trivial⟩,?_⟩
 rintro k l h1 ⟨i,v,rfl,hi,hr,rfl,rfl⟩
 refine aj ?_ ?_<;>intro h1
 ·have hlt:i<xs.length:=Y h1
  repeat refine ai ?_
  refine O (e:=GatePurse.e) (xs:=xs) (hlt) rfl ?_
  repeat refine ai ?_
  refine oc (tn _ _) ?_
  refine aj ?_ ?_<;>intro h2
  ·refine nd ?_
   rw[hr,bS hlt]
   simp only[aN,h2,cond_true]
  ·refine ⟨_,_,_,⟨i+1,_,rfl,hlt,?_,rfl,rfl⟩,by omega,rfl,rfl,⟨rfl,rfl,nd (V hlt hs),trivial⟩,trivial,trivial⟩
   rw[hr,bS hlt]
   simp only[aN,h2,cond_false]
 ·refine nd ?_
  rw[hr,List.drop_of_length_le (Z h1)];rfl
theorem qO (xs:List GatePurse) (n:Int):Spec P 45 [.d (aG xs),.d (.int .i64 n)] (.d (.int .i64 (dZ xs n))):=qU xs n
def fi (x:GateBook) (n:Int):Int:=aN (bN x.objects n) fun n=>aN (cC x.grants n) fun n=>aN (cM x.ledgers n) fun n=>aN (dZ x.purses n) fun n=>n
theorem vV (x:GateBook) (n:Int):Spec P 12 [st x.e,.d (.int .i64 n)] (.d (.int .i64 (aN (bN x.objects n) fun n=>aN (cC x.grants n) fun n=>aN (cM x.ledgers n) fun n=>aN (dZ x.purses n) fun n=>n))):=by
 refine Spec.of_vc aQ az [.tmp 4] Tryz.func12 rfl rfl rfl rfl (fun hok=>?_)
 repeat refine ai ?_
 refine oc (pI _ _) ?_
 refine aj (fun h=>nd (by simp only[aN,h, *,cond_true,cond_false])) (fun h0=>?_)
 repeat refine ai ?_
 refine oc (qR _ _) ?_
 refine aj (fun h=>nd (by simp only[aN,h, *,cond_true,cond_false])) (fun h1=>?_)
 repeat refine ai ?_
 refine oc (pJ _ _) ?_
 refine aj (fun h=>nd (by simp only[aN,h, *,cond_true,cond_false])) (fun h2=>?_)
 repeat refine ai ?_
 refine oc (qO _ _) ?_
 refine aj (fun h=>nd (by simp only[aN,h, *,cond_true,cond_false])) (fun h3=>?_)
 exact nd (by simp only[aN, *,cond_true,cond_false])
theorem vR (x:GateBook) (n:Int):Spec P 12 [st x.e,.d (.int .i64 n)] (.d (.int .i64 (fi x n))):=vV x n
theorem lO (xs:List Bs):Spec P 179 [.d (lS xs)] (.d (lS xs)):=by
 refine Spec.of_vc aQ az [.tmp 2] Tryz.func179 rfl rfl rfl rfl (fun hok=>?_)
 have hs:xs.length≤ap:=by have:=hok.1.1;rwa [List.length_map] at this
 repeat refine ai ?_
 refine aj (Int.natCast_nonneg _) (aj (Int.le_refl _) (aj (cT hs) ?_))
 refine ⟨fun k l h=>∃i:Nat,k=xs.length - i∧i≤xs.length∧l=[(0,.d (lS xs)),(3,.own 0),(4,.d (.int .i64 i))]∧h=⟨[(0,.row 9 [D.str []].length (bg eB xs [D.str []] i))],1,0⟩,
  ⟨_,_,_,⟨0,rfl,Nat.zero_le _,rfl,rfl⟩,rfl,rfl,⟨rfl,rfl,rfl,trivial⟩,⟨rfl,trivial⟩,⟨bY,trivial⟩⟩,?_⟩
 rintro k l h1 ⟨i,rfl,hi,rfl,rfl⟩
 refine aj ?_ ?_<;>intro h1
 ·have hlt:i<xs.length:=Y h1
  repeat refine ai ?_
  refine O (e:=eB) (xs:=xs) (hlt) rfl ?_
  repeat refine ai ?_
  refine aj (Int.natCast_nonneg _) (aj (by rw[aY hi];omega) ?_)
  repeat refine ai ?_
  refine ⟨_,aZ hlt,Nat.le_refl _,?_⟩
  exact ⟨_,_,_,⟨i+1,rfl,hlt,rfl,rfl⟩,by omega,rfl,rfl,⟨rfl,rfl,nd (V hlt hs),trivial⟩,⟨rfl,trivial⟩,⟨cD hlt rfl,trivial⟩⟩
 ·exact ld (cE (Z h1) hi)
theorem EB (xs:List Int):Spec P 209 [.d (lI xs)] (.d (lI xs)):=by
 refine Spec.of_vc aQ az [.tmp 2] Tryz.func209 rfl rfl rfl rfl (fun hok=>?_)
 have hs:xs.length≤ap:=by have:=hok.1.1;rwa [List.length_map] at this
 repeat refine ai ?_
 refine aj (Int.natCast_nonneg _) (aj (Int.le_refl _) (aj (cT hs) ?_))
 refine ⟨fun k l h=>∃i:Nat,k=xs.length - i∧i≤xs.length∧l=[(0,.d (lI xs)),(3,.own 0),(4,.d (.int .i64 i))]∧h=⟨[(0,.row 3 [D.int .i64 0].length (bg eN xs [D.int .i64 0] i))],1,0⟩,
  ⟨_,_,_,⟨0,rfl,Nat.zero_le _,rfl,rfl⟩,rfl,rfl,⟨rfl,rfl,rfl,trivial⟩,⟨rfl,trivial⟩,⟨bY,trivial⟩⟩,?_⟩
 rintro k l h1 ⟨i,rfl,hi,rfl,rfl⟩
 refine aj ?_ ?_<;>intro h1
 ·have hlt:i<xs.length:=Y h1
  repeat refine ai ?_
  refine O (e:=eN) (xs:=xs) (hlt) rfl ?_
  repeat refine ai ?_
  refine aj (Int.natCast_nonneg _) (aj (by rw[aY hi];omega) ?_)
  repeat refine ai ?_
  refine ⟨_,aZ hlt,Nat.le_refl _,?_⟩
  exact ⟨_,_,_,⟨i+1,rfl,hlt,rfl,rfl⟩,by omega,rfl,rfl,⟨rfl,rfl,nd (V hlt hs),trivial⟩,⟨rfl,trivial⟩,⟨cD hlt rfl,trivial⟩⟩
 ·exact ld (cE (Z h1) hi)
def GateField.z:List D:=[.str [],.int .i64 0,.int .i64 0,.int .i64 0,.list [],.str [],.int .i64 0,.bool false,.bool false,.str [],.str []]
theorem vK (x:GateField):Spec P 208 [st x.e] (st x.e):=by
 refine Spec.of_vc aQ az [.cell 2 138] Tryz.func208 rfl rfl rfl rfl (fun hok=>?_)
 repeat refine ai ?_
 refine oc (lO _) ?_
 repeat refine ai ?_
 rfl
theorem sU (xs:List GateField):Spec P 178 [.d (ac xs)] (.d (ac xs)):=by
 refine Spec.of_vc aQ az [.tmp 2] Tryz.func178 rfl rfl rfl rfl (fun hok=>?_)
 have hs:xs.length≤ap:=by have:=hok.1.1;rwa [List.length_map] at this
 repeat refine ai ?_
 refine aj (Int.natCast_nonneg _) (aj (Int.le_refl _) (aj (cT hs) ?_))
 refine ⟨fun k l h=>∃i:Nat,k=xs.length - i∧i≤xs.length∧l=[(0,.d (ac xs)),(3,.own 0),(4,.d (.int .i64 i))]∧h=⟨[(0,.row 138 GateField.z.length (bg GateField.e xs GateField.z i))],1,0⟩,
  ⟨_,_,_,⟨0,rfl,Nat.zero_le _,rfl,rfl⟩,rfl,rfl,⟨rfl,rfl,rfl,trivial⟩,⟨rfl,trivial⟩,⟨bY,trivial⟩⟩,?_⟩
 rintro k l h1 ⟨i,rfl,hi,rfl,rfl⟩
 refine aj ?_ ?_<;>intro h1
 ·have hlt:i<xs.length:=Y h1
  repeat refine ai ?_
  refine O (e:=GateField.e) (xs:=xs) (hlt) rfl ?_
  repeat refine ai ?_
  refine oc (vK _) ?_
  repeat refine ai ?_
  refine aj (Int.natCast_nonneg _) (aj (by rw[aY hi];omega) ?_)
  repeat refine ai ?_
  refine ⟨_,aZ hlt,Nat.le_refl _,?_⟩
  exact ⟨_,_,_,⟨i+1,rfl,hlt,rfl,rfl⟩,by omega,rfl,rfl,⟨rfl,rfl,nd (V hlt hs),trivial⟩,⟨rfl,trivial⟩,⟨cD hlt rfl,trivial⟩⟩
 ·exact ld (cE (Z h1) hi)
def GateShape.z:List D:=[.str [],.list []]
theorem vH (x:GateShape):Spec P 118 [st x.e] (st x.e):=by
 refine Spec.of_vc aQ az [.cell 2 164] Tryz.func118 rfl rfl rfl rfl (fun hok=>?_)
 repeat refine ai ?_
 refine oc (sU _) ?_
 repeat refine ai ?_
 rfl
theorem sQ (xs:List GateShape):Spec P 48 [.d (ab xs)] (.d (ab xs)):=by
 refine Spec.of_vc aQ az [.tmp 2] Tryz.func48 rfl rfl rfl rfl (fun hok=>?_)
 have hs:xs.length≤ap:=by have:=hok.1.1;rwa [List.length_map] at this
 repeat refine ai ?_
 refine aj (Int.natCast_nonneg _) (aj (Int.le_refl _) (aj (cT hs) ?_))
 refine ⟨fun k l h=>∃i:Nat,k=xs.length - i∧i≤xs.length∧l=[(0,.d (ab xs)),(3,.own 0),(4,.d (.int .i64 i))]∧h=⟨[(0,.row 164 GateShape.z.length (bg GateShape.e xs GateShape.z i))],1,0⟩,
  ⟨_,_,_,⟨0,rfl,Nat.zero_le _,rfl,rfl⟩,rfl,rfl,⟨rfl,rfl,rfl,trivial⟩,⟨rfl,trivial⟩,⟨bY,trivial⟩⟩,?_⟩
 rintro k l h1 ⟨i,rfl,hi,rfl,rfl⟩
 refine aj ?_ ?_<;>intro h1
 ·have hlt:i<xs.length:=Y h1
  repeat refine ai ?_
  refine O (e:=GateShape.e) (xs:=xs) (hlt) rfl ?_
  repeat refine ai ?_
  refine oc (vH _) ?_
  repeat refine ai ?_
  refine aj (Int.natCast_nonneg _) (aj (by rw[aY hi];omega) ?_)
  repeat refine ai ?_
  refine ⟨_,aZ hlt,Nat.le_refl _,?_⟩
  exact ⟨_,_,_,⟨i+1,rfl,hlt,rfl,rfl⟩,by omega,rfl,rfl,⟨rfl,rfl,nd (V hlt hs),trivial⟩,⟨rfl,trivial⟩,⟨cD hlt rfl,trivial⟩⟩
 ·exact ld (cE (Z h1) hi)
def GateMend.z:List D:=[.str [],.str [],.str [],.str [],.str [],.str []]
theorem pg (x:GateMend):Spec P 119 [st x.e] (st x.e):=by
 refine Spec.of_vc aQ az [.cell 2 166] Tryz.func119 rfl rfl rfl rfl (fun hok=>?_)
 repeat refine ai ?_
 rfl
theorem vI (xs:List GateMend):Spec P 49 [.d (ah xs)] (.d (ah xs)):=by
 refine Spec.of_vc aQ az [.tmp 2] Tryz.func49 rfl rfl rfl rfl (fun hok=>?_)
 have hs:xs.length≤ap:=by have:=hok.1.1;rwa [List.length_map] at this
 repeat refine ai ?_
 refine aj (Int.natCast_nonneg _) (aj (Int.le_refl _) (aj (cT hs) ?_))
 refine ⟨fun k l h=>∃i:Nat,k=xs.length - i∧i≤xs.length∧l=[(0,.d (ah xs)),(3,.own 0),(4,.d (.int .i64 i))]∧h=⟨[(0,.row 166 GateMend.z.length (bg GateMend.e xs GateMend.z i))],1,0⟩,
  ⟨_,_,_,⟨0,rfl,Nat.zero_le _,rfl,rfl⟩,rfl,rfl,⟨rfl,rfl,rfl,trivial⟩,⟨rfl,trivial⟩,⟨bY,trivial⟩⟩,?_⟩
 rintro k l h1 ⟨i,rfl,hi,rfl,rfl⟩
 refine aj ?_ ?_<;>intro h1
 ·have hlt:i<xs.length:=Y h1
  repeat refine ai ?_
  refine O (e:=GateMend.e) (xs:=xs) (hlt) rfl ?_
  repeat refine ai ?_
  refine oc (pg _) ?_
  repeat refine ai ?_
  refine aj (Int.natCast_nonneg _) (aj (by rw[aY hi];omega) ?_)
  repeat refine ai ?_
  refine ⟨_,aZ hlt,Nat.le_refl _,?_⟩
  exact ⟨_,_,_,⟨i+1,rfl,hlt,rfl,rfl⟩,by omega,rfl,rfl,⟨rfl,rfl,nd (V hlt hs),trivial⟩,⟨rfl,trivial⟩,⟨cD hlt rfl,trivial⟩⟩
 ·exact ld (cE (Z h1) hi)
def GateTeam.z:List D:=[.str [],.str []]
theorem pf (x:GateTeam):Spec P 120 [st x.e] (st x.e):=by
 refine Spec.of_vc aQ az [.cell 2 168] Tryz.func120 rfl rfl rfl rfl (fun hok=>?_)
 repeat refine ai ?_
 rfl
theorem vG (xs:List GateTeam):Spec P 50 [.d (ao xs)] (.d (ao xs)):=by
 refine Spec.of_vc aQ az [.tmp 2] Tryz.func50 rfl rfl rfl rfl (fun hok=>?_)
 have hs:xs.length≤ap:=by have:=hok.1.1;rwa [List.length_map] at this
 repeat refine ai ?_
 refine aj (Int.natCast_nonneg _) (aj (Int.le_refl _) (aj (cT hs) ?_))
 refine ⟨fun k l h=>∃i:Nat,k=xs.length - i∧i≤xs.length∧l=[(0,.d (ao xs)),(3,.own 0),(4,.d (.int .i64 i))]∧h=⟨[(0,.row 168 GateTeam.z.length (bg GateTeam.e xs GateTeam.z i))],1,0⟩,
  ⟨_,_,_,⟨0,rfl,Nat.zero_le _,rfl,rfl⟩,rfl,rfl,⟨rfl,rfl,rfl,trivial⟩,⟨rfl,trivial⟩,⟨bY,trivial⟩⟩,?_⟩
 rintro k l h1 ⟨i,rfl,hi,rfl,rfl⟩
 refine aj ?_ ?_<;>intro h1
 ·have hlt:i<xs.length:=Y h1
  repeat refine ai ?_
  refine O (e:=GateTeam.e) (xs:=xs) (hlt) rfl ?_
  repeat refine ai ?_
  refine oc (pf _) ?_
  repeat refine ai ?_
  refine aj (Int.natCast_nonneg _) (aj (by rw[aY hi];omega) ?_)
  repeat refine ai ?_
  refine ⟨_,aZ hlt,Nat.le_refl _,?_⟩
  exact ⟨_,_,_,⟨i+1,rfl,hlt,rfl,rfl⟩,by omega,rfl,rfl,⟨rfl,rfl,nd (V hlt hs),trivial⟩,⟨rfl,trivial⟩,⟨cD hlt rfl,trivial⟩⟩
 ·exact ld (cE (Z h1) hi)
def GateLaw.z:List D:=[.list [],.list [],.list []]
theorem gY (x:GateLaw):Spec P 14 [st x.e] (st x.e):=by
 refine Spec.of_vc aQ az [.cell 2 41] Tryz.func14 rfl rfl rfl rfl (fun hok=>?_)
 repeat refine ai ?_
 refine oc (sQ _) ?_
 repeat refine ai ?_
 refine oc (vI _) ?_
 repeat refine ai ?_
 refine oc (vG _) ?_
 repeat refine ai ?_
 rfl
def GateObject.z:List D:=[.str [],.str [],.str [],.list [],.bool false,.list [],.int .i64 0]
theorem sS (x:GateObject):Spec P 121 [st x.e] (st x.e):=by
 refine Spec.of_vc aQ az [.cell 2 103] Tryz.func121 rfl rfl rfl rfl (fun hok=>?_)
 repeat refine ai ?_
 refine oc (lO _) ?_
 repeat refine ai ?_
 refine oc (lO _) ?_
 repeat refine ai ?_
 rfl
theorem qF (xs:List GateObject):Spec P 51 [.d (aD xs)] (.d (aD xs)):=by
 refine Spec.of_vc aQ az [.tmp 2] Tryz.func51 rfl rfl rfl rfl (fun hok=>?_)
 have hs:xs.length≤ap:=by have:=hok.1.1;rwa [List.length_map] at this
 repeat refine ai ?_
 refine aj (Int.natCast_nonneg _) (aj (Int.le_refl _) (aj (cT hs) ?_))
 refine ⟨fun k l h=>∃i:Nat,k=xs.length - i∧i≤xs.length∧l=[(0,.d (aD xs)),(3,.own 0),(4,.d (.int .i64 i))]∧h=⟨[(0,.row 103 GateObject.z.length (bg GateObject.e xs GateObject.z i))],1,0⟩,
  ⟨_,_,_,⟨0,rfl,Nat.zero_le _,rfl,rfl⟩,rfl,rfl,⟨rfl,rfl,rfl,trivial⟩,⟨rfl,trivial⟩,⟨bY,trivial⟩⟩,?_⟩
 rintro k l h1 ⟨i,rfl,hi,rfl,rfl⟩
 refine aj ?_ ?_<;>intro h1
 ·have hlt:i<xs.length:=Y h1
  repeat refine ai ?_
  refine O (e:=GateObject.e) (xs:=xs) (hlt) rfl ?_
  repeat refine ai ?_
  refine oc (sS _) ?_
  repeat refine ai ?_
  refine aj (Int.natCast_nonneg _) (aj (by rw[aY hi];omega) ?_)
  repeat refine ai ?_
  refine ⟨_,aZ hlt,Nat.le_refl _,?_⟩
  exact ⟨_,_,_,⟨i+1,rfl,hlt,rfl,rfl⟩,by omega,rfl,rfl,⟨rfl,rfl,nd (V hlt hs),trivial⟩,⟨rfl,trivial⟩,⟨cD hlt rfl,trivial⟩⟩
 ·exact ld (cE (Z h1) hi)
def GateRule.z:List D:=[.list [],.str [],.str [],.str []]
theorem xz (x:GateRule):Spec P 180 [st x.e] (st x.e):=by
 refine Spec.of_vc aQ az [.cell 2 171] Tryz.func180 rfl rfl rfl rfl (fun hok=>?_)
 repeat refine ai ?_
 refine oc (EB _) ?_
 repeat refine ai ?_
 rfl
def GateGrant.z:List D:=[.int .i64 0,.str [],.str [],.list [],.str [],.str [],.str []]
theorem vJ (x:GateGrant):Spec P 122 [st x.e] (st x.e):=by
 refine Spec.of_vc aQ az [.cell 2 173] Tryz.func122 rfl rfl rfl rfl (fun hok=>?_)
 repeat refine ai ?_
 refine oc (xz _) ?_
 repeat refine ai ?_
 rfl
theorem sT (xs:List GateGrant):Spec P 52 [.d (aU xs)] (.d (aU xs)):=by
 refine Spec.of_vc aQ az [.tmp 2] Tryz.func52 rfl rfl rfl rfl (fun hok=>?_)
 have hs:xs.length≤ap:=by have:=hok.1.1;rwa [List.length_map] at this
 repeat refine ai ?_
 refine aj (Int.natCast_nonneg _) (aj (Int.le_refl _) (aj (cT hs) ?_))
 refine ⟨fun k l h=>∃i:Nat,k=xs.length - i∧i≤xs.length∧l=[(0,.d (aU xs)),(3,.own 0),(4,.d (.int .i64 i))]∧h=⟨[(0,.row 173 GateGrant.z.length (bg GateGrant.e xs GateGrant.z i))],1,0⟩,
  ⟨_,_,_,⟨0,rfl,Nat.zero_le _,rfl,rfl⟩,rfl,rfl,⟨rfl,rfl,rfl,trivial⟩,⟨rfl,trivial⟩,⟨bY,trivial⟩⟩,?_⟩
 rintro k l h1 ⟨i,rfl,hi,rfl,rfl⟩
 refine aj ?_ ?_<;>intro h1
 ·have hlt:i<xs.length:=Y h1
  repeat refine ai ?_
  refine O (e:=GateGrant.e) (xs:=xs) (hlt) rfl ?_
  repeat refine ai ?_
  refine oc (vJ _) ?_
  repeat refine ai ?_
  refine aj (Int.natCast_nonneg _) (aj (by rw[aY hi];omega) ?_)
  repeat refine ai ?_
  refine ⟨_,aZ hlt,Nat.le_refl _,?_⟩
  exact ⟨_,_,_,⟨i+1,rfl,hlt,rfl,rfl⟩,by omega,rfl,rfl,⟨rfl,rfl,nd (V hlt hs),trivial⟩,⟨rfl,trivial⟩,⟨cD hlt rfl,trivial⟩⟩
 ·exact ld (cE (Z h1) hi)
def GateLedger.z:List D:=[.str [],.str [],.int .i64 0,.int .i64 0]
theorem lp (x:GateLedger):Spec P 123 [st x.e] (st x.e):=by
 refine Spec.of_vc aQ az [.cell 2 119] Tryz.func123 rfl rfl rfl rfl (fun hok=>?_)
 repeat refine ai ?_
 rfl
theorem qG (xs:List GateLedger):Spec P 53 [.d (aK xs)] (.d (aK xs)):=by
 refine Spec.of_vc aQ az [.tmp 2] Tryz.func53 rfl rfl rfl rfl (fun hok=>?_)
 have hs:xs.length≤ap:=by have:=hok.1.1;rwa [List.length_map] at this
 repeat refine ai ?_
 refine aj (Int.natCast_nonneg _) (aj (Int.le_refl _) (aj (cT hs) ?_))
 refine ⟨fun k l h=>∃i:Nat,k=xs.length - i∧i≤xs.length∧l=[(0,.d (aK xs)),(3,.own 0),(4,.d (.int .i64 i))]∧h=⟨[(0,.row 119 GateLedger.z.length (bg GateLedger.e xs GateLedger.z i))],1,0⟩,
  ⟨_,_,_,⟨0,rfl,Nat.zero_le _,rfl,rfl⟩,rfl,rfl,⟨rfl,rfl,rfl,trivial⟩,⟨rfl,trivial⟩,⟨bY,trivial⟩⟩,?_⟩
 rintro k l h1 ⟨i,rfl,hi,rfl,rfl⟩
 refine aj ?_ ?_<;>intro h1
 ·have hlt:i<xs.length:=Y h1
  repeat refine ai ?_
  refine O (e:=GateLedger.e) (xs:=xs) (hlt) rfl ?_
  repeat refine ai ?_
  refine oc (lp _) ?_
  repeat refine ai ?_
  refine aj (Int.natCast_nonneg _) (aj (by rw[aY hi];omega) ?_)
  repeat refine ai ?_
  refine ⟨_,aZ hlt,Nat.le_refl _,?_⟩
  exact ⟨_,_,_,⟨i+1,rfl,hlt,rfl,rfl⟩,by omega,rfl,rfl,⟨rfl,rfl,nd (V hlt hs),trivial⟩,⟨rfl,trivial⟩,⟨cD hlt rfl,trivial⟩⟩
 ·exact ld (cE (Z h1) hi)
def GatePurse.z:List D:=[.str [],.str [],.str [],.int .i64 0,.int .i64 0]
theorem mL (x:GatePurse):Spec P 124 [st x.e] (st x.e):=by
 refine Spec.of_vc aQ az [.cell 2 109] Tryz.func124 rfl rfl rfl rfl (fun hok=>?_)
 repeat refine ai ?_
 rfl
theorem sR (xs:List GatePurse):Spec P 54 [.d (aG xs)] (.d (aG xs)):=by
 refine Spec.of_vc aQ az [.tmp 2] Tryz.func54 rfl rfl rfl rfl (fun hok=>?_)
 have hs:xs.length≤ap:=by have:=hok.1.1;rwa [List.length_map] at this
 repeat refine ai ?_
 refine aj (Int.natCast_nonneg _) (aj (Int.le_refl _) (aj (cT hs) ?_))
 refine ⟨fun k l h=>∃i:Nat,k=xs.length - i∧i≤xs.length∧l=[(0,.d (aG xs)),(3,.own 0),(4,.d (.int .i64 i))]∧h=⟨[(0,.row 109 GatePurse.z.length (bg GatePurse.e xs GatePurse.z i))],1,0⟩,
  ⟨_,_,_,⟨0,rfl,Nat.zero_le _,rfl,rfl⟩,rfl,rfl,⟨rfl,rfl,rfl,trivial⟩,⟨rfl,trivial⟩,⟨bY,trivial⟩⟩,?_⟩
 rintro k l h1 ⟨i,rfl,hi,rfl,rfl⟩
 refine aj ?_ ?_<;>intro h1
 ·have hlt:i<xs.length:=Y h1
  repeat refine ai ?_
  refine O (e:=GatePurse.e) (xs:=xs) (hlt) rfl ?_
  repeat refine ai ?_
  refine oc (mL _) ?_
  repeat refine ai ?_
  refine aj (Int.natCast_nonneg _) (aj (by rw[aY hi];omega) ?_)
  repeat refine ai ?_
  refine ⟨_,aZ hlt,Nat.le_refl _,?_⟩
  exact ⟨_,_,_,⟨i+1,rfl,hlt,rfl,rfl⟩,by omega,rfl,rfl,⟨rfl,rfl,nd (V hlt hs),trivial⟩,⟨rfl,trivial⟩,⟨cD hlt rfl,trivial⟩⟩
 ·exact ld (cE (Z h1) hi)
def GateBook.z:List D:=[.int .i64 0,.int .i64 0,.int .i64 0,.list [],.list [],.list [],.list []]
theorem ge (x:GateBook):Spec P 15 [st x.e] (st x.e):=by
 refine Spec.of_vc aQ az [.cell 2 48] Tryz.func15 rfl rfl rfl rfl (fun hok=>?_)
 repeat refine ai ?_
 refine oc (qF _) ?_
 repeat refine ai ?_
 refine oc (sT _) ?_
 repeat refine ai ?_
 refine oc (qG _) ?_
 repeat refine ai ?_
 refine oc (sR _) ?_
 repeat refine ai ?_
 rfl
theorem mn (xs:List Bs):Spec P 189 [.d (lS xs),.d (lS xs)] (.d (.bool true)):=by
 refine Spec.of_vc aQ az [.tmp 4] Tryz.func189 rfl rfl rfl rfl (fun hok=>?_)
 have hs:xs.length≤ap:=by have:=hok.1.1;rwa [List.length_map] at this
 repeat refine ai ?_
 refine an ?_
 refine ⟨fun k l h=>∃i:Nat,k=xs.length - i∧i≤xs.length∧l=[(0,.d (lS xs)),(1,.d (lS xs)),(5,.d (.int .i64 i))]∧h=hp0,
  ⟨_,_,_,⟨0,rfl,Nat.zero_le _,rfl,rfl⟩,rfl,rfl,⟨rfl,rfl,rfl,trivial⟩,trivial,trivial⟩,?_⟩
 rintro k l h1 ⟨i,rfl,hi,rfl,rfl⟩
 refine aj ?_ ?_<;>intro h1
 ·have hlt:i<xs.length:=Y h1
  repeat refine ai ?_
  refine ak ?_
  repeat refine ai ?_
  refine O (e:=eB) (xs:=xs) (hlt) rfl ?_
  repeat refine ai ?_
  refine O (e:=eB) (xs:=xs) (hlt) rfl ?_
  repeat refine ai ?_
  refine an ?_
  exact ⟨_,_,_,⟨i+1,rfl,hlt,rfl,rfl⟩,by omega,rfl,rfl,⟨rfl,rfl,nd (V hlt hs),trivial⟩,trivial,trivial⟩
 ·rfl
theorem E5 (xs:List Int):Spec P 17 [.d (lI xs),.d (lI xs)] (.d (.bool true)):=by
 refine Spec.of_vc aQ az [.tmp 4] Tryz.func17 rfl rfl rfl rfl (fun hok=>?_)
 have hs:xs.length≤ap:=by have:=hok.1.1;rwa [List.length_map] at this
 repeat refine ai ?_
 refine an ?_
 refine ⟨fun k l h=>∃i:Nat,k=xs.length - i∧i≤xs.length∧l=[(0,.d (lI xs)),(1,.d (lI xs)),(5,.d (.int .i64 i))]∧h=hp0,
  ⟨_,_,_,⟨0,rfl,Nat.zero_le _,rfl,rfl⟩,rfl,rfl,⟨rfl,rfl,rfl,trivial⟩,trivial,trivial⟩,?_⟩
 rintro k l h1 ⟨i,rfl,hi,rfl,rfl⟩
 refine aj ?_ ?_<;>intro h1
 ·have hlt:i<xs.length:=Y h1
  repeat refine ai ?_
  refine ak ?_
  repeat refine ai ?_
  refine O (e:=eN) (xs:=xs) (hlt) rfl ?_
  repeat refine ai ?_
  refine O (e:=eN) (xs:=xs) (hlt) rfl ?_
  repeat refine ai ?_
  refine an ?_
  exact ⟨_,_,_,⟨i+1,rfl,hlt,rfl,rfl⟩,by omega,rfl,rfl,⟨rfl,rfl,nd (V hlt hs),trivial⟩,trivial,trivial⟩
 ·rfl
theorem wV (x:GateField):Spec P 218 [st x.e,st x.e] (.d (.bool true)):=by
 refine Spec.of_vc aQ az [.tmp 4] Tryz.func218 rfl rfl rfl rfl (fun hok=>?_)
 repeat refine ai ?_
 refine an ?_
 repeat refine ai ?_
 refine an ?_
 repeat refine ai ?_
 refine an ?_
 repeat refine ai ?_
 refine an ?_
 repeat refine ai ?_
 refine oc (mn _) ?_
 repeat refine ai ?_
 refine an ?_
 repeat refine ai ?_
 refine an ?_
 repeat refine ai ?_
 refine an ?_
 repeat refine ai ?_
 refine an ?_
 repeat refine ai ?_
 refine an ?_
 repeat refine ai ?_
 refine an ?_
 repeat refine ai ?_
 refine an ?_
 repeat refine ai ?_
 rfl
theorem t8 (xs:List GateField):Spec P 188 [.d (ac xs),.d (ac xs)] (.d (.bool true)):=by
 refine Spec.of_vc aQ az [.tmp 4] Tryz.func188 rfl rfl rfl rfl (fun hok=>?_)
 have hs:xs.length≤ap:=by have:=hok.1.1;rwa [List.length_map] at this
 repeat refine ai ?_
 refine an ?_
 refine ⟨fun k l h=>∃i:Nat,k=xs.length - i∧i≤xs.length∧l=[(0,.d (ac xs)),(1,.d (ac xs)),(5,.d (.int .i64 i))]∧h=hp0,
  ⟨_,_,_,⟨0,rfl,Nat.zero_le _,rfl,rfl⟩,rfl,rfl,⟨rfl,rfl,rfl,trivial⟩,trivial,trivial⟩,?_⟩
 rintro k l h1 ⟨i,rfl,hi,rfl,rfl⟩
 refine aj ?_ ?_<;>intro h1
 ·have hlt:i<xs.length:=Y h1
  repeat refine ai ?_
  refine ak ?_
  repeat refine ai ?_
  refine O (e:=GateField.e) (xs:=xs) (hlt) rfl ?_
  repeat refine ai ?_
  refine O (e:=GateField.e) (xs:=xs) (hlt) rfl ?_
  repeat refine ai ?_
  refine oc (wV _) ?_
  repeat refine ai ?_
  refine an ?_
  exact ⟨_,_,_,⟨i+1,rfl,hlt,rfl,rfl⟩,by omega,rfl,rfl,⟨rfl,rfl,nd (V hlt hs),trivial⟩,trivial,trivial⟩
 ·rfl
theorem wR (x:GateShape):Spec P 129 [st x.e,st x.e] (.d (.bool true)):=by
 refine Spec.of_vc aQ az [.tmp 4] Tryz.func129 rfl rfl rfl rfl (fun hok=>?_)
 repeat refine ai ?_
 refine an ?_
 repeat refine ai ?_
 refine oc (t8 _) ?_
 repeat refine ai ?_
 refine an ?_
 repeat refine ai ?_
 rfl
theorem tV (xs:List GateShape):Spec P 57 [.d (ab xs),.d (ab xs)] (.d (.bool true)):=by
 refine Spec.of_vc aQ az [.tmp 4] Tryz.func57 rfl rfl rfl rfl (fun hok=>?_)
 have hs:xs.length≤ap:=by have:=hok.1.1;rwa [List.length_map] at this
 repeat refine ai ?_
 refine an ?_
 refine ⟨fun k l h=>∃i:Nat,k=xs.length - i∧i≤xs.length∧l=[(0,.d (ab xs)),(1,.d (ab xs)),(5,.d (.int .i64 i))]∧h=hp0,
  ⟨_,_,_,⟨0,rfl,Nat.zero_le _,rfl,rfl⟩,rfl,rfl,⟨rfl,rfl,rfl,trivial⟩,trivial,trivial⟩,?_⟩
 rintro k l h1 ⟨i,rfl,hi,rfl,rfl⟩
 refine aj ?_ ?_<;>intro h1
 ·have hlt:i<xs.length:=Y h1
  repeat refine ai ?_
  refine ak ?_
  repeat refine ai ?_
  refine O (e:=GateShape.e) (xs:=xs) (hlt) rfl ?_
  repeat refine ai ?_
  refine O (e:=GateShape.e) (xs:=xs) (hlt) rfl ?_
  repeat refine ai ?_
  refine oc (wR _) ?_
  repeat refine ai ?_
  refine an ?_
  exact ⟨_,_,_,⟨i+1,rfl,hlt,rfl,rfl⟩,by omega,rfl,rfl,⟨rfl,rfl,nd (V hlt hs),trivial⟩,trivial,trivial⟩
 ·rfl
theorem yS (x:GateMend):Spec P 130 [st x.e,st x.e] (.d (.bool true)):=by
 refine Spec.of_vc aQ az [.tmp 4] Tryz.func130 rfl rfl rfl rfl (fun hok=>?_)
 repeat refine ai ?_
 refine an ?_
 repeat refine ai ?_
 refine an ?_
 repeat refine ai ?_
 refine an ?_
 repeat refine ai ?_
 refine an ?_
 repeat refine ai ?_
 refine an ?_
 repeat refine ai ?_
 refine an ?_
 repeat refine ai ?_
 rfl
theorem wT (xs:List GateMend):Spec P 58 [.d (ah xs),.d (ah xs)] (.d (.bool true)):=by
 refine Spec.of_vc aQ az [.tmp 4] Tryz.func58 rfl rfl rfl rfl (fun hok=>?_)
 have hs:xs.length≤ap:=by have:=hok.1.1;rwa [List.length_map] at this
 repeat refine ai ?_
 refine an ?_
 refine ⟨fun k l h=>∃i:Nat,k=xs.length - i∧i≤xs.length∧l=[(0,.d (ah xs)),(1,.d (ah xs)),(5,.d (.int .i64 i))]∧h=hp0,
  ⟨_,_,_,⟨0,rfl,Nat.zero_le _,rfl,rfl⟩,rfl,rfl,⟨rfl,rfl,rfl,trivial⟩,trivial,trivial⟩,?_⟩
 rintro k l h1 ⟨i,rfl,hi,rfl,rfl⟩
 refine aj ?_ ?_<;>intro h1
 ·have hlt:i<xs.length:=Y h1
  repeat refine ai ?_
  refine ak ?_
  repeat refine ai ?_
  refine O (e:=GateMend.e) (xs:=xs) (hlt) rfl ?_
  repeat refine ai ?_
  refine O (e:=GateMend.e) (xs:=xs) (hlt) rfl ?_
  repeat refine ai ?_
  refine oc (yS _) ?_
  repeat refine ai ?_
  refine an ?_
  exact ⟨_,_,_,⟨i+1,rfl,hlt,rfl,rfl⟩,by omega,rfl,rfl,⟨rfl,rfl,nd (V hlt hs),trivial⟩,trivial,trivial⟩
 ·rfl
theorem yQ (x:GateTeam):Spec P 131 [st x.e,st x.e] (.d (.bool true)):=by
 refine Spec.of_vc aQ az [.tmp 4] Tryz.func131 rfl rfl rfl rfl (fun hok=>?_)
 repeat refine ai ?_
 refine an ?_
 repeat refine ai ?_
 refine an ?_
 repeat refine ai ?_
 rfl
theorem wQ (xs:List GateTeam):Spec P 59 [.d (ao xs),.d (ao xs)] (.d (.bool true)):=by
 refine Spec.of_vc aQ az [.tmp 4] Tryz.func59 rfl rfl rfl rfl (fun hok=>?_)
 have hs:xs.length≤ap:=by have:=hok.1.1;rwa [List.length_map] at this
 repeat refine ai ?_
 refine an ?_
 refine ⟨fun k l h=>∃i:Nat,k=xs.length - i∧i≤xs.length∧l=[(0,.d (ao xs)),(1,.d (ao xs)),(5,.d (.int .i64 i))]∧h=hp0,
  ⟨_,_,_,⟨0,rfl,Nat.zero_le _,rfl,rfl⟩,rfl,rfl,⟨rfl,rfl,rfl,trivial⟩,trivial,trivial⟩,?_⟩
 rintro k l h1 ⟨i,rfl,hi,rfl,rfl⟩
 refine aj ?_ ?_<;>intro h1
 ·have hlt:i<xs.length:=Y h1
  repeat refine ai ?_
  refine ak ?_
  repeat refine ai ?_
  refine O (e:=GateTeam.e) (xs:=xs) (hlt) rfl ?_
  repeat refine ai ?_
  refine O (e:=GateTeam.e) (xs:=xs) (hlt) rfl ?_
  repeat refine ai ?_
  refine oc (yQ _) ?_
  repeat refine ai ?_
  refine an ?_
  exact ⟨_,_,_,⟨i+1,rfl,hlt,rfl,rfl⟩,by omega,rfl,rfl,⟨rfl,rfl,nd (V hlt hs),trivial⟩,trivial,trivial⟩
 ·rfl
theorem At (x:GateLaw):Spec P 18 [st x.e,st x.e] (.d (.bool true)):=by
 refine Spec.of_vc aQ az [.tmp 4] Tryz.func18 rfl rfl rfl rfl (fun hok=>?_)
 repeat refine ai ?_
 refine oc (tV _) ?_
 repeat refine ai ?_
 refine an ?_
 repeat refine ai ?_
 refine oc (wT _) ?_
 repeat refine ai ?_
 refine an ?_
 repeat refine ai ?_
 refine oc (wQ _) ?_
 repeat refine ai ?_
 refine an ?_
 repeat refine ai ?_
 rfl
theorem tX (x:GateObject):Spec P 132 [st x.e,st x.e] (.d (.bool true)):=by
 refine Spec.of_vc aQ az [.tmp 4] Tryz.func132 rfl rfl rfl rfl (fun hok=>?_)
 repeat refine ai ?_
 refine an ?_
 repeat refine ai ?_
 refine an ?_
 repeat refine ai ?_
 refine an ?_
 repeat refine ai ?_
 refine oc (mn _) ?_
 repeat refine ai ?_
 refine an ?_
 repeat refine ai ?_
 refine an ?_
 repeat refine ai ?_
 refine oc (mn _) ?_
 repeat refine ai ?_
 refine an ?_
 repeat refine ai ?_
 refine an ?_
 repeat refine ai ?_
 rfl
theorem sy (xs:List GateObject):Spec P 60 [.d (aD xs),.d (aD xs)] (.d (.bool true)):=by
 refine Spec.of_vc aQ az [.tmp 4] Tryz.func60 rfl rfl rfl rfl (fun hok=>?_)
 have hs:xs.length≤ap:=by have:=hok.1.1;rwa [List.length_map] at this
 repeat refine ai ?_
 refine an ?_
 refine ⟨fun k l h=>∃i:Nat,k=xs.length - i∧i≤xs.length∧l=[(0,.d (aD xs)),(1,.d (aD xs)),(5,.d (.int .i64 i))]∧h=hp0,
  ⟨_,_,_,⟨0,rfl,Nat.zero_le _,rfl,rfl⟩,rfl,rfl,⟨rfl,rfl,rfl,trivial⟩,trivial,trivial⟩,?_⟩
 rintro k l h1 ⟨i,rfl,hi,rfl,rfl⟩
 refine aj ?_ ?_<;>intro h1
 ·have hlt:i<xs.length:=Y h1
  repeat refine ai ?_
  refine ak ?_
  repeat refine ai ?_
  refine O (e:=GateObject.e) (xs:=xs) (hlt) rfl ?_
  repeat refine ai ?_
  refine O (e:=GateObject.e) (xs:=xs) (hlt) rfl ?_
  repeat refine ai ?_
  refine oc (tX _) ?_
  repeat refine ai ?_
  refine an ?_
  exact ⟨_,_,_,⟨i+1,rfl,hlt,rfl,rfl⟩,by omega,rfl,rfl,⟨rfl,rfl,nd (V hlt hs),trivial⟩,trivial,trivial⟩
 ·rfl
theorem yR (x:GateRule):Spec P 190 [st x.e,st x.e] (.d (.bool true)):=by
 refine Spec.of_vc aQ az [.tmp 4] Tryz.func190 rfl rfl rfl rfl (fun hok=>?_)
 repeat refine ai ?_
 refine oc (E5 _) ?_
 repeat refine ai ?_
 refine an ?_
 repeat refine ai ?_
 refine an ?_
 repeat refine ai ?_
 refine an ?_
 repeat refine ai ?_
 refine an ?_
 repeat refine ai ?_
 rfl
theorem wU (x:GateGrant):Spec P 133 [st x.e,st x.e] (.d (.bool true)):=by
 refine Spec.of_vc aQ az [.tmp 4] Tryz.func133 rfl rfl rfl rfl (fun hok=>?_)
 repeat refine ai ?_
 refine an ?_
 repeat refine ai ?_
 refine an ?_
 repeat refine ai ?_
 refine an ?_
 repeat refine ai ?_
 refine oc (yR _) ?_
 repeat refine ai ?_
 refine an ?_
 repeat refine ai ?_
 rfl
theorem tZ (xs:List GateGrant):Spec P 61 [.d (aU xs),.d (aU xs)] (.d (.bool true)):=by
 refine Spec.of_vc aQ az [.tmp 4] Tryz.func61 rfl rfl rfl rfl (fun hok=>?_)
 have hs:xs.length≤ap:=by have:=hok.1.1;rwa [List.length_map] at this
 repeat refine ai ?_
 refine an ?_
 refine ⟨fun k l h=>∃i:Nat,k=xs.length - i∧i≤xs.length∧l=[(0,.d (aU xs)),(1,.d (aU xs)),(5,.d (.int .i64 i))]∧h=hp0,
  ⟨_,_,_,⟨0,rfl,Nat.zero_le _,rfl,rfl⟩,rfl,rfl,⟨rfl,rfl,rfl,trivial⟩,trivial,trivial⟩,?_⟩
 rintro k l h1 ⟨i,rfl,hi,rfl,rfl⟩
 refine aj ?_ ?_<;>intro h1
 ·have hlt:i<xs.length:=Y h1
  repeat refine ai ?_
  refine ak ?_
  repeat refine ai ?_
  refine O (e:=GateGrant.e) (xs:=xs) (hlt) rfl ?_
  repeat refine ai ?_
  refine O (e:=GateGrant.e) (xs:=xs) (hlt) rfl ?_
  repeat refine ai ?_
  refine oc (wU _) ?_
  repeat refine ai ?_
  refine an ?_
  exact ⟨_,_,_,⟨i+1,rfl,hlt,rfl,rfl⟩,by omega,rfl,rfl,⟨rfl,rfl,nd (V hlt hs),trivial⟩,trivial,trivial⟩
 ·rfl
theorem tY (x:GateLedger):Spec P 134 [st x.e,st x.e] (.d (.bool true)):=by
 refine Spec.of_vc aQ az [.tmp 4] Tryz.func134 rfl rfl rfl rfl (fun hok=>?_)
 repeat refine ai ?_
 refine an ?_
 repeat refine ai ?_
 refine an ?_
 repeat refine ai ?_
 refine an ?_
 repeat refine ai ?_
 refine an ?_
 repeat refine ai ?_
 rfl
theorem sA (xs:List GateLedger):Spec P 62 [.d (aK xs),.d (aK xs)] (.d (.bool true)):=by
 refine Spec.of_vc aQ az [.tmp 4] Tryz.func62 rfl rfl rfl rfl (fun hok=>?_)
 have hs:xs.length≤ap:=by have:=hok.1.1;rwa [List.length_map] at this
 repeat refine ai ?_
 refine an ?_
 refine ⟨fun k l h=>∃i:Nat,k=xs.length - i∧i≤xs.length∧l=[(0,.d (aK xs)),(1,.d (aK xs)),(5,.d (.int .i64 i))]∧h=hp0,
  ⟨_,_,_,⟨0,rfl,Nat.zero_le _,rfl,rfl⟩,rfl,rfl,⟨rfl,rfl,rfl,trivial⟩,trivial,trivial⟩,?_⟩
 rintro k l h1 ⟨i,rfl,hi,rfl,rfl⟩
 refine aj ?_ ?_<;>intro h1
 ·have hlt:i<xs.length:=Y h1
  repeat refine ai ?_
  refine ak ?_
  repeat refine ai ?_
  refine O (e:=GateLedger.e) (xs:=xs) (hlt) rfl ?_
  repeat refine ai ?_
  refine O (e:=GateLedger.e) (xs:=xs) (hlt) rfl ?_
  repeat refine ai ?_
  refine oc (tY _) ?_
  repeat refine ai ?_
  refine an ?_
  exact ⟨_,_,_,⟨i+1,rfl,hlt,rfl,rfl⟩,by omega,rfl,rfl,⟨rfl,rfl,nd (V hlt hs),trivial⟩,trivial,trivial⟩
 ·rfl
theorem wS (x:GatePurse):Spec P 135 [st x.e,st x.e] (.d (.bool true)):=by
 refine Spec.of_vc aQ az [.tmp 4] Tryz.func135 rfl rfl rfl rfl (fun hok=>?_)
 repeat refine ai ?_
 refine an ?_
 repeat refine ai ?_
 refine an ?_
 repeat refine ai ?_
 refine an ?_
 repeat refine ai ?_
 refine an ?_
 repeat refine ai ?_
 refine an ?_
 repeat refine ai ?_
 rfl
theorem tW (xs:List GatePurse):Spec P 63 [.d (aG xs),.d (aG xs)] (.d (.bool true)):=by
 refine Spec.of_vc aQ az [.tmp 4] Tryz.func63 rfl rfl rfl rfl (fun hok=>?_)
 have hs:xs.length≤ap:=by have:=hok.1.1;rwa [List.length_map] at this
 repeat refine ai ?_
 refine an ?_
 refine ⟨fun k l h=>∃i:Nat,k=xs.length - i∧i≤xs.length∧l=[(0,.d (aG xs)),(1,.d (aG xs)),(5,.d (.int .i64 i))]∧h=hp0,
  ⟨_,_,_,⟨0,rfl,Nat.zero_le _,rfl,rfl⟩,rfl,rfl,⟨rfl,rfl,rfl,trivial⟩,trivial,trivial⟩,?_⟩
 rintro k l h1 ⟨i,rfl,hi,rfl,rfl⟩
 refine aj ?_ ?_<;>intro h1
 ·have hlt:i<xs.length:=Y h1
  repeat refine ai ?_
  refine ak ?_
  repeat refine ai ?_
  refine O (e:=GatePurse.e) (xs:=xs) (hlt) rfl ?_
  repeat refine ai ?_
  refine O (e:=GatePurse.e) (xs:=xs) (hlt) rfl ?_
  repeat refine ai ?_
  refine oc (wS _) ?_
  repeat refine ai ?_
  refine an ?_
  exact ⟨_,_,_,⟨i+1,rfl,hlt,rfl,rfl⟩,by omega,rfl,rfl,⟨rfl,rfl,nd (V hlt hs),trivial⟩,trivial,trivial⟩
 ·rfl
theorem gt (x:GateBook):Spec P 19 [st x.e,st x.e] (.d (.bool true)):=by
 refine Spec.of_vc aQ az [.tmp 4] Tryz.func19 rfl rfl rfl rfl (fun hok=>?_)
 repeat refine ai ?_
 refine an ?_
 repeat refine ai ?_
 refine an ?_
 repeat refine ai ?_
 refine an ?_
 repeat refine ai ?_
 refine oc (sy _) ?_
 repeat refine ai ?_
 refine an ?_
 repeat refine ai ?_
 refine oc (tZ _) ?_
 repeat refine ai ?_
 refine an ?_
 repeat refine ai ?_
 refine oc (sA _) ?_
 repeat refine ai ?_
 refine an ?_
 repeat refine ai ?_
 refine oc (tW _) ?_
 repeat refine ai ?_
 refine an ?_
 repeat refine ai ?_
 rfl
end Go.Vc
end
section
namespace Go.Vc
section
variable {α:Type} {e:α→List D} {xs:List α} {z:List D} {i:Nat} {fs:List NT}
theorem cW {t n:Nat}:some (AO.tree t n fs (List.replicate ((((xs.map e).length:Nat):Int)).toNat z))=some (AO.tree t n fs (bg e xs z 0)):=by
 simp[bg]
theorem ey {t n:Nat} (hi:i<xs.length) (hz:(e xs[i]).length=z.length):
 some (AO.tree t n fs ((bg e xs z i).set i (dP z 0 (e xs[i]))))=some (AO.tree t n fs (bg e xs z (i+1))):=by
 have:=cD (t:=t) (n:=n) (e:=e) hi hz
 simp only[Option.some.injEq,AO.row.injEq,true_and] at this
 rw[this]
theorem ez {t n:Nat} (h:xs.length≤i) (hi:i≤xs.length):some (AO.tree t n fs (bg e xs z i))=some (AO.tree t n fs (xs.map e)):=by
 rw[cE h hi]
end
def aB {α:Type} (f:α→Int→α×Int):List α→Int→List α×Int
 |[],k=>([],k)
 |x::xs,k=>((f x k).1::(aB f xs (f x k).2).1,(aB f xs (f x k).2).2)
def gF {α:Type} (f:α→Int→α×Int) (xs:List α) (k:Int) (i:Nat):Int:=(aB f (xs.take i) k).2
def uC {α:Type} (f:α→Int→α×Int) (e:α→List D) (xs:List α) (k:Int) (i:Nat):List (List D):=((aB f (xs.take i) k).1++xs.drop i).map e
section
variable {α:Type} {f:α→Int→α×Int} {e:α→List D}
theorem yk:∀(xs:List α) (y:α) (k:Int),aB f (xs++[y]) k=((aB f xs k).1++[(f y (aB f xs k).2).1],(f y (aB f xs k).2).2)
 |[],y,k=>rfl
 |x::xs,y,k=>by
  simp only[List.cons_append,aB,yk xs y]
theorem bv:∀(xs:List α) (k:Int),(aB f xs k).1.length=xs.length
 |[],_=>rfl
 |x::xs,k=>by simp only[aB,List.length_cons,bv xs]
theorem yj {xs:List α} {i:Nat} (h:i<xs.length) (k:Int):aB f (xs.take (i+1)) k=((aB f (xs.take i) k).1++[(f xs[i] (gF f xs k i)).1],(f xs[i] (gF f xs k i)).2):=by
 rw[List.take_succ_eq_append_getElem h,yk];rfl
theorem cr {xs:List α} {i:Nat} (h:i<xs.length) (k:Int):(f xs[i] (gF f xs k i)).2=gF f xs k (i+1):=by
 unfold gF
 rw[yj h];rfl
theorem bZ {xs:List α} {i:Nat} (k:Int) (h:i≤xs.length):(uC f e xs k i).length=xs.length:=by
 unfold uC
 rw[List.length_map,List.length_append,bv,List.length_take,List.length_drop];omega
theorem bi {xs:List α} {i:Nat} {k:Int} (h:i<xs.length):i<(uC f e xs k i).length:=by rw[bZ k (Nat.le_of_lt h)];exact h
theorem aW {xs:List α} {i:Nat} {k:Int} (h:i<xs.length):(uC f e xs k i)[i]? =some (e xs[i]):=by
 unfold uC
 rw[List.getElem?_map,List.getElem?_append_right (by rw[bv,List.length_take];omega),bv,List.length_take,Nat.min_eq_left (Nat.le_of_lt h),Nat.sub_self,List.getElem?_drop,Nat.add_zero,List.getElem?_eq_getElem h]
 rfl
theorem eF {xs:List α} {i:Nat} {k:Int} (h:i<xs.length) {r:List D} (hr:r=e (f xs[i] (gF f xs k i)).1):(uC f e xs k i).set i r=uC f e xs k (i+1):=by
 subst hr
 unfold uC
 rw[yj h,List.drop_eq_getElem_cons h,←List.map_set]
 congr 1
 rw[List.set_append_right _ _ (by rw[bv,List.length_take];omega),bv,List.length_take,Nat.min_eq_left (Nat.le_of_lt h),Nat.sub_self,List.set_cons_zero,List.append_assoc]
 rfl
theorem fW {xs:List α} {i:Nat} {k:Int} (h:xs.length≤i):uC f e xs k i=(aB f xs k).1.map e:=by
 unfold uC
 rw[List.take_of_length_le h,List.drop_of_length_le h,List.append_nil]
theorem di {xs:List α} {i:Nat} {k:Int} (h:xs.length≤i):gF f xs k i=(aB f xs k).2:=by
 unfold gF
 rw[List.take_of_length_le h]
theorem fD {R:List (List D)} {i:Nat} {r:List D} (h:i<R.length):(R.set i r)[i]? =some r:=by
 rw[List.getElem?_set_self h]
theorem FE {xs:List α} {i:Nat} (k:Int) (h:i<xs.length) (h':i<(aB f xs k).1.length):(aB f xs k).1[i]=(f xs[i] (gF f xs k i)).1:=by
 have key:∀(xs:List α) (k:Int) (i:Nat) (h:i<xs.length),(aB f xs k).1[i]? =some (f xs[i] (gF f xs k i)).1:=by
  intro xs
  induction xs with
  |nil=>intro k i h;simp at h
  |cons x xs ih=>
   intro k i h
   cases i with
   |zero=>rfl
   |succ i=>
    simp only[aB,List.getElem?_cons_succ]
    rw[ih (f x k).2 i (by simpa using h)]
    rfl
 have:=key xs k i h
 rw[List.getElem?_eq_getElem h'] at this
 injection this
end
theorem uN {α:Type} {f:α→Int→α×Int} {e:α→List D} {xs:List α} {k:Int} {i sz:Nat} {K:List D→Prop} (hk:i<xs.length) (hs:(e (f xs[i] (gF f xs k i)).1).length=sz) (h:K (e (f xs[i] (gF f xs k i)).1)):
 (0:Int)≤(i:Int)∧∃b,(((aB f xs k).1).map e)[(i:Int).toNat]? =some b∧b.length=sz∧K b:=by
 have hk':i<(aB f xs k).1.length:=by rw[bv];exact hk
 rw[←FE k hk hk'] at hs h
 exact O hk' hs h
def wk (k:Int):Int:=IntKind.i64.wrap (k+1)
end Go.Vc
end
section
namespace Go.Vc
open Go.Proofs
def GateField.n:List NT:=[.leaf,.leaf,.leaf,.leaf,.list 9 1 [.leaf],.leaf,.leaf,.leaf,.leaf,.leaf,.leaf]
def GateField.a (x:GateField):List AV:=[.d (.str x.name),.d (.int .i64 x.kind),.d (.int .i64 x.least),.d (.int .i64 x.most),.own 0,.d (.str x.to_),.d (.int .i64 x.role),.d (.bool x.must),.d (.bool x.fixed),.d (.str x.default_),.d (.str x.weighs)]
def GateField.o (x:GateField):List (Nat×AO):=[(0,.tree 9 1 [.leaf] (x.words.map eB))]
def GateShape.n:List NT:=[.leaf,.list 138 11 [.leaf,.leaf,.leaf,.leaf,.list 9 1 [.leaf],.leaf,.leaf,.leaf,.leaf,.leaf,.leaf]]
def GateShape.a (x:GateShape):List AV:=[.d (.str x.kind),.own 0]
def GateShape.o (x:GateShape):List (Nat×AO):=[(0,.tree 138 11 GateField.n (x.fields.map GateField.e))]
def GateMend.n:List NT:=[.leaf,.leaf,.leaf,.leaf,.leaf,.leaf]
def GateMend.a (x:GateMend):List AV:=[.d (.str x.kind),.d (.str x.field),.d (.str x.when_),.d (.str x.is_),.d (.str x.put),.d (.str x.from_)]
def GateMend.o (x:GateMend):List (Nat×AO):=[]
def GateTeam.n:List NT:=[.leaf,.leaf]
def GateTeam.a (x:GateTeam):List AV:=[.d (.str x.name),.d (.str x.over)]
def GateTeam.o (x:GateTeam):List (Nat×AO):=[]
def GateLaw.n:List NT:=[.list 164 2 [.leaf,.list 138 11 [.leaf,.leaf,.leaf,.leaf,.list 9 1 [.leaf],.leaf,.leaf,.leaf,.leaf,.leaf,.leaf]],.list 166 6 [.leaf,.leaf,.leaf,.leaf,.leaf,.leaf],.list 168 2 [.leaf,.leaf]]
def GateLaw.a (x:GateLaw):List AV:=[.own 0,.own 1,.own 2]
def GateLaw.o (x:GateLaw):List (Nat×AO):=[(0,.tree 164 2 GateShape.n (x.shapes.map GateShape.e)),(1,.tree 166 6 GateMend.n (x.mends.map GateMend.e)),(2,.tree 168 2 GateTeam.n (x.teams.map GateTeam.e))]
def GateObject.n:List NT:=[.leaf,.leaf,.leaf,.list 9 1 [.leaf],.leaf,.list 9 1 [.leaf],.leaf]
def GateObject.a (x:GateObject):List AV:=[.d (.str x.kind),.d (.str x.name),.d (.str x.team),.own 0,.d (.bool x.ending),.own 1,.d (.int .i64 x.version)]
def GateObject.o (x:GateObject):List (Nat×AO):=[(0,.tree 9 1 [.leaf] (x.values.map eB)),(1,.tree 9 1 [.leaf] (x.holds.map eB))]
def GateRule.n:List NT:=[.list 3 1 [.leaf],.leaf,.leaf,.leaf]
def GateRule.a (x:GateRule):List AV:=[.own 0,.d (.str x.kind),.d (.str x.team),.d (.str x.prefix_)]
def GateRule.o (x:GateRule):List (Nat×AO):=[(0,.tree 3 1 [.leaf] (x.verbs.map eN))]
def GateGrant.n:List NT:=[.leaf,.leaf,.leaf,.list 3 1 [.leaf],.leaf,.leaf,.leaf]
def GateGrant.a (x:GateGrant):List AV:=[.d (.int .i64 x.number),.d (.str x.to_),.d (.str x.by_),.own 0,.d (.str x.rule.kind),.d (.str x.rule.team),.d (.str x.rule.prefix_)]
def GateGrant.o (x:GateGrant):List (Nat×AO):=[(0,.tree 3 1 [.leaf] (x.rule.verbs.map eN))]
def GateLedger.n:List NT:=[.leaf,.leaf,.leaf,.leaf]
def GateLedger.a (x:GateLedger):List AV:=[.d (.str x.team),.d (.str x.resource),.d (.int .i64 x.most),.d (.int .i64 x.free)]
def GateLedger.o (x:GateLedger):List (Nat×AO):=[]
def GatePurse.n:List NT:=[.leaf,.leaf,.leaf,.leaf,.leaf]
def GatePurse.a (x:GatePurse):List AV:=[.d (.str x.door),.d (.str x.team),.d (.str x.resource),.d (.int .i64 x.amount),.d (.int .i64 x.until_)]
def GatePurse.o (x:GatePurse):List (Nat×AO):=[]
def GateBook.n:List NT:=[.leaf,.leaf,.leaf,.list 103 7 [.leaf,.leaf,.leaf,.list 9 1 [.leaf],.leaf,.list 9 1 [.leaf],.leaf],.list 173 7 [.leaf,.leaf,.leaf,.list 3 1 [.leaf],.leaf,.leaf,.leaf],.list 119 4 [.leaf,.leaf,.leaf,.leaf],.list 109 5 [.leaf,.leaf,.leaf,.leaf,.leaf]]
def GateBook.a (x:GateBook):List AV:=[.d (.int .i64 x.now),.d (.int .i64 x.tick),.d (.int .i64 x.given),.own 0,.own 1,.own 2,.own 3]
def GateBook.o (x:GateBook):List (Nat×AO):=[(0,.tree 103 7 GateObject.n (x.objects.map GateObject.e)),(1,.tree 173 7 GateGrant.n (x.grants.map GateGrant.e)),(2,.tree 119 4 GateLedger.n (x.ledgers.map GateLedger.e)),(3,.tree 109 5 GatePurse.n (x.purses.map GatePurse.e))]
end Go.Vc
end
section
namespace Go.Vc
open Go.Proofs
set_option maxRecDepth 100000
theorem j5 (xs:List Bs):HSpec P 179 [.d (lS xs)] hp0 (.own 0) ⟨[(0,.tree 9 1 [.leaf] (xs.map eB))],1,0⟩:=by
 refine ag cA az [.tmp 2] Tryz.func179 rfl rfl rfl rfl (fun hok=>?_)
 have hs:xs.length≤ap:=by have:=hok.1.1;rwa [List.length_map] at this
 repeat refine ai ?_
 refine aj (Int.natCast_nonneg _) (aj (Int.le_refl _) (aj (cT hs) ?_))
 refine ⟨fun k l h=>∃i:Nat,k=xs.length - i∧i≤xs.length∧l=[(0,.d (lS xs)),(3,.own 0),(4,.d (.int .i64 i))]∧h=⟨[(0,.tree 9 1 [.leaf] (bg eB xs [D.str []] i))],1,0⟩,
  ⟨_,_,_,⟨0,rfl,Nat.zero_le _,rfl,rfl⟩,rfl,rfl,⟨rfl,rfl,rfl,trivial⟩,⟨rfl,trivial⟩,⟨cW,trivial⟩⟩,?_⟩
 rintro k l h1 ⟨i,rfl,hi,rfl,rfl⟩
 refine aj ?_ ?_<;>intro h1
 ·have hlt:i<xs.length:=Y h1
  repeat refine ai ?_
  refine O (e:=eB) (xs:=xs) (hlt) rfl ?_
  repeat refine ai ?_
  refine aj (Int.natCast_nonneg _) (aj (by rw[aY hi];omega) ?_)
  repeat refine ai ?_
  refine ⟨_,aZ hlt,Nat.le_refl _,?_⟩
  exact ⟨_,_,_,⟨i+1,rfl,hlt,rfl,rfl⟩,by omega,rfl,rfl,⟨rfl,rfl,nd (V hlt hs),trivial⟩,⟨rfl,trivial⟩,⟨ey hlt rfl,trivial⟩⟩
 ·exact ⟨[some 0],rfl,rfl,⟨ez (Z h1) hi,rfl⟩,trivial⟩
theorem CT (xs:List Int):HSpec P 209 [.d (lI xs)] hp0 (.own 0) ⟨[(0,.tree 3 1 [.leaf] (xs.map eN))],1,0⟩:=by
 refine ag cA az [.tmp 2] Tryz.func209 rfl rfl rfl rfl (fun hok=>?_)
 have hs:xs.length≤ap:=by have:=hok.1.1;rwa [List.length_map] at this
 repeat refine ai ?_
 refine aj (Int.natCast_nonneg _) (aj (Int.le_refl _) (aj (cT hs) ?_))
 refine ⟨fun k l h=>∃i:Nat,k=xs.length - i∧i≤xs.length∧l=[(0,.d (lI xs)),(3,.own 0),(4,.d (.int .i64 i))]∧h=⟨[(0,.tree 3 1 [.leaf] (bg eN xs [D.int .i64 0] i))],1,0⟩,
  ⟨_,_,_,⟨0,rfl,Nat.zero_le _,rfl,rfl⟩,rfl,rfl,⟨rfl,rfl,rfl,trivial⟩,⟨rfl,trivial⟩,⟨cW,trivial⟩⟩,?_⟩
 rintro k l h1 ⟨i,rfl,hi,rfl,rfl⟩
 refine aj ?_ ?_<;>intro h1
 ·have hlt:i<xs.length:=Y h1
  repeat refine ai ?_
  refine O (e:=eN) (xs:=xs) (hlt) rfl ?_
  repeat refine ai ?_
  refine aj (Int.natCast_nonneg _) (aj (by rw[aY hi];omega) ?_)
  repeat refine ai ?_
  refine ⟨_,aZ hlt,Nat.le_refl _,?_⟩
  exact ⟨_,_,_,⟨i+1,rfl,hlt,rfl,rfl⟩,by omega,rfl,rfl,⟨rfl,rfl,nd (V hlt hs),trivial⟩,⟨rfl,trivial⟩,⟨ey hlt rfl,trivial⟩⟩
 ·exact ⟨[some 0],rfl,rfl,⟨ez (Z h1) hi,rfl⟩,trivial⟩
set_option maxHeartbeats 2000000 in
theorem sZ (x:GateField):HSpec P 208 [st x.e] hp0 (.agg x.a) ⟨x.o,1,0⟩:=by
 refine ag cA az [.cell 2 138] Tryz.func208 rfl rfl rfl rfl (fun hok=>?_)
 repeat refine ai ?_
 refine ow (j5 _) ?_
 repeat refine ai ?_
 exact ⟨[some 3],by (repeat' first|exact rfl|exact trivial|refine aj ?_ ?_)⟩
theorem qL (xs:List GateField):HSpec P 178 [.d (ac xs)] hp0 (.own 0) ⟨[(0,.tree 138 11 GateField.n (xs.map GateField.e))],1,0⟩:=by
 refine ag cA az [.tmp 2] Tryz.func178 rfl rfl rfl rfl (fun hok=>?_)
 have hs:xs.length≤ap:=by have:=hok.1.1;rwa [List.length_map] at this
 repeat refine ai ?_
 refine aj (Int.natCast_nonneg _) (aj (Int.le_refl _) (aj (cT hs) ?_))
 refine ⟨fun k l h=>∃i:Nat,k=xs.length - i∧i≤xs.length∧l=[(0,.d (ac xs)),(3,.own 0),(4,.d (.int .i64 i))]∧h=⟨[(0,.tree 138 11 GateField.n (bg GateField.e xs GateField.z i))],1,0⟩,
  ⟨_,_,_,⟨0,rfl,Nat.zero_le _,rfl,rfl⟩,rfl,rfl,⟨rfl,rfl,rfl,trivial⟩,⟨rfl,trivial⟩,⟨cW,trivial⟩⟩,?_⟩
 rintro k l h1 ⟨i,rfl,hi,rfl,rfl⟩
 refine aj ?_ ?_<;>intro h1
 ·have hlt:i<xs.length:=Y h1
  repeat refine ai ?_
  refine O (e:=GateField.e) (xs:=xs) (hlt) rfl ?_
  repeat refine ai ?_
  refine ow (sZ _) ?_
  repeat refine ai ?_
  refine aj (Int.natCast_nonneg _) (aj (by rw[aY hi];omega) ?_)
  repeat refine ai ?_
  refine ⟨_,aZ hlt,Nat.le_refl _,?_⟩
  exact ⟨_,_,_,⟨i+1,rfl,hlt,rfl,rfl⟩,by omega,rfl,rfl,⟨rfl,rfl,nd (V hlt hs),trivial⟩,⟨rfl,trivial⟩,⟨ey hlt rfl,trivial⟩⟩
 ·exact ⟨[some 0],rfl,rfl,⟨ez (Z h1) hi,rfl⟩,trivial⟩
set_option maxHeartbeats 2000000 in
theorem sW (x:GateShape):HSpec P 118 [st x.e] hp0 (.agg x.a) ⟨x.o,1,0⟩:=by
 refine ag cA az [.cell 2 164] Tryz.func118 rfl rfl rfl rfl (fun hok=>?_)
 repeat refine ai ?_
 refine ow (qL _) ?_
 repeat refine ai ?_
 exact ⟨[some 3],by (repeat' first|exact rfl|exact trivial|refine aj ?_ ?_)⟩
theorem qH (xs:List GateShape):HSpec P 48 [.d (ab xs)] hp0 (.own 0) ⟨[(0,.tree 164 2 GateShape.n (xs.map GateShape.e))],1,0⟩:=by
 refine ag cA az [.tmp 2] Tryz.func48 rfl rfl rfl rfl (fun hok=>?_)
 have hs:xs.length≤ap:=by have:=hok.1.1;rwa [List.length_map] at this
 repeat refine ai ?_
 refine aj (Int.natCast_nonneg _) (aj (Int.le_refl _) (aj (cT hs) ?_))
 refine ⟨fun k l h=>∃i:Nat,k=xs.length - i∧i≤xs.length∧l=[(0,.d (ab xs)),(3,.own 0),(4,.d (.int .i64 i))]∧h=⟨[(0,.tree 164 2 GateShape.n (bg GateShape.e xs GateShape.z i))],1,0⟩,
  ⟨_,_,_,⟨0,rfl,Nat.zero_le _,rfl,rfl⟩,rfl,rfl,⟨rfl,rfl,rfl,trivial⟩,⟨rfl,trivial⟩,⟨cW,trivial⟩⟩,?_⟩
 rintro k l h1 ⟨i,rfl,hi,rfl,rfl⟩
 refine aj ?_ ?_<;>intro h1
 ·have hlt:i<xs.length:=Y h1
  repeat refine ai ?_
  refine O (e:=GateShape.e) (xs:=xs) (hlt) rfl ?_
  repeat refine ai ?_
  refine ow (sW _) ?_
  repeat refine ai ?_
  refine aj (Int.natCast_nonneg _) (aj (by rw[aY hi];omega) ?_)
  repeat refine ai ?_
  refine ⟨_,aZ hlt,Nat.le_refl _,?_⟩
  exact ⟨_,_,_,⟨i+1,rfl,hlt,rfl,rfl⟩,by omega,rfl,rfl,⟨rfl,rfl,nd (V hlt hs),trivial⟩,⟨rfl,trivial⟩,⟨ey hlt rfl,trivial⟩⟩
 ·exact ⟨[some 0],rfl,rfl,⟨ez (Z h1) hi,rfl⟩,trivial⟩
theorem sX (xs:List GateMend):HSpec P 49 [.d (ah xs)] hp0 (.own 0) ⟨[(0,.tree 166 6 GateMend.n (xs.map GateMend.e))],1,0⟩:=by
 refine ag cA az [.tmp 2] Tryz.func49 rfl rfl rfl rfl (fun hok=>?_)
 have hs:xs.length≤ap:=by have:=hok.1.1;rwa [List.length_map] at this
 repeat refine ai ?_
 refine aj (Int.natCast_nonneg _) (aj (Int.le_refl _) (aj (cT hs) ?_))
 refine ⟨fun k l h=>∃i:Nat,k=xs.length - i∧i≤xs.length∧l=[(0,.d (ah xs)),(3,.own 0),(4,.d (.int .i64 i))]∧h=⟨[(0,.tree 166 6 GateMend.n (bg GateMend.e xs GateMend.z i))],1,0⟩,
  ⟨_,_,_,⟨0,rfl,Nat.zero_le _,rfl,rfl⟩,rfl,rfl,⟨rfl,rfl,rfl,trivial⟩,⟨rfl,trivial⟩,⟨cW,trivial⟩⟩,?_⟩
 rintro k l h1 ⟨i,rfl,hi,rfl,rfl⟩
 refine aj ?_ ?_<;>intro h1
 ·have hlt:i<xs.length:=Y h1
  repeat refine ai ?_
  refine O (e:=GateMend.e) (xs:=xs) (hlt) rfl ?_
  repeat refine ai ?_
  refine oc (pg _) ?_
  repeat refine ai ?_
  refine aj (Int.natCast_nonneg _) (aj (by rw[aY hi];omega) ?_)
  repeat refine ai ?_
  refine ⟨_,aZ hlt,Nat.le_refl _,?_⟩
  exact ⟨_,_,_,⟨i+1,rfl,hlt,rfl,rfl⟩,by omega,rfl,rfl,⟨rfl,rfl,nd (V hlt hs),trivial⟩,⟨rfl,trivial⟩,⟨ey hlt rfl,trivial⟩⟩
 ·exact ⟨[some 0],rfl,rfl,⟨ez (Z h1) hi,rfl⟩,trivial⟩
theorem sV (xs:List GateTeam):HSpec P 50 [.d (ao xs)] hp0 (.own 0) ⟨[(0,.tree 168 2 GateTeam.n (xs.map GateTeam.e))],1,0⟩:=by
 refine ag cA az [.tmp 2] Tryz.func50 rfl rfl rfl rfl (fun hok=>?_)
 have hs:xs.length≤ap:=by have:=hok.1.1;rwa [List.length_map] at this
 repeat refine ai ?_
 refine aj (Int.natCast_nonneg _) (aj (Int.le_refl _) (aj (cT hs) ?_))
 refine ⟨fun k l h=>∃i:Nat,k=xs.length - i∧i≤xs.length∧l=[(0,.d (ao xs)),(3,.own 0),(4,.d (.int .i64 i))]∧h=⟨[(0,.tree 168 2 GateTeam.n (bg GateTeam.e xs GateTeam.z i))],1,0⟩,
  ⟨_,_,_,⟨0,rfl,Nat.zero_le _,rfl,rfl⟩,rfl,rfl,⟨rfl,rfl,rfl,trivial⟩,⟨rfl,trivial⟩,⟨cW,trivial⟩⟩,?_⟩
 rintro k l h1 ⟨i,rfl,hi,rfl,rfl⟩
 refine aj ?_ ?_<;>intro h1
 ·have hlt:i<xs.length:=Y h1
  repeat refine ai ?_
  refine O (e:=GateTeam.e) (xs:=xs) (hlt) rfl ?_
  repeat refine ai ?_
  refine oc (pf _) ?_
  repeat refine ai ?_
  refine aj (Int.natCast_nonneg _) (aj (by rw[aY hi];omega) ?_)
  repeat refine ai ?_
  refine ⟨_,aZ hlt,Nat.le_refl _,?_⟩
  exact ⟨_,_,_,⟨i+1,rfl,hlt,rfl,rfl⟩,by omega,rfl,rfl,⟨rfl,rfl,nd (V hlt hs),trivial⟩,⟨rfl,trivial⟩,⟨ey hlt rfl,trivial⟩⟩
 ·exact ⟨[some 0],rfl,rfl,⟨ez (Z h1) hi,rfl⟩,trivial⟩
set_option maxHeartbeats 2000000 in
theorem xA (x:GateLaw):HSpec P 14 [st x.e] hp0 (.agg x.a) ⟨x.o,3,0⟩:=by
 refine ag cA az [.cell 2 41] Tryz.func14 rfl rfl rfl rfl (fun hok=>?_)
 repeat refine ai ?_
 refine ow (qH _) ?_
 repeat refine ai ?_
 refine ow (sX _) ?_
 repeat refine ai ?_
 refine ow (sV _) ?_
 repeat refine ai ?_
 exact ⟨[some 3,some 4,some 5],by (repeat' first|exact rfl|exact trivial|refine aj ?_ ?_)⟩
set_option maxHeartbeats 2000000 in
theorem qJ (x:GateObject):HSpec P 121 [st x.e] hp0 (.agg x.a) ⟨x.o,2,0⟩:=by
 refine ag cA az [.cell 2 103] Tryz.func121 rfl rfl rfl rfl (fun hok=>?_)
 repeat refine ai ?_
 refine ow (j5 _) ?_
 repeat refine ai ?_
 refine ow (j5 _) ?_
 repeat refine ai ?_
 exact ⟨[some 3,some 4],by (repeat' first|exact rfl|exact trivial|refine aj ?_ ?_)⟩
theorem pG (xs:List GateObject):HSpec P 51 [.d (aD xs)] hp0 (.own 0) ⟨[(0,.tree 103 7 GateObject.n (xs.map GateObject.e))],1,0⟩:=by
 refine ag cA az [.tmp 2] Tryz.func51 rfl rfl rfl rfl (fun hok=>?_)
 have hs:xs.length≤ap:=by have:=hok.1.1;rwa [List.length_map] at this
 repeat refine ai ?_
 refine aj (Int.natCast_nonneg _) (aj (Int.le_refl _) (aj (cT hs) ?_))
 refine ⟨fun k l h=>∃i:Nat,k=xs.length - i∧i≤xs.length∧l=[(0,.d (aD xs)),(3,.own 0),(4,.d (.int .i64 i))]∧h=⟨[(0,.tree 103 7 GateObject.n (bg GateObject.e xs GateObject.z i))],1,0⟩,
  ⟨_,_,_,⟨0,rfl,Nat.zero_le _,rfl,rfl⟩,rfl,rfl,⟨rfl,rfl,rfl,trivial⟩,⟨rfl,trivial⟩,⟨cW,trivial⟩⟩,?_⟩
 rintro k l h1 ⟨i,rfl,hi,rfl,rfl⟩
 refine aj ?_ ?_<;>intro h1
 ·have hlt:i<xs.length:=Y h1
  repeat refine ai ?_
  refine O (e:=GateObject.e) (xs:=xs) (hlt) rfl ?_
  repeat refine ai ?_
  refine ow (qJ _) ?_
  repeat refine ai ?_
  refine aj (Int.natCast_nonneg _) (aj (by rw[aY hi];omega) ?_)
  repeat refine ai ?_
  refine ⟨_,aZ hlt,Nat.le_refl _,?_⟩
  exact ⟨_,_,_,⟨i+1,rfl,hlt,rfl,rfl⟩,by omega,rfl,rfl,⟨rfl,rfl,nd (V hlt hs),trivial⟩,⟨rfl,trivial⟩,⟨ey hlt rfl,trivial⟩⟩
 ·exact ⟨[some 0],rfl,rfl,⟨ez (Z h1) hi,rfl⟩,trivial⟩
set_option maxHeartbeats 2000000 in
theorem vL (x:GateRule):HSpec P 180 [st x.e] hp0 (.agg x.a) ⟨x.o,1,0⟩:=by
 refine ag cA az [.cell 2 171] Tryz.func180 rfl rfl rfl rfl (fun hok=>?_)
 repeat refine ai ?_
 refine ow (CT _) ?_
 repeat refine ai ?_
 exact ⟨[some 3],by (repeat' first|exact rfl|exact trivial|refine aj ?_ ?_)⟩
set_option maxHeartbeats 2000000 in
theorem sY (x:GateGrant):HSpec P 122 [st x.e] hp0 (.agg x.a) ⟨x.o,1,0⟩:=by
 refine ag cA az [.cell 2 173] Tryz.func122 rfl rfl rfl rfl (fun hok=>?_)
 repeat refine ai ?_
 refine ow (vL _) ?_
 repeat refine ai ?_
 exact ⟨[some 3],by (repeat' first|exact rfl|exact trivial|refine aj ?_ ?_)⟩
theorem qK (xs:List GateGrant):HSpec P 52 [.d (aU xs)] hp0 (.own 0) ⟨[(0,.tree 173 7 GateGrant.n (xs.map GateGrant.e))],1,0⟩:=by
 refine ag cA az [.tmp 2] Tryz.func52 rfl rfl rfl rfl (fun hok=>?_)
 have hs:xs.length≤ap:=by have:=hok.1.1;rwa [List.length_map] at this
 repeat refine ai ?_
 refine aj (Int.natCast_nonneg _) (aj (Int.le_refl _) (aj (cT hs) ?_))
 refine ⟨fun k l h=>∃i:Nat,k=xs.length - i∧i≤xs.length∧l=[(0,.d (aU xs)),(3,.own 0),(4,.d (.int .i64 i))]∧h=⟨[(0,.tree 173 7 GateGrant.n (bg GateGrant.e xs GateGrant.z i))],1,0⟩,
  ⟨_,_,_,⟨0,rfl,Nat.zero_le _,rfl,rfl⟩,rfl,rfl,⟨rfl,rfl,rfl,trivial⟩,⟨rfl,trivial⟩,⟨cW,trivial⟩⟩,?_⟩
 rintro k l h1 ⟨i,rfl,hi,rfl,rfl⟩
 refine aj ?_ ?_<;>intro h1
 ·have hlt:i<xs.length:=Y h1
  repeat refine ai ?_
  refine O (e:=GateGrant.e) (xs:=xs) (hlt) rfl ?_
  repeat refine ai ?_
  refine ow (sY _) ?_
  repeat refine ai ?_
  refine aj (Int.natCast_nonneg _) (aj (by rw[aY hi];omega) ?_)
  repeat refine ai ?_
  refine ⟨_,aZ hlt,Nat.le_refl _,?_⟩
  exact ⟨_,_,_,⟨i+1,rfl,hlt,rfl,rfl⟩,by omega,rfl,rfl,⟨rfl,rfl,nd (V hlt hs),trivial⟩,⟨rfl,trivial⟩,⟨ey hlt rfl,trivial⟩⟩
 ·exact ⟨[some 0],rfl,rfl,⟨ez (Z h1) hi,rfl⟩,trivial⟩
theorem pH (xs:List GateLedger):HSpec P 53 [.d (aK xs)] hp0 (.own 0) ⟨[(0,.tree 119 4 GateLedger.n (xs.map GateLedger.e))],1,0⟩:=by
 refine ag cA az [.tmp 2] Tryz.func53 rfl rfl rfl rfl (fun hok=>?_)
 have hs:xs.length≤ap:=by have:=hok.1.1;rwa [List.length_map] at this
 repeat refine ai ?_
 refine aj (Int.natCast_nonneg _) (aj (Int.le_refl _) (aj (cT hs) ?_))
 refine ⟨fun k l h=>∃i:Nat,k=xs.length - i∧i≤xs.length∧l=[(0,.d (aK xs)),(3,.own 0),(4,.d (.int .i64 i))]∧h=⟨[(0,.tree 119 4 GateLedger.n (bg GateLedger.e xs GateLedger.z i))],1,0⟩,
  ⟨_,_,_,⟨0,rfl,Nat.zero_le _,rfl,rfl⟩,rfl,rfl,⟨rfl,rfl,rfl,trivial⟩,⟨rfl,trivial⟩,⟨cW,trivial⟩⟩,?_⟩
 rintro k l h1 ⟨i,rfl,hi,rfl,rfl⟩
 refine aj ?_ ?_<;>intro h1
 ·have hlt:i<xs.length:=Y h1
  repeat refine ai ?_
  refine O (e:=GateLedger.e) (xs:=xs) (hlt) rfl ?_
  repeat refine ai ?_
  refine oc (lp _) ?_
  repeat refine ai ?_
  refine aj (Int.natCast_nonneg _) (aj (by rw[aY hi];omega) ?_)
  repeat refine ai ?_
  refine ⟨_,aZ hlt,Nat.le_refl _,?_⟩
  exact ⟨_,_,_,⟨i+1,rfl,hlt,rfl,rfl⟩,by omega,rfl,rfl,⟨rfl,rfl,nd (V hlt hs),trivial⟩,⟨rfl,trivial⟩,⟨ey hlt rfl,trivial⟩⟩
 ·exact ⟨[some 0],rfl,rfl,⟨ez (Z h1) hi,rfl⟩,trivial⟩
theorem qI (xs:List GatePurse):HSpec P 54 [.d (aG xs)] hp0 (.own 0) ⟨[(0,.tree 109 5 GatePurse.n (xs.map GatePurse.e))],1,0⟩:=by
 refine ag cA az [.tmp 2] Tryz.func54 rfl rfl rfl rfl (fun hok=>?_)
 have hs:xs.length≤ap:=by have:=hok.1.1;rwa [List.length_map] at this
 repeat refine ai ?_
 refine aj (Int.natCast_nonneg _) (aj (Int.le_refl _) (aj (cT hs) ?_))
 refine ⟨fun k l h=>∃i:Nat,k=xs.length - i∧i≤xs.length∧l=[(0,.d (aG xs)),(3,.own 0),(4,.d (.int .i64 i))]∧h=⟨[(0,.tree 109 5 GatePurse.n (bg GatePurse.e xs GatePurse.z i))],1,0⟩,
  ⟨_,_,_,⟨0,rfl,Nat.zero_le _,rfl,rfl⟩,rfl,rfl,⟨rfl,rfl,rfl,trivial⟩,⟨rfl,trivial⟩,⟨cW,trivial⟩⟩,?_⟩
 rintro k l h1 ⟨i,rfl,hi,rfl,rfl⟩
 refine aj ?_ ?_<;>intro h1
 ·have hlt:i<xs.length:=Y h1
  repeat refine ai ?_
  refine O (e:=GatePurse.e) (xs:=xs) (hlt) rfl ?_
  repeat refine ai ?_
  refine oc (mL _) ?_
  repeat refine ai ?_
  refine aj (Int.natCast_nonneg _) (aj (by rw[aY hi];omega) ?_)
  repeat refine ai ?_
  refine ⟨_,aZ hlt,Nat.le_refl _,?_⟩
  exact ⟨_,_,_,⟨i+1,rfl,hlt,rfl,rfl⟩,by omega,rfl,rfl,⟨rfl,rfl,nd (V hlt hs),trivial⟩,⟨rfl,trivial⟩,⟨ey hlt rfl,trivial⟩⟩
 ·exact ⟨[some 0],rfl,rfl,⟨ez (Z h1) hi,rfl⟩,trivial⟩
set_option maxHeartbeats 2000000 in
theorem vM (x:GateBook):HSpec P 15 [st x.e] hp0 (.agg x.a) ⟨x.o,4,0⟩:=by
 refine ag cA az [.cell 2 48] Tryz.func15 rfl rfl rfl rfl (fun hok=>?_)
 repeat refine ai ?_
 refine ow (pG _) ?_
 repeat refine ai ?_
 refine ow (qK _) ?_
 repeat refine ai ?_
 refine ow (pH _) ?_
 repeat refine ai ?_
 refine ow (qI _) ?_
 repeat refine ai ?_
 exact ⟨[some 3,some 4,some 5,some 6],by (repeat' first|exact rfl|exact trivial|refine aj ?_ ?_)⟩
end Go.Vc
end
section
namespace Go.Vc
open Go.Proofs
set_option maxRecDepth 100000
section
variable {α:Type} {e:α→List D} {xs:List α} {k:Nat}
theorem Cn (h:k<xs.length):(xs.map e)[k]? =some (e xs[k]):=by simp[h]
theorem fL {K:Prop} (h:k<xs.length) (q:K):(0:Int)≤(k:Int)∧(k:Int)<(((xs.map e).length:Nat):Int)∧K:=⟨Int.natCast_nonneg _,by rw[List.length_map];omega,q⟩
theorem kq {K:List D→Prop} (h:k<xs.length) (q:K (e xs[k])):∃r,(xs.map e)[k]? =some r∧K r:=⟨_,Cn h,q⟩
theorem AJ {t sz:Nat} {fs:List NT} {r:List D} {y:α} (hr:r=e y):some (AO.tree t sz fs ((xs.map e).set k r))=some (AO.tree t sz fs ((xs.set k y).map e)):=by
 rw[hr,List.map_set]
theorem dY {t sz:Nat} {fs:List NT} {a b:List (List D)} (h:a=b):some (AO.tree t sz fs a)=some (AO.tree t sz fs b):=by rw[h]
end
section
variable {α:Type} {xs:List α} {i q:Nat}
def FS (xs:List α) (i q:Nat):List α:=(xs.take q).eraseIdx i
theorem GC:FS xs i 0=[]:=rfl
theorem GT (h:xs.length≤q):FS xs i q=xs.eraseIdx i:=by
 unfold FS
 rw[List.take_of_length_le h]
end
def BB (g:GateLedger) (n:Int):GateLedger:={g with free:=bk g.free n}
def G7 (b:GateBook) (i k:Nat) (hi:i<b.purses.length) (hk:k<b.ledgers.length):GateBook:=
 {b with ledgers:=b.ledgers.set k (BB b.ledgers[k] b.purses[i].amount),purses:=b.purses.eraseIdx i}
abbrev lj (b:GateBook) (t r:Bs):Int:=dO (fun x=>x.team==t&&x.resource==r) b.ledgers
abbrev jR (b:GateBook) (d t r:Bs):Int:=dO (fun x=>x.door==d&&(x.team==t&&x.resource==r)) b.purses
def Ha (b:GateBook):Prop:=∀p∈b.purses,b.ledgers.any (fun g=>g.team==p.team&&g.resource==p.resource)=true
def Fj (b:GateBook) (i:Nat):GateBook:=match b.purses[i]? with
 |none=>b
 |some p=>match b.ledgers[(lj b p.team p.resource).toNat]? with
  |none=>b
  |some g=>{b with ledgers:=b.ledgers.set (lj b p.team p.resource).toNat (BB g p.amount),purses:=b.purses.eraseIdx i}
theorem vb {α:Type} {r:Option α→α→Bool} {q:α→Bool} (h:∀p x,r p x=true→q x=true):∀{xs:List α} {p:Option α},ar r p xs=true→∀x∈xs,q x=true
 |[],_,_,x,hx=>by cases hx
 |y::xs,p,hc,x,hx=>by
  simp only[ar,Bool.and_eq_true] at hc
  rcases List.mem_cons.1 hx with rfl|hx
  ·exact h _ _ hc.1
  ·exact vb h hc.2 x hx
def Hg (b:GateBook) (o g l p:Nat):AO:= .cells 48 [.d (.int .i64 b.now),.d (.int .i64 b.tick),.d (.int .i64 b.given),.own o,.own g,.own l,.own p]
def Hj (b:GateBook) (o g l p:Nat):AV:= .agg [.d (.int .i64 b.now),.d (.int .i64 b.tick),.d (.int .i64 b.given),.own o,.own g,.own l,.own p]
def Hk (b:GateBook):AO:= .tree 103 7 GateObject.n (b.objects.map GateObject.e)
def Hv (b:GateBook):AO:= .tree 173 7 GateGrant.n (b.grants.map GateGrant.e)
def Hu (b:GateBook):AO:= .tree 119 4 GateLedger.n (b.ledgers.map GateLedger.e)
def Ht (b:GateBook):AO:= .tree 109 5 GatePurse.n (b.purses.map GatePurse.e)
end Go.Vc
end
section
namespace Go.Vc
open Go.Proofs
set_option maxRecDepth 100000
theorem An (xs:List Bs):∀r∈xs.map eB,gI 1 r:=fun r hr=>by
 obtain ⟨x,_,rfl⟩:=List.mem_map.1 hr
 exact ⟨rfl,fun d hd=>by rw[List.mem_singleton.1 hd];rfl⟩
theorem D0 (xs:List Int):∀r∈xs.map eN,gI 1 r:=fun r hr=>by
 obtain ⟨x,_,rfl⟩:=List.mem_map.1 hr
 exact ⟨rfl,fun d hd=>by rw[List.mem_singleton.1 hd];rfl⟩
theorem FO (xs:List GateLedger):∀r∈xs.map GateLedger.e,gI 4 r:=fun r hr=>by
 obtain ⟨x,_,rfl⟩:=List.mem_map.1 hr
 exact ⟨rfl,fun d hd=>by simp only[GateLedger.e,List.mem_cons,List.not_mem_nil,or_false] at hd;rcases hd with rfl|rfl|rfl|rfl<;>rfl⟩
theorem FN (xs:List GatePurse):∀r∈xs.map GatePurse.e,gI 5 r:=fun r hr=>by
 obtain ⟨x,_,rfl⟩:=List.mem_map.1 hr
 exact ⟨rfl,fun d hd=>by simp only[GatePurse.e,List.mem_cons,List.not_mem_nil,or_false] at hd;rcases hd with rfl|rfl|rfl|rfl|rfl<;>rfl⟩
theorem nH (xs:List Bs):HSpec P 192 [.d (lS xs)] hp0 (.own 0) ⟨[(0,.tree 9 1 [.leaf] (xs.map eB))],1,0⟩:=by
 refine ag cA az [.tmp 2] Tryz.func192 rfl rfl rfl rfl (fun hok=>?_)
 have hs:xs.length≤ap:=ax hok.1.1
 repeat refine ai ?_
 refine aj ?_ ?_<;>intro h1
 ·rw[List.length_map] at h1
  have:=beq_iff_eq.1 h1
  have:xs=[]:=List.eq_nil_of_length_eq_zero (by omega)
  subst this
  repeat refine ai ?_
  exact ⟨[none],by repeat' first|exact rfl|exact trivial|refine aj ?_ ?_⟩
 ·rw[List.length_map] at h1
  have h1:=beq_eq_false_iff_ne.1 h1
  repeat refine ai ?_
  refine ⟨Int.natCast_nonneg _,Int.le_refl _,cT hs,?_⟩
  repeat refine ai ?_
  refine ⟨?_,?_,An xs,?_⟩
  ·simp
  ·rw[List.length_map];omega
  repeat refine ai ?_
  exact ⟨[some 0],by repeat' first|exact rfl|exact trivial|refine aj ?_ ?_⟩
theorem EW (o:GateObject):HSpec P 145 [st o.e] hp0 (.agg o.a) ⟨o.o,2,0⟩:=by
 refine ag cA az [.cell 2 103] Tryz.func145 rfl rfl rfl rfl (fun hok=>?_)
 repeat refine ai ?_
 refine ow (nH _) ?_
 repeat refine ai ?_
 refine ow (nH _) ?_
 repeat refine ai ?_
 exact ⟨[some 2,some 3],by repeat' first|exact rfl|exact trivial|refine aj ?_ ?_⟩
theorem Aa (x:GateRule):HSpec P 193 [st x.e] hp0 (.agg x.a) ⟨x.o,1,0⟩:=by
 refine ag cA az [.cell 2 171] Tryz.func193 rfl rfl rfl rfl (fun hok=>?_)
 have hs:x.verbs.length≤ap:=by
  have:=hok.1
  simp only[st,AV.ok,GateRule.e,List.map,dS] at this
  exact ax this.1.1
 repeat refine ai ?_
 refine aj ?_ ?_<;>intro h1
 ·rw[List.length_map] at h1
  have:=beq_iff_eq.1 h1
  have hv:x.verbs=[]:=List.eq_nil_of_length_eq_zero (by omega)
  have ho:x.o=[(0,.tree 3 1 [.leaf] [])]:=by unfold GateRule.o;rw[hv];rfl
  rw[ho]
  repeat refine ai ?_
  exact ⟨[none],by repeat' first|exact rfl|exact trivial|refine aj ?_ ?_⟩
 ·rw[List.length_map] at h1
  have h1:=beq_eq_false_iff_ne.1 h1
  repeat refine ai ?_
  refine ⟨Int.natCast_nonneg _,Int.le_refl _,cT hs,?_⟩
  repeat refine ai ?_
  refine ⟨?_,?_,D0 x.verbs,?_⟩
  ·simp
  ·rw[List.length_map];omega
  repeat refine ai ?_
  exact ⟨[some 2],by repeat' first|exact rfl|exact trivial|refine aj ?_ ?_⟩
theorem yF (x:GateGrant):HSpec P 147 [st x.e] hp0 (.agg x.a) ⟨x.o,1,0⟩:=by
 refine ag cA az [.cell 2 173] Tryz.func147 rfl rfl rfl rfl (fun hok=>?_)
 repeat refine ai ?_
 refine ow (Aa x.rule) ?_
 repeat refine ai ?_
 exact ⟨[some 2],by repeat' first|exact rfl|exact trivial|refine aj ?_ ?_⟩
theorem EZ (x:GateLedger):Spec P 149 [st x.e] (st x.e):=by
 refine Spec.of_vc cA az [.cell 2 119] Tryz.func149 rfl rfl rfl rfl (fun hok=>?_)
 repeat refine ai ?_
 exact rfl
theorem EY (x:GatePurse):Spec P 151 [st x.e] (st x.e):=by
 refine Spec.of_vc cA az [.cell 2 109] Tryz.func151 rfl rfl rfl rfl (fun hok=>?_)
 repeat refine ai ?_
 exact rfl
set_option maxHeartbeats 2000000 in
theorem oO (xs:List GateObject):HSpec P 144 [.d (aD xs),.fn 145 []] hp0 (.own 0) ⟨[(0,.tree 103 7 GateObject.n (xs.map GateObject.e))],1,0⟩:=by
 refine ag cA az [.tmp 4] Tryz.func144 rfl rfl rfl rfl (fun hok=>?_)
 have hs:xs.length≤ap:=ax hok.1.1
 repeat refine ai ?_
 refine aj ?_ ?_<;>intro h1
 ·rw[List.length_map] at h1
  have:=beq_iff_eq.1 h1
  have:xs=[]:=List.eq_nil_of_length_eq_zero (by omega)
  subst this
  repeat refine ai ?_
  exact ⟨[none],by repeat' first|exact rfl|exact trivial|refine aj ?_ ?_⟩
 ·repeat refine ai ?_
  refine ⟨Int.le_refl _,Int.natCast_nonneg _,cT hs,?_⟩
  repeat refine ai ?_
  refine dU (xs) (fun i=>True) (fun i=>[(1,.fn 145 []),(5,.own 0),(14,.d (aD xs)),(15,.d (.int .i64 (xs.map GateObject.e).length)),(16,.d (.int .i64 i))]) (fun i=>⟨[(0,.tree 103 7 GateObject.n ((xs.take i).map GateObject.e))],1,0⟩) (trivial) ?_
  intro i hi hr
  repeat refine ai ?_
  refine aj ?_ ?_<;>intro h2
  ·have hlt:i<xs.length:=Y h2
   repeat refine ai ?_
   refine O (e:=GateObject.e) (xs:=xs) (hlt) rfl ?_
   repeat refine ai ?_
   refine ow (EW _) ?_
   repeat refine ai ?_
   refine aj trivial ?_
   repeat refine ai ?_
   refine aj (by simp only[List.length_append,List.length_nil,List.length_cons,List.length_map,List.length_take] at*;unfold ap at*;omega) ?_
   repeat refine ai ?_
   exact bV hlt hs trivial fun hw=>by repeat' first|exact rfl|exact trivial|exact nd hw|exact (dY (by rw[List.take_succ_eq_append_getElem hlt,List.map_append];rfl))|refine aj ?_ ?_
  ·repeat refine ai ?_
   rw[List.take_of_length_le (Z h2)]
   repeat refine ai ?_
   refine aj ⟨rfl,rfl⟩ ?_
   repeat refine ai ?_
   exact ⟨[some 0],by repeat' first|exact rfl|exact trivial|refine aj ?_ ?_⟩
set_option maxHeartbeats 2000000 in
theorem pY (xs:List GateGrant):HSpec P 146 [.d (aU xs),.fn 147 []] hp0 (.own 0) ⟨[(0,.tree 173 7 GateGrant.n (xs.map GateGrant.e))],1,0⟩:=by
 refine ag cA az [.tmp 4] Tryz.func146 rfl rfl rfl rfl (fun hok=>?_)
 have hs:xs.length≤ap:=ax hok.1.1
 repeat refine ai ?_
 refine aj ?_ ?_<;>intro h1
 ·rw[List.length_map] at h1
  have:=beq_iff_eq.1 h1
  have:xs=[]:=List.eq_nil_of_length_eq_zero (by omega)
  subst this
  repeat refine ai ?_
  exact ⟨[none],by repeat' first|exact rfl|exact trivial|refine aj ?_ ?_⟩
 ·repeat refine ai ?_
  refine ⟨Int.le_refl _,Int.natCast_nonneg _,cT hs,?_⟩
  repeat refine ai ?_
  refine dU (xs) (fun i=>True) (fun i=>[(1,.fn 147 []),(5,.own 0),(14,.d (aU xs)),(15,.d (.int .i64 (xs.map GateGrant.e).length)),(16,.d (.int .i64 i))]) (fun i=>⟨[(0,.tree 173 7 GateGrant.n ((xs.take i).map GateGrant.e))],1,0⟩) (trivial) ?_
  intro i hi hr
  repeat refine ai ?_
  refine aj ?_ ?_<;>intro h2
  ·have hlt:i<xs.length:=Y h2
   repeat refine ai ?_
   refine O (e:=GateGrant.e) (xs:=xs) (hlt) rfl ?_
   repeat refine ai ?_
   refine ow (yF _) ?_
   repeat refine ai ?_
   refine aj trivial ?_
   repeat refine ai ?_
   refine aj (by simp only[List.length_append,List.length_nil,List.length_cons,List.length_map,List.length_take] at*;unfold ap at*;omega) ?_
   repeat refine ai ?_
   exact bV hlt hs trivial fun hw=>by repeat' first|exact rfl|exact trivial|exact nd hw|exact (dY (by rw[List.take_succ_eq_append_getElem hlt,List.map_append];rfl))|refine aj ?_ ?_
  ·repeat refine ai ?_
   rw[List.take_of_length_le (Z h2)]
   repeat refine ai ?_
   refine aj ⟨rfl,rfl⟩ ?_
   repeat refine ai ?_
   exact ⟨[some 0],by repeat' first|exact rfl|exact trivial|refine aj ?_ ?_⟩
set_option maxHeartbeats 2000000 in
theorem oQ (xs:List GateLedger):HSpec P 148 [.d (aK xs),.fn 149 []] hp0 (.own 0) ⟨[(0,.tree 119 4 GateLedger.n (xs.map GateLedger.e))],1,0⟩:=by
 refine ag cA az [.tmp 4] Tryz.func148 rfl rfl rfl rfl (fun hok=>?_)
 have hs:xs.length≤ap:=ax hok.1.1
 repeat refine ai ?_
 refine aj ?_ ?_<;>intro h1
 ·rw[List.length_map] at h1
  have:=beq_iff_eq.1 h1
  have:xs=[]:=List.eq_nil_of_length_eq_zero (by omega)
  subst this
  repeat refine ai ?_
  exact ⟨[none],by repeat' first|exact rfl|exact trivial|refine aj ?_ ?_⟩
 ·repeat refine ai ?_
  refine ⟨Int.le_refl _,Int.natCast_nonneg _,cT hs,?_⟩
  repeat refine ai ?_
  refine dU (xs) (fun i=>True) (fun i=>[(1,.fn 149 []),(5,.own 0),(14,.d (aK xs)),(15,.d (.int .i64 (xs.map GateLedger.e).length)),(16,.d (.int .i64 i))]) (fun i=>⟨[(0,.tree 119 4 GateLedger.n ((xs.take i).map GateLedger.e))],1,0⟩) (trivial) ?_
  intro i hi hr
  repeat refine ai ?_
  refine aj ?_ ?_<;>intro h2
  ·have hlt:i<xs.length:=Y h2
   repeat refine ai ?_
   refine O (e:=GateLedger.e) (xs:=xs) (hlt) rfl ?_
   repeat refine ai ?_
   refine oc (EZ _) ?_
   repeat refine ai ?_
   refine aj trivial ?_
   repeat refine ai ?_
   refine aj (by simp only[List.length_append,List.length_nil,List.length_cons,List.length_map,List.length_take] at*;unfold ap at*;omega) ?_
   repeat refine ai ?_
   exact bV hlt hs trivial fun hw=>by repeat' first|exact rfl|exact trivial|exact nd hw|exact (dY (by rw[List.take_succ_eq_append_getElem hlt,List.map_append];rfl))|refine aj ?_ ?_
  ·repeat refine ai ?_
   rw[List.take_of_length_le (Z h2)]
   repeat refine ai ?_
   refine aj ⟨rfl,rfl⟩ ?_
   repeat refine ai ?_
   exact ⟨[some 0],by repeat' first|exact rfl|exact trivial|refine aj ?_ ?_⟩
set_option maxHeartbeats 2000000 in
theorem pX (xs:List GatePurse):HSpec P 150 [.d (aG xs),.fn 151 []] hp0 (.own 0) ⟨[(0,.tree 109 5 GatePurse.n (xs.map GatePurse.e))],1,0⟩:=by
 refine ag cA az [.tmp 4] Tryz.func150 rfl rfl rfl rfl (fun hok=>?_)
 have hs:xs.length≤ap:=ax hok.1.1
 repeat refine ai ?_
 refine aj ?_ ?_<;>intro h1
 ·rw[List.length_map] at h1
  have:=beq_iff_eq.1 h1
  have:xs=[]:=List.eq_nil_of_length_eq_zero (by omega)
  subst this
  repeat refine ai ?_
  exact ⟨[none],by repeat' first|exact rfl|exact trivial|refine aj ?_ ?_⟩
 ·repeat refine ai ?_
  refine ⟨Int.le_refl _,Int.natCast_nonneg _,cT hs,?_⟩
  repeat refine ai ?_
  refine dU (xs) (fun i=>True) (fun i=>[(1,.fn 151 []),(5,.own 0),(14,.d (aG xs)),(15,.d (.int .i64 (xs.map GatePurse.e).length)),(16,.d (.int .i64 i))]) (fun i=>⟨[(0,.tree 109 5 GatePurse.n ((xs.take i).map GatePurse.e))],1,0⟩) (trivial) ?_
  intro i hi hr
  repeat refine ai ?_
  refine aj ?_ ?_<;>intro h2
  ·have hlt:i<xs.length:=Y h2
   repeat refine ai ?_
   refine O (e:=GatePurse.e) (xs:=xs) (hlt) rfl ?_
   repeat refine ai ?_
   refine oc (EY _) ?_
   repeat refine ai ?_
   refine aj trivial ?_
   repeat refine ai ?_
   refine aj (by simp only[List.length_append,List.length_nil,List.length_cons,List.length_map,List.length_take] at*;unfold ap at*;omega) ?_
   repeat refine ai ?_
   exact bV hlt hs trivial fun hw=>by repeat' first|exact rfl|exact trivial|exact nd hw|exact (dY (by rw[List.take_succ_eq_append_getElem hlt,List.map_append];rfl))|refine aj ?_ ?_
  ·repeat refine ai ?_
   rw[List.take_of_length_le (Z h2)]
   repeat refine ai ?_
   refine aj ⟨rfl,rfl⟩ ?_
   repeat refine ai ?_
   exact ⟨[some 0],by repeat' first|exact rfl|exact trivial|refine aj ?_ ?_⟩
theorem Ae (b:GateBook):HSpec P 82 [st b.e] hp0 (.agg b.a) ⟨b.o,4,0⟩:=by
 refine ag cA az [.cell 2 48] Tryz.func82 rfl rfl rfl rfl (fun hok=>?_)
 repeat refine ai ?_
 refine ow (oO _) ?_
 repeat refine ai ?_
 refine ow (pY _) ?_
 repeat refine ai ?_
 refine ow (oQ _) ?_
 repeat refine ai ?_
 refine ow (pX _) ?_
 repeat refine ai ?_
 exact ⟨[some 2,some 3,some 4,some 5],by repeat' first|exact rfl|exact trivial|refine aj ?_ ?_⟩
end Go.Vc
end
section
namespace Go.Vc
open Go.Proofs
set_option maxRecDepth 100000
end Go.Vc
end
section
namespace Go.Vc
open Go.Proofs
set_option maxRecDepth 100000
theorem BX (o:GateObject):HSpec P 141 [st o.e] hp0 (.agg o.a) ⟨o.o,2,0⟩:=by
 refine ag cA az [.cell 2 103] Tryz.func141 rfl rfl rfl rfl (fun hok=>?_)
 have hb:=iA (o:=o) hok
 repeat refine ai ?_
 refine aj (An _) ?_
 repeat refine ai ?_
 refine aj (by simpa using hb.1) ?_
 repeat refine ai ?_
 refine aj (An _) ?_
 repeat refine ai ?_
 refine aj (by simpa using hb.2) ?_
 repeat refine ai ?_
 exact ⟨[some 2,some 3],by repeat' first|exact rfl|exact trivial|refine aj ?_ ?_⟩
theorem BU (x:GateRule):HSpec P 142 [st x.e] hp0 (.agg x.a) ⟨x.o,1,0⟩:=by
 refine ag cA az [.cell 2 171] Tryz.func142 rfl rfl rfl rfl (fun hok=>?_)
 have hs:x.verbs.length≤ap:=by
  have:=hok.1
  simp only[st,AV.ok,GateRule.e,List.map,dS] at this
  exact ax this.1.1
 repeat refine ai ?_
 refine aj (D0 _) ?_
 repeat refine ai ?_
 refine aj (by simpa using hs) ?_
 repeat refine ai ?_
 exact ⟨[some 2],by repeat' first|exact rfl|exact trivial|refine aj ?_ ?_⟩
set_option maxHeartbeats 2000000 in
theorem BV (b:GateBook):HSpec P 80 [st b.e] hp0 (.agg b.a) ⟨b.o,4,0⟩:=by
 refine ag cA az [.cell 2 48] Tryz.func80 rfl rfl rfl rfl (fun hok=>?_)
 have hb:=cS hok
 have ho:=hb.1
 have hg:=hb.2.1
 repeat refine ai ?_
 refine dU (b.objects) (fun i=>True) (fun i=>[(1,.ptr 0 0),(2,.ptr 1 0),(3,.ptr 2 0),(4,.d (.int .i64 i))]) (fun i=>⟨[(3,.tree 103 7 GateObject.n ((b.objects.take i).map GateObject.e)),(2,.cells 48 [.d (.int .i64 b.now),.d (.int .i64 b.tick),.d (.int .i64 b.given),.own 3,.nils,.nils,.nils]),(1,.cells 48 [.d (.int .i64 0),.d (.int .i64 0),.d (.int .i64 0),.nils,.nils,.nils,.nils]),(0,.cells 48 (b.e.map .d))],4,0⟩) (trivial) ?_
 intro i hi hr
 repeat refine ai ?_
 refine aj ?_ ?_<;>intro h1
 ·have hlt:i<b.objects.length:=Y h1
  repeat refine ai ?_
  refine akp 10 (.one [0,1,2,3,4,5,6] [] 7 (.one [] [0,1] 8 (.one [] [0,1] 9 (.fin [] [])))) ?_
  repeat refine ai ?_
  refine O (e:=GateObject.e) (xs:=b.objects) (hlt) rfl ?_
  repeat refine ai ?_
  refine ow (BX _) ?_
  repeat refine ai ?_
  refine aj trivial ?_
  repeat refine ai ?_
  refine aj (by simp only[List.length_append,List.length_nil,List.length_cons,List.length_map,List.length_take] at*;unfold ap at*;omega) ?_
  repeat refine ai ?_
  exact bV hlt ho trivial fun hw=>by repeat' first|exact rfl|exact trivial|exact nd hw|exact (dY (by rw[List.take_succ_eq_append_getElem hlt,List.map_append];rfl))|refine aj ?_ ?_
 ·repeat refine ai ?_
  rw[List.take_of_length_le (Z h1)]
  repeat refine ai ?_
  refine dU (b.grants) (fun i=>True) (fun i=>[(1,.ptr 0 0),(2,.ptr 1 0),(3,.ptr 2 0),(5,.d (.int .i64 i))]) (fun i=>⟨[(4,.tree 173 7 GateGrant.n ((b.grants.take i).map GateGrant.e)),(3,Hk b),(2,.cells 48 [.d (.int .i64 b.now),.d (.int .i64 b.tick),.d (.int .i64 b.given),.own 3,.own 4,.nils,.nils]),(1,.cells 48 [.d (.int .i64 0),.d (.int .i64 0),.d (.int .i64 0),.nils,.nils,.nils,.nils]),(0,.cells 48 (b.e.map .d))],5,0⟩) (trivial) ?_
  intro i hi hr
  repeat refine ai ?_
  refine aj ?_ ?_<;>intro h2
  ·have hlt:i<b.grants.length:=Y h2
   repeat refine ai ?_
   refine O (e:=GateGrant.e) (xs:=b.grants) (hlt) rfl ?_
   repeat refine ai ?_
   refine ow (BU b.grants[i].rule) ?_
   repeat refine ai ?_
   refine aj trivial ?_
   repeat refine ai ?_
   refine aj (by simp only[List.length_append,List.length_nil,List.length_cons,List.length_map,List.length_take] at*;unfold ap at*;omega) ?_
   repeat refine ai ?_
   exact bV hlt hg trivial fun hw=>by repeat' first|exact rfl|exact trivial|exact nd hw|exact (dY (by rw[List.take_succ_eq_append_getElem hlt,List.map_append];rfl))|refine aj ?_ ?_
  ·repeat refine ai ?_
   rw[List.take_of_length_le (Z h2)]
   repeat refine ai ?_
   refine aj (FO _) ?_
   repeat refine ai ?_
   refine aj (by simpa using hb.2.2.1) ?_
   repeat refine ai ?_
   refine aj (FN _) ?_
   repeat refine ai ?_
   refine aj (by simpa using hb.2.2.2) ?_
   repeat refine ai ?_
   exact ⟨[some 3,some 4,some 5,some 6],by repeat' first|exact rfl|exact trivial|refine aj ?_ ?_⟩
end Go.Vc
end
section
namespace Go.Vc
open Go.Proofs
set_option maxRecDepth 100000
theorem BT (b:GateBook) (d t r:Bs):Spec P 88 [st b.e,.d (.str d),.d (.str t),.d (.str r)] (.d (.int .i64 (jR b d t r))):=by
 refine Spec.of_vc aQ az [.tmp 8] Tryz.func88 rfl rfl rfl rfl (fun hok=>?_)
 have hs:b.purses.length≤ap:=(cS (dq hok)).2.2.2
 repeat refine ai ?_
 refine dU (b.purses) (fun i=>jR b d t r=dQ (fun x=>x.door==d&&(x.team==t&&x.resource==r)) (b.purses.drop i) i) (fun i=>[(1,.d (.str d)),(2,.d (.str t)),(3,.d (.str r)),(4,.ptr 0 0),(9,.d (.int .i64 i))]) (fun i=>⟨[(0,.cells 48 (b.e.map .d))],1,0⟩) (rfl) ?_
 intro i hi hr
 repeat refine ai ?_
 refine aj ?_ ?_<;>intro h1
 ·have hlt:i<b.purses.length:=Y h1
  rw[cF hlt] at hr
  repeat refine ai ?_
  refine O (e:=GatePurse.e) (xs:=b.purses) (hlt) rfl ?_
  repeat refine ai ?_
  refine aj ?_ ?_<;>intro h2
  ·repeat refine ai ?_
   refine O (e:=GatePurse.e) (xs:=b.purses) (hlt) rfl ?_
   repeat refine ai ?_
   refine aj ?_ ?_<;>intro h3
   ·repeat refine ai ?_
    refine O (e:=GatePurse.e) (xs:=b.purses) (hlt) rfl ?_
    repeat refine ai ?_
    refine aj ?_ ?_<;>intro h4
    ·refine nd ?_
     rw[hr,h2,h3,h4];rfl
    ·repeat refine ai ?_
     exact bV hlt hs (by rw[hr,h2,h3,h4];rfl)
   ·repeat refine ai ?_
    exact bV hlt hs (by rw[hr,h2,h3];rfl)
  ·repeat refine ai ?_
   exact bV hlt hs (by rw[hr,h2];rfl)
 ·refine nd ?_
  rw[hr,dt (Z h1)]
theorem C6 (b:GateBook) (d t r:Bs) (v:Int) (h:jR b d t r=v):Spec P 88 [st b.e,.d (.str d),.d (.str t),.d (.str r)] (.d (.int .i64 v)):=by
 rw[←h];exact BT b d t r
def nilBk:GateBook:=⟨0,0,0,[],[],[],[]⟩
def Hh (L:GateLaw) (b:GateBook) (d t r:Bs):GateBook×Int:=bif dE L b then (bif decide (jR b d t r≥0) then (Fj b (jR b d t r).toNat,0) else (b,2)) else (nilBk,1)
end Go.Vc
end
section
namespace Go.Vc
open Go.Proofs
set_option maxRecDepth 100000
theorem au {k:Int} (h0:0≤k) (h:k+1≤1099511627776):wk k=k+1:=by
 unfold wk
 rw[IntKind.wrap_i64];omega
def mi (k:Int):Int:=k
def mb (k:Int):Bool:=k.tmod 3==0
def bF {α:Type} (f:α→Int):List α→Int
 |[]=>0
 |x::xs=>f x+bF f xs
def jF {α:Type} (f:α→Int):List α→Int
 |[]=>0
 |x::xs=>1+f x+jF f xs
theorem aO {α:Type} {f:α→Int} (h:∀x,0≤f x):∀xs,0≤bF f xs
 |[]=>Int.le_refl _
 |x::xs=>by have:=aO h xs;have:=h x;simp only[bF];omega
theorem cg {α:Type} {f:α→Int} (h:∀x,0≤f x):∀xs,0≤jF f xs
 |[]=>Int.le_refl _
 |x::xs=>by have:=cg h xs;have:=h x;simp only[jF];omega
theorem fJ {α:Type} {f g:α→Int} (h:∀x,f x≤32+32*g x):∀xs,bF f xs≤32*jF g xs
 |[]=>by simp[bF,jF]
 |x::xs=>by have:=fJ h xs;have:=h x;simp only[bF,jF];omega
theorem ca {α:Type} {f:α→Int→α×Int} {l:α→Int} (hf:∀x k,0≤k→k+l x≤1099511627776→(f x k).2=k+l x) (hl:∀x,0≤l x):∀(xs:List α) (k:Int),0≤k→k+bF l xs≤1099511627776→(aB f xs k).2=k+bF l xs
 |[],k,_,_=>by simp[aB,bF]
 |x::xs,k,h0,h=>by
  have p:=aO hl xs
  have q:=hl x
  simp only[bF] at h
  simp only[aB,bF]
  rw[hf x k h0 (by omega),ca hf hl xs _ (by omega) (by omega)];omega
theorem oH {α:Type} {f:α→Int→α×Int} {l:α→Int} (hf:∀x k,0≤k→k+l x≤1099511627776→(f x k).2=k+l x) (hl:∀x,0≤l x) {xs:List α} {k:Int} {i:Nat} (h0:0≤k) (h:k+bF l xs≤1099511627776) (hi:i<xs.length):
 0≤gF f xs k i∧gF f xs k i+l xs[i]≤1099511627776:=by
 have split:∀(xs:List α) (i:Nat) (hi:i<xs.length),bF l (xs.take i)+l xs[i]≤bF l xs:=by
  intro xs
  induction xs with
  |nil=>intro i hi;simp at hi
  |cons x xs ih=>
   intro i hi
   have p:=aO hl xs
   cases i with
   |zero=>simp only[List.take_zero,bF,List.getElem_cons_zero];omega
   |succ i=>
    have:=ih i (by simpa using hi)
    simp only[List.take_succ_cons,bF,List.getElem_cons_succ];omega
 have h1:=split xs i hi
 have h2:=aO hl (xs.take i)
 have h3:=hl xs[i]
 unfold gF
 rw[ca hf hl _ _ h0 (by omega)];omega
def fb {α:Type} (_:α):Int:=1
def Bu {α:Type} (_:α):Int:=0
theorem c6 {α:Type} (x:α):0≤fb x:=by unfold fb;decide
theorem iG {α:Type} (x:α):0≤Bu x:=by unfold Bu;decide
theorem wu {α:Type} (x:α):fb x≤32+32*Bu x:=by unfold fb Bu;decide
def dg (k:Int):UInt8:=UInt8.ofNat (IntKind.u8.wrap (IntKind.i64.wrap (48+k.tmod 10))).toNat
def FD:Nat→Int→Bs→Bs
 |0,_,out=>out
 |n+1,k,out=>bif decide (k>0) then FD n (IntKind.i64.wrap (k.tdiv 10)) (dg k::out) else out
def mt (k:Int):Bs:=bif decide (k≤0) then [109,48] else 109::FD 21 k []
def Gj (out:Bs) (j:Int):Prop:=out=[]∨(1≤out.length∧out.length≤20∧j.toNat*10 ^ (out.length - 1)<10 ^ 19)
theorem EP {out:Bs} {j:Int} (h:Gj out j):out.length≤20:=by
 rcases h with rfl|h
 ·simp
 ·exact h.2.1
theorem DC {out:Bs} {j:Int} (h:Gj out j) (hj:0<j):out.length≤19:=by
 rcases h with rfl|⟨h1,h2,h3⟩
 ·simp
 ·refine Nat.le_of_not_lt fun hl=>?_
  have e:out.length - 1=19:=by omega
  rw[e] at h3
  have:1≤j.toNat:=by omega
  omega
theorem DB {out:Bs} {j:Int} {c:UInt8} (h:Gj out j) (hj:0<j):Gj (c::out) (IntKind.i64.wrap (j.tdiv 10)):=by
 have hl:=DC h hj
 have hd:j.tdiv 10=j/10:=Int.tdiv_eq_ediv_of_nonneg (by omega)
 have hw:(IntKind.i64.wrap (j.tdiv 10)).toNat≤j.toNat/10∧(IntKind.i64.wrap (j.tdiv 10)).toNat<10 ^ 19:=by
  rw[hd,IntKind.wrap_i64]
  omega
 refine .inr ⟨by simp,by simp only[List.length_cons];omega,?_⟩
 simp only[List.length_cons,Nat.add_sub_cancel]
 rcases h with rfl|⟨h1,h2,h3⟩
 ·simpa using hw.2
 ·obtain ⟨n,hn⟩:∃n,out.length=n+1:=⟨out.length - 1,by omega⟩
  rw[hn,Nat.add_sub_cancel] at h3
  rw[hn,Nat.pow_succ]
  refine Nat.lt_of_le_of_lt ?_ h3
  rw[Nat.mul_comm (10 ^ n) 10,←Nat.mul_assoc]
  refine Nat.mul_le_mul_right _ ?_
  have:=hw.1
  omega
theorem la (k:Int):Spec P 136 [.d (.int .i64 k)] (.d (.str (mt k))):=by
 refine Spec.of_vc aQ az [.tmp 2] Tryz.func136 rfl rfl rfl rfl (fun hok=>?_)
 repeat refine ai ?_
 refine aj ?_ ?_<;>intro h0
 ·repeat refine ai ?_
  unfold mt
  rw[h0]
  rfl
 ·repeat refine ai ?_
  refine ⟨fun m l h=>∃(out:Bs) (j:Int),m=21 - out.length∧FD 21 k []=FD (21 - out.length) j out∧Gj out j∧l=[(0,.d (.int .i64 j)),(3,.d (.str out))]∧h=hp0,
   ⟨_,_,_,⟨[],k,rfl,rfl,.inl rfl,rfl,rfl⟩,rfl,rfl,⟨rfl,rfl,trivial⟩,trivial,trivial⟩,?_⟩
  rintro m l hh ⟨out,j,rfl,hr,hb,rfl,rfl⟩
  repeat refine ai ?_
  refine aj ?_ ?_<;>intro h1
  ·have hj:0<j:=of_decide_eq_true h1
   have hl:=DC hb hj
   repeat refine ai ?_
   refine aj (by decide) ?_
   repeat refine ai ?_
   refine aj (by unfold ap;simp) ?_
   repeat refine ai ?_
   refine aj (by unfold ap;simp only[List.length_cons,List.length_nil];omega) ?_
   repeat refine ai ?_
   refine aj (by decide) ?_
   repeat refine ai ?_
   refine ⟨_,_,_,⟨dg j::out,IntKind.i64.wrap (j.tdiv 10),rfl,?_,DB hb hj,rfl,rfl⟩,?_,rfl,rfl,⟨rfl,rfl,trivial⟩,trivial,trivial⟩
   ·rw[hr,show 21 - out.length=(21 - (dg j::out).length)+1 from by simp only[List.length_cons];omega]
    simp only[FD,h1,cond_true]
   ·simp only[List.length_cons];omega
  ·have hl:=EP hb
   repeat refine ai ?_
   refine aj (by unfold ap;simp only[List.length_cons,List.length_nil];omega) ?_
   repeat refine ai ?_
   have hg:FD (21 - out.length) j out=out:=by
    rw[show 21 - out.length=(20 - out.length)+1 from by omega]
    simp only[FD,h1,cond_false]
   unfold mt
   rw[h0,hr,hg]
   rfl
def eL (_:Bs) (k:Int):Bs×Int:=(mt k,wk k)
def iV (_:Int) (k:Int):Int×Int:=(mi k,wk k)
theorem kQ (x:Bs) (k:Int) (h0:0≤k) (h:k+fb x≤1099511627776):(eL x k).2=k+fb x:=au h0 h
theorem ws (x:Int) (k:Int) (h0:0≤k) (h:k+fb x≤1099511627776):(iV x k).2=k+fb x:=au h0 h
end Go.Vc
end
section
namespace Go.Vc
open Go.Proofs
noncomputable def GateField.mark (x:GateField) (k:Int):GateField×Int:=(⟨(mt k),(mi (wk k)),(mi (wk (wk k))),(mi (wk (wk (wk k)))),(aB eL x.words (wk (wk (wk (wk k))))).1,(mt (aB eL x.words (wk (wk (wk (wk k))))).2),(mi (wk (aB eL x.words (wk (wk (wk (wk k))))).2)),(mb (wk (wk (aB eL x.words (wk (wk (wk (wk k))))).2))),(mb (wk (wk (wk (aB eL x.words (wk (wk (wk (wk k))))).2)))),(mt (wk (wk (wk (wk (aB eL x.words (wk (wk (wk (wk k))))).2))))),(mt (wk (wk (wk (wk (wk (aB eL x.words (wk (wk (wk (wk k))))).2))))))⟩,(wk (wk (wk (wk (wk (wk (aB eL x.words (wk (wk (wk (wk k))))).2)))))))
noncomputable def GateField.marks (x:GateField) (k:Int):GateField×Int:=(⟨x.name,x.kind,x.least,x.most,(aB eL x.words k).1,x.to_,x.role,x.must,x.fixed,x.default_,x.weighs⟩,(aB eL x.words k).2)
def GateField.lv (x:GateField):Int:=10+bF fb x.words
def GateField.el (x:GateField):Int:=0+jF Bu x.words
theorem GateField.lv_nn (x:GateField):0≤x.lv:=by
 have p0:=aO c6 x.words
 unfold GateField.lv;omega
theorem GateField.el_nn (x:GateField):0≤x.el:=by
 have p0:=cg iG x.words
 unfold GateField.el;omega
theorem GateField.lv_le (x:GateField):x.lv≤32+32*x.el:=by
 have p0:=fJ wu x.words
 unfold GateField.lv GateField.el;omega
theorem GateField.mark_val (x:GateField) (k:Int) (h0:0≤k) (hB:k+(10+bF fb x.words)≤1099511627776):(GateField.mark x k).2=k+(10+bF fb x.words):=by
 have p0:=aO c6 x.words
 have s0:(wk k)=k+1:=au (by omega) (by omega)
 have s1:(wk (wk k))=k+2:=by rw[s0,au (by omega) (by omega)];try omega
 have s2:(wk (wk (wk k)))=k+3:=by rw[s1,au (by omega) (by omega)];try omega
 have s3:(wk (wk (wk (wk k))))=k+4:=by rw[s2,au (by omega) (by omega)];try omega
 have s4:(aB eL x.words (wk (wk (wk (wk k))))).2=k+4+bF fb x.words:=by rw[s3,ca (l:=fb) kQ c6 x.words _ (by omega) (by omega)];try omega
 have s5:(wk (aB eL x.words (wk (wk (wk (wk k))))).2)=k+5+bF fb x.words:=by rw[s4,au (by omega) (by omega)];try omega
 have s6:(wk (wk (aB eL x.words (wk (wk (wk (wk k))))).2))=k+6+bF fb x.words:=by rw[s5,au (by omega) (by omega)];try omega
 have s7:(wk (wk (wk (aB eL x.words (wk (wk (wk (wk k))))).2)))=k+7+bF fb x.words:=by rw[s6,au (by omega) (by omega)];try omega
 have s8:(wk (wk (wk (wk (aB eL x.words (wk (wk (wk (wk k))))).2))))=k+8+bF fb x.words:=by rw[s7,au (by omega) (by omega)];try omega
 have s9:(wk (wk (wk (wk (wk (aB eL x.words (wk (wk (wk (wk k))))).2)))))=k+9+bF fb x.words:=by rw[s8,au (by omega) (by omega)];try omega
 have s10:(wk (wk (wk (wk (wk (wk (aB eL x.words (wk (wk (wk (wk k))))).2))))))=k+10+bF fb x.words:=by rw[s9,au (by omega) (by omega)];try omega
 show (wk (wk (wk (wk (wk (wk (aB eL x.words (wk (wk (wk (wk k))))).2))))))=_
 rw[s10];try omega
noncomputable def GateShape.mark (x:GateShape) (k:Int):GateShape×Int:=(⟨(mt k),(aB GateField.mark x.fields (wk k)).1⟩,(aB GateField.mark x.fields (wk k)).2)
noncomputable def GateShape.marks (x:GateShape) (k:Int):GateShape×Int:=(⟨x.kind,(aB GateField.mark x.fields k).1⟩,(aB GateField.mark x.fields k).2)
def GateShape.lv (x:GateShape):Int:=1+bF GateField.lv x.fields
def GateShape.el (x:GateShape):Int:=0+jF GateField.el x.fields
theorem GateShape.lv_nn (x:GateShape):0≤x.lv:=by
 have p0:=aO GateField.lv_nn x.fields
 unfold GateShape.lv;omega
theorem GateShape.el_nn (x:GateShape):0≤x.el:=by
 have p0:=cg GateField.el_nn x.fields
 unfold GateShape.el;omega
theorem GateShape.lv_le (x:GateShape):x.lv≤32+32*x.el:=by
 have p0:=fJ GateField.lv_le x.fields
 unfold GateShape.lv GateShape.el;omega
theorem GateShape.mark_val (x:GateShape) (k:Int) (h0:0≤k) (hB:k+(1+bF GateField.lv x.fields)≤1099511627776):(GateShape.mark x k).2=k+(1+bF GateField.lv x.fields):=by
 have p0:=aO GateField.lv_nn x.fields
 have s0:(wk k)=k+1:=au (by omega) (by omega)
 have s1:(aB GateField.mark x.fields (wk k)).2=k+1+bF GateField.lv x.fields:=by rw[s0,ca (l:=GateField.lv) GateField.mark_val GateField.lv_nn x.fields _ (by omega) (by omega)];try omega
 show (aB GateField.mark x.fields (wk k)).2=_
 rw[s1];try omega
noncomputable def GateMend.mark (x:GateMend) (k:Int):GateMend×Int:=(⟨(mt k),(mt (wk k)),(mt (wk (wk k))),(mt (wk (wk (wk k)))),(mt (wk (wk (wk (wk k))))),(mt (wk (wk (wk (wk (wk k))))))⟩,(wk (wk (wk (wk (wk (wk k)))))))
noncomputable def GateMend.marks (x:GateMend) (k:Int):GateMend×Int:=(⟨x.kind,x.field,x.when_,x.is_,x.put,x.from_⟩,k)
def GateMend.lv (x:GateMend):Int:=6
def GateMend.el (x:GateMend):Int:=0
theorem GateMend.lv_nn (x:GateMend):0≤x.lv:=by
 unfold GateMend.lv;omega
theorem GateMend.el_nn (x:GateMend):0≤x.el:=by
 unfold GateMend.el;omega
theorem GateMend.lv_le (x:GateMend):x.lv≤32+32*x.el:=by
 unfold GateMend.lv GateMend.el;omega
theorem GateMend.mark_val (x:GateMend) (k:Int) (h0:0≤k) (hB:k+(6)≤1099511627776):(GateMend.mark x k).2=k+(6):=by
 have s0:(wk k)=k+1:=au (by omega) (by omega)
 have s1:(wk (wk k))=k+2:=by rw[s0,au (by omega) (by omega)];try omega
 have s2:(wk (wk (wk k)))=k+3:=by rw[s1,au (by omega) (by omega)];try omega
 have s3:(wk (wk (wk (wk k))))=k+4:=by rw[s2,au (by omega) (by omega)];try omega
 have s4:(wk (wk (wk (wk (wk k)))))=k+5:=by rw[s3,au (by omega) (by omega)];try omega
 have s5:(wk (wk (wk (wk (wk (wk k))))))=k+6:=by rw[s4,au (by omega) (by omega)];try omega
 show (wk (wk (wk (wk (wk (wk k))))))=_
 rw[s5];try omega
noncomputable def GateTeam.mark (x:GateTeam) (k:Int):GateTeam×Int:=(⟨(mt k),(mt (wk k))⟩,(wk (wk k)))
noncomputable def GateTeam.marks (x:GateTeam) (k:Int):GateTeam×Int:=(⟨x.name,x.over⟩,k)
def GateTeam.lv (x:GateTeam):Int:=2
def GateTeam.el (x:GateTeam):Int:=0
theorem GateTeam.lv_nn (x:GateTeam):0≤x.lv:=by
 unfold GateTeam.lv;omega
theorem GateTeam.el_nn (x:GateTeam):0≤x.el:=by
 unfold GateTeam.el;omega
theorem GateTeam.lv_le (x:GateTeam):x.lv≤32+32*x.el:=by
 unfold GateTeam.lv GateTeam.el;omega
theorem GateTeam.mark_val (x:GateTeam) (k:Int) (h0:0≤k) (hB:k+(2)≤1099511627776):(GateTeam.mark x k).2=k+(2):=by
 have s0:(wk k)=k+1:=au (by omega) (by omega)
 have s1:(wk (wk k))=k+2:=by rw[s0,au (by omega) (by omega)];try omega
 show (wk (wk k))=_
 rw[s1];try omega
noncomputable def GateLaw.mark (x:GateLaw) (k:Int):GateLaw×Int:=(⟨(aB GateShape.mark x.shapes k).1,(aB GateMend.mark x.mends (aB GateShape.mark x.shapes k).2).1,(aB GateTeam.mark x.teams (aB GateMend.mark x.mends (aB GateShape.mark x.shapes k).2).2).1⟩,(aB GateTeam.mark x.teams (aB GateMend.mark x.mends (aB GateShape.mark x.shapes k).2).2).2)
noncomputable def GateLaw.marks (x:GateLaw) (k:Int):GateLaw×Int:=(⟨(aB GateShape.mark x.shapes k).1,(aB GateMend.mark x.mends (aB GateShape.mark x.shapes k).2).1,(aB GateTeam.mark x.teams (aB GateMend.mark x.mends (aB GateShape.mark x.shapes k).2).2).1⟩,(aB GateTeam.mark x.teams (aB GateMend.mark x.mends (aB GateShape.mark x.shapes k).2).2).2)
def GateLaw.lv (x:GateLaw):Int:=0+bF GateShape.lv x.shapes+bF GateMend.lv x.mends+bF GateTeam.lv x.teams
def GateLaw.el (x:GateLaw):Int:=0+jF GateShape.el x.shapes+jF GateMend.el x.mends+jF GateTeam.el x.teams
theorem GateLaw.lv_nn (x:GateLaw):0≤x.lv:=by
 have p0:=aO GateShape.lv_nn x.shapes
 have p1:=aO GateMend.lv_nn x.mends
 have p2:=aO GateTeam.lv_nn x.teams
 unfold GateLaw.lv;omega
theorem GateLaw.el_nn (x:GateLaw):0≤x.el:=by
 have p0:=cg GateShape.el_nn x.shapes
 have p1:=cg GateMend.el_nn x.mends
 have p2:=cg GateTeam.el_nn x.teams
 unfold GateLaw.el;omega
theorem GateLaw.lv_le (x:GateLaw):x.lv≤32+32*x.el:=by
 have p0:=fJ GateShape.lv_le x.shapes
 have p1:=fJ GateMend.lv_le x.mends
 have p2:=fJ GateTeam.lv_le x.teams
 unfold GateLaw.lv GateLaw.el;omega
theorem GateLaw.marks_val (x:GateLaw) (k:Int) (h0:0≤k) (hB:k+(0+bF GateShape.lv x.shapes+bF GateMend.lv x.mends+bF GateTeam.lv x.teams)≤1099511627776):(GateLaw.marks x k).2=k+(0+bF GateShape.lv x.shapes+bF GateMend.lv x.mends+bF GateTeam.lv x.teams):=by
 have p0:=aO GateShape.lv_nn x.shapes
 have p1:=aO GateMend.lv_nn x.mends
 have p2:=aO GateTeam.lv_nn x.teams
 have s0:(aB GateShape.mark x.shapes k).2=k+0+bF GateShape.lv x.shapes:=by rw[ca (l:=GateShape.lv) GateShape.mark_val GateShape.lv_nn x.shapes _ (by omega) (by omega)];try omega
 have s1:(aB GateMend.mark x.mends (aB GateShape.mark x.shapes k).2).2=k+0+bF GateShape.lv x.shapes+bF GateMend.lv x.mends:=by rw[s0,ca (l:=GateMend.lv) GateMend.mark_val GateMend.lv_nn x.mends _ (by omega) (by omega)];try omega
 have s2:(aB GateTeam.mark x.teams (aB GateMend.mark x.mends (aB GateShape.mark x.shapes k).2).2).2=k+0+bF GateShape.lv x.shapes+bF GateMend.lv x.mends+bF GateTeam.lv x.teams:=by rw[s1,ca (l:=GateTeam.lv) GateTeam.mark_val GateTeam.lv_nn x.teams _ (by omega) (by omega)];try omega
 show (aB GateTeam.mark x.teams (aB GateMend.mark x.mends (aB GateShape.mark x.shapes k).2).2).2=_
 rw[s2];try omega
noncomputable def GateObject.mark (x:GateObject) (k:Int):GateObject×Int:=(⟨(mt k),(mt (wk k)),(mt (wk (wk k))),(aB eL x.values (wk (wk (wk k)))).1,(mb (aB eL x.values (wk (wk (wk k)))).2),(aB eL x.holds (wk (aB eL x.values (wk (wk (wk k)))).2)).1,(mi (aB eL x.holds (wk (aB eL x.values (wk (wk (wk k)))).2)).2)⟩,(wk (aB eL x.holds (wk (aB eL x.values (wk (wk (wk k)))).2)).2))
noncomputable def GateObject.marks (x:GateObject) (k:Int):GateObject×Int:=(⟨x.kind,x.name,x.team,(aB eL x.values k).1,x.ending,(aB eL x.holds (aB eL x.values k).2).1,x.version⟩,(aB eL x.holds (aB eL x.values k).2).2)
def GateObject.lv (x:GateObject):Int:=5+bF fb x.values+bF fb x.holds
def GateObject.el (x:GateObject):Int:=0+jF Bu x.values+jF Bu x.holds
theorem GateObject.lv_nn (x:GateObject):0≤x.lv:=by
 have p0:=aO c6 x.values
 have p1:=aO c6 x.holds
 unfold GateObject.lv;omega
theorem GateObject.el_nn (x:GateObject):0≤x.el:=by
 have p0:=cg iG x.values
 have p1:=cg iG x.holds
 unfold GateObject.el;omega
theorem GateObject.lv_le (x:GateObject):x.lv≤32+32*x.el:=by
 have p0:=fJ wu x.values
 have p1:=fJ wu x.holds
 unfold GateObject.lv GateObject.el;omega
theorem GateObject.mark_val (x:GateObject) (k:Int) (h0:0≤k) (hB:k+(5+bF fb x.values+bF fb x.holds)≤1099511627776):(GateObject.mark x k).2=k+(5+bF fb x.values+bF fb x.holds):=by
 have p0:=aO c6 x.values
 have p1:=aO c6 x.holds
 have s0:(wk k)=k+1:=au (by omega) (by omega)
 have s1:(wk (wk k))=k+2:=by rw[s0,au (by omega) (by omega)];try omega
 have s2:(wk (wk (wk k)))=k+3:=by rw[s1,au (by omega) (by omega)];try omega
 have s3:(aB eL x.values (wk (wk (wk k)))).2=k+3+bF fb x.values:=by rw[s2,ca (l:=fb) kQ c6 x.values _ (by omega) (by omega)];try omega
 have s4:(wk (aB eL x.values (wk (wk (wk k)))).2)=k+4+bF fb x.values:=by rw[s3,au (by omega) (by omega)];try omega
 have s5:(aB eL x.holds (wk (aB eL x.values (wk (wk (wk k)))).2)).2=k+4+bF fb x.values+bF fb x.holds:=by rw[s4,ca (l:=fb) kQ c6 x.holds _ (by omega) (by omega)];try omega
 have s6:(wk (aB eL x.holds (wk (aB eL x.values (wk (wk (wk k)))).2)).2)=k+5+bF fb x.values+bF fb x.holds:=by rw[s5,au (by omega) (by omega)];try omega
 show (wk (aB eL x.holds (wk (aB eL x.values (wk (wk (wk k)))).2)).2)=_
 rw[s6];try omega
noncomputable def GateRule.mark (x:GateRule) (k:Int):GateRule×Int:=(⟨(aB iV x.verbs k).1,(mt (aB iV x.verbs k).2),(mt (wk (aB iV x.verbs k).2)),(mt (wk (wk (aB iV x.verbs k).2)))⟩,(wk (wk (wk (aB iV x.verbs k).2))))
noncomputable def GateRule.marks (x:GateRule) (k:Int):GateRule×Int:=(⟨(aB iV x.verbs k).1,x.kind,x.team,x.prefix_⟩,(aB iV x.verbs k).2)
def GateRule.lv (x:GateRule):Int:=3+bF fb x.verbs
def GateRule.el (x:GateRule):Int:=0+jF Bu x.verbs
theorem GateRule.lv_nn (x:GateRule):0≤x.lv:=by
 have p0:=aO c6 x.verbs
 unfold GateRule.lv;omega
theorem GateRule.el_nn (x:GateRule):0≤x.el:=by
 have p0:=cg iG x.verbs
 unfold GateRule.el;omega
noncomputable def GateGrant.mark (x:GateGrant) (k:Int):GateGrant×Int:=(⟨(mi k),(mt (wk k)),(mt (wk (wk k))),⟨(aB iV x.rule.verbs (wk (wk (wk k)))).1,(mt (aB iV x.rule.verbs (wk (wk (wk k)))).2),(mt (wk (aB iV x.rule.verbs (wk (wk (wk k)))).2)),(mt (wk (wk (aB iV x.rule.verbs (wk (wk (wk k)))).2)))⟩⟩,(wk (wk (wk (aB iV x.rule.verbs (wk (wk (wk k)))).2))))
noncomputable def GateGrant.marks (x:GateGrant) (k:Int):GateGrant×Int:=(⟨x.number,x.to_,x.by_,⟨(aB iV x.rule.verbs k).1,x.rule.kind,x.rule.team,x.rule.prefix_⟩⟩,(aB iV x.rule.verbs k).2)
def GateGrant.lv (x:GateGrant):Int:=6+bF fb x.rule.verbs
def GateGrant.el (x:GateGrant):Int:=0+jF Bu x.rule.verbs
theorem GateGrant.lv_nn (x:GateGrant):0≤x.lv:=by
 have p0:=aO c6 x.rule.verbs
 unfold GateGrant.lv;omega
theorem GateGrant.el_nn (x:GateGrant):0≤x.el:=by
 have p0:=cg iG x.rule.verbs
 unfold GateGrant.el;omega
theorem GateGrant.lv_le (x:GateGrant):x.lv≤32+32*x.el:=by
 have p0:=fJ wu x.rule.verbs
 unfold GateGrant.lv GateGrant.el;omega
theorem GateGrant.mark_val (x:GateGrant) (k:Int) (h0:0≤k) (hB:k+(6+bF fb x.rule.verbs)≤1099511627776):(GateGrant.mark x k).2=k+(6+bF fb x.rule.verbs):=by
 have p0:=aO c6 x.rule.verbs
 have s0:(wk k)=k+1:=au (by omega) (by omega)
 have s1:(wk (wk k))=k+2:=by rw[s0,au (by omega) (by omega)];try omega
 have s2:(wk (wk (wk k)))=k+3:=by rw[s1,au (by omega) (by omega)];try omega
 have s3:(aB iV x.rule.verbs (wk (wk (wk k)))).2=k+3+bF fb x.rule.verbs:=by rw[s2,ca (l:=fb) ws c6 x.rule.verbs _ (by omega) (by omega)];try omega
 have s4:(wk (aB iV x.rule.verbs (wk (wk (wk k)))).2)=k+4+bF fb x.rule.verbs:=by rw[s3,au (by omega) (by omega)];try omega
 have s5:(wk (wk (aB iV x.rule.verbs (wk (wk (wk k)))).2))=k+5+bF fb x.rule.verbs:=by rw[s4,au (by omega) (by omega)];try omega
 have s6:(wk (wk (wk (aB iV x.rule.verbs (wk (wk (wk k)))).2)))=k+6+bF fb x.rule.verbs:=by rw[s5,au (by omega) (by omega)];try omega
 show (wk (wk (wk (aB iV x.rule.verbs (wk (wk (wk k)))).2)))=_
 rw[s6];try omega
noncomputable def GateLedger.mark (x:GateLedger) (k:Int):GateLedger×Int:=(⟨(mt k),(mt (wk k)),(mi (wk (wk k))),(mi (wk (wk (wk k))))⟩,(wk (wk (wk (wk k)))))
noncomputable def GateLedger.marks (x:GateLedger) (k:Int):GateLedger×Int:=(⟨x.team,x.resource,x.most,x.free⟩,k)
def GateLedger.lv (x:GateLedger):Int:=4
def GateLedger.el (x:GateLedger):Int:=0
theorem GateLedger.lv_nn (x:GateLedger):0≤x.lv:=by
 unfold GateLedger.lv;omega
theorem GateLedger.el_nn (x:GateLedger):0≤x.el:=by
 unfold GateLedger.el;omega
theorem GateLedger.lv_le (x:GateLedger):x.lv≤32+32*x.el:=by
 unfold GateLedger.lv GateLedger.el;omega
theorem GateLedger.mark_val (x:GateLedger) (k:Int) (h0:0≤k) (hB:k+(4)≤1099511627776):(GateLedger.mark x k).2=k+(4):=by
 have s0:(wk k)=k+1:=au (by omega) (by omega)
 have s1:(wk (wk k))=k+2:=by rw[s0,au (by omega) (by omega)];try omega
 have s2:(wk (wk (wk k)))=k+3:=by rw[s1,au (by omega) (by omega)];try omega
 have s3:(wk (wk (wk (wk k))))=k+4:=by rw[s2,au (by omega) (by omega)];try omega
 show (wk (wk (wk (wk k))))=_
 rw[s3];try omega
noncomputable def GatePurse.mark (x:GatePurse) (k:Int):GatePurse×Int:=(⟨(mt k),(mt (wk k)),(mt (wk (wk k))),(mi (wk (wk (wk k)))),(mi (wk (wk (wk (wk k)))))⟩,(wk (wk (wk (wk (wk k))))))
noncomputable def GatePurse.marks (x:GatePurse) (k:Int):GatePurse×Int:=(⟨x.door,x.team,x.resource,x.amount,x.until_⟩,k)
def GatePurse.lv (x:GatePurse):Int:=5
def GatePurse.el (x:GatePurse):Int:=0
theorem GatePurse.lv_nn (x:GatePurse):0≤x.lv:=by
 unfold GatePurse.lv;omega
theorem GatePurse.el_nn (x:GatePurse):0≤x.el:=by
 unfold GatePurse.el;omega
theorem GatePurse.lv_le (x:GatePurse):x.lv≤32+32*x.el:=by
 unfold GatePurse.lv GatePurse.el;omega
theorem GatePurse.mark_val (x:GatePurse) (k:Int) (h0:0≤k) (hB:k+(5)≤1099511627776):(GatePurse.mark x k).2=k+(5):=by
 have s0:(wk k)=k+1:=au (by omega) (by omega)
 have s1:(wk (wk k))=k+2:=by rw[s0,au (by omega) (by omega)];try omega
 have s2:(wk (wk (wk k)))=k+3:=by rw[s1,au (by omega) (by omega)];try omega
 have s3:(wk (wk (wk (wk k))))=k+4:=by rw[s2,au (by omega) (by omega)];try omega
 have s4:(wk (wk (wk (wk (wk k)))))=k+5:=by rw[s3,au (by omega) (by omega)];try omega
 show (wk (wk (wk (wk (wk k)))))=_
 rw[s4];try omega
noncomputable def GateBook.mark (x:GateBook) (k:Int):GateBook×Int:=(⟨(mi k),(mi (wk k)),(mi (wk (wk k))),(aB GateObject.mark x.objects (wk (wk (wk k)))).1,(aB GateGrant.mark x.grants (aB GateObject.mark x.objects (wk (wk (wk k)))).2).1,(aB GateLedger.mark x.ledgers (aB GateGrant.mark x.grants (aB GateObject.mark x.objects (wk (wk (wk k)))).2).2).1,(aB GatePurse.mark x.purses (aB GateLedger.mark x.ledgers (aB GateGrant.mark x.grants (aB GateObject.mark x.objects (wk (wk (wk k)))).2).2).2).1⟩,(aB GatePurse.mark x.purses (aB GateLedger.mark x.ledgers (aB GateGrant.mark x.grants (aB GateObject.mark x.objects (wk (wk (wk k)))).2).2).2).2)
noncomputable def GateBook.marks (x:GateBook) (k:Int):GateBook×Int:=(⟨x.now,x.tick,x.given,(aB GateObject.mark x.objects k).1,(aB GateGrant.mark x.grants (aB GateObject.mark x.objects k).2).1,(aB GateLedger.mark x.ledgers (aB GateGrant.mark x.grants (aB GateObject.mark x.objects k).2).2).1,(aB GatePurse.mark x.purses (aB GateLedger.mark x.ledgers (aB GateGrant.mark x.grants (aB GateObject.mark x.objects k).2).2).2).1⟩,(aB GatePurse.mark x.purses (aB GateLedger.mark x.ledgers (aB GateGrant.mark x.grants (aB GateObject.mark x.objects k).2).2).2).2)
def GateBook.lv (x:GateBook):Int:=3+bF GateObject.lv x.objects+bF GateGrant.lv x.grants+bF GateLedger.lv x.ledgers+bF GatePurse.lv x.purses
def GateBook.el (x:GateBook):Int:=0+jF GateObject.el x.objects+jF GateGrant.el x.grants+jF GateLedger.el x.ledgers+jF GatePurse.el x.purses
theorem GateBook.lv_nn (x:GateBook):0≤x.lv:=by
 have p0:=aO GateObject.lv_nn x.objects
 have p1:=aO GateGrant.lv_nn x.grants
 have p2:=aO GateLedger.lv_nn x.ledgers
 have p3:=aO GatePurse.lv_nn x.purses
 unfold GateBook.lv;omega
theorem GateBook.el_nn (x:GateBook):0≤x.el:=by
 have p0:=cg GateObject.el_nn x.objects
 have p1:=cg GateGrant.el_nn x.grants
 have p2:=cg GateLedger.el_nn x.ledgers
 have p3:=cg GatePurse.el_nn x.purses
 unfold GateBook.el;omega
theorem GateBook.lv_le (x:GateBook):x.lv≤32+32*x.el:=by
 have p0:=fJ GateObject.lv_le x.objects
 have p1:=fJ GateGrant.lv_le x.grants
 have p2:=fJ GateLedger.lv_le x.ledgers
 have p3:=fJ GatePurse.lv_le x.purses
 unfold GateBook.lv GateBook.el;omega
theorem GateBook.marks_val (x:GateBook) (k:Int) (h0:0≤k) (hB:k+(0+bF GateObject.lv x.objects+bF GateGrant.lv x.grants+bF GateLedger.lv x.ledgers+bF GatePurse.lv x.purses)≤1099511627776):(GateBook.marks x k).2=k+(0+bF GateObject.lv x.objects+bF GateGrant.lv x.grants+bF GateLedger.lv x.ledgers+bF GatePurse.lv x.purses):=by
 have p0:=aO GateObject.lv_nn x.objects
 have p1:=aO GateGrant.lv_nn x.grants
 have p2:=aO GateLedger.lv_nn x.ledgers
 have p3:=aO GatePurse.lv_nn x.purses
 have s0:(aB GateObject.mark x.objects k).2=k+0+bF GateObject.lv x.objects:=by rw[ca (l:=GateObject.lv) GateObject.mark_val GateObject.lv_nn x.objects _ (by omega) (by omega)];try omega
 have s1:(aB GateGrant.mark x.grants (aB GateObject.mark x.objects k).2).2=k+0+bF GateObject.lv x.objects+bF GateGrant.lv x.grants:=by rw[s0,ca (l:=GateGrant.lv) GateGrant.mark_val GateGrant.lv_nn x.grants _ (by omega) (by omega)];try omega
 have s2:(aB GateLedger.mark x.ledgers (aB GateGrant.mark x.grants (aB GateObject.mark x.objects k).2).2).2=k+0+bF GateObject.lv x.objects+bF GateGrant.lv x.grants+bF GateLedger.lv x.ledgers:=by rw[s1,ca (l:=GateLedger.lv) GateLedger.mark_val GateLedger.lv_nn x.ledgers _ (by omega) (by omega)];try omega
 have s3:(aB GatePurse.mark x.purses (aB GateLedger.mark x.ledgers (aB GateGrant.mark x.grants (aB GateObject.mark x.objects k).2).2).2).2=k+0+bF GateObject.lv x.objects+bF GateGrant.lv x.grants+bF GateLedger.lv x.ledgers+bF GatePurse.lv x.purses:=by rw[s2,ca (l:=GatePurse.lv) GatePurse.mark_val GatePurse.lv_nn x.purses _ (by omega) (by omega)];try omega
 show (aB GatePurse.mark x.purses (aB GateLedger.mark x.ledgers (aB GateGrant.mark x.grants (aB GateObject.mark x.objects k).2).2).2).2=_
 rw[s3];try omega
end Go.Vc
end
section
namespace Go.Vc
open Go.Proofs
set_option maxRecDepth 100000
set_option maxHeartbeats 8000000 in
theorem jv (xs:List Bs) (k:Int):FSpec P 138 [.own 0,.d (.int .i64 k)] ⟨[(0,.tree 9 1 [.leaf] (xs.map eB))],1,1⟩ (.d (.int .i64 (aB eL xs k).2)) ⟨[(0,.tree 9 1 [.leaf] ((aB eL xs k).1.map eB))],1,1⟩:=by
 refine FSpec.of_vc cA az [.tmp 4] Tryz.func138 rfl rfl rfl rfl rfl (fun hok hob=>?_)
 have hs:xs.length≤ap:=by have:=(hob 0 _ rfl).1;rwa [List.length_map] at this
 repeat refine ai ?_
 refine ⟨fun m l h=>∃i:Nat,m=xs.length - i∧i≤xs.length∧l=[(0,.own 0),(1,.d (.int .i64 (gF eL xs k i))),(5,.d (.int .i64 i))]∧h=⟨[(0,.tree 9 1 [.leaf] (uC eL eB xs k i))],1,1⟩,
  ⟨_,_,_,⟨0,rfl,Nat.zero_le _,rfl,rfl⟩,rfl,rfl,⟨rfl,rfl,rfl,trivial⟩,⟨rfl,trivial⟩,⟨rfl,trivial⟩⟩,?_⟩
 rintro m l h1 ⟨i,rfl,hi,rfl,rfl⟩
 refine aj ?_ ?_<;>intro h1
 ·have hlt:i<xs.length:=by
   have:=of_decide_eq_true h1
   rw[bZ _ hi] at this;omega
  repeat' first
   |refine ai ?_
   |refine aj (Int.natCast_nonneg _) (aj (Int.ofNat_lt.2 (by (try simp only[List.length_set]);exact bi hlt)) ?_)
   |refine Exists.intro _ (aj (aW hlt) (aj (Nat.le_of_ble_eq_true rfl) ?_))
   |refine Exists.intro _ (aj (fD (by (try simp only[List.length_set]);exact bi hlt)) (aj (Nat.le_of_ble_eq_true rfl) ?_))
   |refine Exists.intro _ (aj (aW hlt) (aj rfl ?_))
   |refine aj (show (3:Int)≠0 by decide) ?_
   |refine Or.inl (Exists.intro _ (aj (la _) ?_))
   |refine Exists.intro _ (aj (aW hlt) ?_)
   |refine Exists.intro _ (aj (fD (by (try simp only[List.length_set]);exact bi hlt)) ?_)
  refine ⟨_,_,_,⟨i+1,rfl,hlt,rfl,rfl⟩,by omega,rfl,rfl,⟨rfl,nd (cr (f:=eL) hlt k),nd (V hlt hs),trivial⟩,⟨rfl,trivial⟩,⟨?_,trivial⟩⟩
  refine congrArg some (congrArg (AO.tree _ _ _) ?_)
  try simp only[List.set_set]
  exact eF hlt rfl
 ·have hge:xs.length≤i:=by
   have:=of_decide_eq_false h1
   rw[bZ _ hi] at this;omega
  refine aj (nd (di hge)) (aj rfl (aj rfl (aj rfl (aj trivial (aj ⟨rfl,trivial⟩ ⟨?_,trivial⟩)))))
  exact congrArg some (congrArg (AO.tree _ _ _) (fW hge))
set_option maxHeartbeats 8000000 in
theorem Ba (xs:List Int) (k:Int):FSpec P 22 [.own 0,.d (.int .i64 k)] ⟨[(0,.tree 3 1 [.leaf] (xs.map eN))],1,1⟩ (.d (.int .i64 (aB iV xs k).2)) ⟨[(0,.tree 3 1 [.leaf] ((aB iV xs k).1.map eN))],1,1⟩:=by
 refine FSpec.of_vc cA az [.tmp 4] Tryz.func22 rfl rfl rfl rfl rfl (fun hok hob=>?_)
 have hs:xs.length≤ap:=by have:=(hob 0 _ rfl).1;rwa [List.length_map] at this
 repeat refine ai ?_
 refine ⟨fun m l h=>∃i:Nat,m=xs.length - i∧i≤xs.length∧l=[(0,.own 0),(1,.d (.int .i64 (gF iV xs k i))),(5,.d (.int .i64 i))]∧h=⟨[(0,.tree 3 1 [.leaf] (uC iV eN xs k i))],1,1⟩,
  ⟨_,_,_,⟨0,rfl,Nat.zero_le _,rfl,rfl⟩,rfl,rfl,⟨rfl,rfl,rfl,trivial⟩,⟨rfl,trivial⟩,⟨rfl,trivial⟩⟩,?_⟩
 rintro m l h1 ⟨i,rfl,hi,rfl,rfl⟩
 refine aj ?_ ?_<;>intro h1
 ·have hlt:i<xs.length:=by
   have:=of_decide_eq_true h1
   rw[bZ _ hi] at this;omega
  repeat' first
   |refine ai ?_
   |refine aj (Int.natCast_nonneg _) (aj (Int.ofNat_lt.2 (by (try simp only[List.length_set]);exact bi hlt)) ?_)
   |refine Exists.intro _ (aj (aW hlt) (aj (Nat.le_of_ble_eq_true rfl) ?_))
   |refine Exists.intro _ (aj (fD (by (try simp only[List.length_set]);exact bi hlt)) (aj (Nat.le_of_ble_eq_true rfl) ?_))
   |refine Exists.intro _ (aj (aW hlt) (aj rfl ?_))
   |refine aj (show (3:Int)≠0 by decide) ?_
   |refine Or.inl (Exists.intro _ (aj (la _) ?_))
   |refine Exists.intro _ (aj (aW hlt) ?_)
   |refine Exists.intro _ (aj (fD (by (try simp only[List.length_set]);exact bi hlt)) ?_)
  refine ⟨_,_,_,⟨i+1,rfl,hlt,rfl,rfl⟩,by omega,rfl,rfl,⟨rfl,nd (cr (f:=iV) hlt k),nd (V hlt hs),trivial⟩,⟨rfl,trivial⟩,⟨?_,trivial⟩⟩
  refine congrArg some (congrArg (AO.tree _ _ _) ?_)
  try simp only[List.set_set]
  exact eF hlt rfl
 ·have hge:xs.length≤i:=by
   have:=of_decide_eq_false h1
   rw[bZ _ hi] at this;omega
  refine aj (nd (di hge)) (aj rfl (aj rfl (aj rfl (aj trivial (aj ⟨rfl,trivial⟩ ⟨?_,trivial⟩)))))
  exact congrArg some (congrArg (AO.tree _ _ _) (fW hge))
set_option maxHeartbeats 8000000 in
theorem ly (xs:List GateField) (k:Int):FSpec P 137 [.own 0,.d (.int .i64 k)] ⟨[(0,.tree 138 11 GateField.n (xs.map GateField.e))],1,1⟩ (.d (.int .i64 (aB GateField.mark xs k).2)) ⟨[(0,.tree 138 11 GateField.n ((aB GateField.mark xs k).1.map GateField.e))],1,1⟩:=by
 refine FSpec.of_vc cA az [.tmp 4] Tryz.func137 rfl rfl rfl rfl rfl (fun hok hob=>?_)
 have hs:xs.length≤ap:=by have:=(hob 0 _ rfl).1;rwa [List.length_map] at this
 repeat refine ai ?_
 refine ⟨fun m l h=>∃i:Nat,m=xs.length - i∧i≤xs.length∧l=[(0,.own 0),(1,.d (.int .i64 (gF GateField.mark xs k i))),(5,.d (.int .i64 i))]∧h=⟨[(0,.tree 138 11 GateField.n (uC GateField.mark GateField.e xs k i))],1,1⟩,
  ⟨_,_,_,⟨0,rfl,Nat.zero_le _,rfl,rfl⟩,rfl,rfl,⟨rfl,rfl,rfl,trivial⟩,⟨rfl,trivial⟩,⟨rfl,trivial⟩⟩,?_⟩
 rintro m l h1 ⟨i,rfl,hi,rfl,rfl⟩
 refine aj ?_ ?_<;>intro h1
 ·have hlt:i<xs.length:=by
   have:=of_decide_eq_true h1
   rw[bZ _ hi] at this;omega
  repeat' first
   |refine ai ?_
   |refine aj (Int.natCast_nonneg _) (aj (Int.ofNat_lt.2 (by (try simp only[List.length_set]);exact bi hlt)) ?_)
   |refine Exists.intro _ (aj (aW hlt) (aj (Nat.le_of_ble_eq_true rfl) ?_))
   |refine Exists.intro _ (aj (fD (by (try simp only[List.length_set]);exact bi hlt)) (aj (Nat.le_of_ble_eq_true rfl) ?_))
   |refine Exists.intro _ (aj (aW hlt) (aj rfl ?_))
   |refine aj (show (3:Int)≠0 by decide) ?_
   |refine Or.inl (Exists.intro _ (aj (la _) ?_))
   |refine Or.inr (Or.inr (Or.inr (Or.inr (Or.inr (Or.inr (Or.inr (Or.inr (aj rfl (Exists.intro _ (Exists.intro _ (aj (fD (by (try simp only[List.length_set]);exact bi hlt)) (aj rfl (Exists.intro _ (Exists.intro _ (aj rfl (aj (jv _ _) (Exists.intro _ (aj rfl ?_))))))))))))))))))
   |refine Or.inr (Or.inr (Or.inr (Or.inr (Or.inr (Or.inr (Or.inr (Or.inr (aj rfl (Exists.intro _ (Exists.intro _ (aj (aW hlt) (aj rfl (Exists.intro _ (Exists.intro _ (aj rfl (aj (jv _ _) (Exists.intro _ (aj rfl ?_))))))))))))))))))
   |refine Exists.intro _ (aj (aW hlt) ?_)
   |refine Exists.intro _ (aj (fD (by (try simp only[List.length_set]);exact bi hlt)) ?_)
  refine ⟨_,_,_,⟨i+1,rfl,hlt,rfl,rfl⟩,by omega,rfl,rfl,⟨rfl,nd (cr (f:=GateField.mark) hlt k),nd (V hlt hs),trivial⟩,⟨rfl,trivial⟩,⟨?_,trivial⟩⟩
  refine congrArg some (congrArg (AO.tree _ _ _) ?_)
  try simp only[List.set_set]
  exact eF hlt rfl
 ·have hge:xs.length≤i:=by
   have:=of_decide_eq_false h1
   rw[bZ _ hi] at this;omega
  refine aj (nd (di hge)) (aj rfl (aj rfl (aj rfl (aj trivial (aj ⟨rfl,trivial⟩ ⟨?_,trivial⟩)))))
  exact congrArg some (congrArg (AO.tree _ _ _) (fW hge))
set_option maxHeartbeats 8000000 in
theorem tK (xs:List GateShape) (k:Int):FSpec P 64 [.own 0,.d (.int .i64 k)] ⟨[(0,.tree 164 2 GateShape.n (xs.map GateShape.e))],1,1⟩ (.d (.int .i64 (aB GateShape.mark xs k).2)) ⟨[(0,.tree 164 2 GateShape.n ((aB GateShape.mark xs k).1.map GateShape.e))],1,1⟩:=by
 refine FSpec.of_vc cA az [.tmp 4] Tryz.func64 rfl rfl rfl rfl rfl (fun hok hob=>?_)
 have hs:xs.length≤ap:=by have:=(hob 0 _ rfl).1;rwa [List.length_map] at this
 repeat refine ai ?_
 refine ⟨fun m l h=>∃i:Nat,m=xs.length - i∧i≤xs.length∧l=[(0,.own 0),(1,.d (.int .i64 (gF GateShape.mark xs k i))),(5,.d (.int .i64 i))]∧h=⟨[(0,.tree 164 2 GateShape.n (uC GateShape.mark GateShape.e xs k i))],1,1⟩,
  ⟨_,_,_,⟨0,rfl,Nat.zero_le _,rfl,rfl⟩,rfl,rfl,⟨rfl,rfl,rfl,trivial⟩,⟨rfl,trivial⟩,⟨rfl,trivial⟩⟩,?_⟩
 rintro m l h1 ⟨i,rfl,hi,rfl,rfl⟩
 refine aj ?_ ?_<;>intro h1
 ·have hlt:i<xs.length:=by
   have:=of_decide_eq_true h1
   rw[bZ _ hi] at this;omega
  repeat' first
   |refine ai ?_
   |refine aj (Int.natCast_nonneg _) (aj (Int.ofNat_lt.2 (by (try simp only[List.length_set]);exact bi hlt)) ?_)
   |refine Exists.intro _ (aj (aW hlt) (aj (Nat.le_of_ble_eq_true rfl) ?_))
   |refine Exists.intro _ (aj (fD (by (try simp only[List.length_set]);exact bi hlt)) (aj (Nat.le_of_ble_eq_true rfl) ?_))
   |refine Exists.intro _ (aj (aW hlt) (aj rfl ?_))
   |refine aj (show (3:Int)≠0 by decide) ?_
   |refine Or.inl (Exists.intro _ (aj (la _) ?_))
   |refine Or.inr (Or.inr (Or.inr (Or.inr (Or.inr (Or.inr (Or.inr (Or.inr (aj rfl (Exists.intro _ (Exists.intro _ (aj (fD (by (try simp only[List.length_set]);exact bi hlt)) (aj rfl (Exists.intro _ (Exists.intro _ (aj rfl (aj (ly _ _) (Exists.intro _ (aj rfl ?_))))))))))))))))))
   |refine Or.inr (Or.inr (Or.inr (Or.inr (Or.inr (Or.inr (Or.inr (Or.inr (aj rfl (Exists.intro _ (Exists.intro _ (aj (aW hlt) (aj rfl (Exists.intro _ (Exists.intro _ (aj rfl (aj (ly _ _) (Exists.intro _ (aj rfl ?_))))))))))))))))))
   |refine Exists.intro _ (aj (aW hlt) ?_)
   |refine Exists.intro _ (aj (fD (by (try simp only[List.length_set]);exact bi hlt)) ?_)
  refine ⟨_,_,_,⟨i+1,rfl,hlt,rfl,rfl⟩,by omega,rfl,rfl,⟨rfl,nd (cr (f:=GateShape.mark) hlt k),nd (V hlt hs),trivial⟩,⟨rfl,trivial⟩,⟨?_,trivial⟩⟩
  refine congrArg some (congrArg (AO.tree _ _ _) ?_)
  try simp only[List.set_set]
  exact eF hlt rfl
 ·have hge:xs.length≤i:=by
   have:=of_decide_eq_false h1
   rw[bZ _ hi] at this;omega
  refine aj (nd (di hge)) (aj rfl (aj rfl (aj rfl (aj trivial (aj ⟨rfl,trivial⟩ ⟨?_,trivial⟩)))))
  exact congrArg some (congrArg (AO.tree _ _ _) (fW hge))
set_option maxHeartbeats 8000000 in
theorem wq (xs:List GateMend) (k:Int):FSpec P 65 [.own 0,.d (.int .i64 k)] ⟨[(0,.tree 166 6 GateMend.n (xs.map GateMend.e))],1,1⟩ (.d (.int .i64 (aB GateMend.mark xs k).2)) ⟨[(0,.tree 166 6 GateMend.n ((aB GateMend.mark xs k).1.map GateMend.e))],1,1⟩:=by
 refine FSpec.of_vc cA az [.tmp 4] Tryz.func65 rfl rfl rfl rfl rfl (fun hok hob=>?_)
 have hs:xs.length≤ap:=by have:=(hob 0 _ rfl).1;rwa [List.length_map] at this
 repeat refine ai ?_
 refine ⟨fun m l h=>∃i:Nat,m=xs.length - i∧i≤xs.length∧l=[(0,.own 0),(1,.d (.int .i64 (gF GateMend.mark xs k i))),(5,.d (.int .i64 i))]∧h=⟨[(0,.tree 166 6 GateMend.n (uC GateMend.mark GateMend.e xs k i))],1,1⟩,
  ⟨_,_,_,⟨0,rfl,Nat.zero_le _,rfl,rfl⟩,rfl,rfl,⟨rfl,rfl,rfl,trivial⟩,⟨rfl,trivial⟩,⟨rfl,trivial⟩⟩,?_⟩
 rintro m l h1 ⟨i,rfl,hi,rfl,rfl⟩
 refine aj ?_ ?_<;>intro h1
 ·have hlt:i<xs.length:=by
   have:=of_decide_eq_true h1
   rw[bZ _ hi] at this;omega
  repeat' first
   |refine ai ?_
   |refine aj (Int.natCast_nonneg _) (aj (Int.ofNat_lt.2 (by (try simp only[List.length_set]);exact bi hlt)) ?_)
   |refine Exists.intro _ (aj (aW hlt) (aj (Nat.le_of_ble_eq_true rfl) ?_))
   |refine Exists.intro _ (aj (fD (by (try simp only[List.length_set]);exact bi hlt)) (aj (Nat.le_of_ble_eq_true rfl) ?_))
   |refine Exists.intro _ (aj (aW hlt) (aj rfl ?_))
   |refine aj (show (3:Int)≠0 by decide) ?_
   |refine Or.inl (Exists.intro _ (aj (la _) ?_))
   |refine Exists.intro _ (aj (aW hlt) ?_)
   |refine Exists.intro _ (aj (fD (by (try simp only[List.length_set]);exact bi hlt)) ?_)
  refine ⟨_,_,_,⟨i+1,rfl,hlt,rfl,rfl⟩,by omega,rfl,rfl,⟨rfl,nd (cr (f:=GateMend.mark) hlt k),nd (V hlt hs),trivial⟩,⟨rfl,trivial⟩,⟨?_,trivial⟩⟩
  refine congrArg some (congrArg (AO.tree _ _ _) ?_)
  try simp only[List.set_set]
  exact eF hlt rfl
 ·have hge:xs.length≤i:=by
   have:=of_decide_eq_false h1
   rw[bZ _ hi] at this;omega
  refine aj (nd (di hge)) (aj rfl (aj rfl (aj rfl (aj trivial (aj ⟨rfl,trivial⟩ ⟨?_,trivial⟩)))))
  exact congrArg some (congrArg (AO.tree _ _ _) (fW hge))
set_option maxHeartbeats 8000000 in
theorem wo (xs:List GateTeam) (k:Int):FSpec P 66 [.own 0,.d (.int .i64 k)] ⟨[(0,.tree 168 2 GateTeam.n (xs.map GateTeam.e))],1,1⟩ (.d (.int .i64 (aB GateTeam.mark xs k).2)) ⟨[(0,.tree 168 2 GateTeam.n ((aB GateTeam.mark xs k).1.map GateTeam.e))],1,1⟩:=by
 refine FSpec.of_vc cA az [.tmp 4] Tryz.func66 rfl rfl rfl rfl rfl (fun hok hob=>?_)
 have hs:xs.length≤ap:=by have:=(hob 0 _ rfl).1;rwa [List.length_map] at this
 repeat refine ai ?_
 refine ⟨fun m l h=>∃i:Nat,m=xs.length - i∧i≤xs.length∧l=[(0,.own 0),(1,.d (.int .i64 (gF GateTeam.mark xs k i))),(5,.d (.int .i64 i))]∧h=⟨[(0,.tree 168 2 GateTeam.n (uC GateTeam.mark GateTeam.e xs k i))],1,1⟩,
  ⟨_,_,_,⟨0,rfl,Nat.zero_le _,rfl,rfl⟩,rfl,rfl,⟨rfl,rfl,rfl,trivial⟩,⟨rfl,trivial⟩,⟨rfl,trivial⟩⟩,?_⟩
 rintro m l h1 ⟨i,rfl,hi,rfl,rfl⟩
 refine aj ?_ ?_<;>intro h1
 ·have hlt:i<xs.length:=by
   have:=of_decide_eq_true h1
   rw[bZ _ hi] at this;omega
  repeat' first
   |refine ai ?_
   |refine aj (Int.natCast_nonneg _) (aj (Int.ofNat_lt.2 (by (try simp only[List.length_set]);exact bi hlt)) ?_)
   |refine Exists.intro _ (aj (aW hlt) (aj (Nat.le_of_ble_eq_true rfl) ?_))
   |refine Exists.intro _ (aj (fD (by (try simp only[List.length_set]);exact bi hlt)) (aj (Nat.le_of_ble_eq_true rfl) ?_))
   |refine Exists.intro _ (aj (aW hlt) (aj rfl ?_))
   |refine aj (show (3:Int)≠0 by decide) ?_
   |refine Or.inl (Exists.intro _ (aj (la _) ?_))
   |refine Exists.intro _ (aj (aW hlt) ?_)
   |refine Exists.intro _ (aj (fD (by (try simp only[List.length_set]);exact bi hlt)) ?_)
  refine ⟨_,_,_,⟨i+1,rfl,hlt,rfl,rfl⟩,by omega,rfl,rfl,⟨rfl,nd (cr (f:=GateTeam.mark) hlt k),nd (V hlt hs),trivial⟩,⟨rfl,trivial⟩,⟨?_,trivial⟩⟩
  refine congrArg some (congrArg (AO.tree _ _ _) ?_)
  try simp only[List.set_set]
  exact eF hlt rfl
 ·have hge:xs.length≤i:=by
   have:=of_decide_eq_false h1
   rw[bZ _ hi] at this;omega
  refine aj (nd (di hge)) (aj rfl (aj rfl (aj rfl (aj trivial (aj ⟨rfl,trivial⟩ ⟨?_,trivial⟩)))))
  exact congrArg some (congrArg (AO.tree _ _ _) (fW hge))
set_option maxHeartbeats 8000000 in
theorem zP (x:GateLaw) (k:Int):FSpec P 20 [.agg x.a,.d (.int .i64 k)] ⟨x.o,3,3⟩ (.d (.int .i64 (GateLaw.marks x k).2)) ⟨(GateLaw.marks x k).1.o,3,3⟩:=by
 refine FSpec.of_vc cA az [.tmp 4] Tryz.func20 rfl rfl rfl rfl rfl (fun hok hob=>?_)
 repeat refine ai ?_
 refine om [0] none (tK _ _) ?_
 repeat refine ai ?_
 refine om [1] none (wq _ _) ?_
 repeat refine ai ?_
 refine om [2] none (wo _ _) ?_
 repeat refine ai ?_
 repeat' first|exact rfl|exact trivial|refine aj ?_ ?_
set_option maxHeartbeats 8000000 in
theorem rK (xs:List GateObject) (k:Int):FSpec P 67 [.own 0,.d (.int .i64 k)] ⟨[(0,.tree 103 7 GateObject.n (xs.map GateObject.e))],1,1⟩ (.d (.int .i64 (aB GateObject.mark xs k).2)) ⟨[(0,.tree 103 7 GateObject.n ((aB GateObject.mark xs k).1.map GateObject.e))],1,1⟩:=by
 refine FSpec.of_vc cA az [.tmp 4] Tryz.func67 rfl rfl rfl rfl rfl (fun hok hob=>?_)
 have hs:xs.length≤ap:=by have:=(hob 0 _ rfl).1;rwa [List.length_map] at this
 repeat refine ai ?_
 refine ⟨fun m l h=>∃i:Nat,m=xs.length - i∧i≤xs.length∧l=[(0,.own 0),(1,.d (.int .i64 (gF GateObject.mark xs k i))),(5,.d (.int .i64 i))]∧h=⟨[(0,.tree 103 7 GateObject.n (uC GateObject.mark GateObject.e xs k i))],1,1⟩,
  ⟨_,_,_,⟨0,rfl,Nat.zero_le _,rfl,rfl⟩,rfl,rfl,⟨rfl,rfl,rfl,trivial⟩,⟨rfl,trivial⟩,⟨rfl,trivial⟩⟩,?_⟩
 rintro m l h1 ⟨i,rfl,hi,rfl,rfl⟩
 refine aj ?_ ?_<;>intro h1
 ·have hlt:i<xs.length:=by
   have:=of_decide_eq_true h1
   rw[bZ _ hi] at this;omega
  repeat' first
   |refine ai ?_
   |refine aj (Int.natCast_nonneg _) (aj (Int.ofNat_lt.2 (by (try simp only[List.length_set]);exact bi hlt)) ?_)
   |refine Exists.intro _ (aj (aW hlt) (aj (Nat.le_of_ble_eq_true rfl) ?_))
   |refine Exists.intro _ (aj (fD (by (try simp only[List.length_set]);exact bi hlt)) (aj (Nat.le_of_ble_eq_true rfl) ?_))
   |refine Exists.intro _ (aj (aW hlt) (aj rfl ?_))
   |refine aj (show (3:Int)≠0 by decide) ?_
   |refine Or.inl (Exists.intro _ (aj (la _) ?_))
   |refine Or.inr (Or.inr (Or.inr (Or.inr (Or.inr (Or.inr (Or.inr (Or.inr (aj rfl (Exists.intro _ (Exists.intro _ (aj (fD (by (try simp only[List.length_set]);exact bi hlt)) (aj rfl (Exists.intro _ (Exists.intro _ (aj rfl (aj (jv _ _) (Exists.intro _ (aj rfl ?_))))))))))))))))))
   |refine Or.inr (Or.inr (Or.inr (Or.inr (Or.inr (Or.inr (Or.inr (Or.inr (aj rfl (Exists.intro _ (Exists.intro _ (aj (aW hlt) (aj rfl (Exists.intro _ (Exists.intro _ (aj rfl (aj (jv _ _) (Exists.intro _ (aj rfl ?_))))))))))))))))))
   |refine Exists.intro _ (aj (aW hlt) ?_)
   |refine Exists.intro _ (aj (fD (by (try simp only[List.length_set]);exact bi hlt)) ?_)
  refine ⟨_,_,_,⟨i+1,rfl,hlt,rfl,rfl⟩,by omega,rfl,rfl,⟨rfl,nd (cr (f:=GateObject.mark) hlt k),nd (V hlt hs),trivial⟩,⟨rfl,trivial⟩,⟨?_,trivial⟩⟩
  refine congrArg some (congrArg (AO.tree _ _ _) ?_)
  try simp only[List.set_set]
  exact eF hlt rfl
 ·have hge:xs.length≤i:=by
   have:=of_decide_eq_false h1
   rw[bZ _ hi] at this;omega
  refine aj (nd (di hge)) (aj rfl (aj rfl (aj rfl (aj trivial (aj ⟨rfl,trivial⟩ ⟨?_,trivial⟩)))))
  exact congrArg some (congrArg (AO.tree _ _ _) (fW hge))
set_option maxHeartbeats 8000000 in
theorem tM (xs:List GateGrant) (k:Int):FSpec P 68 [.own 0,.d (.int .i64 k)] ⟨[(0,.tree 173 7 GateGrant.n (xs.map GateGrant.e))],1,1⟩ (.d (.int .i64 (aB GateGrant.mark xs k).2)) ⟨[(0,.tree 173 7 GateGrant.n ((aB GateGrant.mark xs k).1.map GateGrant.e))],1,1⟩:=by
 refine FSpec.of_vc cA az [.tmp 4] Tryz.func68 rfl rfl rfl rfl rfl (fun hok hob=>?_)
 have hs:xs.length≤ap:=by have:=(hob 0 _ rfl).1;rwa [List.length_map] at this
 repeat refine ai ?_
 refine ⟨fun m l h=>∃i:Nat,m=xs.length - i∧i≤xs.length∧l=[(0,.own 0),(1,.d (.int .i64 (gF GateGrant.mark xs k i))),(5,.d (.int .i64 i))]∧h=⟨[(0,.tree 173 7 GateGrant.n (uC GateGrant.mark GateGrant.e xs k i))],1,1⟩,
  ⟨_,_,_,⟨0,rfl,Nat.zero_le _,rfl,rfl⟩,rfl,rfl,⟨rfl,rfl,rfl,trivial⟩,⟨rfl,trivial⟩,⟨rfl,trivial⟩⟩,?_⟩
 rintro m l h1 ⟨i,rfl,hi,rfl,rfl⟩
 refine aj ?_ ?_<;>intro h1
 ·have hlt:i<xs.length:=by
   have:=of_decide_eq_true h1
   rw[bZ _ hi] at this;omega
  repeat' first
   |refine ai ?_
   |refine aj (Int.natCast_nonneg _) (aj (Int.ofNat_lt.2 (by (try simp only[List.length_set]);exact bi hlt)) ?_)
   |refine Exists.intro _ (aj (aW hlt) (aj (Nat.le_of_ble_eq_true rfl) ?_))
   |refine Exists.intro _ (aj (fD (by (try simp only[List.length_set]);exact bi hlt)) (aj (Nat.le_of_ble_eq_true rfl) ?_))
   |refine Exists.intro _ (aj (aW hlt) (aj rfl ?_))
   |refine aj (show (3:Int)≠0 by decide) ?_
   |refine Or.inl (Exists.intro _ (aj (la _) ?_))
   |refine Or.inr (Or.inr (Or.inr (Or.inr (Or.inr (Or.inr (Or.inr (Or.inr (aj rfl (Exists.intro _ (Exists.intro _ (aj (fD (by (try simp only[List.length_set]);exact bi hlt)) (aj rfl (Exists.intro _ (Exists.intro _ (aj rfl (aj (Ba _ _) (Exists.intro _ (aj rfl ?_))))))))))))))))))
   |refine Or.inr (Or.inr (Or.inr (Or.inr (Or.inr (Or.inr (Or.inr (Or.inr (aj rfl (Exists.intro _ (Exists.intro _ (aj (aW hlt) (aj rfl (Exists.intro _ (Exists.intro _ (aj rfl (aj (Ba _ _) (Exists.intro _ (aj rfl ?_))))))))))))))))))
   |refine Exists.intro _ (aj (aW hlt) ?_)
   |refine Exists.intro _ (aj (fD (by (try simp only[List.length_set]);exact bi hlt)) ?_)
  refine ⟨_,_,_,⟨i+1,rfl,hlt,rfl,rfl⟩,by omega,rfl,rfl,⟨rfl,nd (cr (f:=GateGrant.mark) hlt k),nd (V hlt hs),trivial⟩,⟨rfl,trivial⟩,⟨?_,trivial⟩⟩
  refine congrArg some (congrArg (AO.tree _ _ _) ?_)
  try simp only[List.set_set]
  exact eF hlt rfl
 ·have hge:xs.length≤i:=by
   have:=of_decide_eq_false h1
   rw[bZ _ hi] at this;omega
  refine aj (nd (di hge)) (aj rfl (aj rfl (aj rfl (aj trivial (aj ⟨rfl,trivial⟩ ⟨?_,trivial⟩)))))
  exact congrArg some (congrArg (AO.tree _ _ _) (fW hge))
set_option maxHeartbeats 8000000 in
theorem rL (xs:List GateLedger) (k:Int):FSpec P 69 [.own 0,.d (.int .i64 k)] ⟨[(0,.tree 119 4 GateLedger.n (xs.map GateLedger.e))],1,1⟩ (.d (.int .i64 (aB GateLedger.mark xs k).2)) ⟨[(0,.tree 119 4 GateLedger.n ((aB GateLedger.mark xs k).1.map GateLedger.e))],1,1⟩:=by
 refine FSpec.of_vc cA az [.tmp 4] Tryz.func69 rfl rfl rfl rfl rfl (fun hok hob=>?_)
 have hs:xs.length≤ap:=by have:=(hob 0 _ rfl).1;rwa [List.length_map] at this
 repeat refine ai ?_
 refine ⟨fun m l h=>∃i:Nat,m=xs.length - i∧i≤xs.length∧l=[(0,.own 0),(1,.d (.int .i64 (gF GateLedger.mark xs k i))),(5,.d (.int .i64 i))]∧h=⟨[(0,.tree 119 4 GateLedger.n (uC GateLedger.mark GateLedger.e xs k i))],1,1⟩,
  ⟨_,_,_,⟨0,rfl,Nat.zero_le _,rfl,rfl⟩,rfl,rfl,⟨rfl,rfl,rfl,trivial⟩,⟨rfl,trivial⟩,⟨rfl,trivial⟩⟩,?_⟩
 rintro m l h1 ⟨i,rfl,hi,rfl,rfl⟩
 refine aj ?_ ?_<;>intro h1
 ·have hlt:i<xs.length:=by
   have:=of_decide_eq_true h1
   rw[bZ _ hi] at this;omega
  repeat' first
   |refine ai ?_
   |refine aj (Int.natCast_nonneg _) (aj (Int.ofNat_lt.2 (by (try simp only[List.length_set]);exact bi hlt)) ?_)
   |refine Exists.intro _ (aj (aW hlt) (aj (Nat.le_of_ble_eq_true rfl) ?_))
   |refine Exists.intro _ (aj (fD (by (try simp only[List.length_set]);exact bi hlt)) (aj (Nat.le_of_ble_eq_true rfl) ?_))
   |refine Exists.intro _ (aj (aW hlt) (aj rfl ?_))
   |refine aj (show (3:Int)≠0 by decide) ?_
   |refine Or.inl (Exists.intro _ (aj (la _) ?_))
   |refine Exists.intro _ (aj (aW hlt) ?_)
   |refine Exists.intro _ (aj (fD (by (try simp only[List.length_set]);exact bi hlt)) ?_)
  refine ⟨_,_,_,⟨i+1,rfl,hlt,rfl,rfl⟩,by omega,rfl,rfl,⟨rfl,nd (cr (f:=GateLedger.mark) hlt k),nd (V hlt hs),trivial⟩,⟨rfl,trivial⟩,⟨?_,trivial⟩⟩
  refine congrArg some (congrArg (AO.tree _ _ _) ?_)
  try simp only[List.set_set]
  exact eF hlt rfl
 ·have hge:xs.length≤i:=by
   have:=of_decide_eq_false h1
   rw[bZ _ hi] at this;omega
  refine aj (nd (di hge)) (aj rfl (aj rfl (aj rfl (aj trivial (aj ⟨rfl,trivial⟩ ⟨?_,trivial⟩)))))
  exact congrArg some (congrArg (AO.tree _ _ _) (fW hge))
set_option maxHeartbeats 8000000 in
theorem tL (xs:List GatePurse) (k:Int):FSpec P 70 [.own 0,.d (.int .i64 k)] ⟨[(0,.tree 109 5 GatePurse.n (xs.map GatePurse.e))],1,1⟩ (.d (.int .i64 (aB GatePurse.mark xs k).2)) ⟨[(0,.tree 109 5 GatePurse.n ((aB GatePurse.mark xs k).1.map GatePurse.e))],1,1⟩:=by
 refine FSpec.of_vc cA az [.tmp 4] Tryz.func70 rfl rfl rfl rfl rfl (fun hok hob=>?_)
 have hs:xs.length≤ap:=by have:=(hob 0 _ rfl).1;rwa [List.length_map] at this
 repeat refine ai ?_
 refine ⟨fun m l h=>∃i:Nat,m=xs.length - i∧i≤xs.length∧l=[(0,.own 0),(1,.d (.int .i64 (gF GatePurse.mark xs k i))),(5,.d (.int .i64 i))]∧h=⟨[(0,.tree 109 5 GatePurse.n (uC GatePurse.mark GatePurse.e xs k i))],1,1⟩,
  ⟨_,_,_,⟨0,rfl,Nat.zero_le _,rfl,rfl⟩,rfl,rfl,⟨rfl,rfl,rfl,trivial⟩,⟨rfl,trivial⟩,⟨rfl,trivial⟩⟩,?_⟩
 rintro m l h1 ⟨i,rfl,hi,rfl,rfl⟩
 refine aj ?_ ?_<;>intro h1
 ·have hlt:i<xs.length:=by
   have:=of_decide_eq_true h1
   rw[bZ _ hi] at this;omega
  repeat' first
   |refine ai ?_
   |refine aj (Int.natCast_nonneg _) (aj (Int.ofNat_lt.2 (by (try simp only[List.length_set]);exact bi hlt)) ?_)
   |refine Exists.intro _ (aj (aW hlt) (aj (Nat.le_of_ble_eq_true rfl) ?_))
   |refine Exists.intro _ (aj (fD (by (try simp only[List.length_set]);exact bi hlt)) (aj (Nat.le_of_ble_eq_true rfl) ?_))
   |refine Exists.intro _ (aj (aW hlt) (aj rfl ?_))
   |refine aj (show (3:Int)≠0 by decide) ?_
   |refine Or.inl (Exists.intro _ (aj (la _) ?_))
   |refine Exists.intro _ (aj (aW hlt) ?_)
   |refine Exists.intro _ (aj (fD (by (try simp only[List.length_set]);exact bi hlt)) ?_)
  refine ⟨_,_,_,⟨i+1,rfl,hlt,rfl,rfl⟩,by omega,rfl,rfl,⟨rfl,nd (cr (f:=GatePurse.mark) hlt k),nd (V hlt hs),trivial⟩,⟨rfl,trivial⟩,⟨?_,trivial⟩⟩
  refine congrArg some (congrArg (AO.tree _ _ _) ?_)
  try simp only[List.set_set]
  exact eF hlt rfl
 ·have hge:xs.length≤i:=by
   have:=of_decide_eq_false h1
   rw[bZ _ hi] at this;omega
  refine aj (nd (di hge)) (aj rfl (aj rfl (aj rfl (aj trivial (aj ⟨rfl,trivial⟩ ⟨?_,trivial⟩)))))
  exact congrArg some (congrArg (AO.tree _ _ _) (fW hge))
set_option maxHeartbeats 8000000 in
theorem pv (x:GateBook) (k:Int):FSpec P 21 [.agg x.a,.d (.int .i64 k)] ⟨x.o,4,4⟩ (.d (.int .i64 (GateBook.marks x k).2)) ⟨(GateBook.marks x k).1.o,4,4⟩:=by
 refine FSpec.of_vc cA az [.tmp 4] Tryz.func21 rfl rfl rfl rfl rfl (fun hok hob=>?_)
 repeat refine ai ?_
 refine om [0] none (rK _ _) ?_
 repeat refine ai ?_
 refine om [1] none (tM _ _) ?_
 repeat refine ai ?_
 refine om [2] none (rL _ _) ?_
 repeat refine ai ?_
 refine om [3] none (tL _ _) ?_
 repeat refine ai ?_
 repeat' first|exact rfl|exact trivial|refine aj ?_ ?_
set_option maxHeartbeats 8000000 in
theorem sk (xs:List Bs) (k:Int) (h0:0≤k) (hB:k+bF fb xs≤1099511627776):Spec P 153 [.d (lS (aB eL xs k).1),.d (.int .i64 k)] (.d (.int .i64 (aB eL xs k).2)):=by
 refine Spec.of_vc aQ az [.tmp 4] Tryz.func153 rfl rfl rfl rfl (fun hok=>?_)
 have hs:xs.length≤ap:=by have:=hok.1.1;rwa [List.length_map,bv] at this
 repeat refine ai ?_
 refine ⟨fun m l h=>∃i:Nat,m=xs.length - i∧i≤xs.length∧l=[(0,.d (lS (aB eL xs k).1)),(1,.d (.int .i64 (gF eL xs k i))),(5,.d (.int .i64 i))]∧h=hp0,
  ⟨_,_,_,⟨0,rfl,Nat.zero_le _,rfl,rfl⟩,rfl,rfl,⟨rfl,rfl,rfl,trivial⟩,trivial,trivial⟩,?_⟩
 rintro m l h1 ⟨i,rfl,hi,rfl,rfl⟩
 refine aj ?_ ?_<;>intro h1
 ·have hlt:i<xs.length:=by
   have:=of_decide_eq_true h1
   rw[List.length_map,bv] at this;omega
  have hK:=oH (l:=fb) kQ c6 h0 hB hlt
  have hstep:=cr (f:=eL) hlt k
  have hix:∀{sz:Nat} {Kp:List D→Prop},(eB (eL xs[i] (gF eL xs k i)).1).length=sz→Kp (eB (eL xs[i] (gF eL xs k i)).1)→(0:Int)≤(i:Int)∧∃b,(((aB eL xs k).1).map eB)[(i:Int).toNat]? =some b∧b.length=sz∧Kp b:=fun hs h=>uN hlt hs h
  generalize gF eL xs k i=K at*
  simp only[fb] at hK
  have s0:(wk K)=K+1:=au (by omega) (by omega)
  repeat' first
   |refine ai ?_
   |refine hix rfl ?_
   |refine aj (show (3:Int)≠0 by decide) ?_
   |refine Or.inl (Exists.intro _ (aj (la _) ?_))
   |skip;fail
   |refine aj (fun h=>absurd h (by simp[eL,mi,mb,wk])) (fun _=>?_)
   |refine ak ?_
  exact ⟨_,_,_,⟨i+1,rfl,hlt,rfl,rfl⟩,by omega,rfl,rfl,⟨rfl,nd hstep,nd (V hlt hs),trivial⟩,trivial,trivial⟩
 ·have hge:xs.length≤i:=by
   have:=of_decide_eq_false h1
   rw[List.length_map,bv] at this;omega
  exact nd (di hge)
set_option maxHeartbeats 8000000 in
theorem E4 (xs:List Int) (k:Int) (h0:0≤k) (hB:k+bF fb xs≤1099511627776):Spec P 23 [.d (lI (aB iV xs k).1),.d (.int .i64 k)] (.d (.int .i64 (aB iV xs k).2)):=by
 refine Spec.of_vc aQ az [.tmp 4] Tryz.func23 rfl rfl rfl rfl (fun hok=>?_)
 have hs:xs.length≤ap:=by have:=hok.1.1;rwa [List.length_map,bv] at this
 repeat refine ai ?_
 refine ⟨fun m l h=>∃i:Nat,m=xs.length - i∧i≤xs.length∧l=[(0,.d (lI (aB iV xs k).1)),(1,.d (.int .i64 (gF iV xs k i))),(5,.d (.int .i64 i))]∧h=hp0,
  ⟨_,_,_,⟨0,rfl,Nat.zero_le _,rfl,rfl⟩,rfl,rfl,⟨rfl,rfl,rfl,trivial⟩,trivial,trivial⟩,?_⟩
 rintro m l h1 ⟨i,rfl,hi,rfl,rfl⟩
 refine aj ?_ ?_<;>intro h1
 ·have hlt:i<xs.length:=by
   have:=of_decide_eq_true h1
   rw[List.length_map,bv] at this;omega
  have hK:=oH (l:=fb) ws c6 h0 hB hlt
  have hstep:=cr (f:=iV) hlt k
  have hix:∀{sz:Nat} {Kp:List D→Prop},(eN (iV xs[i] (gF iV xs k i)).1).length=sz→Kp (eN (iV xs[i] (gF iV xs k i)).1)→(0:Int)≤(i:Int)∧∃b,(((aB iV xs k).1).map eN)[(i:Int).toNat]? =some b∧b.length=sz∧Kp b:=fun hs h=>uN hlt hs h
  generalize gF iV xs k i=K at*
  simp only[fb] at hK
  have s0:(wk K)=K+1:=au (by omega) (by omega)
  repeat' first
   |refine ai ?_
   |refine hix rfl ?_
   |refine aj (show (3:Int)≠0 by decide) ?_
   |refine Or.inl (Exists.intro _ (aj (la _) ?_))
   |skip;fail
   |refine aj (fun h=>absurd h (by simp[iV,mi,mb,wk])) (fun _=>?_)
   |refine ak ?_
  exact ⟨_,_,_,⟨i+1,rfl,hlt,rfl,rfl⟩,by omega,rfl,rfl,⟨rfl,nd hstep,nd (V hlt hs),trivial⟩,trivial,trivial⟩
 ·have hge:xs.length≤i:=by
   have:=of_decide_eq_false h1
   rw[List.length_map,bv] at this;omega
  exact nd (di hge)
set_option maxHeartbeats 8000000 in
theorem sn (xs:List GateObject) (k:Int) (h0:0≤k) (hB:k+bF GateObject.lv xs≤1099511627776):Spec P 84 [.d (aD (aB GateObject.mark xs k).1),.d (.int .i64 k)] (.d (.int .i64 (aB GateObject.mark xs k).2)):=by
 refine Spec.of_vc aQ az [.tmp 4] Tryz.func84 rfl rfl rfl rfl (fun hok=>?_)
 have hs:xs.length≤ap:=by have:=hok.1.1;rwa [List.length_map,bv] at this
 repeat refine ai ?_
 refine ⟨fun m l h=>∃i:Nat,m=xs.length - i∧i≤xs.length∧l=[(0,.d (aD (aB GateObject.mark xs k).1)),(1,.d (.int .i64 (gF GateObject.mark xs k i))),(5,.d (.int .i64 i))]∧h=hp0,
  ⟨_,_,_,⟨0,rfl,Nat.zero_le _,rfl,rfl⟩,rfl,rfl,⟨rfl,rfl,rfl,trivial⟩,trivial,trivial⟩,?_⟩
 rintro m l h1 ⟨i,rfl,hi,rfl,rfl⟩
 refine aj ?_ ?_<;>intro h1
 ·have hlt:i<xs.length:=by
   have:=of_decide_eq_true h1
   rw[List.length_map,bv] at this;omega
  have hK:=oH (l:=GateObject.lv) GateObject.mark_val GateObject.lv_nn h0 hB hlt
  have hstep:=cr (f:=GateObject.mark) hlt k
  have hix:∀{sz:Nat} {Kp:List D→Prop},(GateObject.e (GateObject.mark xs[i] (gF GateObject.mark xs k i)).1).length=sz→Kp (GateObject.e (GateObject.mark xs[i] (gF GateObject.mark xs k i)).1)→(0:Int)≤(i:Int)∧∃b,(((aB GateObject.mark xs k).1).map GateObject.e)[(i:Int).toNat]? =some b∧b.length=sz∧Kp b:=fun hs h=>uN hlt hs h
  generalize gF GateObject.mark xs k i=K at*
  simp only[GateObject.lv] at hK
  have p0:=aO c6 xs[i].values
  have p1:=aO c6 xs[i].holds
  have s0:(wk K)=K+1:=au (by omega) (by omega)
  have s1:(wk (wk K))=K+2:=by rw[s0,au (by omega) (by omega)];try omega
  have s2:(wk (wk (wk K)))=K+3:=by rw[s1,au (by omega) (by omega)];try omega
  have s3:(aB eL xs[i].values (wk (wk (wk K)))).2=K+3+bF fb xs[i].values:=by rw[s2,ca (l:=fb) kQ c6 xs[i].values _ (by omega) (by omega)];try omega
  have s4:(wk (aB eL xs[i].values (wk (wk (wk K)))).2)=K+4+bF fb xs[i].values:=by rw[s3,au (by omega) (by omega)];try omega
  have s5:(aB eL xs[i].holds (wk (aB eL xs[i].values (wk (wk (wk K)))).2)).2=K+4+bF fb xs[i].values+bF fb xs[i].holds:=by rw[s4,ca (l:=fb) kQ c6 xs[i].holds _ (by omega) (by omega)];try omega
  have s6:(wk (aB eL xs[i].holds (wk (aB eL xs[i].values (wk (wk (wk K)))).2)).2)=K+5+bF fb xs[i].values+bF fb xs[i].holds:=by rw[s5,au (by omega) (by omega)];try omega
  repeat' first
   |refine ai ?_
   |refine hix rfl ?_
   |refine aj (show (3:Int)≠0 by decide) ?_
   |refine Or.inl (Exists.intro _ (aj (la _) ?_))
   |refine Or.inl (Exists.intro _ (aj (sk xs[i].values (wk (wk (wk K))) (by rw[s2];omega) (by rw[s2];omega)) ?_))
   |refine aj (fun h=>absurd (of_decide_eq_true h) (by rw[s3];omega)) (fun _=>?_)
   |refine Or.inl (Exists.intro _ (aj (sk xs[i].holds (wk (aB eL xs[i].values (wk (wk (wk K)))).2) (by rw[s4];omega) (by rw[s4];omega)) ?_))
   |refine aj (fun h=>absurd (of_decide_eq_true h) (by rw[s5];omega)) (fun _=>?_)
   |refine aj (fun h=>absurd h (by simp[GateObject.mark,mi,mb,wk])) (fun _=>?_)
   |refine ak ?_
  exact ⟨_,_,_,⟨i+1,rfl,hlt,rfl,rfl⟩,by omega,rfl,rfl,⟨rfl,nd hstep,nd (V hlt hs),trivial⟩,trivial,trivial⟩
 ·have hge:xs.length≤i:=by
   have:=of_decide_eq_false h1
   rw[List.length_map,bv] at this;omega
  exact nd (di hge)
set_option maxHeartbeats 8000000 in
theorem tU (xs:List GateGrant) (k:Int) (h0:0≤k) (hB:k+bF GateGrant.lv xs≤1099511627776):Spec P 85 [.d (aU (aB GateGrant.mark xs k).1),.d (.int .i64 k)] (.d (.int .i64 (aB GateGrant.mark xs k).2)):=by
 refine Spec.of_vc aQ az [.tmp 4] Tryz.func85 rfl rfl rfl rfl (fun hok=>?_)
 have hs:xs.length≤ap:=by have:=hok.1.1;rwa [List.length_map,bv] at this
 repeat refine ai ?_
 refine ⟨fun m l h=>∃i:Nat,m=xs.length - i∧i≤xs.length∧l=[(0,.d (aU (aB GateGrant.mark xs k).1)),(1,.d (.int .i64 (gF GateGrant.mark xs k i))),(5,.d (.int .i64 i))]∧h=hp0,
  ⟨_,_,_,⟨0,rfl,Nat.zero_le _,rfl,rfl⟩,rfl,rfl,⟨rfl,rfl,rfl,trivial⟩,trivial,trivial⟩,?_⟩
 rintro m l h1 ⟨i,rfl,hi,rfl,rfl⟩
 refine aj ?_ ?_<;>intro h1
 ·have hlt:i<xs.length:=by
   have:=of_decide_eq_true h1
   rw[List.length_map,bv] at this;omega
  have hK:=oH (l:=GateGrant.lv) GateGrant.mark_val GateGrant.lv_nn h0 hB hlt
  have hstep:=cr (f:=GateGrant.mark) hlt k
  have hix:∀{sz:Nat} {Kp:List D→Prop},(GateGrant.e (GateGrant.mark xs[i] (gF GateGrant.mark xs k i)).1).length=sz→Kp (GateGrant.e (GateGrant.mark xs[i] (gF GateGrant.mark xs k i)).1)→(0:Int)≤(i:Int)∧∃b,(((aB GateGrant.mark xs k).1).map GateGrant.e)[(i:Int).toNat]? =some b∧b.length=sz∧Kp b:=fun hs h=>uN hlt hs h
  generalize gF GateGrant.mark xs k i=K at*
  simp only[GateGrant.lv] at hK
  have p0:=aO c6 xs[i].rule.verbs
  have s0:(wk K)=K+1:=au (by omega) (by omega)
  have s1:(wk (wk K))=K+2:=by rw[s0,au (by omega) (by omega)];try omega
  have s2:(wk (wk (wk K)))=K+3:=by rw[s1,au (by omega) (by omega)];try omega
  have s3:(aB iV xs[i].rule.verbs (wk (wk (wk K)))).2=K+3+bF fb xs[i].rule.verbs:=by rw[s2,ca (l:=fb) ws c6 xs[i].rule.verbs _ (by omega) (by omega)];try omega
  have s4:(wk (aB iV xs[i].rule.verbs (wk (wk (wk K)))).2)=K+4+bF fb xs[i].rule.verbs:=by rw[s3,au (by omega) (by omega)];try omega
  have s5:(wk (wk (aB iV xs[i].rule.verbs (wk (wk (wk K)))).2))=K+5+bF fb xs[i].rule.verbs:=by rw[s4,au (by omega) (by omega)];try omega
  have s6:(wk (wk (wk (aB iV xs[i].rule.verbs (wk (wk (wk K)))).2)))=K+6+bF fb xs[i].rule.verbs:=by rw[s5,au (by omega) (by omega)];try omega
  repeat' first
   |refine ai ?_
   |refine hix rfl ?_
   |refine aj (show (3:Int)≠0 by decide) ?_
   |refine Or.inl (Exists.intro _ (aj (la _) ?_))
   |refine Or.inl (Exists.intro _ (aj (E4 xs[i].rule.verbs (wk (wk (wk K))) (by rw[s2];omega) (by rw[s2];omega)) ?_))
   |refine aj (fun h=>absurd (of_decide_eq_true h) (by rw[s3];omega)) (fun _=>?_)
   |refine aj (fun h=>absurd h (by simp[GateGrant.mark,mi,mb,wk])) (fun _=>?_)
   |refine ak ?_
  exact ⟨_,_,_,⟨i+1,rfl,hlt,rfl,rfl⟩,by omega,rfl,rfl,⟨rfl,nd hstep,nd (V hlt hs),trivial⟩,trivial,trivial⟩
 ·have hge:xs.length≤i:=by
   have:=of_decide_eq_false h1
   rw[List.length_map,bv] at this;omega
  exact nd (di hge)
set_option maxHeartbeats 8000000 in
theorem so (xs:List GateLedger) (k:Int) (h0:0≤k) (hB:k+bF GateLedger.lv xs≤1099511627776):Spec P 86 [.d (aK (aB GateLedger.mark xs k).1),.d (.int .i64 k)] (.d (.int .i64 (aB GateLedger.mark xs k).2)):=by
 refine Spec.of_vc aQ az [.tmp 4] Tryz.func86 rfl rfl rfl rfl (fun hok=>?_)
 have hs:xs.length≤ap:=by have:=hok.1.1;rwa [List.length_map,bv] at this
 repeat refine ai ?_
 refine ⟨fun m l h=>∃i:Nat,m=xs.length - i∧i≤xs.length∧l=[(0,.d (aK (aB GateLedger.mark xs k).1)),(1,.d (.int .i64 (gF GateLedger.mark xs k i))),(5,.d (.int .i64 i))]∧h=hp0,
  ⟨_,_,_,⟨0,rfl,Nat.zero_le _,rfl,rfl⟩,rfl,rfl,⟨rfl,rfl,rfl,trivial⟩,trivial,trivial⟩,?_⟩
 rintro m l h1 ⟨i,rfl,hi,rfl,rfl⟩
 refine aj ?_ ?_<;>intro h1
 ·have hlt:i<xs.length:=by
   have:=of_decide_eq_true h1
   rw[List.length_map,bv] at this;omega
  have hK:=oH (l:=GateLedger.lv) GateLedger.mark_val GateLedger.lv_nn h0 hB hlt
  have hstep:=cr (f:=GateLedger.mark) hlt k
  have hix:∀{sz:Nat} {Kp:List D→Prop},(GateLedger.e (GateLedger.mark xs[i] (gF GateLedger.mark xs k i)).1).length=sz→Kp (GateLedger.e (GateLedger.mark xs[i] (gF GateLedger.mark xs k i)).1)→(0:Int)≤(i:Int)∧∃b,(((aB GateLedger.mark xs k).1).map GateLedger.e)[(i:Int).toNat]? =some b∧b.length=sz∧Kp b:=fun hs h=>uN hlt hs h
  generalize gF GateLedger.mark xs k i=K at*
  simp only[GateLedger.lv] at hK
  have s0:(wk K)=K+1:=au (by omega) (by omega)
  have s1:(wk (wk K))=K+2:=by rw[s0,au (by omega) (by omega)];try omega
  have s2:(wk (wk (wk K)))=K+3:=by rw[s1,au (by omega) (by omega)];try omega
  have s3:(wk (wk (wk (wk K))))=K+4:=by rw[s2,au (by omega) (by omega)];try omega
  repeat' first
   |refine ai ?_
   |refine hix rfl ?_
   |refine aj (show (3:Int)≠0 by decide) ?_
   |refine Or.inl (Exists.intro _ (aj (la _) ?_))
   |skip;fail
   |refine aj (fun h=>absurd h (by simp[GateLedger.mark,mi,mb,wk])) (fun _=>?_)
   |refine ak ?_
  exact ⟨_,_,_,⟨i+1,rfl,hlt,rfl,rfl⟩,by omega,rfl,rfl,⟨rfl,nd hstep,nd (V hlt hs),trivial⟩,trivial,trivial⟩
 ·have hge:xs.length≤i:=by
   have:=of_decide_eq_false h1
   rw[List.length_map,bv] at this;omega
  exact nd (di hge)
set_option maxHeartbeats 8000000 in
theorem tT (xs:List GatePurse) (k:Int) (h0:0≤k) (hB:k+bF GatePurse.lv xs≤1099511627776):Spec P 87 [.d (aG (aB GatePurse.mark xs k).1),.d (.int .i64 k)] (.d (.int .i64 (aB GatePurse.mark xs k).2)):=by
 refine Spec.of_vc aQ az [.tmp 4] Tryz.func87 rfl rfl rfl rfl (fun hok=>?_)
 have hs:xs.length≤ap:=by have:=hok.1.1;rwa [List.length_map,bv] at this
 repeat refine ai ?_
 refine ⟨fun m l h=>∃i:Nat,m=xs.length - i∧i≤xs.length∧l=[(0,.d (aG (aB GatePurse.mark xs k).1)),(1,.d (.int .i64 (gF GatePurse.mark xs k i))),(5,.d (.int .i64 i))]∧h=hp0,
  ⟨_,_,_,⟨0,rfl,Nat.zero_le _,rfl,rfl⟩,rfl,rfl,⟨rfl,rfl,rfl,trivial⟩,trivial,trivial⟩,?_⟩
 rintro m l h1 ⟨i,rfl,hi,rfl,rfl⟩
 refine aj ?_ ?_<;>intro h1
 ·have hlt:i<xs.length:=by
   have:=of_decide_eq_true h1
   rw[List.length_map,bv] at this;omega
  have hK:=oH (l:=GatePurse.lv) GatePurse.mark_val GatePurse.lv_nn h0 hB hlt
  have hstep:=cr (f:=GatePurse.mark) hlt k
  have hix:∀{sz:Nat} {Kp:List D→Prop},(GatePurse.e (GatePurse.mark xs[i] (gF GatePurse.mark xs k i)).1).length=sz→Kp (GatePurse.e (GatePurse.mark xs[i] (gF GatePurse.mark xs k i)).1)→(0:Int)≤(i:Int)∧∃b,(((aB GatePurse.mark xs k).1).map GatePurse.e)[(i:Int).toNat]? =some b∧b.length=sz∧Kp b:=fun hs h=>uN hlt hs h
  generalize gF GatePurse.mark xs k i=K at*
  simp only[GatePurse.lv] at hK
  have s0:(wk K)=K+1:=au (by omega) (by omega)
  have s1:(wk (wk K))=K+2:=by rw[s0,au (by omega) (by omega)];try omega
  have s2:(wk (wk (wk K)))=K+3:=by rw[s1,au (by omega) (by omega)];try omega
  have s3:(wk (wk (wk (wk K))))=K+4:=by rw[s2,au (by omega) (by omega)];try omega
  have s4:(wk (wk (wk (wk (wk K)))))=K+5:=by rw[s3,au (by omega) (by omega)];try omega
  repeat' first
   |refine ai ?_
   |refine hix rfl ?_
   |refine aj (show (3:Int)≠0 by decide) ?_
   |refine Or.inl (Exists.intro _ (aj (la _) ?_))
   |skip;fail
   |refine aj (fun h=>absurd h (by simp[GatePurse.mark,mi,mb,wk])) (fun _=>?_)
   |refine ak ?_
  exact ⟨_,_,_,⟨i+1,rfl,hlt,rfl,rfl⟩,by omega,rfl,rfl,⟨rfl,nd hstep,nd (V hlt hs),trivial⟩,trivial,trivial⟩
 ·have hge:xs.length≤i:=by
   have:=of_decide_eq_false h1
   rw[List.length_map,bv] at this;omega
  exact nd (di hge)
set_option maxHeartbeats 8000000 in
theorem kz (x:GateBook) (k:Int) (h0:0≤k) (hB:k+(0+bF GateObject.lv x.objects+bF GateGrant.lv x.grants+bF GateLedger.lv x.ledgers+bF GatePurse.lv x.purses)≤1099511627776):Spec P 30 [st (GateBook.marks x k).1.e,.d (.int .i64 k)] (.d (.int .i64 (GateBook.marks x k).2)):=by
 refine Spec.of_vc aQ az [.tmp 4] Tryz.func30 rfl rfl rfl rfl (fun hok=>?_)
 have p0:=aO GateObject.lv_nn x.objects
 have p1:=aO GateGrant.lv_nn x.grants
 have p2:=aO GateLedger.lv_nn x.ledgers
 have p3:=aO GatePurse.lv_nn x.purses
 have s0:(aB GateObject.mark x.objects k).2=k+0+bF GateObject.lv x.objects:=by rw[ca (l:=GateObject.lv) GateObject.mark_val GateObject.lv_nn x.objects _ (by omega) (by omega)];try omega
 have s1:(aB GateGrant.mark x.grants (aB GateObject.mark x.objects k).2).2=k+0+bF GateObject.lv x.objects+bF GateGrant.lv x.grants:=by rw[s0,ca (l:=GateGrant.lv) GateGrant.mark_val GateGrant.lv_nn x.grants _ (by omega) (by omega)];try omega
 have s2:(aB GateLedger.mark x.ledgers (aB GateGrant.mark x.grants (aB GateObject.mark x.objects k).2).2).2=k+0+bF GateObject.lv x.objects+bF GateGrant.lv x.grants+bF GateLedger.lv x.ledgers:=by rw[s1,ca (l:=GateLedger.lv) GateLedger.mark_val GateLedger.lv_nn x.ledgers _ (by omega) (by omega)];try omega
 have s3:(aB GatePurse.mark x.purses (aB GateLedger.mark x.ledgers (aB GateGrant.mark x.grants (aB GateObject.mark x.objects k).2).2).2).2=k+0+bF GateObject.lv x.objects+bF GateGrant.lv x.grants+bF GateLedger.lv x.ledgers+bF GatePurse.lv x.purses:=by rw[s2,ca (l:=GatePurse.lv) GatePurse.mark_val GatePurse.lv_nn x.purses _ (by omega) (by omega)];try omega
 repeat' first
  |refine ai ?_
  |refine Or.inl (Exists.intro _ (aj (sn x.objects k (by omega) (by omega)) ?_))
  |refine aj (fun h=>absurd (of_decide_eq_true h) (by rw[s0];omega)) (fun _=>?_)
  |refine Or.inl (Exists.intro _ (aj (tU x.grants (aB GateObject.mark x.objects k).2 (by rw[s0];omega) (by rw[s0];omega)) ?_))
  |refine aj (fun h=>absurd (of_decide_eq_true h) (by rw[s1];omega)) (fun _=>?_)
  |refine Or.inl (Exists.intro _ (aj (so x.ledgers (aB GateGrant.mark x.grants (aB GateObject.mark x.objects k).2).2 (by rw[s1];omega) (by rw[s1];omega)) ?_))
  |refine aj (fun h=>absurd (of_decide_eq_true h) (by rw[s2];omega)) (fun _=>?_)
  |refine Or.inl (Exists.intro _ (aj (tT x.purses (aB GateLedger.mark x.ledgers (aB GateGrant.mark x.grants (aB GateObject.mark x.objects k).2).2).2 (by rw[s2];omega) (by rw[s2];omega)) ?_))
  |refine aj (fun h=>absurd (of_decide_eq_true h) (by rw[s3];omega)) (fun _=>?_)
  |refine ak ?_
 all_goals exact rfl
end Go.Vc
end
section
namespace Go.Vc
open Go.Proofs
theorem aX {a:Int} {k:Int→Int} (h:0≤aN a k):0≤a∧aN a k=k a:=by
 unfold aN at h ⊢
 cases hd:decide (a<0) with
 |true=>rw[hd] at h;simp at h
 |false=>have:=of_decide_eq_false hd;exact ⟨by omega,rfl⟩
theorem be {n:Int} {l:Nat} (h:n≤1048576) (hl:l≤ap) (h0: -1≤n):IntKind.i64.wrap (n - (l:Int))=n - l:=by
 unfold ap at hl
 rw[IntKind.wrap_i64];omega
theorem CY {α:Type} {m:α→Int→Int} {el:α→Int} {ok:α→Prop} (hm:∀x n,ok x→0≤n→n≤1048576→0≤m x n→m x n+el x≤n) (he:∀x,0≤el x):∀(xs:List α) (n:Int),(∀x∈xs,ok x)→0≤n→n≤1048576→0≤hZ m xs n→hZ m xs n+jF el xs≤n+xs.length
 |[],n,_,_,_,_=>by simp[hZ,jF]
 |x::xs,n,hx,h0,hn,h=>by
  simp only[hZ] at h
  obtain ⟨h1,h2⟩:=aX h
  have h3:=hm x n (hx x (List.mem_cons_self ..)) h0 hn h1
  have h4:=he x
  rw[h2] at h
  have:=CY hm he xs (m x n) (fun y hy=>hx y (List.mem_cons_of_mem _ hy)) h1 (by omega) h
  simp only[hZ,jF,List.length_cons]
  rw[h2];omega
theorem jk {α:Type} {e:α→List D} {m:α→Int→Int} {el:α→Int} {ok:α→Prop} (hm:∀x n,ok x→0≤n→n≤1048576→0≤m x n→m x n+el x≤n) (he:∀x,0≤el x) (xs:List α) (n:Int) (hl:xs.length≤ap) (hx:∀x∈xs,ok x) (h0:0≤n) (hn:n≤1048576)
 (h:0≤aN (IntKind.i64.wrap (n - ((xs.map e).length:Int))) fun n=>hZ m xs n):(aN (IntKind.i64.wrap (n - ((xs.map e).length:Int))) fun n=>hZ m xs n)+jF el xs≤n:=by
 obtain ⟨h1,h2⟩:=aX h
 rw[h2] at h ⊢
 rw[List.length_map] at*
 rw[be hn hl (by omega)] at*
 have:=CY hm he xs _ hx h1 (by omega) h
 omega
theorem eE {α:Type} {e:α→List D} {xs:List α} (h:(D.list (xs.map e)).ok):xs.length≤ap∧∀x∈xs,bE (e x):=by
 simp only[D.ok] at h
 refine ⟨by have:=h.1;rwa [List.length_map] at this,fun x hx=>okRows_iff.1 h.2 _ (List.mem_map.2 ⟨x,hx,rfl⟩)⟩
theorem Bt:∀xs:List Int,jF Bu xs=xs.length
 |[]=>rfl
 |x::xs=>by simp only[jF,Bt xs,Bu,List.length_cons];omega
theorem cN:∀{ds:List D},bE ds→∀d∈ds,d.ok
 |[],_,d,hd=>by cases hd
 |x::ds,h,d,hd=>by
  rcases List.mem_cons.1 hd with rfl|hd
  ·exact h.1
  ·exact cN h.2 d hd
theorem yb:∀{ds:List D},(∀d∈ds,d.ok)→bE ds
 |[],_=>trivial
 |x::ds,h=>⟨h x (List.mem_cons_self ..),yb fun d hd=>h d (List.mem_cons_of_mem _ hd)⟩
theorem gZ (xs:List Bs) (n:Int) (hx:(lS xs).ok) (h0:0≤n) (hn:n≤1048576) (h:0≤bc xs n):bc xs n+jF Bu xs≤n:=by
 obtain ⟨hl,hr⟩:=eE hx
 refine jk (ok:=fun s:Bs=>bE (eB s)) (fun s n hs h0 hn h=>?_) iG xs n hl hr h0 hn h
 have hs:s.length≤ap:=by simpa [eB,bE,D.ok] using hs
 rw[be hn hs (by omega)] at*
 simp only[Bu];omega
theorem xE (xs:List Int) (n:Int) (hx:(lI xs).ok) (h0:0≤n) (hn:n≤1048576) (h:0≤dG xs n):dG xs n+jF Bu xs≤n:=by
 obtain ⟨hl,_⟩:=eE hx
 unfold dG at h ⊢
 obtain ⟨h1,h2⟩:=aX h
 rw[h2] at h ⊢
 rw[List.length_map] at*
 rw[be hn hl (by omega)] at*
 rw[Bt];omega
theorem oq (x:GateField) (n:Int) (hx:bE x.e) (h0:0≤n) (hn:n≤1048576) (h:0≤cx x n):cx x n+x.el≤n:=by
 have hx:=cN hx
 unfold cx at h ⊢
 unfold GateField.el
 obtain ⟨a0,e0⟩:=aX h
 rw[e0] at h ⊢
 have l0:x.name.length≤ap:=hx (.str x.name) (by simp[GateField.e])
 have b0:IntKind.i64.wrap (n - (x.name.length:Int))=n - x.name.length:=be (by omega) l0 (by omega)
 obtain ⟨a1,e1⟩:=aX h
 rw[e1] at h ⊢
 have b1:=gZ x.words (IntKind.i64.wrap (n - (x.name.length:Int))) (hx _ (by simp[GateField.e])) (by omega) (by omega) a1
 have q1:=cg iG x.words
 obtain ⟨a2,e2⟩:=aX h
 rw[e2] at h ⊢
 have l2:x.to_.length≤ap:=hx (.str x.to_) (by simp[GateField.e])
 have b2:IntKind.i64.wrap (bc x.words (IntKind.i64.wrap (n - (x.name.length:Int))) - (x.to_.length:Int))=bc x.words (IntKind.i64.wrap (n - (x.name.length:Int))) - x.to_.length:=be (by omega) l2 (by omega)
 obtain ⟨a3,e3⟩:=aX h
 rw[e3] at h ⊢
 have l3:x.default_.length≤ap:=hx (.str x.default_) (by simp[GateField.e])
 have b3:IntKind.i64.wrap (IntKind.i64.wrap (bc x.words (IntKind.i64.wrap (n - (x.name.length:Int))) - (x.to_.length:Int)) - (x.default_.length:Int))=IntKind.i64.wrap (bc x.words (IntKind.i64.wrap (n - (x.name.length:Int))) - (x.to_.length:Int)) - x.default_.length:=be (by omega) l3 (by omega)
 obtain ⟨a4,e4⟩:=aX h
 rw[e4] at h ⊢
 have l4:x.weighs.length≤ap:=hx (.str x.weighs) (by simp[GateField.e])
 have b4:IntKind.i64.wrap (IntKind.i64.wrap (IntKind.i64.wrap (bc x.words (IntKind.i64.wrap (n - (x.name.length:Int))) - (x.to_.length:Int)) - (x.default_.length:Int)) - (x.weighs.length:Int))=IntKind.i64.wrap (IntKind.i64.wrap (bc x.words (IntKind.i64.wrap (n - (x.name.length:Int))) - (x.to_.length:Int)) - (x.default_.length:Int)) - x.weighs.length:=be (by omega) l4 (by omega)
 omega
theorem mR (xs:List GateField) (n:Int) (hx:(ac xs).ok) (h0:0≤n) (hn:n≤1048576) (h:0≤d6 xs n):d6 xs n+jF GateField.el xs≤n:=by
 obtain ⟨hl,hr⟩:=eE hx
 exact jk (ok:=fun x:GateField=>bE x.e) oq GateField.el_nn xs n hl hr h0 hn h
theorem oa (x:GateShape) (n:Int) (hx:bE x.e) (h0:0≤n) (hn:n≤1048576) (h:0≤cu x n):cu x n+x.el≤n:=by
 have hx:=cN hx
 unfold cu at h ⊢
 unfold GateShape.el
 obtain ⟨a0,e0⟩:=aX h
 rw[e0] at h ⊢
 have l0:x.kind.length≤ap:=hx (.str x.kind) (by simp[GateShape.e])
 have b0:IntKind.i64.wrap (n - (x.kind.length:Int))=n - x.kind.length:=be (by omega) l0 (by omega)
 obtain ⟨a1,e1⟩:=aX h
 rw[e1] at h ⊢
 have b1:=mR x.fields (IntKind.i64.wrap (n - (x.kind.length:Int))) (hx _ (by simp[GateShape.e])) (by omega) (by omega) a1
 have q1:=cg GateField.el_nn x.fields
 omega
theorem mM (xs:List GateShape) (n:Int) (hx:(ab xs).ok) (h0:0≤n) (hn:n≤1048576) (h:0≤cB xs n):cB xs n+jF GateShape.el xs≤n:=by
 obtain ⟨hl,hr⟩:=eE hx
 exact jk (ok:=fun x:GateShape=>bE x.e) oa GateShape.el_nn xs n hl hr h0 hn h
theorem pO (x:GateMend) (n:Int) (hx:bE x.e) (h0:0≤n) (hn:n≤1048576) (h:0≤cQ x n):cQ x n+x.el≤n:=by
 have hx:=cN hx
 unfold cQ at h ⊢
 unfold GateMend.el
 obtain ⟨a0,e0⟩:=aX h
 rw[e0] at h ⊢
 have l0:x.kind.length≤ap:=hx (.str x.kind) (by simp[GateMend.e])
 have b0:IntKind.i64.wrap (n - (x.kind.length:Int))=n - x.kind.length:=be (by omega) l0 (by omega)
 obtain ⟨a1,e1⟩:=aX h
 rw[e1] at h ⊢
 have l1:x.field.length≤ap:=hx (.str x.field) (by simp[GateMend.e])
 have b1:IntKind.i64.wrap (IntKind.i64.wrap (n - (x.kind.length:Int)) - (x.field.length:Int))=IntKind.i64.wrap (n - (x.kind.length:Int)) - x.field.length:=be (by omega) l1 (by omega)
 obtain ⟨a2,e2⟩:=aX h
 rw[e2] at h ⊢
 have l2:x.when_.length≤ap:=hx (.str x.when_) (by simp[GateMend.e])
 have b2:IntKind.i64.wrap (IntKind.i64.wrap (IntKind.i64.wrap (n - (x.kind.length:Int)) - (x.field.length:Int)) - (x.when_.length:Int))=IntKind.i64.wrap (IntKind.i64.wrap (n - (x.kind.length:Int)) - (x.field.length:Int)) - x.when_.length:=be (by omega) l2 (by omega)
 obtain ⟨a3,e3⟩:=aX h
 rw[e3] at h ⊢
 have l3:x.is_.length≤ap:=hx (.str x.is_) (by simp[GateMend.e])
 have b3:IntKind.i64.wrap (IntKind.i64.wrap (IntKind.i64.wrap (IntKind.i64.wrap (n - (x.kind.length:Int)) - (x.field.length:Int)) - (x.when_.length:Int)) - (x.is_.length:Int))=IntKind.i64.wrap (IntKind.i64.wrap (IntKind.i64.wrap (n - (x.kind.length:Int)) - (x.field.length:Int)) - (x.when_.length:Int)) - x.is_.length:=be (by omega) l3 (by omega)
 obtain ⟨a4,e4⟩:=aX h
 rw[e4] at h ⊢
 have l4:x.put.length≤ap:=hx (.str x.put) (by simp[GateMend.e])
 have b4:IntKind.i64.wrap (IntKind.i64.wrap (IntKind.i64.wrap (IntKind.i64.wrap (IntKind.i64.wrap (n - (x.kind.length:Int)) - (x.field.length:Int)) - (x.when_.length:Int)) - (x.is_.length:Int)) - (x.put.length:Int))=IntKind.i64.wrap (IntKind.i64.wrap (IntKind.i64.wrap (IntKind.i64.wrap (n - (x.kind.length:Int)) - (x.field.length:Int)) - (x.when_.length:Int)) - (x.is_.length:Int)) - x.put.length:=be (by omega) l4 (by omega)
 obtain ⟨a5,e5⟩:=aX h
 rw[e5] at h ⊢
 have l5:x.from_.length≤ap:=hx (.str x.from_) (by simp[GateMend.e])
 have b5:IntKind.i64.wrap (IntKind.i64.wrap (IntKind.i64.wrap (IntKind.i64.wrap (IntKind.i64.wrap (IntKind.i64.wrap (n - (x.kind.length:Int)) - (x.field.length:Int)) - (x.when_.length:Int)) - (x.is_.length:Int)) - (x.put.length:Int)) - (x.from_.length:Int))=IntKind.i64.wrap (IntKind.i64.wrap (IntKind.i64.wrap (IntKind.i64.wrap (IntKind.i64.wrap (n - (x.kind.length:Int)) - (x.field.length:Int)) - (x.when_.length:Int)) - (x.is_.length:Int)) - (x.put.length:Int)) - x.from_.length:=be (by omega) l5 (by omega)
 omega
theorem og (xs:List GateMend) (n:Int) (hx:(ah xs).ok) (h0:0≤n) (hn:n≤1048576) (h:0≤dJ xs n):dJ xs n+jF GateMend.el xs≤n:=by
 obtain ⟨hl,hr⟩:=eE hx
 exact jk (ok:=fun x:GateMend=>bE x.e) pO GateMend.el_nn xs n hl hr h0 hn h
theorem pM (x:GateTeam) (n:Int) (hx:bE x.e) (h0:0≤n) (hn:n≤1048576) (h:0≤cP x n):cP x n+x.el≤n:=by
 have hx:=cN hx
 unfold cP at h ⊢
 unfold GateTeam.el
 obtain ⟨a0,e0⟩:=aX h
 rw[e0] at h ⊢
 have l0:x.name.length≤ap:=hx (.str x.name) (by simp[GateTeam.e])
 have b0:IntKind.i64.wrap (n - (x.name.length:Int))=n - x.name.length:=be (by omega) l0 (by omega)
 obtain ⟨a1,e1⟩:=aX h
 rw[e1] at h ⊢
 have l1:x.over.length≤ap:=hx (.str x.over) (by simp[GateTeam.e])
 have b1:IntKind.i64.wrap (IntKind.i64.wrap (n - (x.name.length:Int)) - (x.over.length:Int))=IntKind.i64.wrap (n - (x.name.length:Int)) - x.over.length:=be (by omega) l1 (by omega)
 omega
theorem nZ (xs:List GateTeam) (n:Int) (hx:(ao xs).ok) (h0:0≤n) (hn:n≤1048576) (h:0≤eA xs n):eA xs n+jF GateTeam.el xs≤n:=by
 obtain ⟨hl,hr⟩:=eE hx
 exact jk (ok:=fun x:GateTeam=>bE x.e) pM GateTeam.el_nn xs n hl hr h0 hn h
theorem qZ (x:GateLaw) (n:Int) (hx:bE x.e) (h0:0≤n) (hn:n≤1048576) (h:0≤eZ x n):eZ x n+x.el≤n:=by
 have hx:=cN hx
 unfold eZ at h ⊢
 unfold GateLaw.el
 obtain ⟨a0,e0⟩:=aX h
 rw[e0] at h ⊢
 have b0:=mM x.shapes (n) (hx _ (by simp[GateLaw.e])) (by omega) (by omega) a0
 have q0:=cg GateShape.el_nn x.shapes
 obtain ⟨a1,e1⟩:=aX h
 rw[e1] at h ⊢
 have b1:=og x.mends (cB x.shapes (n)) (hx _ (by simp[GateLaw.e])) (by omega) (by omega) a1
 have q1:=cg GateMend.el_nn x.mends
 obtain ⟨a2,e2⟩:=aX h
 rw[e2] at h ⊢
 have b2:=nZ x.teams (dJ x.mends (cB x.shapes (n))) (hx _ (by simp[GateLaw.e])) (by omega) (by omega) a2
 have q2:=cg GateTeam.el_nn x.teams
 omega
theorem mO (x:GateObject) (n:Int) (hx:bE x.e) (h0:0≤n) (hn:n≤1048576) (h:0≤ce x n):ce x n+x.el≤n:=by
 have hx:=cN hx
 unfold ce at h ⊢
 unfold GateObject.el
 obtain ⟨a0,e0⟩:=aX h
 rw[e0] at h ⊢
 have l0:x.kind.length≤ap:=hx (.str x.kind) (by simp[GateObject.e])
 have b0:IntKind.i64.wrap (n - (x.kind.length:Int))=n - x.kind.length:=be (by omega) l0 (by omega)
 obtain ⟨a1,e1⟩:=aX h
 rw[e1] at h ⊢
 have l1:x.name.length≤ap:=hx (.str x.name) (by simp[GateObject.e])
 have b1:IntKind.i64.wrap (IntKind.i64.wrap (n - (x.kind.length:Int)) - (x.name.length:Int))=IntKind.i64.wrap (n - (x.kind.length:Int)) - x.name.length:=be (by omega) l1 (by omega)
 obtain ⟨a2,e2⟩:=aX h
 rw[e2] at h ⊢
 have l2:x.team.length≤ap:=hx (.str x.team) (by simp[GateObject.e])
 have b2:IntKind.i64.wrap (IntKind.i64.wrap (IntKind.i64.wrap (n - (x.kind.length:Int)) - (x.name.length:Int)) - (x.team.length:Int))=IntKind.i64.wrap (IntKind.i64.wrap (n - (x.kind.length:Int)) - (x.name.length:Int)) - x.team.length:=be (by omega) l2 (by omega)
 obtain ⟨a3,e3⟩:=aX h
 rw[e3] at h ⊢
 have b3:=gZ x.values (IntKind.i64.wrap (IntKind.i64.wrap (IntKind.i64.wrap (n - (x.kind.length:Int)) - (x.name.length:Int)) - (x.team.length:Int))) (hx _ (by simp[GateObject.e])) (by omega) (by omega) a3
 have q3:=cg iG x.values
 obtain ⟨a4,e4⟩:=aX h
 rw[e4] at h ⊢
 have b4:=gZ x.holds (bc x.values (IntKind.i64.wrap (IntKind.i64.wrap (IntKind.i64.wrap (n - (x.kind.length:Int)) - (x.name.length:Int)) - (x.team.length:Int)))) (hx _ (by simp[GateObject.e])) (by omega) (by omega) a4
 have q4:=cg iG x.holds
 omega
theorem lP (xs:List GateObject) (n:Int) (hx:(aD xs).ok) (h0:0≤n) (hn:n≤1048576) (h:0≤bN xs n):bN xs n+jF GateObject.el xs≤n:=by
 obtain ⟨hl,hr⟩:=eE hx
 exact jk (ok:=fun x:GateObject=>bE x.e) mO GateObject.el_nn xs n hl hr h0 hn h
theorem pN (x:GateRule) (n:Int) (hx:bE x.e) (h0:0≤n) (hn:n≤1048576) (h:0≤eg x n):eg x n+x.el≤n:=by
 have hx:=cN hx
 unfold eg at h ⊢
 unfold GateRule.el
 obtain ⟨a0,e0⟩:=aX h
 rw[e0] at h ⊢
 have b0:=xE x.verbs (n) (hx _ (by simp[GateRule.e])) (by omega) (by omega) a0
 have q0:=cg iG x.verbs
 obtain ⟨a1,e1⟩:=aX h
 rw[e1] at h ⊢
 have l1:x.kind.length≤ap:=hx (.str x.kind) (by simp[GateRule.e])
 have b1:IntKind.i64.wrap (dG x.verbs (n) - (x.kind.length:Int))=dG x.verbs (n) - x.kind.length:=be (by omega) l1 (by omega)
 obtain ⟨a2,e2⟩:=aX h
 rw[e2] at h ⊢
 have l2:x.team.length≤ap:=hx (.str x.team) (by simp[GateRule.e])
 have b2:IntKind.i64.wrap (IntKind.i64.wrap (dG x.verbs (n) - (x.kind.length:Int)) - (x.team.length:Int))=IntKind.i64.wrap (dG x.verbs (n) - (x.kind.length:Int)) - x.team.length:=be (by omega) l2 (by omega)
 obtain ⟨a3,e3⟩:=aX h
 rw[e3] at h ⊢
 have l3:x.prefix_.length≤ap:=hx (.str x.prefix_) (by simp[GateRule.e])
 have b3:IntKind.i64.wrap (IntKind.i64.wrap (IntKind.i64.wrap (dG x.verbs (n) - (x.kind.length:Int)) - (x.team.length:Int)) - (x.prefix_.length:Int))=IntKind.i64.wrap (IntKind.i64.wrap (dG x.verbs (n) - (x.kind.length:Int)) - (x.team.length:Int)) - x.prefix_.length:=be (by omega) l3 (by omega)
 omega
theorem oo (x:GateGrant) (n:Int) (hx:bE x.e) (h0:0≤n) (hn:n≤1048576) (h:0≤cw x n):cw x n+x.el≤n:=by
 have hx:=cN hx
 unfold cw at h ⊢
 unfold GateGrant.el
 obtain ⟨a0,e0⟩:=aX h
 rw[e0] at h ⊢
 have l0:x.to_.length≤ap:=hx (.str x.to_) (by simp[GateGrant.e])
 have b0:IntKind.i64.wrap (n - (x.to_.length:Int))=n - x.to_.length:=be (by omega) l0 (by omega)
 obtain ⟨a1,e1⟩:=aX h
 rw[e1] at h ⊢
 have l1:x.by_.length≤ap:=hx (.str x.by_) (by simp[GateGrant.e])
 have b1:IntKind.i64.wrap (IntKind.i64.wrap (n - (x.to_.length:Int)) - (x.by_.length:Int))=IntKind.i64.wrap (n - (x.to_.length:Int)) - x.by_.length:=be (by omega) l1 (by omega)
 obtain ⟨a2,e2⟩:=aX h
 rw[e2] at h ⊢
 have b2:=pN x.rule (IntKind.i64.wrap (IntKind.i64.wrap (n - (x.to_.length:Int)) - (x.by_.length:Int))) (yb fun d hd=>hx d (by simp[GateGrant.e,GateRule.e] at hd ⊢;simp[hd])) (by omega) (by omega) a2
 have q2:=GateRule.el_nn x.rule
 unfold GateRule.el at b2 q2
 omega
theorem mQ (xs:List GateGrant) (n:Int) (hx:(aU xs).ok) (h0:0≤n) (hn:n≤1048576) (h:0≤cC xs n):cC xs n+jF GateGrant.el xs≤n:=by
 obtain ⟨hl,hr⟩:=eE hx
 exact jk (ok:=fun x:GateGrant=>bE x.e) oo GateGrant.el_nn xs n hl hr h0 hn h
theorem mP (x:GateLedger) (n:Int) (hx:bE x.e) (h0:0≤n) (hn:n≤1048576) (h:0≤cf x n):cf x n+x.el≤n:=by
 have hx:=cN hx
 unfold cf at h ⊢
 unfold GateLedger.el
 obtain ⟨a0,e0⟩:=aX h
 rw[e0] at h ⊢
 have l0:x.team.length≤ap:=hx (.str x.team) (by simp[GateLedger.e])
 have b0:IntKind.i64.wrap (n - (x.team.length:Int))=n - x.team.length:=be (by omega) l0 (by omega)
 obtain ⟨a1,e1⟩:=aX h
 rw[e1] at h ⊢
 have l1:x.resource.length≤ap:=hx (.str x.resource) (by simp[GateLedger.e])
 have b1:IntKind.i64.wrap (IntKind.i64.wrap (n - (x.team.length:Int)) - (x.resource.length:Int))=IntKind.i64.wrap (n - (x.team.length:Int)) - x.resource.length:=be (by omega) l1 (by omega)
 omega
theorem lQ (xs:List GateLedger) (n:Int) (hx:(aK xs).ok) (h0:0≤n) (hn:n≤1048576) (h:0≤cM xs n):cM xs n+jF GateLedger.el xs≤n:=by
 obtain ⟨hl,hr⟩:=eE hx
 exact jk (ok:=fun x:GateLedger=>bE x.e) mP GateLedger.el_nn xs n hl hr h0 hn h
theorem od (x:GatePurse) (n:Int) (hx:bE x.e) (h0:0≤n) (hn:n≤1048576) (h:0≤cv x n):cv x n+x.el≤n:=by
 have hx:=cN hx
 unfold cv at h ⊢
 unfold GatePurse.el
 obtain ⟨a0,e0⟩:=aX h
 rw[e0] at h ⊢
 have l0:x.door.length≤ap:=hx (.str x.door) (by simp[GatePurse.e])
 have b0:IntKind.i64.wrap (n - (x.door.length:Int))=n - x.door.length:=be (by omega) l0 (by omega)
 obtain ⟨a1,e1⟩:=aX h
 rw[e1] at h ⊢
 have l1:x.team.length≤ap:=hx (.str x.team) (by simp[GatePurse.e])
 have b1:IntKind.i64.wrap (IntKind.i64.wrap (n - (x.door.length:Int)) - (x.team.length:Int))=IntKind.i64.wrap (n - (x.door.length:Int)) - x.team.length:=be (by omega) l1 (by omega)
 obtain ⟨a2,e2⟩:=aX h
 rw[e2] at h ⊢
 have l2:x.resource.length≤ap:=hx (.str x.resource) (by simp[GatePurse.e])
 have b2:IntKind.i64.wrap (IntKind.i64.wrap (IntKind.i64.wrap (n - (x.door.length:Int)) - (x.team.length:Int)) - (x.resource.length:Int))=IntKind.i64.wrap (IntKind.i64.wrap (n - (x.door.length:Int)) - (x.team.length:Int)) - x.resource.length:=be (by omega) l2 (by omega)
 omega
theorem mN (xs:List GatePurse) (n:Int) (hx:(aG xs).ok) (h0:0≤n) (hn:n≤1048576) (h:0≤dZ xs n):dZ xs n+jF GatePurse.el xs≤n:=by
 obtain ⟨hl,hr⟩:=eE hx
 exact jk (ok:=fun x:GatePurse=>bE x.e) od GatePurse.el_nn xs n hl hr h0 hn h
theorem pP (x:GateBook) (n:Int) (hx:bE x.e) (h0:0≤n) (hn:n≤1048576) (h:0≤fi x n):fi x n+x.el≤n:=by
 have hx:=cN hx
 unfold fi at h ⊢
 unfold GateBook.el
 obtain ⟨a0,e0⟩:=aX h
 rw[e0] at h ⊢
 have b0:=lP x.objects (n) (hx _ (by simp[GateBook.e])) (by omega) (by omega) a0
 have q0:=cg GateObject.el_nn x.objects
 obtain ⟨a1,e1⟩:=aX h
 rw[e1] at h ⊢
 have b1:=mQ x.grants (bN x.objects (n)) (hx _ (by simp[GateBook.e])) (by omega) (by omega) a1
 have q1:=cg GateGrant.el_nn x.grants
 obtain ⟨a2,e2⟩:=aX h
 rw[e2] at h ⊢
 have b2:=lQ x.ledgers (cC x.grants (bN x.objects (n))) (hx _ (by simp[GateBook.e])) (by omega) (by omega) a2
 have q2:=cg GateLedger.el_nn x.ledgers
 obtain ⟨a3,e3⟩:=aX h
 rw[e3] at h ⊢
 have b3:=mN x.purses (cM x.ledgers (cC x.grants (bN x.objects (n)))) (hx _ (by simp[GateBook.e])) (by omega) (by omega) a3
 have q3:=cg GatePurse.el_nn x.purses
 omega
end Go.Vc
end
section
namespace Go.Vc
open Go.Proofs
theorem GateLaw.marks_le (x:GateLaw) (k:Int) (h0:0≤k) (hB:k+x.lv≤1099511627776):k≤(GateLaw.marks x k).2∧(GateLaw.marks x k).2≤k+x.lv:=by
 have p0:=aO GateShape.lv_nn x.shapes
 have p1:=aO GateMend.lv_nn x.mends
 have p2:=aO GateTeam.lv_nn x.teams
 unfold GateLaw.lv at*
 have:=GateLaw.marks_val x k h0 (by omega)
 omega
theorem GateBook.marks_le (x:GateBook) (k:Int) (h0:0≤k) (hB:k+x.lv≤1099511627776):k≤(GateBook.marks x k).2∧(GateBook.marks x k).2≤k+x.lv:=by
 have p0:=aO GateObject.lv_nn x.objects
 have p1:=aO GateGrant.lv_nn x.grants
 have p2:=aO GateLedger.lv_nn x.ledgers
 have p3:=aO GatePurse.lv_nn x.purses
 unfold GateBook.lv at*
 have:=GateBook.marks_val x k h0 (by omega)
 omega
end Go.Vc
end
section
namespace Go.Vc
theorem Fg {ds:List D} (h:AV.ok (st ds)):bE ds:=by
 unfold st at h
 simp only[AV.ok] at h
 induction ds with
 |nil=>exact trivial
 |cons d ds ih=>exact ⟨h.1,ih h.2⟩
end Go.Vc
end
section
namespace Go.Vc
theorem o3 {α:Type} {f:α→Int} (h:∀x,f x=0):∀xs:List α,jF f xs=xs.length
 |[]=>rfl
 |x::xs=>by simp only[jF,h x,o3 h xs,List.length_cons];omega
theorem GS (b:GateBook):b.el=jF GateObject.el b.objects+jF GateGrant.el b.grants+b.ledgers.length+b.purses.length:=by
 unfold GateBook.el
 rw[o3 (f:=GateLedger.el) (fun _=>rfl),o3 (f:=GatePurse.el) (fun _=>rfl)]
 omega
theorem DA (b:GateBook):nilBk.el≤b.el:=by
 have:=b.el_nn
 exact this
end Go.Vc
end
section
namespace Go.Vc
open Go.Proofs
set_option maxRecDepth 100000
section
variable {A:Type} {σ:Env} {h:Heap} {c:AE} {Q:Exit→Env→Heap→Prop}
def D1 (J:Nat→A→Prop) (f:Nat→A→List (Nat×AV)) (g:Nat→A→Heap) (m:Nat) (l:List (Nat×AV)) (h:Heap):Prop:=∃a,J m a∧l=f m a∧h=g m a
end
def pm (m:Nat):Int:=(m:Int) - 1
theorem GN (m:Nat):pm (m+1)=(m:Int):=by unfold pm;omega
def Fe:Nat→GateBook→GateBook
 |0,b=>b
 |m+1,b=>Fe m (bif (match b.purses[m]? with|some p=>decide (p.until_<b.tick)|none=>false) then Fj b m else b)
def Hb (L:GateLaw) (b:GateBook):GateBook×Int:=bif dE L b then (bif b.tick==1000000 then (b,2) else (Fe b.purses.length {b with tick:=bk b.tick 1},0)) else (nilBk,1)
end Go.Vc
end
