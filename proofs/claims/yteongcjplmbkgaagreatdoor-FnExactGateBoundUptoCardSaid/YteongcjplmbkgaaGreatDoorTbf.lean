/- Part 6 of a proof: Contracts of the functions that the laws bring with them, printed by genlaws.py. Helpers of the contracts' proofs: trees. Pure data of the laws as trees of the call's own, printed by genlaws.py. Contracts of the laws' own functions that make trees, printed by genlaws.py. Purses and ledgers, as pure data; helpers for trees that are read and written in place. Contracts: copies of books, as trees of the call's own. Contracts: a purse goes back, by the implementation. Contracts: copies of books, and a purse that goes back, by the specification. Contracts: a purse that goes back; GateBack. The text -/
import Derived.Test.YteongcjplmbkgaaGreatDoorTba
import Derived.Test.YteongcjplmbkgaaGreatDoorTbb
import Derived.Test.YteongcjplmbkgaaGreatDoorTbc
import Derived.Test.YteongcjplmbkgaaGreatDoorTbd
import Derived.Test.YteongcjplmbkgaaGreatDoorTbe
set_option linter.unusedVariables false
set_option linter.unusedSimpArgs false
section
namespace Go.Vc
open Go.Proofs
set_option maxRecDepth 100000
def bb (xs:List Bs) (n:Int):Int:=aM (IntKind.i64.wrap (n - ((xs.map eB).length:Int))) fun n=>ik (fun (s:Bs) n=>IntKind.i64.wrap (n - (s.length:Int))) xs n
theorem xP (xs:List Bs) (n:Int):Spec P 168 [.d (lS xs),.d (.int .i64 n)] (.d (.int .i64 (aM (IntKind.i64.wrap (n - ((xs.map eB).length:Int))) fun n=>ik (fun (s:Bs) n=>IntKind.i64.wrap (n - (s.length:Int))) xs n))):=by
 refine Spec.of_vc aP av [.tmp 4] Tryz.func168 rfl rfl rfl rfl (fun hok=>?_)
 have hs:xs.length≤al:=by have:=hok.1.1;rwa [List.length_map] at this
 refine aj (fun h=>nd (by simp only[aM,h,cond_true,cond_false])) (fun h=>?_)
 simp only[aM,h,cond_true,cond_false]
 refine ⟨fun k l h=>∃(i:Nat) (v:Int),k=xs.length - i∧i≤xs.length∧ik (fun (s:Bs) n=>IntKind.i64.wrap (n - (s.length:Int))) xs (IntKind.i64.wrap (n - ((xs.map eB).length:Int)))=ik (fun (s:Bs) n=>IntKind.i64.wrap (n - (s.length:Int))) (xs.drop i) v∧l=[(0,.d (lS xs)),(1,.d (.int .i64 v)),(5,.d (.int .i64 i))]∧h=hp0,
  ⟨_,_,_,⟨0,_,rfl,Nat.zero_le _,rfl,rfl,rfl⟩,rfl,rfl,⟨rfl,rfl,rfl,trivial⟩,trivial,trivial⟩,?_⟩
 rintro k l h1 ⟨i,v,rfl,hi,hr,rfl,rfl⟩
 refine aj ?_ ?_<;>intro h1
 ·have hlt:i<xs.length:=Y h1
  repeat refine ai ?_
  refine U (e:=eB) (xs:=xs) (hlt) rfl ?_
  repeat refine ai ?_
  refine aj ?_ ?_<;>intro h2
  ·refine nd ?_
   rw[hr,bX hlt]
   simp only[aM,h2,cond_true]
  ·refine ⟨_,_,_,⟨i+1,_,rfl,hlt,?_,rfl,rfl⟩,by omega,rfl,rfl,⟨rfl,rfl,nd (V hlt hs),trivial⟩,trivial,trivial⟩
   rw[hr,bX hlt]
   simp only[aM,h2,cond_false]
 ·refine nd ?_
  rw[hr,List.drop_of_length_le (Z h1)];rfl
theorem kr (xs:List Bs) (n:Int):Spec P 168 [.d (lS xs),.d (.int .i64 n)] (.d (.int .i64 (bb xs n))):=xP xs n
def dS (x:List Int) (n:Int):Int:=aM (IntKind.i64.wrap (n - ((x.map eN).length:Int))) fun n=>n
theorem C5 (x:List Int) (n:Int):Spec P 200 [.d (lI x),.d (.int .i64 n)] (.d (.int .i64 (aM (IntKind.i64.wrap (n - ((x.map eN).length:Int))) fun n=>n))):=by
 refine Spec.of_vc aP av [.tmp 4] Tryz.func200 rfl rfl rfl rfl (fun hok=>?_)
 refine aj (fun h=>nd (by simp only[aM,h,cond_true,cond_false])) (fun h=>nd (by simp only[aM,h,cond_true,cond_false]))
theorem C4 (x:List Int) (n:Int):Spec P 200 [.d (lI x),.d (.int .i64 n)] (.d (.int .i64 (dS x n))):=C5 x n
def cE (x:GateField) (n:Int):Int:=aM (IntKind.i64.wrap (n - (x.name.length:Int))) fun n=>aM (bb x.words n) fun n=>aM (IntKind.i64.wrap (n - (x.to_.length:Int))) fun n=>aM (IntKind.i64.wrap (n - (x.default_.length:Int))) fun n=>aM (IntKind.i64.wrap (n - (x.weighs.length:Int))) fun n=>n
theorem tP (x:GateField) (n:Int):Spec P 199 [st x.e,.d (.int .i64 n)] (.d (.int .i64 (aM (IntKind.i64.wrap (n - (x.name.length:Int))) fun n=>aM (bb x.words n) fun n=>aM (IntKind.i64.wrap (n - (x.to_.length:Int))) fun n=>aM (IntKind.i64.wrap (n - (x.default_.length:Int))) fun n=>aM (IntKind.i64.wrap (n - (x.weighs.length:Int))) fun n=>n))):=by
 refine Spec.of_vc aP av [.tmp 4] Tryz.func199 rfl rfl rfl rfl (fun hok=>?_)
 refine aj (fun h=>nd (by simp only[aM,h, *,cond_true,cond_false])) (fun h0=>?_)
 repeat refine ai ?_
 refine oc (kr _ _) ?_
 refine aj (fun h=>nd (by simp only[aM,h, *,cond_true,cond_false])) (fun h1=>?_)
 refine aj (fun h=>nd (by simp only[aM,h, *,cond_true,cond_false])) (fun h2=>?_)
 refine aj (fun h=>nd (by simp only[aM,h, *,cond_true,cond_false])) (fun h3=>?_)
 refine aj (fun h=>nd (by simp only[aM,h, *,cond_true,cond_false])) (fun h4=>?_)
 exact nd (by simp only[aM, *,cond_true,cond_false])
theorem tI (x:GateField) (n:Int):Spec P 199 [st x.e,.d (.int .i64 n)] (.d (.int .i64 (cE x n))):=tP x n
def er (xs:List GateField) (n:Int):Int:=aM (IntKind.i64.wrap (n - ((xs.map GateField.e).length:Int))) fun n=>ik cE xs n
theorem ru (xs:List GateField) (n:Int):Spec P 167 [.d (ab xs),.d (.int .i64 n)] (.d (.int .i64 (aM (IntKind.i64.wrap (n - ((xs.map GateField.e).length:Int))) fun n=>ik cE xs n))):=by
 refine Spec.of_vc aP av [.tmp 4] Tryz.func167 rfl rfl rfl rfl (fun hok=>?_)
 have hs:xs.length≤al:=by have:=hok.1.1;rwa [List.length_map] at this
 refine aj (fun h=>nd (by simp only[aM,h,cond_true,cond_false])) (fun h=>?_)
 simp only[aM,h,cond_true,cond_false]
 refine ⟨fun k l h=>∃(i:Nat) (v:Int),k=xs.length - i∧i≤xs.length∧ik cE xs (IntKind.i64.wrap (n - ((xs.map GateField.e).length:Int)))=ik cE (xs.drop i) v∧l=[(0,.d (ab xs)),(1,.d (.int .i64 v)),(5,.d (.int .i64 i))]∧h=hp0,
  ⟨_,_,_,⟨0,_,rfl,Nat.zero_le _,rfl,rfl,rfl⟩,rfl,rfl,⟨rfl,rfl,rfl,trivial⟩,trivial,trivial⟩,?_⟩
 rintro k l h1 ⟨i,v,rfl,hi,hr,rfl,rfl⟩
 refine aj ?_ ?_<;>intro h1
 ·have hlt:i<xs.length:=Y h1
  repeat refine ai ?_
  refine U (e:=GateField.e) (xs:=xs) (hlt) rfl ?_
  repeat refine ai ?_
  refine oc (tI _ _) ?_
  refine aj ?_ ?_<;>intro h2
  ·refine nd ?_
   rw[hr,bX hlt]
   simp only[aM,h2,cond_true]
  ·refine ⟨_,_,_,⟨i+1,_,rfl,hlt,?_,rfl,rfl⟩,by omega,rfl,rfl,⟨rfl,rfl,nd (V hlt hs),trivial⟩,trivial,trivial⟩
   rw[hr,bX hlt]
   simp only[aM,h2,cond_false]
 ·refine nd ?_
  rw[hr,List.drop_of_length_le (Z h1)];rfl
theorem ri (xs:List GateField) (n:Int):Spec P 167 [.d (ab xs),.d (.int .i64 n)] (.d (.int .i64 (er xs n))):=ru xs n
def cA (x:GateShape) (n:Int):Int:=aM (IntKind.i64.wrap (n - (x.kind.length:Int))) fun n=>aM (er x.fields n) fun n=>n
theorem tK (x:GateShape) (n:Int):Spec P 107 [st x.e,.d (.int .i64 n)] (.d (.int .i64 (aM (IntKind.i64.wrap (n - (x.kind.length:Int))) fun n=>aM (er x.fields n) fun n=>n))):=by
 refine Spec.of_vc aP av [.tmp 4] Tryz.func107 rfl rfl rfl rfl (fun hok=>?_)
 refine aj (fun h=>nd (by simp only[aM,h, *,cond_true,cond_false])) (fun h0=>?_)
 repeat refine ai ?_
 refine oc (ri _ _) ?_
 refine aj (fun h=>nd (by simp only[aM,h, *,cond_true,cond_false])) (fun h1=>?_)
 exact nd (by simp only[aM, *,cond_true,cond_false])
theorem tE (x:GateShape) (n:Int):Spec P 107 [st x.e,.d (.int .i64 n)] (.d (.int .i64 (cA x n))):=tK x n
def cH (xs:List GateShape) (n:Int):Int:=aM (IntKind.i64.wrap (n - ((xs.map GateShape.e).length:Int))) fun n=>ik cA xs n
theorem rj (xs:List GateShape) (n:Int):Spec P 39 [.d (aa xs),.d (.int .i64 n)] (.d (.int .i64 (aM (IntKind.i64.wrap (n - ((xs.map GateShape.e).length:Int))) fun n=>ik cA xs n))):=by
 refine Spec.of_vc aP av [.tmp 4] Tryz.func39 rfl rfl rfl rfl (fun hok=>?_)
 have hs:xs.length≤al:=by have:=hok.1.1;rwa [List.length_map] at this
 refine aj (fun h=>nd (by simp only[aM,h,cond_true,cond_false])) (fun h=>?_)
 simp only[aM,h,cond_true,cond_false]
 refine ⟨fun k l h=>∃(i:Nat) (v:Int),k=xs.length - i∧i≤xs.length∧ik cA xs (IntKind.i64.wrap (n - ((xs.map GateShape.e).length:Int)))=ik cA (xs.drop i) v∧l=[(0,.d (aa xs)),(1,.d (.int .i64 v)),(5,.d (.int .i64 i))]∧h=hp0,
  ⟨_,_,_,⟨0,_,rfl,Nat.zero_le _,rfl,rfl,rfl⟩,rfl,rfl,⟨rfl,rfl,rfl,trivial⟩,trivial,trivial⟩,?_⟩
 rintro k l h1 ⟨i,v,rfl,hi,hr,rfl,rfl⟩
 refine aj ?_ ?_<;>intro h1
 ·have hlt:i<xs.length:=Y h1
  repeat refine ai ?_
  refine U (e:=GateShape.e) (xs:=xs) (hlt) rfl ?_
  repeat refine ai ?_
  refine oc (tE _ _) ?_
  refine aj ?_ ?_<;>intro h2
  ·refine nd ?_
   rw[hr,bX hlt]
   simp only[aM,h2,cond_true]
  ·refine ⟨_,_,_,⟨i+1,_,rfl,hlt,?_,rfl,rfl⟩,by omega,rfl,rfl,⟨rfl,rfl,nd (V hlt hs),trivial⟩,trivial,trivial⟩
   rw[hr,bX hlt]
   simp only[aM,h2,cond_false]
 ·refine nd ?_
  rw[hr,List.drop_of_length_le (Z h1)];rfl
theorem rc (xs:List GateShape) (n:Int):Spec P 39 [.d (aa xs),.d (.int .i64 n)] (.d (.int .i64 (cH xs n))):=rj xs n
def cY (x:GateMend) (n:Int):Int:=aM (IntKind.i64.wrap (n - (x.kind.length:Int))) fun n=>aM (IntKind.i64.wrap (n - (x.field.length:Int))) fun n=>aM (IntKind.i64.wrap (n - (x.when_.length:Int))) fun n=>aM (IntKind.i64.wrap (n - (x.is_.length:Int))) fun n=>aM (IntKind.i64.wrap (n - (x.put.length:Int))) fun n=>aM (IntKind.i64.wrap (n - (x.from_.length:Int))) fun n=>n
theorem wi (x:GateMend) (n:Int):Spec P 108 [st x.e,.d (.int .i64 n)] (.d (.int .i64 (aM (IntKind.i64.wrap (n - (x.kind.length:Int))) fun n=>aM (IntKind.i64.wrap (n - (x.field.length:Int))) fun n=>aM (IntKind.i64.wrap (n - (x.when_.length:Int))) fun n=>aM (IntKind.i64.wrap (n - (x.is_.length:Int))) fun n=>aM (IntKind.i64.wrap (n - (x.put.length:Int))) fun n=>aM (IntKind.i64.wrap (n - (x.from_.length:Int))) fun n=>n))):=by
 refine Spec.of_vc aP av [.tmp 4] Tryz.func108 rfl rfl rfl rfl (fun hok=>?_)
 refine aj (fun h=>nd (by simp only[aM,h, *,cond_true,cond_false])) (fun h0=>?_)
 refine aj (fun h=>nd (by simp only[aM,h, *,cond_true,cond_false])) (fun h1=>?_)
 refine aj (fun h=>nd (by simp only[aM,h, *,cond_true,cond_false])) (fun h2=>?_)
 refine aj (fun h=>nd (by simp only[aM,h, *,cond_true,cond_false])) (fun h3=>?_)
 refine aj (fun h=>nd (by simp only[aM,h, *,cond_true,cond_false])) (fun h4=>?_)
 refine aj (fun h=>nd (by simp only[aM,h, *,cond_true,cond_false])) (fun h5=>?_)
 exact nd (by simp only[aM, *,cond_true,cond_false])
theorem wf (x:GateMend) (n:Int):Spec P 108 [st x.e,.d (.int .i64 n)] (.d (.int .i64 (cY x n))):=wi x n
def dX (xs:List GateMend) (n:Int):Int:=aM (IntKind.i64.wrap (n - ((xs.map GateMend.e).length:Int))) fun n=>ik cY xs n
theorem tM (xs:List GateMend) (n:Int):Spec P 40 [.d (ag xs),.d (.int .i64 n)] (.d (.int .i64 (aM (IntKind.i64.wrap (n - ((xs.map GateMend.e).length:Int))) fun n=>ik cY xs n))):=by
 refine Spec.of_vc aP av [.tmp 4] Tryz.func40 rfl rfl rfl rfl (fun hok=>?_)
 have hs:xs.length≤al:=by have:=hok.1.1;rwa [List.length_map] at this
 refine aj (fun h=>nd (by simp only[aM,h,cond_true,cond_false])) (fun h=>?_)
 simp only[aM,h,cond_true,cond_false]
 refine ⟨fun k l h=>∃(i:Nat) (v:Int),k=xs.length - i∧i≤xs.length∧ik cY xs (IntKind.i64.wrap (n - ((xs.map GateMend.e).length:Int)))=ik cY (xs.drop i) v∧l=[(0,.d (ag xs)),(1,.d (.int .i64 v)),(5,.d (.int .i64 i))]∧h=hp0,
  ⟨_,_,_,⟨0,_,rfl,Nat.zero_le _,rfl,rfl,rfl⟩,rfl,rfl,⟨rfl,rfl,rfl,trivial⟩,trivial,trivial⟩,?_⟩
 rintro k l h1 ⟨i,v,rfl,hi,hr,rfl,rfl⟩
 refine aj ?_ ?_<;>intro h1
 ·have hlt:i<xs.length:=Y h1
  repeat refine ai ?_
  refine U (e:=GateMend.e) (xs:=xs) (hlt) rfl ?_
  repeat refine ai ?_
  refine oc (wf _ _) ?_
  refine aj ?_ ?_<;>intro h2
  ·refine nd ?_
   rw[hr,bX hlt]
   simp only[aM,h2,cond_true]
  ·refine ⟨_,_,_,⟨i+1,_,rfl,hlt,?_,rfl,rfl⟩,by omega,rfl,rfl,⟨rfl,rfl,nd (V hlt hs),trivial⟩,trivial,trivial⟩
   rw[hr,bX hlt]
   simp only[aM,h2,cond_false]
 ·refine nd ?_
  rw[hr,List.drop_of_length_le (Z h1)];rfl
theorem tG (xs:List GateMend) (n:Int):Spec P 40 [.d (ag xs),.d (.int .i64 n)] (.d (.int .i64 (dX xs n))):=tM xs n
def cX (x:GateTeam) (n:Int):Int:=aM (IntKind.i64.wrap (n - (x.name.length:Int))) fun n=>aM (IntKind.i64.wrap (n - (x.over.length:Int))) fun n=>n
theorem wg (x:GateTeam) (n:Int):Spec P 109 [st x.e,.d (.int .i64 n)] (.d (.int .i64 (aM (IntKind.i64.wrap (n - (x.name.length:Int))) fun n=>aM (IntKind.i64.wrap (n - (x.over.length:Int))) fun n=>n))):=by
 refine Spec.of_vc aP av [.tmp 4] Tryz.func109 rfl rfl rfl rfl (fun hok=>?_)
 refine aj (fun h=>nd (by simp only[aM,h, *,cond_true,cond_false])) (fun h0=>?_)
 refine aj (fun h=>nd (by simp only[aM,h, *,cond_true,cond_false])) (fun h1=>?_)
 exact nd (by simp only[aM, *,cond_true,cond_false])
theorem wd (x:GateTeam) (n:Int):Spec P 109 [st x.e,.d (.int .i64 n)] (.d (.int .i64 (cX x n))):=wg x n
def eP (xs:List GateTeam) (n:Int):Int:=aM (IntKind.i64.wrap (n - ((xs.map GateTeam.e).length:Int))) fun n=>ik cX xs n
theorem tJ (xs:List GateTeam) (n:Int):Spec P 41 [.d (ao xs),.d (.int .i64 n)] (.d (.int .i64 (aM (IntKind.i64.wrap (n - ((xs.map GateTeam.e).length:Int))) fun n=>ik cX xs n))):=by
 refine Spec.of_vc aP av [.tmp 4] Tryz.func41 rfl rfl rfl rfl (fun hok=>?_)
 have hs:xs.length≤al:=by have:=hok.1.1;rwa [List.length_map] at this
 refine aj (fun h=>nd (by simp only[aM,h,cond_true,cond_false])) (fun h=>?_)
 simp only[aM,h,cond_true,cond_false]
 refine ⟨fun k l h=>∃(i:Nat) (v:Int),k=xs.length - i∧i≤xs.length∧ik cX xs (IntKind.i64.wrap (n - ((xs.map GateTeam.e).length:Int)))=ik cX (xs.drop i) v∧l=[(0,.d (ao xs)),(1,.d (.int .i64 v)),(5,.d (.int .i64 i))]∧h=hp0,
  ⟨_,_,_,⟨0,_,rfl,Nat.zero_le _,rfl,rfl,rfl⟩,rfl,rfl,⟨rfl,rfl,rfl,trivial⟩,trivial,trivial⟩,?_⟩
 rintro k l h1 ⟨i,v,rfl,hi,hr,rfl,rfl⟩
 refine aj ?_ ?_<;>intro h1
 ·have hlt:i<xs.length:=Y h1
  repeat refine ai ?_
  refine U (e:=GateTeam.e) (xs:=xs) (hlt) rfl ?_
  repeat refine ai ?_
  refine oc (wd _ _) ?_
  refine aj ?_ ?_<;>intro h2
  ·refine nd ?_
   rw[hr,bX hlt]
   simp only[aM,h2,cond_true]
  ·refine ⟨_,_,_,⟨i+1,_,rfl,hlt,?_,rfl,rfl⟩,by omega,rfl,rfl,⟨rfl,rfl,nd (V hlt hs),trivial⟩,trivial,trivial⟩
   rw[hr,bX hlt]
   simp only[aM,h2,cond_false]
 ·refine nd ?_
  rw[hr,List.drop_of_length_le (Z h1)];rfl
theorem tD (xs:List GateTeam) (n:Int):Spec P 41 [.d (ao xs),.d (.int .i64 n)] (.d (.int .i64 (eP xs n))):=tJ xs n
def cC (x:GateLaw) (n:Int):Int:=aM (cH x.shapes n) fun n=>aM (dX x.mends n) fun n=>aM (eP x.teams n) fun n=>n
theorem xQ (x:GateLaw) (n:Int):Spec P 11 [st x.e,.d (.int .i64 n)] (.d (.int .i64 (aM (cH x.shapes n) fun n=>aM (dX x.mends n) fun n=>aM (eP x.teams n) fun n=>n))):=by
 refine Spec.of_vc aP av [.tmp 4] Tryz.func11 rfl rfl rfl rfl (fun hok=>?_)
 repeat refine ai ?_
 refine oc (rc _ _) ?_
 refine aj (fun h=>nd (by simp only[aM,h, *,cond_true,cond_false])) (fun h0=>?_)
 repeat refine ai ?_
 refine oc (tG _ _) ?_
 refine aj (fun h=>nd (by simp only[aM,h, *,cond_true,cond_false])) (fun h1=>?_)
 repeat refine ai ?_
 refine oc (tD _ _) ?_
 refine aj (fun h=>nd (by simp only[aM,h, *,cond_true,cond_false])) (fun h2=>?_)
 exact nd (by simp only[aM, *,cond_true,cond_false])
theorem ku (x:GateLaw) (n:Int):Spec P 11 [st x.e,.d (.int .i64 n)] (.d (.int .i64 (cC x n))):=xQ x n
def cj (x:GateObject) (n:Int):Int:=aM (IntKind.i64.wrap (n - (x.kind.length:Int))) fun n=>aM (IntKind.i64.wrap (n - (x.name.length:Int))) fun n=>aM (IntKind.i64.wrap (n - (x.team.length:Int))) fun n=>aM (bb x.values n) fun n=>aM (bb x.holds n) fun n=>n
theorem rm (x:GateObject) (n:Int):Spec P 110 [st x.e,.d (.int .i64 n)] (.d (.int .i64 (aM (IntKind.i64.wrap (n - (x.kind.length:Int))) fun n=>aM (IntKind.i64.wrap (n - (x.name.length:Int))) fun n=>aM (IntKind.i64.wrap (n - (x.team.length:Int))) fun n=>aM (bb x.values n) fun n=>aM (bb x.holds n) fun n=>n))):=by
 refine Spec.of_vc aP av [.tmp 4] Tryz.func110 rfl rfl rfl rfl (fun hok=>?_)
 refine aj (fun h=>nd (by simp only[aM,h, *,cond_true,cond_false])) (fun h0=>?_)
 refine aj (fun h=>nd (by simp only[aM,h, *,cond_true,cond_false])) (fun h1=>?_)
 refine aj (fun h=>nd (by simp only[aM,h, *,cond_true,cond_false])) (fun h2=>?_)
 repeat refine ai ?_
 refine oc (kr _ _) ?_
 refine aj (fun h=>nd (by simp only[aM,h, *,cond_true,cond_false])) (fun h3=>?_)
 repeat refine ai ?_
 refine oc (kr _ _) ?_
 refine aj (fun h=>nd (by simp only[aM,h, *,cond_true,cond_false])) (fun h4=>?_)
 exact nd (by simp only[aM, *,cond_true,cond_false])
theorem rf (x:GateObject) (n:Int):Spec P 110 [st x.e,.d (.int .i64 n)] (.d (.int .i64 (cj x n))):=rm x n
def bO (xs:List GateObject) (n:Int):Int:=aM (IntKind.i64.wrap (n - ((xs.map GateObject.e).length:Int))) fun n=>ik cj xs n
theorem pY (xs:List GateObject) (n:Int):Spec P 42 [.d (aE xs),.d (.int .i64 n)] (.d (.int .i64 (aM (IntKind.i64.wrap (n - ((xs.map GateObject.e).length:Int))) fun n=>ik cj xs n))):=by
 refine Spec.of_vc aP av [.tmp 4] Tryz.func42 rfl rfl rfl rfl (fun hok=>?_)
 have hs:xs.length≤al:=by have:=hok.1.1;rwa [List.length_map] at this
 refine aj (fun h=>nd (by simp only[aM,h,cond_true,cond_false])) (fun h=>?_)
 simp only[aM,h,cond_true,cond_false]
 refine ⟨fun k l h=>∃(i:Nat) (v:Int),k=xs.length - i∧i≤xs.length∧ik cj xs (IntKind.i64.wrap (n - ((xs.map GateObject.e).length:Int)))=ik cj (xs.drop i) v∧l=[(0,.d (aE xs)),(1,.d (.int .i64 v)),(5,.d (.int .i64 i))]∧h=hp0,
  ⟨_,_,_,⟨0,_,rfl,Nat.zero_le _,rfl,rfl,rfl⟩,rfl,rfl,⟨rfl,rfl,rfl,trivial⟩,trivial,trivial⟩,?_⟩
 rintro k l h1 ⟨i,v,rfl,hi,hr,rfl,rfl⟩
 refine aj ?_ ?_<;>intro h1
 ·have hlt:i<xs.length:=Y h1
  repeat refine ai ?_
  refine U (e:=GateObject.e) (xs:=xs) (hlt) rfl ?_
  repeat refine ai ?_
  refine oc (rf _ _) ?_
  refine aj ?_ ?_<;>intro h2
  ·refine nd ?_
   rw[hr,bX hlt]
   simp only[aM,h2,cond_true]
  ·refine ⟨_,_,_,⟨i+1,_,rfl,hlt,?_,rfl,rfl⟩,by omega,rfl,rfl,⟨rfl,rfl,nd (V hlt hs),trivial⟩,trivial,trivial⟩
   rw[hr,bX hlt]
   simp only[aM,h2,cond_false]
 ·refine nd ?_
  rw[hr,List.drop_of_length_le (Z h1)];rfl
theorem pW (xs:List GateObject) (n:Int):Spec P 42 [.d (aE xs),.d (.int .i64 n)] (.d (.int .i64 (bO xs n))):=pY xs n
def eG (x:GateRule) (n:Int):Int:=aM (dS x.verbs n) fun n=>aM (IntKind.i64.wrap (n - (x.kind.length:Int))) fun n=>aM (IntKind.i64.wrap (n - (x.team.length:Int))) fun n=>aM (IntKind.i64.wrap (n - (x.prefix_.length:Int))) fun n=>n
theorem wh (x:GateRule) (n:Int):Spec P 169 [st x.e,.d (.int .i64 n)] (.d (.int .i64 (aM (dS x.verbs n) fun n=>aM (IntKind.i64.wrap (n - (x.kind.length:Int))) fun n=>aM (IntKind.i64.wrap (n - (x.team.length:Int))) fun n=>aM (IntKind.i64.wrap (n - (x.prefix_.length:Int))) fun n=>n))):=by
 refine Spec.of_vc aP av [.tmp 4] Tryz.func169 rfl rfl rfl rfl (fun hok=>?_)
 repeat refine ai ?_
 refine oc (C4 _ _) ?_
 refine aj (fun h=>nd (by simp only[aM,h, *,cond_true,cond_false])) (fun h0=>?_)
 refine aj (fun h=>nd (by simp only[aM,h, *,cond_true,cond_false])) (fun h1=>?_)
 refine aj (fun h=>nd (by simp only[aM,h, *,cond_true,cond_false])) (fun h2=>?_)
 refine aj (fun h=>nd (by simp only[aM,h, *,cond_true,cond_false])) (fun h3=>?_)
 exact nd (by simp only[aM, *,cond_true,cond_false])
theorem we (x:GateRule) (n:Int):Spec P 169 [st x.e,.d (.int .i64 n)] (.d (.int .i64 (eG x n))):=wh x n
def cD (x:GateGrant) (n:Int):Int:=aM (IntKind.i64.wrap (n - (x.to_.length:Int))) fun n=>aM (IntKind.i64.wrap (n - (x.by_.length:Int))) fun n=>aM (eG x.rule n) fun n=>n
theorem tN (x:GateGrant) (n:Int):Spec P 111 [st x.e,.d (.int .i64 n)] (.d (.int .i64 (aM (IntKind.i64.wrap (n - (x.to_.length:Int))) fun n=>aM (IntKind.i64.wrap (n - (x.by_.length:Int))) fun n=>aM (eG x.rule n) fun n=>n))):=by
 refine Spec.of_vc aP av [.tmp 4] Tryz.func111 rfl rfl rfl rfl (fun hok=>?_)
 refine aj (fun h=>nd (by simp only[aM,h, *,cond_true,cond_false])) (fun h0=>?_)
 refine aj (fun h=>nd (by simp only[aM,h, *,cond_true,cond_false])) (fun h1=>?_)
 repeat refine ai ?_
 refine oc (we _ _) ?_
 refine aj (fun h=>nd (by simp only[aM,h, *,cond_true,cond_false])) (fun h2=>?_)
 exact nd (by simp only[aM, *,cond_true,cond_false])
theorem tH (x:GateGrant) (n:Int):Spec P 111 [st x.e,.d (.int .i64 n)] (.d (.int .i64 (cD x n))):=tN x n
def cI (xs:List GateGrant) (n:Int):Int:=aM (IntKind.i64.wrap (n - ((xs.map GateGrant.e).length:Int))) fun n=>ik cD xs n
theorem rq (xs:List GateGrant) (n:Int):Spec P 43 [.d (aU xs),.d (.int .i64 n)] (.d (.int .i64 (aM (IntKind.i64.wrap (n - ((xs.map GateGrant.e).length:Int))) fun n=>ik cD xs n))):=by
 refine Spec.of_vc aP av [.tmp 4] Tryz.func43 rfl rfl rfl rfl (fun hok=>?_)
 have hs:xs.length≤al:=by have:=hok.1.1;rwa [List.length_map] at this
 refine aj (fun h=>nd (by simp only[aM,h,cond_true,cond_false])) (fun h=>?_)
 simp only[aM,h,cond_true,cond_false]
 refine ⟨fun k l h=>∃(i:Nat) (v:Int),k=xs.length - i∧i≤xs.length∧ik cD xs (IntKind.i64.wrap (n - ((xs.map GateGrant.e).length:Int)))=ik cD (xs.drop i) v∧l=[(0,.d (aU xs)),(1,.d (.int .i64 v)),(5,.d (.int .i64 i))]∧h=hp0,
  ⟨_,_,_,⟨0,_,rfl,Nat.zero_le _,rfl,rfl,rfl⟩,rfl,rfl,⟨rfl,rfl,rfl,trivial⟩,trivial,trivial⟩,?_⟩
 rintro k l h1 ⟨i,v,rfl,hi,hr,rfl,rfl⟩
 refine aj ?_ ?_<;>intro h1
 ·have hlt:i<xs.length:=Y h1
  repeat refine ai ?_
  refine U (e:=GateGrant.e) (xs:=xs) (hlt) rfl ?_
  repeat refine ai ?_
  refine oc (tH _ _) ?_
  refine aj ?_ ?_<;>intro h2
  ·refine nd ?_
   rw[hr,bX hlt]
   simp only[aM,h2,cond_true]
  ·refine ⟨_,_,_,⟨i+1,_,rfl,hlt,?_,rfl,rfl⟩,by omega,rfl,rfl,⟨rfl,rfl,nd (V hlt hs),trivial⟩,trivial,trivial⟩
   rw[hr,bX hlt]
   simp only[aM,h2,cond_false]
 ·refine nd ?_
  rw[hr,List.drop_of_length_le (Z h1)];rfl
theorem rh (xs:List GateGrant) (n:Int):Spec P 43 [.d (aU xs),.d (.int .i64 n)] (.d (.int .i64 (cI xs n))):=rq xs n
def cl (x:GateLedger) (n:Int):Int:=aM (IntKind.i64.wrap (n - (x.team.length:Int))) fun n=>aM (IntKind.i64.wrap (n - (x.resource.length:Int))) fun n=>n
theorem rp (x:GateLedger) (n:Int):Spec P 112 [st x.e,.d (.int .i64 n)] (.d (.int .i64 (aM (IntKind.i64.wrap (n - (x.team.length:Int))) fun n=>aM (IntKind.i64.wrap (n - (x.resource.length:Int))) fun n=>n))):=by
 refine Spec.of_vc aP av [.tmp 4] Tryz.func112 rfl rfl rfl rfl (fun hok=>?_)
 refine aj (fun h=>nd (by simp only[aM,h, *,cond_true,cond_false])) (fun h0=>?_)
 refine aj (fun h=>nd (by simp only[aM,h, *,cond_true,cond_false])) (fun h1=>?_)
 exact nd (by simp only[aM, *,cond_true,cond_false])
theorem rg (x:GateLedger) (n:Int):Spec P 112 [st x.e,.d (.int .i64 n)] (.d (.int .i64 (cl x n))):=rp x n
def cT (xs:List GateLedger) (n:Int):Int:=aM (IntKind.i64.wrap (n - ((xs.map GateLedger.e).length:Int))) fun n=>ik cl xs n
theorem pZ (xs:List GateLedger) (n:Int):Spec P 44 [.d (aJ xs),.d (.int .i64 n)] (.d (.int .i64 (aM (IntKind.i64.wrap (n - ((xs.map GateLedger.e).length:Int))) fun n=>ik cl xs n))):=by
 refine Spec.of_vc aP av [.tmp 4] Tryz.func44 rfl rfl rfl rfl (fun hok=>?_)
 have hs:xs.length≤al:=by have:=hok.1.1;rwa [List.length_map] at this
 refine aj (fun h=>nd (by simp only[aM,h,cond_true,cond_false])) (fun h=>?_)
 simp only[aM,h,cond_true,cond_false]
 refine ⟨fun k l h=>∃(i:Nat) (v:Int),k=xs.length - i∧i≤xs.length∧ik cl xs (IntKind.i64.wrap (n - ((xs.map GateLedger.e).length:Int)))=ik cl (xs.drop i) v∧l=[(0,.d (aJ xs)),(1,.d (.int .i64 v)),(5,.d (.int .i64 i))]∧h=hp0,
  ⟨_,_,_,⟨0,_,rfl,Nat.zero_le _,rfl,rfl,rfl⟩,rfl,rfl,⟨rfl,rfl,rfl,trivial⟩,trivial,trivial⟩,?_⟩
 rintro k l h1 ⟨i,v,rfl,hi,hr,rfl,rfl⟩
 refine aj ?_ ?_<;>intro h1
 ·have hlt:i<xs.length:=Y h1
  repeat refine ai ?_
  refine U (e:=GateLedger.e) (xs:=xs) (hlt) rfl ?_
  repeat refine ai ?_
  refine oc (rg _ _) ?_
  refine aj ?_ ?_<;>intro h2
  ·refine nd ?_
   rw[hr,bX hlt]
   simp only[aM,h2,cond_true]
  ·refine ⟨_,_,_,⟨i+1,_,rfl,hlt,?_,rfl,rfl⟩,by omega,rfl,rfl,⟨rfl,rfl,nd (V hlt hs),trivial⟩,trivial,trivial⟩
   rw[hr,bX hlt]
   simp only[aM,h2,cond_false]
 ·refine nd ?_
  rw[hr,List.drop_of_length_le (Z h1)];rfl
theorem pX (xs:List GateLedger) (n:Int):Spec P 44 [.d (aJ xs),.d (.int .i64 n)] (.d (.int .i64 (cT xs n))):=pZ xs n
def cB (x:GatePurse) (n:Int):Int:=aM (IntKind.i64.wrap (n - (x.door.length:Int))) fun n=>aM (IntKind.i64.wrap (n - (x.team.length:Int))) fun n=>aM (IntKind.i64.wrap (n - (x.resource.length:Int))) fun n=>n
theorem tL (x:GatePurse) (n:Int):Spec P 113 [st x.e,.d (.int .i64 n)] (.d (.int .i64 (aM (IntKind.i64.wrap (n - (x.door.length:Int))) fun n=>aM (IntKind.i64.wrap (n - (x.team.length:Int))) fun n=>aM (IntKind.i64.wrap (n - (x.resource.length:Int))) fun n=>n))):=by
 refine Spec.of_vc aP av [.tmp 4] Tryz.func113 rfl rfl rfl rfl (fun hok=>?_)
 refine aj (fun h=>nd (by simp only[aM,h, *,cond_true,cond_false])) (fun h0=>?_)
 refine aj (fun h=>nd (by simp only[aM,h, *,cond_true,cond_false])) (fun h1=>?_)
 refine aj (fun h=>nd (by simp only[aM,h, *,cond_true,cond_false])) (fun h2=>?_)
 exact nd (by simp only[aM, *,cond_true,cond_false])
theorem tF (x:GatePurse) (n:Int):Spec P 113 [st x.e,.d (.int .i64 n)] (.d (.int .i64 (cB x n))):=tL x n
def ei (xs:List GatePurse) (n:Int):Int:=aM (IntKind.i64.wrap (n - ((xs.map GatePurse.e).length:Int))) fun n=>ik cB xs n
theorem rl (xs:List GatePurse) (n:Int):Spec P 45 [.d (aN xs),.d (.int .i64 n)] (.d (.int .i64 (aM (IntKind.i64.wrap (n - ((xs.map GatePurse.e).length:Int))) fun n=>ik cB xs n))):=by
 refine Spec.of_vc aP av [.tmp 4] Tryz.func45 rfl rfl rfl rfl (fun hok=>?_)
 have hs:xs.length≤al:=by have:=hok.1.1;rwa [List.length_map] at this
 refine aj (fun h=>nd (by simp only[aM,h,cond_true,cond_false])) (fun h=>?_)
 simp only[aM,h,cond_true,cond_false]
 refine ⟨fun k l h=>∃(i:Nat) (v:Int),k=xs.length - i∧i≤xs.length∧ik cB xs (IntKind.i64.wrap (n - ((xs.map GatePurse.e).length:Int)))=ik cB (xs.drop i) v∧l=[(0,.d (aN xs)),(1,.d (.int .i64 v)),(5,.d (.int .i64 i))]∧h=hp0,
  ⟨_,_,_,⟨0,_,rfl,Nat.zero_le _,rfl,rfl,rfl⟩,rfl,rfl,⟨rfl,rfl,rfl,trivial⟩,trivial,trivial⟩,?_⟩
 rintro k l h1 ⟨i,v,rfl,hi,hr,rfl,rfl⟩
 refine aj ?_ ?_<;>intro h1
 ·have hlt:i<xs.length:=Y h1
  repeat refine ai ?_
  refine U (e:=GatePurse.e) (xs:=xs) (hlt) rfl ?_
  repeat refine ai ?_
  refine oc (tF _ _) ?_
  refine aj ?_ ?_<;>intro h2
  ·refine nd ?_
   rw[hr,bX hlt]
   simp only[aM,h2,cond_true]
  ·refine ⟨_,_,_,⟨i+1,_,rfl,hlt,?_,rfl,rfl⟩,by omega,rfl,rfl,⟨rfl,rfl,nd (V hlt hs),trivial⟩,trivial,trivial⟩
   rw[hr,bX hlt]
   simp only[aM,h2,cond_false]
 ·refine nd ?_
  rw[hr,List.drop_of_length_le (Z h1)];rfl
theorem re (xs:List GatePurse) (n:Int):Spec P 45 [.d (aN xs),.d (.int .i64 n)] (.d (.int .i64 (ei xs n))):=rl xs n
def dK (x:GateBook) (n:Int):Int:=aM (bO x.objects n) fun n=>aM (cI x.grants n) fun n=>aM (cT x.ledgers n) fun n=>aM (ei x.purses n) fun n=>n
theorem wj (x:GateBook) (n:Int):Spec P 12 [st x.e,.d (.int .i64 n)] (.d (.int .i64 (aM (bO x.objects n) fun n=>aM (cI x.grants n) fun n=>aM (cT x.ledgers n) fun n=>aM (ei x.purses n) fun n=>n))):=by
 refine Spec.of_vc aP av [.tmp 4] Tryz.func12 rfl rfl rfl rfl (fun hok=>?_)
 repeat refine ai ?_
 refine oc (pW _ _) ?_
 refine aj (fun h=>nd (by simp only[aM,h, *,cond_true,cond_false])) (fun h0=>?_)
 repeat refine ai ?_
 refine oc (rh _ _) ?_
 refine aj (fun h=>nd (by simp only[aM,h, *,cond_true,cond_false])) (fun h1=>?_)
 repeat refine ai ?_
 refine oc (pX _ _) ?_
 refine aj (fun h=>nd (by simp only[aM,h, *,cond_true,cond_false])) (fun h2=>?_)
 repeat refine ai ?_
 refine oc (re _ _) ?_
 refine aj (fun h=>nd (by simp only[aM,h, *,cond_true,cond_false])) (fun h3=>?_)
 exact nd (by simp only[aM, *,cond_true,cond_false])
theorem ju (x:GateBook) (n:Int):Spec P 12 [st x.e,.d (.int .i64 n)] (.d (.int .i64 (dK x n))):=wj x n
theorem ma (xs:List Bs):Spec P 179 [.d (lS xs)] (.d (lS xs)):=by
 refine Spec.of_vc aP av [.tmp 2] Tryz.func179 rfl rfl rfl rfl (fun hok=>?_)
 have hs:xs.length≤al:=by have:=hok.1.1;rwa [List.length_map] at this
 repeat refine ai ?_
 refine aj (Int.natCast_nonneg _) (aj (Int.le_refl _) (aj (c7 hs) ?_))
 refine ⟨fun k l h=>∃i:Nat,k=xs.length - i∧i≤xs.length∧l=[(0,.d (lS xs)),(3,.own 0),(4,.d (.int .i64 i))]∧h=⟨[(0,.row 9 [D.str []].length (bf eB xs [D.str []] i))],1,0⟩,
  ⟨_,_,_,⟨0,rfl,Nat.zero_le _,rfl,rfl⟩,rfl,rfl,⟨rfl,rfl,rfl,trivial⟩,⟨rfl,trivial⟩,⟨cd,trivial⟩⟩,?_⟩
 rintro k l h1 ⟨i,rfl,hi,rfl,rfl⟩
 refine aj ?_ ?_<;>intro h1
 ·have hlt:i<xs.length:=Y h1
  repeat refine ai ?_
  refine U (e:=eB) (xs:=xs) (hlt) rfl ?_
  repeat refine ai ?_
  refine aj (Int.natCast_nonneg _) (aj (by rw[aX hi];omega) ?_)
  repeat refine ai ?_
  refine ⟨_,aY hlt,Nat.le_refl _,?_⟩
  exact ⟨_,_,_,⟨i+1,rfl,hlt,rfl,rfl⟩,by omega,rfl,rfl,⟨rfl,rfl,nd (V hlt hs),trivial⟩,⟨rfl,trivial⟩,⟨cJ hlt rfl,trivial⟩⟩
 ·exact ld (cK (Z h1) hi)
theorem EI (xs:List Int):Spec P 209 [.d (lI xs)] (.d (lI xs)):=by
 refine Spec.of_vc aP av [.tmp 2] Tryz.func209 rfl rfl rfl rfl (fun hok=>?_)
 have hs:xs.length≤al:=by have:=hok.1.1;rwa [List.length_map] at this
 repeat refine ai ?_
 refine aj (Int.natCast_nonneg _) (aj (Int.le_refl _) (aj (c7 hs) ?_))
 refine ⟨fun k l h=>∃i:Nat,k=xs.length - i∧i≤xs.length∧l=[(0,.d (lI xs)),(3,.own 0),(4,.d (.int .i64 i))]∧h=⟨[(0,.row 3 [D.int .i64 0].length (bf eN xs [D.int .i64 0] i))],1,0⟩,
  ⟨_,_,_,⟨0,rfl,Nat.zero_le _,rfl,rfl⟩,rfl,rfl,⟨rfl,rfl,rfl,trivial⟩,⟨rfl,trivial⟩,⟨cd,trivial⟩⟩,?_⟩
 rintro k l h1 ⟨i,rfl,hi,rfl,rfl⟩
 refine aj ?_ ?_<;>intro h1
 ·have hlt:i<xs.length:=Y h1
  repeat refine ai ?_
  refine U (e:=eN) (xs:=xs) (hlt) rfl ?_
  repeat refine ai ?_
  refine aj (Int.natCast_nonneg _) (aj (by rw[aX hi];omega) ?_)
  repeat refine ai ?_
  refine ⟨_,aY hlt,Nat.le_refl _,?_⟩
  exact ⟨_,_,_,⟨i+1,rfl,hlt,rfl,rfl⟩,by omega,rfl,rfl,⟨rfl,rfl,nd (V hlt hs),trivial⟩,⟨rfl,trivial⟩,⟨cJ hlt rfl,trivial⟩⟩
 ·exact ld (cK (Z h1) hi)
def GateField.z:List D:=[.str [],.int .i64 0,.int .i64 0,.int .i64 0,.list [],.str [],.int .i64 0,.bool false,.bool false,.str [],.str []]
theorem v9 (x:GateField):Spec P 208 [st x.e] (st x.e):=by
 refine Spec.of_vc aP av [.cell 2 138] Tryz.func208 rfl rfl rfl rfl (fun hok=>?_)
 repeat refine ai ?_
 refine oc (ma _) ?_
 repeat refine ai ?_
 rfl
theorem tw (xs:List GateField):Spec P 178 [.d (ab xs)] (.d (ab xs)):=by
 refine Spec.of_vc aP av [.tmp 2] Tryz.func178 rfl rfl rfl rfl (fun hok=>?_)
 have hs:xs.length≤al:=by have:=hok.1.1;rwa [List.length_map] at this
 repeat refine ai ?_
 refine aj (Int.natCast_nonneg _) (aj (Int.le_refl _) (aj (c7 hs) ?_))
 refine ⟨fun k l h=>∃i:Nat,k=xs.length - i∧i≤xs.length∧l=[(0,.d (ab xs)),(3,.own 0),(4,.d (.int .i64 i))]∧h=⟨[(0,.row 138 GateField.z.length (bf GateField.e xs GateField.z i))],1,0⟩,
  ⟨_,_,_,⟨0,rfl,Nat.zero_le _,rfl,rfl⟩,rfl,rfl,⟨rfl,rfl,rfl,trivial⟩,⟨rfl,trivial⟩,⟨cd,trivial⟩⟩,?_⟩
 rintro k l h1 ⟨i,rfl,hi,rfl,rfl⟩
 refine aj ?_ ?_<;>intro h1
 ·have hlt:i<xs.length:=Y h1
  repeat refine ai ?_
  refine U (e:=GateField.e) (xs:=xs) (hlt) rfl ?_
  repeat refine ai ?_
  refine oc (v9 _) ?_
  repeat refine ai ?_
  refine aj (Int.natCast_nonneg _) (aj (by rw[aX hi];omega) ?_)
  repeat refine ai ?_
  refine ⟨_,aY hlt,Nat.le_refl _,?_⟩
  exact ⟨_,_,_,⟨i+1,rfl,hlt,rfl,rfl⟩,by omega,rfl,rfl,⟨rfl,rfl,nd (V hlt hs),trivial⟩,⟨rfl,trivial⟩,⟨cJ hlt rfl,trivial⟩⟩
 ·exact ld (cK (Z h1) hi)
def GateShape.z:List D:=[.str [],.list []]
theorem v6 (x:GateShape):Spec P 118 [st x.e] (st x.e):=by
 refine Spec.of_vc aP av [.cell 2 164] Tryz.func118 rfl rfl rfl rfl (fun hok=>?_)
 repeat refine ai ?_
 refine oc (tw _) ?_
 repeat refine ai ?_
 rfl
theorem tq (xs:List GateShape):Spec P 48 [.d (aa xs)] (.d (aa xs)):=by
 refine Spec.of_vc aP av [.tmp 2] Tryz.func48 rfl rfl rfl rfl (fun hok=>?_)
 have hs:xs.length≤al:=by have:=hok.1.1;rwa [List.length_map] at this
 repeat refine ai ?_
 refine aj (Int.natCast_nonneg _) (aj (Int.le_refl _) (aj (c7 hs) ?_))
 refine ⟨fun k l h=>∃i:Nat,k=xs.length - i∧i≤xs.length∧l=[(0,.d (aa xs)),(3,.own 0),(4,.d (.int .i64 i))]∧h=⟨[(0,.row 164 GateShape.z.length (bf GateShape.e xs GateShape.z i))],1,0⟩,
  ⟨_,_,_,⟨0,rfl,Nat.zero_le _,rfl,rfl⟩,rfl,rfl,⟨rfl,rfl,rfl,trivial⟩,⟨rfl,trivial⟩,⟨cd,trivial⟩⟩,?_⟩
 rintro k l h1 ⟨i,rfl,hi,rfl,rfl⟩
 refine aj ?_ ?_<;>intro h1
 ·have hlt:i<xs.length:=Y h1
  repeat refine ai ?_
  refine U (e:=GateShape.e) (xs:=xs) (hlt) rfl ?_
  repeat refine ai ?_
  refine oc (v6 _) ?_
  repeat refine ai ?_
  refine aj (Int.natCast_nonneg _) (aj (by rw[aX hi];omega) ?_)
  repeat refine ai ?_
  refine ⟨_,aY hlt,Nat.le_refl _,?_⟩
  exact ⟨_,_,_,⟨i+1,rfl,hlt,rfl,rfl⟩,by omega,rfl,rfl,⟨rfl,rfl,nd (V hlt hs),trivial⟩,⟨rfl,trivial⟩,⟨cJ hlt rfl,trivial⟩⟩
 ·exact ld (cK (Z h1) hi)
def GateMend.z:List D:=[.str [],.str [],.str [],.str [],.str [],.str []]
theorem pA (x:GateMend):Spec P 119 [st x.e] (st x.e):=by
 refine Spec.of_vc aP av [.cell 2 166] Tryz.func119 rfl rfl rfl rfl (fun hok=>?_)
 repeat refine ai ?_
 rfl
theorem v7 (xs:List GateMend):Spec P 49 [.d (ag xs)] (.d (ag xs)):=by
 refine Spec.of_vc aP av [.tmp 2] Tryz.func49 rfl rfl rfl rfl (fun hok=>?_)
 have hs:xs.length≤al:=by have:=hok.1.1;rwa [List.length_map] at this
 repeat refine ai ?_
 refine aj (Int.natCast_nonneg _) (aj (Int.le_refl _) (aj (c7 hs) ?_))
 refine ⟨fun k l h=>∃i:Nat,k=xs.length - i∧i≤xs.length∧l=[(0,.d (ag xs)),(3,.own 0),(4,.d (.int .i64 i))]∧h=⟨[(0,.row 166 GateMend.z.length (bf GateMend.e xs GateMend.z i))],1,0⟩,
  ⟨_,_,_,⟨0,rfl,Nat.zero_le _,rfl,rfl⟩,rfl,rfl,⟨rfl,rfl,rfl,trivial⟩,⟨rfl,trivial⟩,⟨cd,trivial⟩⟩,?_⟩
 rintro k l h1 ⟨i,rfl,hi,rfl,rfl⟩
 refine aj ?_ ?_<;>intro h1
 ·have hlt:i<xs.length:=Y h1
  repeat refine ai ?_
  refine U (e:=GateMend.e) (xs:=xs) (hlt) rfl ?_
  repeat refine ai ?_
  refine oc (pA _) ?_
  repeat refine ai ?_
  refine aj (Int.natCast_nonneg _) (aj (by rw[aX hi];omega) ?_)
  repeat refine ai ?_
  refine ⟨_,aY hlt,Nat.le_refl _,?_⟩
  exact ⟨_,_,_,⟨i+1,rfl,hlt,rfl,rfl⟩,by omega,rfl,rfl,⟨rfl,rfl,nd (V hlt hs),trivial⟩,⟨rfl,trivial⟩,⟨cJ hlt rfl,trivial⟩⟩
 ·exact ld (cK (Z h1) hi)
def GateTeam.z:List D:=[.str [],.str []]
theorem pz (x:GateTeam):Spec P 120 [st x.e] (st x.e):=by
 refine Spec.of_vc aP av [.cell 2 168] Tryz.func120 rfl rfl rfl rfl (fun hok=>?_)
 repeat refine ai ?_
 rfl
theorem v5 (xs:List GateTeam):Spec P 50 [.d (ao xs)] (.d (ao xs)):=by
 refine Spec.of_vc aP av [.tmp 2] Tryz.func50 rfl rfl rfl rfl (fun hok=>?_)
 have hs:xs.length≤al:=by have:=hok.1.1;rwa [List.length_map] at this
 repeat refine ai ?_
 refine aj (Int.natCast_nonneg _) (aj (Int.le_refl _) (aj (c7 hs) ?_))
 refine ⟨fun k l h=>∃i:Nat,k=xs.length - i∧i≤xs.length∧l=[(0,.d (ao xs)),(3,.own 0),(4,.d (.int .i64 i))]∧h=⟨[(0,.row 168 GateTeam.z.length (bf GateTeam.e xs GateTeam.z i))],1,0⟩,
  ⟨_,_,_,⟨0,rfl,Nat.zero_le _,rfl,rfl⟩,rfl,rfl,⟨rfl,rfl,rfl,trivial⟩,⟨rfl,trivial⟩,⟨cd,trivial⟩⟩,?_⟩
 rintro k l h1 ⟨i,rfl,hi,rfl,rfl⟩
 refine aj ?_ ?_<;>intro h1
 ·have hlt:i<xs.length:=Y h1
  repeat refine ai ?_
  refine U (e:=GateTeam.e) (xs:=xs) (hlt) rfl ?_
  repeat refine ai ?_
  refine oc (pz _) ?_
  repeat refine ai ?_
  refine aj (Int.natCast_nonneg _) (aj (by rw[aX hi];omega) ?_)
  repeat refine ai ?_
  refine ⟨_,aY hlt,Nat.le_refl _,?_⟩
  exact ⟨_,_,_,⟨i+1,rfl,hlt,rfl,rfl⟩,by omega,rfl,rfl,⟨rfl,rfl,nd (V hlt hs),trivial⟩,⟨rfl,trivial⟩,⟨cJ hlt rfl,trivial⟩⟩
 ·exact ld (cK (Z h1) hi)
def GateLaw.z:List D:=[.list [],.list [],.list []]
theorem bw (x:GateLaw):Spec P 14 [st x.e] (st x.e):=by
 refine Spec.of_vc aP av [.cell 2 41] Tryz.func14 rfl rfl rfl rfl (fun hok=>?_)
 repeat refine ai ?_
 refine oc (tq _) ?_
 repeat refine ai ?_
 refine oc (v7 _) ?_
 repeat refine ai ?_
 refine oc (v5 _) ?_
 repeat refine ai ?_
 rfl
def GateObject.z:List D:=[.str [],.str [],.str [],.list [],.bool false,.list [],.int .i64 0]
theorem tt (x:GateObject):Spec P 121 [st x.e] (st x.e):=by
 refine Spec.of_vc aP av [.cell 2 103] Tryz.func121 rfl rfl rfl rfl (fun hok=>?_)
 repeat refine ai ?_
 refine oc (ma _) ?_
 repeat refine ai ?_
 refine oc (ma _) ?_
 repeat refine ai ?_
 rfl
theorem qU (xs:List GateObject):Spec P 51 [.d (aE xs)] (.d (aE xs)):=by
 refine Spec.of_vc aP av [.tmp 2] Tryz.func51 rfl rfl rfl rfl (fun hok=>?_)
 have hs:xs.length≤al:=by have:=hok.1.1;rwa [List.length_map] at this
 repeat refine ai ?_
 refine aj (Int.natCast_nonneg _) (aj (Int.le_refl _) (aj (c7 hs) ?_))
 refine ⟨fun k l h=>∃i:Nat,k=xs.length - i∧i≤xs.length∧l=[(0,.d (aE xs)),(3,.own 0),(4,.d (.int .i64 i))]∧h=⟨[(0,.row 103 GateObject.z.length (bf GateObject.e xs GateObject.z i))],1,0⟩,
  ⟨_,_,_,⟨0,rfl,Nat.zero_le _,rfl,rfl⟩,rfl,rfl,⟨rfl,rfl,rfl,trivial⟩,⟨rfl,trivial⟩,⟨cd,trivial⟩⟩,?_⟩
 rintro k l h1 ⟨i,rfl,hi,rfl,rfl⟩
 refine aj ?_ ?_<;>intro h1
 ·have hlt:i<xs.length:=Y h1
  repeat refine ai ?_
  refine U (e:=GateObject.e) (xs:=xs) (hlt) rfl ?_
  repeat refine ai ?_
  refine oc (tt _) ?_
  repeat refine ai ?_
  refine aj (Int.natCast_nonneg _) (aj (by rw[aX hi];omega) ?_)
  repeat refine ai ?_
  refine ⟨_,aY hlt,Nat.le_refl _,?_⟩
  exact ⟨_,_,_,⟨i+1,rfl,hlt,rfl,rfl⟩,by omega,rfl,rfl,⟨rfl,rfl,nd (V hlt hs),trivial⟩,⟨rfl,trivial⟩,⟨cJ hlt rfl,trivial⟩⟩
 ·exact ld (cK (Z h1) hi)
def GateRule.z:List D:=[.list [],.str [],.str [],.str []]
theorem xM (x:GateRule):Spec P 180 [st x.e] (st x.e):=by
 refine Spec.of_vc aP av [.cell 2 171] Tryz.func180 rfl rfl rfl rfl (fun hok=>?_)
 repeat refine ai ?_
 refine oc (EI _) ?_
 repeat refine ai ?_
 rfl
def GateGrant.z:List D:=[.int .i64 0,.str [],.str [],.list [],.str [],.str [],.str []]
theorem v8 (x:GateGrant):Spec P 122 [st x.e] (st x.e):=by
 refine Spec.of_vc aP av [.cell 2 173] Tryz.func122 rfl rfl rfl rfl (fun hok=>?_)
 repeat refine ai ?_
 refine oc (xM _) ?_
 repeat refine ai ?_
 rfl
theorem tu (xs:List GateGrant):Spec P 52 [.d (aU xs)] (.d (aU xs)):=by
 refine Spec.of_vc aP av [.tmp 2] Tryz.func52 rfl rfl rfl rfl (fun hok=>?_)
 have hs:xs.length≤al:=by have:=hok.1.1;rwa [List.length_map] at this
 repeat refine ai ?_
 refine aj (Int.natCast_nonneg _) (aj (Int.le_refl _) (aj (c7 hs) ?_))
 refine ⟨fun k l h=>∃i:Nat,k=xs.length - i∧i≤xs.length∧l=[(0,.d (aU xs)),(3,.own 0),(4,.d (.int .i64 i))]∧h=⟨[(0,.row 173 GateGrant.z.length (bf GateGrant.e xs GateGrant.z i))],1,0⟩,
  ⟨_,_,_,⟨0,rfl,Nat.zero_le _,rfl,rfl⟩,rfl,rfl,⟨rfl,rfl,rfl,trivial⟩,⟨rfl,trivial⟩,⟨cd,trivial⟩⟩,?_⟩
 rintro k l h1 ⟨i,rfl,hi,rfl,rfl⟩
 refine aj ?_ ?_<;>intro h1
 ·have hlt:i<xs.length:=Y h1
  repeat refine ai ?_
  refine U (e:=GateGrant.e) (xs:=xs) (hlt) rfl ?_
  repeat refine ai ?_
  refine oc (v8 _) ?_
  repeat refine ai ?_
  refine aj (Int.natCast_nonneg _) (aj (by rw[aX hi];omega) ?_)
  repeat refine ai ?_
  refine ⟨_,aY hlt,Nat.le_refl _,?_⟩
  exact ⟨_,_,_,⟨i+1,rfl,hlt,rfl,rfl⟩,by omega,rfl,rfl,⟨rfl,rfl,nd (V hlt hs),trivial⟩,⟨rfl,trivial⟩,⟨cJ hlt rfl,trivial⟩⟩
 ·exact ld (cK (Z h1) hi)
def GateLedger.z:List D:=[.str [],.str [],.int .i64 0,.int .i64 0]
theorem lL (x:GateLedger):Spec P 123 [st x.e] (st x.e):=by
 refine Spec.of_vc aP av [.cell 2 119] Tryz.func123 rfl rfl rfl rfl (fun hok=>?_)
 repeat refine ai ?_
 rfl
theorem qV (xs:List GateLedger):Spec P 53 [.d (aJ xs)] (.d (aJ xs)):=by
 refine Spec.of_vc aP av [.tmp 2] Tryz.func53 rfl rfl rfl rfl (fun hok=>?_)
 have hs:xs.length≤al:=by have:=hok.1.1;rwa [List.length_map] at this
 repeat refine ai ?_
 refine aj (Int.natCast_nonneg _) (aj (Int.le_refl _) (aj (c7 hs) ?_))
 refine ⟨fun k l h=>∃i:Nat,k=xs.length - i∧i≤xs.length∧l=[(0,.d (aJ xs)),(3,.own 0),(4,.d (.int .i64 i))]∧h=⟨[(0,.row 119 GateLedger.z.length (bf GateLedger.e xs GateLedger.z i))],1,0⟩,
  ⟨_,_,_,⟨0,rfl,Nat.zero_le _,rfl,rfl⟩,rfl,rfl,⟨rfl,rfl,rfl,trivial⟩,⟨rfl,trivial⟩,⟨cd,trivial⟩⟩,?_⟩
 rintro k l h1 ⟨i,rfl,hi,rfl,rfl⟩
 refine aj ?_ ?_<;>intro h1
 ·have hlt:i<xs.length:=Y h1
  repeat refine ai ?_
  refine U (e:=GateLedger.e) (xs:=xs) (hlt) rfl ?_
  repeat refine ai ?_
  refine oc (lL _) ?_
  repeat refine ai ?_
  refine aj (Int.natCast_nonneg _) (aj (by rw[aX hi];omega) ?_)
  repeat refine ai ?_
  refine ⟨_,aY hlt,Nat.le_refl _,?_⟩
  exact ⟨_,_,_,⟨i+1,rfl,hlt,rfl,rfl⟩,by omega,rfl,rfl,⟨rfl,rfl,nd (V hlt hs),trivial⟩,⟨rfl,trivial⟩,⟨cJ hlt rfl,trivial⟩⟩
 ·exact ld (cK (Z h1) hi)
def GatePurse.z:List D:=[.str [],.str [],.str [],.int .i64 0,.int .i64 0]
theorem m3 (x:GatePurse):Spec P 124 [st x.e] (st x.e):=by
 refine Spec.of_vc aP av [.cell 2 109] Tryz.func124 rfl rfl rfl rfl (fun hok=>?_)
 repeat refine ai ?_
 rfl
theorem tr (xs:List GatePurse):Spec P 54 [.d (aN xs)] (.d (aN xs)):=by
 refine Spec.of_vc aP av [.tmp 2] Tryz.func54 rfl rfl rfl rfl (fun hok=>?_)
 have hs:xs.length≤al:=by have:=hok.1.1;rwa [List.length_map] at this
 repeat refine ai ?_
 refine aj (Int.natCast_nonneg _) (aj (Int.le_refl _) (aj (c7 hs) ?_))
 refine ⟨fun k l h=>∃i:Nat,k=xs.length - i∧i≤xs.length∧l=[(0,.d (aN xs)),(3,.own 0),(4,.d (.int .i64 i))]∧h=⟨[(0,.row 109 GatePurse.z.length (bf GatePurse.e xs GatePurse.z i))],1,0⟩,
  ⟨_,_,_,⟨0,rfl,Nat.zero_le _,rfl,rfl⟩,rfl,rfl,⟨rfl,rfl,rfl,trivial⟩,⟨rfl,trivial⟩,⟨cd,trivial⟩⟩,?_⟩
 rintro k l h1 ⟨i,rfl,hi,rfl,rfl⟩
 refine aj ?_ ?_<;>intro h1
 ·have hlt:i<xs.length:=Y h1
  repeat refine ai ?_
  refine U (e:=GatePurse.e) (xs:=xs) (hlt) rfl ?_
  repeat refine ai ?_
  refine oc (m3 _) ?_
  repeat refine ai ?_
  refine aj (Int.natCast_nonneg _) (aj (by rw[aX hi];omega) ?_)
  repeat refine ai ?_
  refine ⟨_,aY hlt,Nat.le_refl _,?_⟩
  exact ⟨_,_,_,⟨i+1,rfl,hlt,rfl,rfl⟩,by omega,rfl,rfl,⟨rfl,rfl,nd (V hlt hs),trivial⟩,⟨rfl,trivial⟩,⟨cJ hlt rfl,trivial⟩⟩
 ·exact ld (cK (Z h1) hi)
def GateBook.z:List D:=[.int .i64 0,.int .i64 0,.int .i64 0,.list [],.list [],.list [],.list []]
theorem bg (x:GateBook):Spec P 15 [st x.e] (st x.e):=by
 refine Spec.of_vc aP av [.cell 2 48] Tryz.func15 rfl rfl rfl rfl (fun hok=>?_)
 repeat refine ai ?_
 refine oc (qU _) ?_
 repeat refine ai ?_
 refine oc (tu _) ?_
 repeat refine ai ?_
 refine oc (qV _) ?_
 repeat refine ai ?_
 refine oc (tr _) ?_
 repeat refine ai ?_
 rfl
theorem mJ (xs:List Bs):Spec P 189 [.d (lS xs),.d (lS xs)] (.d (.bool true)):=by
 refine Spec.of_vc aP av [.tmp 4] Tryz.func189 rfl rfl rfl rfl (fun hok=>?_)
 have hs:xs.length≤al:=by have:=hok.1.1;rwa [List.length_map] at this
 repeat refine ai ?_
 refine an ?_
 refine ⟨fun k l h=>∃i:Nat,k=xs.length - i∧i≤xs.length∧l=[(0,.d (lS xs)),(1,.d (lS xs)),(5,.d (.int .i64 i))]∧h=hp0,
  ⟨_,_,_,⟨0,rfl,Nat.zero_le _,rfl,rfl⟩,rfl,rfl,⟨rfl,rfl,rfl,trivial⟩,trivial,trivial⟩,?_⟩
 rintro k l h1 ⟨i,rfl,hi,rfl,rfl⟩
 refine aj ?_ ?_<;>intro h1
 ·have hlt:i<xs.length:=Y h1
  repeat refine ai ?_
  refine ak ?_
  repeat refine ai ?_
  refine U (e:=eB) (xs:=xs) (hlt) rfl ?_
  repeat refine ai ?_
  refine U (e:=eB) (xs:=xs) (hlt) rfl ?_
  repeat refine ai ?_
  refine an ?_
  exact ⟨_,_,_,⟨i+1,rfl,hlt,rfl,rfl⟩,by omega,rfl,rfl,⟨rfl,rfl,nd (V hlt hs),trivial⟩,trivial,trivial⟩
 ·rfl
theorem Fe (xs:List Int):Spec P 17 [.d (lI xs),.d (lI xs)] (.d (.bool true)):=by
 refine Spec.of_vc aP av [.tmp 4] Tryz.func17 rfl rfl rfl rfl (fun hok=>?_)
 have hs:xs.length≤al:=by have:=hok.1.1;rwa [List.length_map] at this
 repeat refine ai ?_
 refine an ?_
 refine ⟨fun k l h=>∃i:Nat,k=xs.length - i∧i≤xs.length∧l=[(0,.d (lI xs)),(1,.d (lI xs)),(5,.d (.int .i64 i))]∧h=hp0,
  ⟨_,_,_,⟨0,rfl,Nat.zero_le _,rfl,rfl⟩,rfl,rfl,⟨rfl,rfl,rfl,trivial⟩,trivial,trivial⟩,?_⟩
 rintro k l h1 ⟨i,rfl,hi,rfl,rfl⟩
 refine aj ?_ ?_<;>intro h1
 ·have hlt:i<xs.length:=Y h1
  repeat refine ai ?_
  refine ak ?_
  repeat refine ai ?_
  refine U (e:=eN) (xs:=xs) (hlt) rfl ?_
  repeat refine ai ?_
  refine U (e:=eN) (xs:=xs) (hlt) rfl ?_
  repeat refine ai ?_
  refine an ?_
  exact ⟨_,_,_,⟨i+1,rfl,hlt,rfl,rfl⟩,by omega,rfl,rfl,⟨rfl,rfl,nd (V hlt hs),trivial⟩,trivial,trivial⟩
 ·rfl
theorem xf (x:GateField):Spec P 218 [st x.e,st x.e] (.d (.bool true)):=by
 refine Spec.of_vc aP av [.tmp 4] Tryz.func218 rfl rfl rfl rfl (fun hok=>?_)
 repeat refine ai ?_
 refine an ?_
 repeat refine ai ?_
 refine an ?_
 repeat refine ai ?_
 refine an ?_
 repeat refine ai ?_
 refine an ?_
 repeat refine ai ?_
 refine oc (mJ _) ?_
 repeat refine ai ?_
 refine an ?_
 repeat refine ai ?_
 refine an ?_
 repeat refine ai ?_
 refine an ?_
 repeat refine ai ?_
 refine an ?_
 repeat refine ai ?_
 refine an ?_
 repeat refine ai ?_
 refine an ?_
 repeat refine ai ?_
 refine an ?_
 repeat refine ai ?_
 rfl
theorem un (xs:List GateField):Spec P 188 [.d (ab xs),.d (ab xs)] (.d (.bool true)):=by
 refine Spec.of_vc aP av [.tmp 4] Tryz.func188 rfl rfl rfl rfl (fun hok=>?_)
 have hs:xs.length≤al:=by have:=hok.1.1;rwa [List.length_map] at this
 repeat refine ai ?_
 refine an ?_
 refine ⟨fun k l h=>∃i:Nat,k=xs.length - i∧i≤xs.length∧l=[(0,.d (ab xs)),(1,.d (ab xs)),(5,.d (.int .i64 i))]∧h=hp0,
  ⟨_,_,_,⟨0,rfl,Nat.zero_le _,rfl,rfl⟩,rfl,rfl,⟨rfl,rfl,rfl,trivial⟩,trivial,trivial⟩,?_⟩
 rintro k l h1 ⟨i,rfl,hi,rfl,rfl⟩
 refine aj ?_ ?_<;>intro h1
 ·have hlt:i<xs.length:=Y h1
  repeat refine ai ?_
  refine ak ?_
  repeat refine ai ?_
  refine U (e:=GateField.e) (xs:=xs) (hlt) rfl ?_
  repeat refine ai ?_
  refine U (e:=GateField.e) (xs:=xs) (hlt) rfl ?_
  repeat refine ai ?_
  refine oc (xf _) ?_
  repeat refine ai ?_
  refine an ?_
  exact ⟨_,_,_,⟨i+1,rfl,hlt,rfl,rfl⟩,by omega,rfl,rfl,⟨rfl,rfl,nd (V hlt hs),trivial⟩,trivial,trivial⟩
 ·rfl
theorem xb (x:GateShape):Spec P 129 [st x.e,st x.e] (.d (.bool true)):=by
 refine Spec.of_vc aP av [.tmp 4] Tryz.func129 rfl rfl rfl rfl (fun hok=>?_)
 repeat refine ai ?_
 refine an ?_
 repeat refine ai ?_
 refine oc (un _) ?_
 repeat refine ai ?_
 refine an ?_
 repeat refine ai ?_
 rfl
theorem ui (xs:List GateShape):Spec P 57 [.d (aa xs),.d (aa xs)] (.d (.bool true)):=by
 refine Spec.of_vc aP av [.tmp 4] Tryz.func57 rfl rfl rfl rfl (fun hok=>?_)
 have hs:xs.length≤al:=by have:=hok.1.1;rwa [List.length_map] at this
 repeat refine ai ?_
 refine an ?_
 refine ⟨fun k l h=>∃i:Nat,k=xs.length - i∧i≤xs.length∧l=[(0,.d (aa xs)),(1,.d (aa xs)),(5,.d (.int .i64 i))]∧h=hp0,
  ⟨_,_,_,⟨0,rfl,Nat.zero_le _,rfl,rfl⟩,rfl,rfl,⟨rfl,rfl,rfl,trivial⟩,trivial,trivial⟩,?_⟩
 rintro k l h1 ⟨i,rfl,hi,rfl,rfl⟩
 refine aj ?_ ?_<;>intro h1
 ·have hlt:i<xs.length:=Y h1
  repeat refine ai ?_
  refine ak ?_
  repeat refine ai ?_
  refine U (e:=GateShape.e) (xs:=xs) (hlt) rfl ?_
  repeat refine ai ?_
  refine U (e:=GateShape.e) (xs:=xs) (hlt) rfl ?_
  repeat refine ai ?_
  refine oc (xb _) ?_
  repeat refine ai ?_
  refine an ?_
  exact ⟨_,_,_,⟨i+1,rfl,hlt,rfl,rfl⟩,by omega,rfl,rfl,⟨rfl,rfl,nd (V hlt hs),trivial⟩,trivial,trivial⟩
 ·rfl
theorem zi (x:GateMend):Spec P 130 [st x.e,st x.e] (.d (.bool true)):=by
 refine Spec.of_vc aP av [.tmp 4] Tryz.func130 rfl rfl rfl rfl (fun hok=>?_)
 repeat refine ai ?_
 refine an ?_
 repeat refine ai ?_
 refine an ?_
 repeat refine ai ?_
 refine an ?_
 repeat refine ai ?_
 refine an ?_
 repeat refine ai ?_
 refine an ?_
 repeat refine ai ?_
 refine an ?_
 repeat refine ai ?_
 rfl
theorem xd (xs:List GateMend):Spec P 58 [.d (ag xs),.d (ag xs)] (.d (.bool true)):=by
 refine Spec.of_vc aP av [.tmp 4] Tryz.func58 rfl rfl rfl rfl (fun hok=>?_)
 have hs:xs.length≤al:=by have:=hok.1.1;rwa [List.length_map] at this
 repeat refine ai ?_
 refine an ?_
 refine ⟨fun k l h=>∃i:Nat,k=xs.length - i∧i≤xs.length∧l=[(0,.d (ag xs)),(1,.d (ag xs)),(5,.d (.int .i64 i))]∧h=hp0,
  ⟨_,_,_,⟨0,rfl,Nat.zero_le _,rfl,rfl⟩,rfl,rfl,⟨rfl,rfl,rfl,trivial⟩,trivial,trivial⟩,?_⟩
 rintro k l h1 ⟨i,rfl,hi,rfl,rfl⟩
 refine aj ?_ ?_<;>intro h1
 ·have hlt:i<xs.length:=Y h1
  repeat refine ai ?_
  refine ak ?_
  repeat refine ai ?_
  refine U (e:=GateMend.e) (xs:=xs) (hlt) rfl ?_
  repeat refine ai ?_
  refine U (e:=GateMend.e) (xs:=xs) (hlt) rfl ?_
  repeat refine ai ?_
  refine oc (zi _) ?_
  repeat refine ai ?_
  refine an ?_
  exact ⟨_,_,_,⟨i+1,rfl,hlt,rfl,rfl⟩,by omega,rfl,rfl,⟨rfl,rfl,nd (V hlt hs),trivial⟩,trivial,trivial⟩
 ·rfl
theorem zg (x:GateTeam):Spec P 131 [st x.e,st x.e] (.d (.bool true)):=by
 refine Spec.of_vc aP av [.tmp 4] Tryz.func131 rfl rfl rfl rfl (fun hok=>?_)
 repeat refine ai ?_
 refine an ?_
 repeat refine ai ?_
 refine an ?_
 repeat refine ai ?_
 rfl
theorem xa (xs:List GateTeam):Spec P 59 [.d (ao xs),.d (ao xs)] (.d (.bool true)):=by
 refine Spec.of_vc aP av [.tmp 4] Tryz.func59 rfl rfl rfl rfl (fun hok=>?_)
 have hs:xs.length≤al:=by have:=hok.1.1;rwa [List.length_map] at this
 repeat refine ai ?_
 refine an ?_
 refine ⟨fun k l h=>∃i:Nat,k=xs.length - i∧i≤xs.length∧l=[(0,.d (ao xs)),(1,.d (ao xs)),(5,.d (.int .i64 i))]∧h=hp0,
  ⟨_,_,_,⟨0,rfl,Nat.zero_le _,rfl,rfl⟩,rfl,rfl,⟨rfl,rfl,rfl,trivial⟩,trivial,trivial⟩,?_⟩
 rintro k l h1 ⟨i,rfl,hi,rfl,rfl⟩
 refine aj ?_ ?_<;>intro h1
 ·have hlt:i<xs.length:=Y h1
  repeat refine ai ?_
  refine ak ?_
  repeat refine ai ?_
  refine U (e:=GateTeam.e) (xs:=xs) (hlt) rfl ?_
  repeat refine ai ?_
  refine U (e:=GateTeam.e) (xs:=xs) (hlt) rfl ?_
  repeat refine ai ?_
  refine oc (zg _) ?_
  repeat refine ai ?_
  refine an ?_
  exact ⟨_,_,_,⟨i+1,rfl,hlt,rfl,rfl⟩,by omega,rfl,rfl,⟨rfl,rfl,nd (V hlt hs),trivial⟩,trivial,trivial⟩
 ·rfl
theorem mL (x:GateLaw):Spec P 18 [st x.e,st x.e] (.d (.bool true)):=by
 refine Spec.of_vc aP av [.tmp 4] Tryz.func18 rfl rfl rfl rfl (fun hok=>?_)
 repeat refine ai ?_
 refine oc (ui _) ?_
 repeat refine ai ?_
 refine an ?_
 repeat refine ai ?_
 refine oc (xd _) ?_
 repeat refine ai ?_
 refine an ?_
 repeat refine ai ?_
 refine oc (xa _) ?_
 repeat refine ai ?_
 refine an ?_
 repeat refine ai ?_
 rfl
theorem uk (x:GateObject):Spec P 132 [st x.e,st x.e] (.d (.bool true)):=by
 refine Spec.of_vc aP av [.tmp 4] Tryz.func132 rfl rfl rfl rfl (fun hok=>?_)
 repeat refine ai ?_
 refine an ?_
 repeat refine ai ?_
 refine an ?_
 repeat refine ai ?_
 refine an ?_
 repeat refine ai ?_
 refine oc (mJ _) ?_
 repeat refine ai ?_
 refine an ?_
 repeat refine ai ?_
 refine an ?_
 repeat refine ai ?_
 refine oc (mJ _) ?_
 repeat refine ai ?_
 refine an ?_
 repeat refine ai ?_
 refine an ?_
 repeat refine ai ?_
 rfl
theorem sQ (xs:List GateObject):Spec P 60 [.d (aE xs),.d (aE xs)] (.d (.bool true)):=by
 refine Spec.of_vc aP av [.tmp 4] Tryz.func60 rfl rfl rfl rfl (fun hok=>?_)
 have hs:xs.length≤al:=by have:=hok.1.1;rwa [List.length_map] at this
 repeat refine ai ?_
 refine an ?_
 refine ⟨fun k l h=>∃i:Nat,k=xs.length - i∧i≤xs.length∧l=[(0,.d (aE xs)),(1,.d (aE xs)),(5,.d (.int .i64 i))]∧h=hp0,
  ⟨_,_,_,⟨0,rfl,Nat.zero_le _,rfl,rfl⟩,rfl,rfl,⟨rfl,rfl,rfl,trivial⟩,trivial,trivial⟩,?_⟩
 rintro k l h1 ⟨i,rfl,hi,rfl,rfl⟩
 refine aj ?_ ?_<;>intro h1
 ·have hlt:i<xs.length:=Y h1
  repeat refine ai ?_
  refine ak ?_
  repeat refine ai ?_
  refine U (e:=GateObject.e) (xs:=xs) (hlt) rfl ?_
  repeat refine ai ?_
  refine U (e:=GateObject.e) (xs:=xs) (hlt) rfl ?_
  repeat refine ai ?_
  refine oc (uk _) ?_
  repeat refine ai ?_
  refine an ?_
  exact ⟨_,_,_,⟨i+1,rfl,hlt,rfl,rfl⟩,by omega,rfl,rfl,⟨rfl,rfl,nd (V hlt hs),trivial⟩,trivial,trivial⟩
 ·rfl
theorem zh (x:GateRule):Spec P 190 [st x.e,st x.e] (.d (.bool true)):=by
 refine Spec.of_vc aP av [.tmp 4] Tryz.func190 rfl rfl rfl rfl (fun hok=>?_)
 repeat refine ai ?_
 refine oc (Fe _) ?_
 repeat refine ai ?_
 refine an ?_
 repeat refine ai ?_
 refine an ?_
 repeat refine ai ?_
 refine an ?_
 repeat refine ai ?_
 refine an ?_
 repeat refine ai ?_
 rfl
theorem xe (x:GateGrant):Spec P 133 [st x.e,st x.e] (.d (.bool true)):=by
 refine Spec.of_vc aP av [.tmp 4] Tryz.func133 rfl rfl rfl rfl (fun hok=>?_)
 repeat refine ai ?_
 refine an ?_
 repeat refine ai ?_
 refine an ?_
 repeat refine ai ?_
 refine an ?_
 repeat refine ai ?_
 refine oc (zh _) ?_
 repeat refine ai ?_
 refine an ?_
 repeat refine ai ?_
 rfl
theorem um (xs:List GateGrant):Spec P 61 [.d (aU xs),.d (aU xs)] (.d (.bool true)):=by
 refine Spec.of_vc aP av [.tmp 4] Tryz.func61 rfl rfl rfl rfl (fun hok=>?_)
 have hs:xs.length≤al:=by have:=hok.1.1;rwa [List.length_map] at this
 repeat refine ai ?_
 refine an ?_
 refine ⟨fun k l h=>∃i:Nat,k=xs.length - i∧i≤xs.length∧l=[(0,.d (aU xs)),(1,.d (aU xs)),(5,.d (.int .i64 i))]∧h=hp0,
  ⟨_,_,_,⟨0,rfl,Nat.zero_le _,rfl,rfl⟩,rfl,rfl,⟨rfl,rfl,rfl,trivial⟩,trivial,trivial⟩,?_⟩
 rintro k l h1 ⟨i,rfl,hi,rfl,rfl⟩
 refine aj ?_ ?_<;>intro h1
 ·have hlt:i<xs.length:=Y h1
  repeat refine ai ?_
  refine ak ?_
  repeat refine ai ?_
  refine U (e:=GateGrant.e) (xs:=xs) (hlt) rfl ?_
  repeat refine ai ?_
  refine U (e:=GateGrant.e) (xs:=xs) (hlt) rfl ?_
  repeat refine ai ?_
  refine oc (xe _) ?_
  repeat refine ai ?_
  refine an ?_
  exact ⟨_,_,_,⟨i+1,rfl,hlt,rfl,rfl⟩,by omega,rfl,rfl,⟨rfl,rfl,nd (V hlt hs),trivial⟩,trivial,trivial⟩
 ·rfl
theorem ul (x:GateLedger):Spec P 134 [st x.e,st x.e] (.d (.bool true)):=by
 refine Spec.of_vc aP av [.tmp 4] Tryz.func134 rfl rfl rfl rfl (fun hok=>?_)
 repeat refine ai ?_
 refine an ?_
 repeat refine ai ?_
 refine an ?_
 repeat refine ai ?_
 refine an ?_
 repeat refine ai ?_
 refine an ?_
 repeat refine ai ?_
 rfl
theorem sR (xs:List GateLedger):Spec P 62 [.d (aJ xs),.d (aJ xs)] (.d (.bool true)):=by
 refine Spec.of_vc aP av [.tmp 4] Tryz.func62 rfl rfl rfl rfl (fun hok=>?_)
 have hs:xs.length≤al:=by have:=hok.1.1;rwa [List.length_map] at this
 repeat refine ai ?_
 refine an ?_
 refine ⟨fun k l h=>∃i:Nat,k=xs.length - i∧i≤xs.length∧l=[(0,.d (aJ xs)),(1,.d (aJ xs)),(5,.d (.int .i64 i))]∧h=hp0,
  ⟨_,_,_,⟨0,rfl,Nat.zero_le _,rfl,rfl⟩,rfl,rfl,⟨rfl,rfl,rfl,trivial⟩,trivial,trivial⟩,?_⟩
 rintro k l h1 ⟨i,rfl,hi,rfl,rfl⟩
 refine aj ?_ ?_<;>intro h1
 ·have hlt:i<xs.length:=Y h1
  repeat refine ai ?_
  refine ak ?_
  repeat refine ai ?_
  refine U (e:=GateLedger.e) (xs:=xs) (hlt) rfl ?_
  repeat refine ai ?_
  refine U (e:=GateLedger.e) (xs:=xs) (hlt) rfl ?_
  repeat refine ai ?_
  refine oc (ul _) ?_
  repeat refine ai ?_
  refine an ?_
  exact ⟨_,_,_,⟨i+1,rfl,hlt,rfl,rfl⟩,by omega,rfl,rfl,⟨rfl,rfl,nd (V hlt hs),trivial⟩,trivial,trivial⟩
 ·rfl
theorem xc (x:GatePurse):Spec P 135 [st x.e,st x.e] (.d (.bool true)):=by
 refine Spec.of_vc aP av [.tmp 4] Tryz.func135 rfl rfl rfl rfl (fun hok=>?_)
 repeat refine ai ?_
 refine an ?_
 repeat refine ai ?_
 refine an ?_
 repeat refine ai ?_
 refine an ?_
 repeat refine ai ?_
 refine an ?_
 repeat refine ai ?_
 refine an ?_
 repeat refine ai ?_
 rfl
theorem uj (xs:List GatePurse):Spec P 63 [.d (aN xs),.d (aN xs)] (.d (.bool true)):=by
 refine Spec.of_vc aP av [.tmp 4] Tryz.func63 rfl rfl rfl rfl (fun hok=>?_)
 have hs:xs.length≤al:=by have:=hok.1.1;rwa [List.length_map] at this
 repeat refine ai ?_
 refine an ?_
 refine ⟨fun k l h=>∃i:Nat,k=xs.length - i∧i≤xs.length∧l=[(0,.d (aN xs)),(1,.d (aN xs)),(5,.d (.int .i64 i))]∧h=hp0,
  ⟨_,_,_,⟨0,rfl,Nat.zero_le _,rfl,rfl⟩,rfl,rfl,⟨rfl,rfl,rfl,trivial⟩,trivial,trivial⟩,?_⟩
 rintro k l h1 ⟨i,rfl,hi,rfl,rfl⟩
 refine aj ?_ ?_<;>intro h1
 ·have hlt:i<xs.length:=Y h1
  repeat refine ai ?_
  refine ak ?_
  repeat refine ai ?_
  refine U (e:=GatePurse.e) (xs:=xs) (hlt) rfl ?_
  repeat refine ai ?_
  refine U (e:=GatePurse.e) (xs:=xs) (hlt) rfl ?_
  repeat refine ai ?_
  refine oc (xc _) ?_
  repeat refine ai ?_
  refine an ?_
  exact ⟨_,_,_,⟨i+1,rfl,hlt,rfl,rfl⟩,by omega,rfl,rfl,⟨rfl,rfl,nd (V hlt hs),trivial⟩,trivial,trivial⟩
 ·rfl
theorem bh (x:GateBook):Spec P 19 [st x.e,st x.e] (.d (.bool true)):=by
 refine Spec.of_vc aP av [.tmp 4] Tryz.func19 rfl rfl rfl rfl (fun hok=>?_)
 repeat refine ai ?_
 refine an ?_
 repeat refine ai ?_
 refine an ?_
 repeat refine ai ?_
 refine an ?_
 repeat refine ai ?_
 refine oc (sQ _) ?_
 repeat refine ai ?_
 refine an ?_
 repeat refine ai ?_
 refine oc (um _) ?_
 repeat refine ai ?_
 refine an ?_
 repeat refine ai ?_
 refine oc (sR _) ?_
 repeat refine ai ?_
 refine an ?_
 repeat refine ai ?_
 refine oc (uj _) ?_
 repeat refine ai ?_
 refine an ?_
 repeat refine ai ?_
 rfl
end Go.Vc
end
section
namespace Go.Vc
section
variable {α:Type} {e:α→List D} {xs:List α} {z:List D} {i:Nat} {fs:List NT}
theorem dc {t n:Nat}:some (AO.tree t n fs (List.replicate ((((xs.map e).length:Nat):Int)).toNat z))=some (AO.tree t n fs (bf e xs z 0)):=by
 simp[bf]
theorem eM {t n:Nat} (hi:i<xs.length) (hz:(e xs[i]).length=z.length):
 some (AO.tree t n fs ((bf e xs z i).set i (d8 z 0 (e xs[i]))))=some (AO.tree t n fs (bf e xs z (i+1))):=by
 have:=cJ (t:=t) (n:=n) (e:=e) hi hz
 simp only[Option.some.injEq,AO.row.injEq,true_and] at this
 rw[this]
theorem eO {t n:Nat} (h:xs.length≤i) (hi:i≤xs.length):some (AO.tree t n fs (bf e xs z i))=some (AO.tree t n fs (xs.map e)):=by
 rw[cK h hi]
end
def aA {α:Type} (f:α→Int→α×Int):List α→Int→List α×Int
 |[],k=>([],k)
 |x::xs,k=>((f x k).1::(aA f xs (f x k).2).1,(aA f xs (f x k).2).2)
def gO {α:Type} (f:α→Int→α×Int) (xs:List α) (k:Int) (i:Nat):Int:=(aA f (xs.take i) k).2
def uS {α:Type} (f:α→Int→α×Int) (e:α→List D) (xs:List α) (k:Int) (i:Nat):List (List D):=((aA f (xs.take i) k).1++xs.drop i).map e
section
variable {α:Type} {f:α→Int→α×Int} {e:α→List D}
theorem yE:∀(xs:List α) (y:α) (k:Int),aA f (xs++[y]) k=((aA f xs k).1++[(f y (aA f xs k).2).1],(f y (aA f xs k).2).2)
 |[],y,k=>rfl
 |x::xs,y,k=>by
  simp only[List.cons_append,aA,yE xs y]
theorem bu:∀(xs:List α) (k:Int),(aA f xs k).1.length=xs.length
 |[],_=>rfl
 |x::xs,k=>by simp only[aA,List.length_cons,bu xs]
theorem yD {xs:List α} {i:Nat} (h:i<xs.length) (k:Int):aA f (xs.take (i+1)) k=((aA f (xs.take i) k).1++[(f xs[i] (gO f xs k i)).1],(f xs[i] (gO f xs k i)).2):=by
 rw[List.take_succ_eq_append_getElem h,yE];rfl
theorem cv {xs:List α} {i:Nat} (h:i<xs.length) (k:Int):(f xs[i] (gO f xs k i)).2=gO f xs k (i+1):=by
 unfold gO
 rw[yD h];rfl
theorem ce {xs:List α} {i:Nat} (k:Int) (h:i≤xs.length):(uS f e xs k i).length=xs.length:=by
 unfold uS
 rw[List.length_map,List.length_append,bu,List.length_take,List.length_drop];omega
theorem bj {xs:List α} {i:Nat} {k:Int} (h:i<xs.length):i<(uS f e xs k i).length:=by rw[ce k (Nat.le_of_lt h)];exact h
theorem aV {xs:List α} {i:Nat} {k:Int} (h:i<xs.length):(uS f e xs k i)[i]? =some (e xs[i]):=by
 unfold uS
 rw[List.getElem?_map,List.getElem?_append_right (by rw[bu,List.length_take];omega),bu,List.length_take,Nat.min_eq_left (Nat.le_of_lt h),Nat.sub_self,List.getElem?_drop,Nat.add_zero,List.getElem?_eq_getElem h]
 rfl
theorem eT {xs:List α} {i:Nat} {k:Int} (h:i<xs.length) {r:List D} (hr:r=e (f xs[i] (gO f xs k i)).1):(uS f e xs k i).set i r=uS f e xs k (i+1):=by
 subst hr
 unfold uS
 rw[yD h,List.drop_eq_getElem_cons h,←List.map_set]
 congr 1
 rw[List.set_append_right _ _ (by rw[bu,List.length_take];omega),bu,List.length_take,Nat.min_eq_left (Nat.le_of_lt h),Nat.sub_self,List.set_cons_zero,List.append_assoc]
 rfl
theorem gk {xs:List α} {i:Nat} {k:Int} (h:xs.length≤i):uS f e xs k i=(aA f xs k).1.map e:=by
 unfold uS
 rw[List.take_of_length_le h,List.drop_of_length_le h,List.append_nil]
theorem du {xs:List α} {i:Nat} {k:Int} (h:xs.length≤i):gO f xs k i=(aA f xs k).2:=by
 unfold gO
 rw[List.take_of_length_le h]
theorem gu {R:List (List D)} {i:Nat} {r:List D} (h:i<R.length):(R.set i r)[i]? =some r:=by
 rw[List.getElem?_set_self h]
theorem FM {xs:List α} {i:Nat} (k:Int) (h:i<xs.length) (h':i<(aA f xs k).1.length):(aA f xs k).1[i]=(f xs[i] (gO f xs k i)).1:=by
 have key:∀(xs:List α) (k:Int) (i:Nat) (h:i<xs.length),(aA f xs k).1[i]? =some (f xs[i] (gO f xs k i)).1:=by
  intro xs
  induction xs with
  |nil=>intro k i h;simp at h
  |cons x xs ih=>
   intro k i h
   cases i with
   |zero=>rfl
   |succ i=>
    simp only[aA,List.getElem?_cons_succ]
    rw[ih (f x k).2 i (by simpa using h)]
    rfl
 have:=key xs k i h
 rw[List.getElem?_eq_getElem h'] at this
 injection this
end
theorem vd {α:Type} {f:α→Int→α×Int} {e:α→List D} {xs:List α} {k:Int} {i sz:Nat} {K:List D→Prop} (hk:i<xs.length) (hs:(e (f xs[i] (gO f xs k i)).1).length=sz) (h:K (e (f xs[i] (gO f xs k i)).1)):
 (0:Int)≤(i:Int)∧∃b,(((aA f xs k).1).map e)[(i:Int).toNat]? =some b∧b.length=sz∧K b:=by
 have hk':i<(aA f xs k).1.length:=by rw[bu];exact hk
 rw[←FM k hk hk'] at hs h
 exact U hk' hs h
def wk (k:Int):Int:=IntKind.i64.wrap (k+1)
end Go.Vc
end
section
namespace Go.Vc
open Go.Proofs
def GateField.n:List NT:=[.leaf,.leaf,.leaf,.leaf,.list 9 1 [.leaf],.leaf,.leaf,.leaf,.leaf,.leaf,.leaf]
def GateField.a (x:GateField):List AV:=[.d (.str x.name),.d (.int .i64 x.kind),.d (.int .i64 x.least),.d (.int .i64 x.most),.own 0,.d (.str x.to_),.d (.int .i64 x.role),.d (.bool x.must),.d (.bool x.fixed),.d (.str x.default_),.d (.str x.weighs)]
def GateField.o (x:GateField):List (Nat×AO):=[(0,.tree 9 1 [.leaf] (x.words.map eB))]
def GateShape.n:List NT:=[.leaf,.list 138 11 [.leaf,.leaf,.leaf,.leaf,.list 9 1 [.leaf],.leaf,.leaf,.leaf,.leaf,.leaf,.leaf]]
def GateShape.a (x:GateShape):List AV:=[.d (.str x.kind),.own 0]
def GateShape.o (x:GateShape):List (Nat×AO):=[(0,.tree 138 11 GateField.n (x.fields.map GateField.e))]
def GateMend.n:List NT:=[.leaf,.leaf,.leaf,.leaf,.leaf,.leaf]
def GateMend.a (x:GateMend):List AV:=[.d (.str x.kind),.d (.str x.field),.d (.str x.when_),.d (.str x.is_),.d (.str x.put),.d (.str x.from_)]
def GateMend.o (x:GateMend):List (Nat×AO):=[]
def GateTeam.n:List NT:=[.leaf,.leaf]
def GateTeam.a (x:GateTeam):List AV:=[.d (.str x.name),.d (.str x.over)]
def GateTeam.o (x:GateTeam):List (Nat×AO):=[]
def GateLaw.n:List NT:=[.list 164 2 [.leaf,.list 138 11 [.leaf,.leaf,.leaf,.leaf,.list 9 1 [.leaf],.leaf,.leaf,.leaf,.leaf,.leaf,.leaf]],.list 166 6 [.leaf,.leaf,.leaf,.leaf,.leaf,.leaf],.list 168 2 [.leaf,.leaf]]
def GateLaw.a (x:GateLaw):List AV:=[.own 0,.own 1,.own 2]
def GateLaw.o (x:GateLaw):List (Nat×AO):=[(0,.tree 164 2 GateShape.n (x.shapes.map GateShape.e)),(1,.tree 166 6 GateMend.n (x.mends.map GateMend.e)),(2,.tree 168 2 GateTeam.n (x.teams.map GateTeam.e))]
def GateObject.n:List NT:=[.leaf,.leaf,.leaf,.list 9 1 [.leaf],.leaf,.list 9 1 [.leaf],.leaf]
def GateObject.a (x:GateObject):List AV:=[.d (.str x.kind),.d (.str x.name),.d (.str x.team),.own 0,.d (.bool x.ending),.own 1,.d (.int .i64 x.version)]
def GateObject.o (x:GateObject):List (Nat×AO):=[(0,.tree 9 1 [.leaf] (x.values.map eB)),(1,.tree 9 1 [.leaf] (x.holds.map eB))]
def GateRule.n:List NT:=[.list 3 1 [.leaf],.leaf,.leaf,.leaf]
def GateRule.a (x:GateRule):List AV:=[.own 0,.d (.str x.kind),.d (.str x.team),.d (.str x.prefix_)]
def GateRule.o (x:GateRule):List (Nat×AO):=[(0,.tree 3 1 [.leaf] (x.verbs.map eN))]
def GateGrant.n:List NT:=[.leaf,.leaf,.leaf,.list 3 1 [.leaf],.leaf,.leaf,.leaf]
def GateGrant.a (x:GateGrant):List AV:=[.d (.int .i64 x.number),.d (.str x.to_),.d (.str x.by_),.own 0,.d (.str x.rule.kind),.d (.str x.rule.team),.d (.str x.rule.prefix_)]
def GateGrant.o (x:GateGrant):List (Nat×AO):=[(0,.tree 3 1 [.leaf] (x.rule.verbs.map eN))]
def GateLedger.n:List NT:=[.leaf,.leaf,.leaf,.leaf]
def GateLedger.a (x:GateLedger):List AV:=[.d (.str x.team),.d (.str x.resource),.d (.int .i64 x.most),.d (.int .i64 x.free)]
def GateLedger.o (x:GateLedger):List (Nat×AO):=[]
def GatePurse.n:List NT:=[.leaf,.leaf,.leaf,.leaf,.leaf]
def GatePurse.a (x:GatePurse):List AV:=[.d (.str x.door),.d (.str x.team),.d (.str x.resource),.d (.int .i64 x.amount),.d (.int .i64 x.until_)]
def GatePurse.o (x:GatePurse):List (Nat×AO):=[]
def GateBook.n:List NT:=[.leaf,.leaf,.leaf,.list 103 7 [.leaf,.leaf,.leaf,.list 9 1 [.leaf],.leaf,.list 9 1 [.leaf],.leaf],.list 173 7 [.leaf,.leaf,.leaf,.list 3 1 [.leaf],.leaf,.leaf,.leaf],.list 119 4 [.leaf,.leaf,.leaf,.leaf],.list 109 5 [.leaf,.leaf,.leaf,.leaf,.leaf]]
def GateBook.a (x:GateBook):List AV:=[.d (.int .i64 x.now),.d (.int .i64 x.tick),.d (.int .i64 x.given),.own 0,.own 1,.own 2,.own 3]
def GateBook.o (x:GateBook):List (Nat×AO):=[(0,.tree 103 7 GateObject.n (x.objects.map GateObject.e)),(1,.tree 173 7 GateGrant.n (x.grants.map GateGrant.e)),(2,.tree 119 4 GateLedger.n (x.ledgers.map GateLedger.e)),(3,.tree 109 5 GatePurse.n (x.purses.map GatePurse.e))]
end Go.Vc
end
section
namespace Go.Vc
open Go.Proofs
set_option maxRecDepth 100000
theorem ko (xs:List Bs):HSpec P 179 [.d (lS xs)] hp0 (.own 0) ⟨[(0,.tree 9 1 [.leaf] (xs.map eB))],1,0⟩:=by
 refine af bW av [.tmp 2] Tryz.func179 rfl rfl rfl rfl (fun hok=>?_)
 have hs:xs.length≤al:=by have:=hok.1.1;rwa [List.length_map] at this
 repeat refine ai ?_
 refine aj (Int.natCast_nonneg _) (aj (Int.le_refl _) (aj (c7 hs) ?_))
 refine ⟨fun k l h=>∃i:Nat,k=xs.length - i∧i≤xs.length∧l=[(0,.d (lS xs)),(3,.own 0),(4,.d (.int .i64 i))]∧h=⟨[(0,.tree 9 1 [.leaf] (bf eB xs [D.str []] i))],1,0⟩,
  ⟨_,_,_,⟨0,rfl,Nat.zero_le _,rfl,rfl⟩,rfl,rfl,⟨rfl,rfl,rfl,trivial⟩,⟨rfl,trivial⟩,⟨dc,trivial⟩⟩,?_⟩
 rintro k l h1 ⟨i,rfl,hi,rfl,rfl⟩
 refine aj ?_ ?_<;>intro h1
 ·have hlt:i<xs.length:=Y h1
  repeat refine ai ?_
  refine U (e:=eB) (xs:=xs) (hlt) rfl ?_
  repeat refine ai ?_
  refine aj (Int.natCast_nonneg _) (aj (by rw[aX hi];omega) ?_)
  repeat refine ai ?_
  refine ⟨_,aY hlt,Nat.le_refl _,?_⟩
  exact ⟨_,_,_,⟨i+1,rfl,hlt,rfl,rfl⟩,by omega,rfl,rfl,⟨rfl,rfl,nd (V hlt hs),trivial⟩,⟨rfl,trivial⟩,⟨eM hlt rfl,trivial⟩⟩
 ·exact ⟨[some 0],rfl,rfl,⟨eO (Z h1) hi,rfl⟩,trivial⟩
theorem C0 (xs:List Int):HSpec P 209 [.d (lI xs)] hp0 (.own 0) ⟨[(0,.tree 3 1 [.leaf] (xs.map eN))],1,0⟩:=by
 refine af bW av [.tmp 2] Tryz.func209 rfl rfl rfl rfl (fun hok=>?_)
 have hs:xs.length≤al:=by have:=hok.1.1;rwa [List.length_map] at this
 repeat refine ai ?_
 refine aj (Int.natCast_nonneg _) (aj (Int.le_refl _) (aj (c7 hs) ?_))
 refine ⟨fun k l h=>∃i:Nat,k=xs.length - i∧i≤xs.length∧l=[(0,.d (lI xs)),(3,.own 0),(4,.d (.int .i64 i))]∧h=⟨[(0,.tree 3 1 [.leaf] (bf eN xs [D.int .i64 0] i))],1,0⟩,
  ⟨_,_,_,⟨0,rfl,Nat.zero_le _,rfl,rfl⟩,rfl,rfl,⟨rfl,rfl,rfl,trivial⟩,⟨rfl,trivial⟩,⟨dc,trivial⟩⟩,?_⟩
 rintro k l h1 ⟨i,rfl,hi,rfl,rfl⟩
 refine aj ?_ ?_<;>intro h1
 ·have hlt:i<xs.length:=Y h1
  repeat refine ai ?_
  refine U (e:=eN) (xs:=xs) (hlt) rfl ?_
  repeat refine ai ?_
  refine aj (Int.natCast_nonneg _) (aj (by rw[aX hi];omega) ?_)
  repeat refine ai ?_
  refine ⟨_,aY hlt,Nat.le_refl _,?_⟩
  exact ⟨_,_,_,⟨i+1,rfl,hlt,rfl,rfl⟩,by omega,rfl,rfl,⟨rfl,rfl,nd (V hlt hs),trivial⟩,⟨rfl,trivial⟩,⟨eM hlt rfl,trivial⟩⟩
 ·exact ⟨[some 0],rfl,rfl,⟨eO (Z h1) hi,rfl⟩,trivial⟩
set_option maxHeartbeats 2000000 in
theorem tC (x:GateField):HSpec P 208 [st x.e] hp0 (.agg x.a) ⟨x.o,1,0⟩:=by
 refine af bW av [.cell 2 138] Tryz.func208 rfl rfl rfl rfl (fun hok=>?_)
 repeat refine ai ?_
 refine ow (ko _) ?_
 repeat refine ai ?_
 exact ⟨[some 3],by (repeat' first|exact rfl|exact trivial|refine aj ?_ ?_)⟩
theorem q9 (xs:List GateField):HSpec P 178 [.d (ab xs)] hp0 (.own 0) ⟨[(0,.tree 138 11 GateField.n (xs.map GateField.e))],1,0⟩:=by
 refine af bW av [.tmp 2] Tryz.func178 rfl rfl rfl rfl (fun hok=>?_)
 have hs:xs.length≤al:=by have:=hok.1.1;rwa [List.length_map] at this
 repeat refine ai ?_
 refine aj (Int.natCast_nonneg _) (aj (Int.le_refl _) (aj (c7 hs) ?_))
 refine ⟨fun k l h=>∃i:Nat,k=xs.length - i∧i≤xs.length∧l=[(0,.d (ab xs)),(3,.own 0),(4,.d (.int .i64 i))]∧h=⟨[(0,.tree 138 11 GateField.n (bf GateField.e xs GateField.z i))],1,0⟩,
  ⟨_,_,_,⟨0,rfl,Nat.zero_le _,rfl,rfl⟩,rfl,rfl,⟨rfl,rfl,rfl,trivial⟩,⟨rfl,trivial⟩,⟨dc,trivial⟩⟩,?_⟩
 rintro k l h1 ⟨i,rfl,hi,rfl,rfl⟩
 refine aj ?_ ?_<;>intro h1
 ·have hlt:i<xs.length:=Y h1
  repeat refine ai ?_
  refine U (e:=GateField.e) (xs:=xs) (hlt) rfl ?_
  repeat refine ai ?_
  refine ow (tC _) ?_
  repeat refine ai ?_
  refine aj (Int.natCast_nonneg _) (aj (by rw[aX hi];omega) ?_)
  repeat refine ai ?_
  refine ⟨_,aY hlt,Nat.le_refl _,?_⟩
  exact ⟨_,_,_,⟨i+1,rfl,hlt,rfl,rfl⟩,by omega,rfl,rfl,⟨rfl,rfl,nd (V hlt hs),trivial⟩,⟨rfl,trivial⟩,⟨eM hlt rfl,trivial⟩⟩
 ·exact ⟨[some 0],rfl,rfl,⟨eO (Z h1) hi,rfl⟩,trivial⟩
set_option maxHeartbeats 2000000 in
theorem tz (x:GateShape):HSpec P 118 [st x.e] hp0 (.agg x.a) ⟨x.o,1,0⟩:=by
 refine af bW av [.cell 2 164] Tryz.func118 rfl rfl rfl rfl (fun hok=>?_)
 repeat refine ai ?_
 refine ow (q9 _) ?_
 repeat refine ai ?_
 exact ⟨[some 3],by (repeat' first|exact rfl|exact trivial|refine aj ?_ ?_)⟩
theorem qW (xs:List GateShape):HSpec P 48 [.d (aa xs)] hp0 (.own 0) ⟨[(0,.tree 164 2 GateShape.n (xs.map GateShape.e))],1,0⟩:=by
 refine af bW av [.tmp 2] Tryz.func48 rfl rfl rfl rfl (fun hok=>?_)
 have hs:xs.length≤al:=by have:=hok.1.1;rwa [List.length_map] at this
 repeat refine ai ?_
 refine aj (Int.natCast_nonneg _) (aj (Int.le_refl _) (aj (c7 hs) ?_))
 refine ⟨fun k l h=>∃i:Nat,k=xs.length - i∧i≤xs.length∧l=[(0,.d (aa xs)),(3,.own 0),(4,.d (.int .i64 i))]∧h=⟨[(0,.tree 164 2 GateShape.n (bf GateShape.e xs GateShape.z i))],1,0⟩,
  ⟨_,_,_,⟨0,rfl,Nat.zero_le _,rfl,rfl⟩,rfl,rfl,⟨rfl,rfl,rfl,trivial⟩,⟨rfl,trivial⟩,⟨dc,trivial⟩⟩,?_⟩
 rintro k l h1 ⟨i,rfl,hi,rfl,rfl⟩
 refine aj ?_ ?_<;>intro h1
 ·have hlt:i<xs.length:=Y h1
  repeat refine ai ?_
  refine U (e:=GateShape.e) (xs:=xs) (hlt) rfl ?_
  repeat refine ai ?_
  refine ow (tz _) ?_
  repeat refine ai ?_
  refine aj (Int.natCast_nonneg _) (aj (by rw[aX hi];omega) ?_)
  repeat refine ai ?_
  refine ⟨_,aY hlt,Nat.le_refl _,?_⟩
  exact ⟨_,_,_,⟨i+1,rfl,hlt,rfl,rfl⟩,by omega,rfl,rfl,⟨rfl,rfl,nd (V hlt hs),trivial⟩,⟨rfl,trivial⟩,⟨eM hlt rfl,trivial⟩⟩
 ·exact ⟨[some 0],rfl,rfl,⟨eO (Z h1) hi,rfl⟩,trivial⟩
theorem tA (xs:List GateMend):HSpec P 49 [.d (ag xs)] hp0 (.own 0) ⟨[(0,.tree 166 6 GateMend.n (xs.map GateMend.e))],1,0⟩:=by
 refine af bW av [.tmp 2] Tryz.func49 rfl rfl rfl rfl (fun hok=>?_)
 have hs:xs.length≤al:=by have:=hok.1.1;rwa [List.length_map] at this
 repeat refine ai ?_
 refine aj (Int.natCast_nonneg _) (aj (Int.le_refl _) (aj (c7 hs) ?_))
 refine ⟨fun k l h=>∃i:Nat,k=xs.length - i∧i≤xs.length∧l=[(0,.d (ag xs)),(3,.own 0),(4,.d (.int .i64 i))]∧h=⟨[(0,.tree 166 6 GateMend.n (bf GateMend.e xs GateMend.z i))],1,0⟩,
  ⟨_,_,_,⟨0,rfl,Nat.zero_le _,rfl,rfl⟩,rfl,rfl,⟨rfl,rfl,rfl,trivial⟩,⟨rfl,trivial⟩,⟨dc,trivial⟩⟩,?_⟩
 rintro k l h1 ⟨i,rfl,hi,rfl,rfl⟩
 refine aj ?_ ?_<;>intro h1
 ·have hlt:i<xs.length:=Y h1
  repeat refine ai ?_
  refine U (e:=GateMend.e) (xs:=xs) (hlt) rfl ?_
  repeat refine ai ?_
  refine oc (pA _) ?_
  repeat refine ai ?_
  refine aj (Int.natCast_nonneg _) (aj (by rw[aX hi];omega) ?_)
  repeat refine ai ?_
  refine ⟨_,aY hlt,Nat.le_refl _,?_⟩
  exact ⟨_,_,_,⟨i+1,rfl,hlt,rfl,rfl⟩,by omega,rfl,rfl,⟨rfl,rfl,nd (V hlt hs),trivial⟩,⟨rfl,trivial⟩,⟨eM hlt rfl,trivial⟩⟩
 ·exact ⟨[some 0],rfl,rfl,⟨eO (Z h1) hi,rfl⟩,trivial⟩
theorem tx (xs:List GateTeam):HSpec P 50 [.d (ao xs)] hp0 (.own 0) ⟨[(0,.tree 168 2 GateTeam.n (xs.map GateTeam.e))],1,0⟩:=by
 refine af bW av [.tmp 2] Tryz.func50 rfl rfl rfl rfl (fun hok=>?_)
 have hs:xs.length≤al:=by have:=hok.1.1;rwa [List.length_map] at this
 repeat refine ai ?_
 refine aj (Int.natCast_nonneg _) (aj (Int.le_refl _) (aj (c7 hs) ?_))
 refine ⟨fun k l h=>∃i:Nat,k=xs.length - i∧i≤xs.length∧l=[(0,.d (ao xs)),(3,.own 0),(4,.d (.int .i64 i))]∧h=⟨[(0,.tree 168 2 GateTeam.n (bf GateTeam.e xs GateTeam.z i))],1,0⟩,
  ⟨_,_,_,⟨0,rfl,Nat.zero_le _,rfl,rfl⟩,rfl,rfl,⟨rfl,rfl,rfl,trivial⟩,⟨rfl,trivial⟩,⟨dc,trivial⟩⟩,?_⟩
 rintro k l h1 ⟨i,rfl,hi,rfl,rfl⟩
 refine aj ?_ ?_<;>intro h1
 ·have hlt:i<xs.length:=Y h1
  repeat refine ai ?_
  refine U (e:=GateTeam.e) (xs:=xs) (hlt) rfl ?_
  repeat refine ai ?_
  refine oc (pz _) ?_
  repeat refine ai ?_
  refine aj (Int.natCast_nonneg _) (aj (by rw[aX hi];omega) ?_)
  repeat refine ai ?_
  refine ⟨_,aY hlt,Nat.le_refl _,?_⟩
  exact ⟨_,_,_,⟨i+1,rfl,hlt,rfl,rfl⟩,by omega,rfl,rfl,⟨rfl,rfl,nd (V hlt hs),trivial⟩,⟨rfl,trivial⟩,⟨eM hlt rfl,trivial⟩⟩
 ·exact ⟨[some 0],rfl,rfl,⟨eO (Z h1) hi,rfl⟩,trivial⟩
set_option maxHeartbeats 2000000 in
theorem kq (x:GateLaw):HSpec P 14 [st x.e] hp0 (.agg x.a) ⟨x.o,3,0⟩:=by
 refine af bW av [.cell 2 41] Tryz.func14 rfl rfl rfl rfl (fun hok=>?_)
 repeat refine ai ?_
 refine ow (qW _) ?_
 repeat refine ai ?_
 refine ow (tA _) ?_
 repeat refine ai ?_
 refine ow (tx _) ?_
 repeat refine ai ?_
 exact ⟨[some 3,some 4,some 5],by (repeat' first|exact rfl|exact trivial|refine aj ?_ ?_)⟩
set_option maxHeartbeats 2000000 in
theorem qY (x:GateObject):HSpec P 121 [st x.e] hp0 (.agg x.a) ⟨x.o,2,0⟩:=by
 refine af bW av [.cell 2 103] Tryz.func121 rfl rfl rfl rfl (fun hok=>?_)
 repeat refine ai ?_
 refine ow (ko _) ?_
 repeat refine ai ?_
 refine ow (ko _) ?_
 repeat refine ai ?_
 exact ⟨[some 3,some 4],by (repeat' first|exact rfl|exact trivial|refine aj ?_ ?_)⟩
theorem pU (xs:List GateObject):HSpec P 51 [.d (aE xs)] hp0 (.own 0) ⟨[(0,.tree 103 7 GateObject.n (xs.map GateObject.e))],1,0⟩:=by
 refine af bW av [.tmp 2] Tryz.func51 rfl rfl rfl rfl (fun hok=>?_)
 have hs:xs.length≤al:=by have:=hok.1.1;rwa [List.length_map] at this
 repeat refine ai ?_
 refine aj (Int.natCast_nonneg _) (aj (Int.le_refl _) (aj (c7 hs) ?_))
 refine ⟨fun k l h=>∃i:Nat,k=xs.length - i∧i≤xs.length∧l=[(0,.d (aE xs)),(3,.own 0),(4,.d (.int .i64 i))]∧h=⟨[(0,.tree 103 7 GateObject.n (bf GateObject.e xs GateObject.z i))],1,0⟩,
  ⟨_,_,_,⟨0,rfl,Nat.zero_le _,rfl,rfl⟩,rfl,rfl,⟨rfl,rfl,rfl,trivial⟩,⟨rfl,trivial⟩,⟨dc,trivial⟩⟩,?_⟩
 rintro k l h1 ⟨i,rfl,hi,rfl,rfl⟩
 refine aj ?_ ?_<;>intro h1
 ·have hlt:i<xs.length:=Y h1
  repeat refine ai ?_
  refine U (e:=GateObject.e) (xs:=xs) (hlt) rfl ?_
  repeat refine ai ?_
  refine ow (qY _) ?_
  repeat refine ai ?_
  refine aj (Int.natCast_nonneg _) (aj (by rw[aX hi];omega) ?_)
  repeat refine ai ?_
  refine ⟨_,aY hlt,Nat.le_refl _,?_⟩
  exact ⟨_,_,_,⟨i+1,rfl,hlt,rfl,rfl⟩,by omega,rfl,rfl,⟨rfl,rfl,nd (V hlt hs),trivial⟩,⟨rfl,trivial⟩,⟨eM hlt rfl,trivial⟩⟩
 ·exact ⟨[some 0],rfl,rfl,⟨eO (Z h1) hi,rfl⟩,trivial⟩
set_option maxHeartbeats 2000000 in
theorem wa (x:GateRule):HSpec P 180 [st x.e] hp0 (.agg x.a) ⟨x.o,1,0⟩:=by
 refine af bW av [.cell 2 171] Tryz.func180 rfl rfl rfl rfl (fun hok=>?_)
 repeat refine ai ?_
 refine ow (C0 _) ?_
 repeat refine ai ?_
 exact ⟨[some 3],by (repeat' first|exact rfl|exact trivial|refine aj ?_ ?_)⟩
set_option maxHeartbeats 2000000 in
theorem tB (x:GateGrant):HSpec P 122 [st x.e] hp0 (.agg x.a) ⟨x.o,1,0⟩:=by
 refine af bW av [.cell 2 173] Tryz.func122 rfl rfl rfl rfl (fun hok=>?_)
 repeat refine ai ?_
 refine ow (wa _) ?_
 repeat refine ai ?_
 exact ⟨[some 3],by (repeat' first|exact rfl|exact trivial|refine aj ?_ ?_)⟩
theorem qZ (xs:List GateGrant):HSpec P 52 [.d (aU xs)] hp0 (.own 0) ⟨[(0,.tree 173 7 GateGrant.n (xs.map GateGrant.e))],1,0⟩:=by
 refine af bW av [.tmp 2] Tryz.func52 rfl rfl rfl rfl (fun hok=>?_)
 have hs:xs.length≤al:=by have:=hok.1.1;rwa [List.length_map] at this
 repeat refine ai ?_
 refine aj (Int.natCast_nonneg _) (aj (Int.le_refl _) (aj (c7 hs) ?_))
 refine ⟨fun k l h=>∃i:Nat,k=xs.length - i∧i≤xs.length∧l=[(0,.d (aU xs)),(3,.own 0),(4,.d (.int .i64 i))]∧h=⟨[(0,.tree 173 7 GateGrant.n (bf GateGrant.e xs GateGrant.z i))],1,0⟩,
  ⟨_,_,_,⟨0,rfl,Nat.zero_le _,rfl,rfl⟩,rfl,rfl,⟨rfl,rfl,rfl,trivial⟩,⟨rfl,trivial⟩,⟨dc,trivial⟩⟩,?_⟩
 rintro k l h1 ⟨i,rfl,hi,rfl,rfl⟩
 refine aj ?_ ?_<;>intro h1
 ·have hlt:i<xs.length:=Y h1
  repeat refine ai ?_
  refine U (e:=GateGrant.e) (xs:=xs) (hlt) rfl ?_
  repeat refine ai ?_
  refine ow (tB _) ?_
  repeat refine ai ?_
  refine aj (Int.natCast_nonneg _) (aj (by rw[aX hi];omega) ?_)
  repeat refine ai ?_
  refine ⟨_,aY hlt,Nat.le_refl _,?_⟩
  exact ⟨_,_,_,⟨i+1,rfl,hlt,rfl,rfl⟩,by omega,rfl,rfl,⟨rfl,rfl,nd (V hlt hs),trivial⟩,⟨rfl,trivial⟩,⟨eM hlt rfl,trivial⟩⟩
 ·exact ⟨[some 0],rfl,rfl,⟨eO (Z h1) hi,rfl⟩,trivial⟩
theorem pV (xs:List GateLedger):HSpec P 53 [.d (aJ xs)] hp0 (.own 0) ⟨[(0,.tree 119 4 GateLedger.n (xs.map GateLedger.e))],1,0⟩:=by
 refine af bW av [.tmp 2] Tryz.func53 rfl rfl rfl rfl (fun hok=>?_)
 have hs:xs.length≤al:=by have:=hok.1.1;rwa [List.length_map] at this
 repeat refine ai ?_
 refine aj (Int.natCast_nonneg _) (aj (Int.le_refl _) (aj (c7 hs) ?_))
 refine ⟨fun k l h=>∃i:Nat,k=xs.length - i∧i≤xs.length∧l=[(0,.d (aJ xs)),(3,.own 0),(4,.d (.int .i64 i))]∧h=⟨[(0,.tree 119 4 GateLedger.n (bf GateLedger.e xs GateLedger.z i))],1,0⟩,
  ⟨_,_,_,⟨0,rfl,Nat.zero_le _,rfl,rfl⟩,rfl,rfl,⟨rfl,rfl,rfl,trivial⟩,⟨rfl,trivial⟩,⟨dc,trivial⟩⟩,?_⟩
 rintro k l h1 ⟨i,rfl,hi,rfl,rfl⟩
 refine aj ?_ ?_<;>intro h1
 ·have hlt:i<xs.length:=Y h1
  repeat refine ai ?_
  refine U (e:=GateLedger.e) (xs:=xs) (hlt) rfl ?_
  repeat refine ai ?_
  refine oc (lL _) ?_
  repeat refine ai ?_
  refine aj (Int.natCast_nonneg _) (aj (by rw[aX hi];omega) ?_)
  repeat refine ai ?_
  refine ⟨_,aY hlt,Nat.le_refl _,?_⟩
  exact ⟨_,_,_,⟨i+1,rfl,hlt,rfl,rfl⟩,by omega,rfl,rfl,⟨rfl,rfl,nd (V hlt hs),trivial⟩,⟨rfl,trivial⟩,⟨eM hlt rfl,trivial⟩⟩
 ·exact ⟨[some 0],rfl,rfl,⟨eO (Z h1) hi,rfl⟩,trivial⟩
theorem qX (xs:List GatePurse):HSpec P 54 [.d (aN xs)] hp0 (.own 0) ⟨[(0,.tree 109 5 GatePurse.n (xs.map GatePurse.e))],1,0⟩:=by
 refine af bW av [.tmp 2] Tryz.func54 rfl rfl rfl rfl (fun hok=>?_)
 have hs:xs.length≤al:=by have:=hok.1.1;rwa [List.length_map] at this
 repeat refine ai ?_
 refine aj (Int.natCast_nonneg _) (aj (Int.le_refl _) (aj (c7 hs) ?_))
 refine ⟨fun k l h=>∃i:Nat,k=xs.length - i∧i≤xs.length∧l=[(0,.d (aN xs)),(3,.own 0),(4,.d (.int .i64 i))]∧h=⟨[(0,.tree 109 5 GatePurse.n (bf GatePurse.e xs GatePurse.z i))],1,0⟩,
  ⟨_,_,_,⟨0,rfl,Nat.zero_le _,rfl,rfl⟩,rfl,rfl,⟨rfl,rfl,rfl,trivial⟩,⟨rfl,trivial⟩,⟨dc,trivial⟩⟩,?_⟩
 rintro k l h1 ⟨i,rfl,hi,rfl,rfl⟩
 refine aj ?_ ?_<;>intro h1
 ·have hlt:i<xs.length:=Y h1
  repeat refine ai ?_
  refine U (e:=GatePurse.e) (xs:=xs) (hlt) rfl ?_
  repeat refine ai ?_
  refine oc (m3 _) ?_
  repeat refine ai ?_
  refine aj (Int.natCast_nonneg _) (aj (by rw[aX hi];omega) ?_)
  repeat refine ai ?_
  refine ⟨_,aY hlt,Nat.le_refl _,?_⟩
  exact ⟨_,_,_,⟨i+1,rfl,hlt,rfl,rfl⟩,by omega,rfl,rfl,⟨rfl,rfl,nd (V hlt hs),trivial⟩,⟨rfl,trivial⟩,⟨eM hlt rfl,trivial⟩⟩
 ·exact ⟨[some 0],rfl,rfl,⟨eO (Z h1) hi,rfl⟩,trivial⟩
set_option maxHeartbeats 2000000 in
theorem js (x:GateBook):HSpec P 15 [st x.e] hp0 (.agg x.a) ⟨x.o,4,0⟩:=by
 refine af bW av [.cell 2 48] Tryz.func15 rfl rfl rfl rfl (fun hok=>?_)
 repeat refine ai ?_
 refine ow (pU _) ?_
 repeat refine ai ?_
 refine ow (qZ _) ?_
 repeat refine ai ?_
 refine ow (pV _) ?_
 repeat refine ai ?_
 refine ow (qX _) ?_
 repeat refine ai ?_
 exact ⟨[some 3,some 4,some 5,some 6],by (repeat' first|exact rfl|exact trivial|refine aj ?_ ?_)⟩
end Go.Vc
end
section
namespace Go.Vc
open Go.Proofs
set_option maxRecDepth 100000
section
variable {α:Type} {e:α→List D} {xs:List α} {k:Nat}
theorem DJ (h:k<xs.length):(xs.map e)[k]? =some (e xs[k]):=by simp[h]
theorem dB {K:Prop} (h:k<xs.length) (q:K):(0:Int)≤(k:Int)∧(k:Int)<(((xs.map e).length:Nat):Int)∧K:=⟨Int.natCast_nonneg _,by rw[List.length_map];omega,q⟩
theorem eL {K:List D→Prop} (h:k<xs.length) (q:K (e xs[k])):∃r,(xs.map e)[k]? =some r∧K r:=⟨_,DJ h,q⟩
theorem AZ {t sz:Nat} {fs:List NT} {r:List D} {y:α} (hr:r=e y):some (AO.tree t sz fs ((xs.map e).set k r))=some (AO.tree t sz fs ((xs.set k y).map e)):=by
 rw[hr,List.map_set]
theorem dJ {t sz:Nat} {fs:List NT} {a b:List (List D)} (h:a=b):some (AO.tree t sz fs a)=some (AO.tree t sz fs b):=by rw[h]
end
section
variable {α:Type} {xs:List α} {i q:Nat}
def qm (xs:List α) (i q:Nat):List α:=(xs.take q).eraseIdx i
theorem GA:qm xs i 0=[]:=rfl
theorem Ee (h:q<xs.length) (e:(((q:Nat):Int)!=((i:Nat):Int))=false):qm xs i (q+1)=qm xs i q:=by
 have e:q=i:=by
  have:=bne_eq_false_iff_eq.1 e
  omega
 subst e
 unfold qm
 rw[List.take_succ_eq_append_getElem h,List.eraseIdx_append_of_length_le (by rw[List.length_take];omega),List.eraseIdx_of_length_le (l:=xs.take q) (by rw[List.length_take];omega),List.length_take,Nat.min_eq_left (Nat.le_of_lt h),Nat.sub_self]
 simp
theorem Eg (h:q<xs.length) (e:(((q:Nat):Int)!=((i:Nat):Int))=true):qm xs i (q+1)=qm xs i q++[xs[q]]:=by
 have e:q≠i:=by
  have:=bne_iff_ne.1 e
  omega
 unfold qm
 rw[List.take_succ_eq_append_getElem h]
 rcases Nat.lt_or_ge i q with g|g
 ·rw[List.eraseIdx_append_of_lt_length (by rw[List.length_take];omega)]
 ·rw[List.eraseIdx_append_of_length_le (by rw[List.length_take];omega),List.eraseIdx_of_length_le (l:=xs.take q) (by rw[List.length_take];omega),List.length_take,Nat.min_eq_left (Nat.le_of_lt h),
   List.eraseIdx_of_length_le (by simp;omega)]
theorem Fh (h:xs.length≤q):qm xs i q=xs.eraseIdx i:=by
 unfold qm
 rw[List.take_of_length_le h]
theorem Fg:(qm xs i q).length≤q:=by
 unfold qm
 have:=List.length_eraseIdx_le (xs.take q) i
 rw[List.length_take] at this
 omega
end
def xn (g:GateLedger) (n:Int):GateLedger:={g with free:=cq g.free n}
def gG (b:GateBook) (i k:Nat) (hi:i<b.purses.length) (hk:k<b.ledgers.length):GateBook:=
 {b with ledgers:=b.ledgers.set k (xn b.ledgers[k] b.purses[i].amount),purses:=b.purses.eraseIdx i}
abbrev ka (b:GateBook) (t r:Bs):Int:=dW (fun x=>x.team==t&&x.resource==r) b.ledgers
abbrev oU (b:GateBook) (d t r:Bs):Int:=dW (fun x=>x.door==d&&(x.team==t&&x.resource==r)) b.purses
def pC (b:GateBook):Prop:=∀p∈b.purses,b.ledgers.any (fun g=>g.team==p.team&&g.resource==p.resource)=true
def oa (b:GateBook) (i:Nat):GateBook:=match b.purses[i]? with
 |none=>b
 |some p=>match b.ledgers[(ka b p.team p.resource).toNat]? with
  |none=>b
  |some g=>{b with ledgers:=b.ledgers.set (ka b p.team p.resource).toNat (xn g p.amount),purses:=b.purses.eraseIdx i}
theorem sw {b:GateBook} {i:Nat} (h:pC b) (hi:i<b.purses.length):∃k:Nat,∃hk:k<b.ledgers.length,ka b b.purses[i].team b.purses[i].resource=(k:Int)∧oa b i=gG b i k hi hk:=by
 have ha:=h _ (List.getElem_mem hi)
 obtain ⟨k,hk,e,_⟩:=cx (by rw[iB];exact ha)
 refine ⟨k,hk,e,?_⟩
 simp only[oa,List.getElem?_eq_getElem hi,e,Int.toNat_natCast,List.getElem?_eq_getElem hk]
 rfl
theorem Ev {b:GateBook} {i k:Nat} (hi:i<b.purses.length) (hk:k<b.ledgers.length) (t r:Bs):(gG b i k hi hk).ledgers.any (fun g=>g.team==t&&g.resource==r)=b.ledgers.any (fun g=>g.team==t&&g.resource==r):=by
 have h:∀(xs:List GateLedger) (k:Nat) (hk:k<xs.length) (n:Int),(xs.set k (xn xs[k] n)).any (fun g=>g.team==t&&g.resource==r)=xs.any (fun g=>g.team==t&&g.resource==r):=by
  intro xs
  induction xs with
  |nil=>intro k hk;simp at hk
  |cons x xs ih=>
   intro k hk n
   cases k with
   |zero=>rfl
   |succ k=>
    simp only[List.set_cons_succ,List.any_cons,List.getElem_cons_succ]
    rw[ih k (by simpa using hk) n]
 exact h b.ledgers k hk _
theorem vC {b:GateBook} {i:Nat} (h:pC b) (hi:i<b.purses.length):pC (oa b i):=by
 obtain ⟨k,hk,_,e⟩:=sw h hi
 rw[e]
 intro p hp
 rw[Ev hi hk]
 exact h p (List.mem_of_mem_eraseIdx hp)
theorem vw {α:Type} {r:Option α→α→Bool} {q:α→Bool} (h:∀p x,r p x=true→q x=true):∀{xs:List α} {p:Option α},az r p xs=true→∀x∈xs,q x=true
 |[],_,_,x,hx=>by cases hx
 |y::xs,p,hc,x,hx=>by
  simp only[az,Bool.and_eq_true] at hc
  rcases List.mem_cons.1 hx with rfl|hx
  ·exact h _ _ hc.1
  ·exact vw h hc.2 x hx
theorem qq {L:GateLaw} {b:GateBook} (h:cb L b=true):pC b:=by
 have hs:ia L b=true:=by
  unfold cb at h
  simp only[Bool.and_eq_true] at h
  first|exact h.2.2.2|exact h.2.2.2.2|exact h.2.2.2.2.2|exact h.2.2.2.2.2.2
 simp only[ia,Bool.and_eq_true] at hs
 refine vw (fun p x hx=>?_) hs.2.2.2.1
 simp only[kD,Bool.and_eq_true] at hx
 exact hx.2.1
def vz (b:GateBook) (o g l p:Nat):AO:= .cells 48 [.d (.int .i64 b.now),.d (.int .i64 b.tick),.d (.int .i64 b.given),.own o,.own g,.own l,.own p]
def Gg (b:GateBook) (o g l p:Nat):AV:= .agg [.d (.int .i64 b.now),.d (.int .i64 b.tick),.d (.int .i64 b.given),.own o,.own g,.own l,.own p]
def EH (b:GateBook):AO:= .tree 103 7 GateObject.n (b.objects.map GateObject.e)
def Fr (b:GateBook):AO:= .tree 173 7 GateGrant.n (b.grants.map GateGrant.e)
def Fq (b:GateBook):AO:= .tree 119 4 GateLedger.n (b.ledgers.map GateLedger.e)
def Fp (b:GateBook):AO:= .tree 109 5 GatePurse.n (b.purses.map GatePurse.e)
theorem vm (b:GateBook) (t r:Bs) (k:Nat) (h:ka b t r=(k:Int)):Spec P 98 [st b.e,.d (.str t),.d (.str r)] (.d (.int .i64 (k:Int))):=by
 rw[←h];exact sD b t r
theorem uD (b:GateBook) (t r:Bs) (k:Nat) (h:ka b t r=(k:Int)):Spec P 93 [st b.e,.d (.str t),.d (.str r)] (.d (.int .i64 (k:Int))):=by
 rw[←h];exact mj b t r
end Go.Vc
end
section
namespace Go.Vc
open Go.Proofs
set_option maxRecDepth 100000
theorem AD (xs:List Bs):∀r∈xs.map eB,gR 1 r:=fun r hr=>by
 obtain ⟨x,_,rfl⟩:=List.mem_map.1 hr
 exact ⟨rfl,fun d hd=>by rw[List.mem_singleton.1 hd];rfl⟩
theorem D7 (xs:List Int):∀r∈xs.map eN,gR 1 r:=fun r hr=>by
 obtain ⟨x,_,rfl⟩:=List.mem_map.1 hr
 exact ⟨rfl,fun d hd=>by rw[List.mem_singleton.1 hd];rfl⟩
theorem FU (xs:List GateLedger):∀r∈xs.map GateLedger.e,gR 4 r:=fun r hr=>by
 obtain ⟨x,_,rfl⟩:=List.mem_map.1 hr
 exact ⟨rfl,fun d hd=>by simp only[GateLedger.e,List.mem_cons,List.not_mem_nil,or_false] at hd;rcases hd with rfl|rfl|rfl|rfl<;>rfl⟩
theorem D6 (xs:List GatePurse):∀r∈xs.map GatePurse.e,gR 5 r:=fun r hr=>by
 obtain ⟨x,_,rfl⟩:=List.mem_map.1 hr
 exact ⟨rfl,fun d hd=>by simp only[GatePurse.e,List.mem_cons,List.not_mem_nil,or_false] at hd;rcases hd with rfl|rfl|rfl|rfl|rfl<;>rfl⟩
theorem nS (xs:List Bs):HSpec P 192 [.d (lS xs)] hp0 (.own 0) ⟨[(0,.tree 9 1 [.leaf] (xs.map eB))],1,0⟩:=by
 refine af bW av [.tmp 2] Tryz.func192 rfl rfl rfl rfl (fun hok=>?_)
 have hs:xs.length≤al:=au hok.1.1
 repeat refine ai ?_
 refine aj ?_ ?_<;>intro h1
 ·rw[List.length_map] at h1
  have:=beq_iff_eq.1 h1
  have:xs=[]:=List.eq_nil_of_length_eq_zero (by omega)
  subst this
  repeat refine ai ?_
  exact ⟨[none],by repeat' first|exact rfl|exact trivial|refine aj ?_ ?_⟩
 ·rw[List.length_map] at h1
  have h1:=beq_eq_false_iff_ne.1 h1
  repeat refine ai ?_
  refine ⟨Int.natCast_nonneg _,Int.le_refl _,c7 hs,?_⟩
  repeat refine ai ?_
  refine ⟨?_,?_,AD xs,?_⟩
  ·simp
  ·rw[List.length_map];omega
  repeat refine ai ?_
  exact ⟨[some 0],by repeat' first|exact rfl|exact trivial|refine aj ?_ ?_⟩
theorem E5 (o:GateObject):HSpec P 145 [st o.e] hp0 (.agg o.a) ⟨o.o,2,0⟩:=by
 refine af bW av [.cell 2 103] Tryz.func145 rfl rfl rfl rfl (fun hok=>?_)
 repeat refine ai ?_
 refine ow (nS _) ?_
 repeat refine ai ?_
 refine ow (nS _) ?_
 repeat refine ai ?_
 exact ⟨[some 2,some 3],by repeat' first|exact rfl|exact trivial|refine aj ?_ ?_⟩
theorem Ar (x:GateRule):HSpec P 193 [st x.e] hp0 (.agg x.a) ⟨x.o,1,0⟩:=by
 refine af bW av [.cell 2 171] Tryz.func193 rfl rfl rfl rfl (fun hok=>?_)
 have hs:x.verbs.length≤al:=by
  have:=hok.1
  simp only[st,AV.ok,GateRule.e,List.map,ex] at this
  exact au this.1.1
 repeat refine ai ?_
 refine aj ?_ ?_<;>intro h1
 ·rw[List.length_map] at h1
  have:=beq_iff_eq.1 h1
  have hv:x.verbs=[]:=List.eq_nil_of_length_eq_zero (by omega)
  have ho:x.o=[(0,.tree 3 1 [.leaf] [])]:=by unfold GateRule.o;rw[hv];rfl
  rw[ho]
  repeat refine ai ?_
  exact ⟨[none],by repeat' first|exact rfl|exact trivial|refine aj ?_ ?_⟩
 ·rw[List.length_map] at h1
  have h1:=beq_eq_false_iff_ne.1 h1
  repeat refine ai ?_
  refine ⟨Int.natCast_nonneg _,Int.le_refl _,c7 hs,?_⟩
  repeat refine ai ?_
  refine ⟨?_,?_,D7 x.verbs,?_⟩
  ·simp
  ·rw[List.length_map];omega
  repeat refine ai ?_
  exact ⟨[some 2],by repeat' first|exact rfl|exact trivial|refine aj ?_ ?_⟩
theorem yV (x:GateGrant):HSpec P 147 [st x.e] hp0 (.agg x.a) ⟨x.o,1,0⟩:=by
 refine af bW av [.cell 2 173] Tryz.func147 rfl rfl rfl rfl (fun hok=>?_)
 repeat refine ai ?_
 refine ow (Ar x.rule) ?_
 repeat refine ai ?_
 exact ⟨[some 2],by repeat' first|exact rfl|exact trivial|refine aj ?_ ?_⟩
theorem E8 (x:GateLedger):Spec P 149 [st x.e] (st x.e):=by
 refine Spec.of_vc bW av [.cell 2 119] Tryz.func149 rfl rfl rfl rfl (fun hok=>?_)
 repeat refine ai ?_
 exact rfl
theorem E7 (x:GatePurse):Spec P 151 [st x.e] (st x.e):=by
 refine Spec.of_vc bW av [.cell 2 109] Tryz.func151 rfl rfl rfl rfl (fun hok=>?_)
 repeat refine ai ?_
 exact rfl
set_option maxHeartbeats 2000000 in
theorem o9 (xs:List GateObject):HSpec P 144 [.d (aE xs),.fn 145 []] hp0 (.own 0) ⟨[(0,.tree 103 7 GateObject.n (xs.map GateObject.e))],1,0⟩:=by
 refine af bW av [.tmp 4] Tryz.func144 rfl rfl rfl rfl (fun hok=>?_)
 have hs:xs.length≤al:=au hok.1.1
 repeat refine ai ?_
 refine aj ?_ ?_<;>intro h1
 ·rw[List.length_map] at h1
  have:=beq_iff_eq.1 h1
  have:xs=[]:=List.eq_nil_of_length_eq_zero (by omega)
  subst this
  repeat refine ai ?_
  exact ⟨[none],by repeat' first|exact rfl|exact trivial|refine aj ?_ ?_⟩
 ·repeat refine ai ?_
  refine ⟨Int.le_refl _,Int.natCast_nonneg _,c7 hs,?_⟩
  repeat refine ai ?_
  refine eb (xs) (fun i=>True) (fun i=>[(1,.fn 145 []),(5,.own 0),(14,.d (aE xs)),(15,.d (.int .i64 (xs.map GateObject.e).length)),(16,.d (.int .i64 i))]) (fun i=>⟨[(0,.tree 103 7 GateObject.n ((xs.take i).map GateObject.e))],1,0⟩) (trivial) ?_
  intro i hi hr
  repeat refine ai ?_
  refine aj ?_ ?_<;>intro h2
  ·have hlt:i<xs.length:=Y h2
   repeat refine ai ?_
   refine U (e:=GateObject.e) (xs:=xs) (hlt) rfl ?_
   repeat refine ai ?_
   refine ow (E5 _) ?_
   repeat refine ai ?_
   refine aj trivial ?_
   repeat refine ai ?_
   refine aj (by simp only[List.length_append,List.length_nil,List.length_cons,List.length_map,List.length_take] at*;unfold al at*;omega) ?_
   repeat refine ai ?_
   exact bU hlt hs trivial fun hw=>by repeat' first|exact rfl|exact trivial|exact nd hw|exact (dJ (by rw[List.take_succ_eq_append_getElem hlt,List.map_append];rfl))|refine aj ?_ ?_
  ·repeat refine ai ?_
   rw[List.take_of_length_le (Z h2)]
   repeat refine ai ?_
   refine aj ⟨rfl,rfl⟩ ?_
   repeat refine ai ?_
   exact ⟨[some 0],by repeat' first|exact rfl|exact trivial|refine aj ?_ ?_⟩
set_option maxHeartbeats 2000000 in
theorem qj (xs:List GateGrant):HSpec P 146 [.d (aU xs),.fn 147 []] hp0 (.own 0) ⟨[(0,.tree 173 7 GateGrant.n (xs.map GateGrant.e))],1,0⟩:=by
 refine af bW av [.tmp 4] Tryz.func146 rfl rfl rfl rfl (fun hok=>?_)
 have hs:xs.length≤al:=au hok.1.1
 repeat refine ai ?_
 refine aj ?_ ?_<;>intro h1
 ·rw[List.length_map] at h1
  have:=beq_iff_eq.1 h1
  have:xs=[]:=List.eq_nil_of_length_eq_zero (by omega)
  subst this
  repeat refine ai ?_
  exact ⟨[none],by repeat' first|exact rfl|exact trivial|refine aj ?_ ?_⟩
 ·repeat refine ai ?_
  refine ⟨Int.le_refl _,Int.natCast_nonneg _,c7 hs,?_⟩
  repeat refine ai ?_
  refine eb (xs) (fun i=>True) (fun i=>[(1,.fn 147 []),(5,.own 0),(14,.d (aU xs)),(15,.d (.int .i64 (xs.map GateGrant.e).length)),(16,.d (.int .i64 i))]) (fun i=>⟨[(0,.tree 173 7 GateGrant.n ((xs.take i).map GateGrant.e))],1,0⟩) (trivial) ?_
  intro i hi hr
  repeat refine ai ?_
  refine aj ?_ ?_<;>intro h2
  ·have hlt:i<xs.length:=Y h2
   repeat refine ai ?_
   refine U (e:=GateGrant.e) (xs:=xs) (hlt) rfl ?_
   repeat refine ai ?_
   refine ow (yV _) ?_
   repeat refine ai ?_
   refine aj trivial ?_
   repeat refine ai ?_
   refine aj (by simp only[List.length_append,List.length_nil,List.length_cons,List.length_map,List.length_take] at*;unfold al at*;omega) ?_
   repeat refine ai ?_
   exact bU hlt hs trivial fun hw=>by repeat' first|exact rfl|exact trivial|exact nd hw|exact (dJ (by rw[List.take_succ_eq_append_getElem hlt,List.map_append];rfl))|refine aj ?_ ?_
  ·repeat refine ai ?_
   rw[List.take_of_length_le (Z h2)]
   repeat refine ai ?_
   refine aj ⟨rfl,rfl⟩ ?_
   repeat refine ai ?_
   exact ⟨[some 0],by repeat' first|exact rfl|exact trivial|refine aj ?_ ?_⟩
set_option maxHeartbeats 2000000 in
theorem pa (xs:List GateLedger):HSpec P 148 [.d (aJ xs),.fn 149 []] hp0 (.own 0) ⟨[(0,.tree 119 4 GateLedger.n (xs.map GateLedger.e))],1,0⟩:=by
 refine af bW av [.tmp 4] Tryz.func148 rfl rfl rfl rfl (fun hok=>?_)
 have hs:xs.length≤al:=au hok.1.1
 repeat refine ai ?_
 refine aj ?_ ?_<;>intro h1
 ·rw[List.length_map] at h1
  have:=beq_iff_eq.1 h1
  have:xs=[]:=List.eq_nil_of_length_eq_zero (by omega)
  subst this
  repeat refine ai ?_
  exact ⟨[none],by repeat' first|exact rfl|exact trivial|refine aj ?_ ?_⟩
 ·repeat refine ai ?_
  refine ⟨Int.le_refl _,Int.natCast_nonneg _,c7 hs,?_⟩
  repeat refine ai ?_
  refine eb (xs) (fun i=>True) (fun i=>[(1,.fn 149 []),(5,.own 0),(14,.d (aJ xs)),(15,.d (.int .i64 (xs.map GateLedger.e).length)),(16,.d (.int .i64 i))]) (fun i=>⟨[(0,.tree 119 4 GateLedger.n ((xs.take i).map GateLedger.e))],1,0⟩) (trivial) ?_
  intro i hi hr
  repeat refine ai ?_
  refine aj ?_ ?_<;>intro h2
  ·have hlt:i<xs.length:=Y h2
   repeat refine ai ?_
   refine U (e:=GateLedger.e) (xs:=xs) (hlt) rfl ?_
   repeat refine ai ?_
   refine oc (E8 _) ?_
   repeat refine ai ?_
   refine aj trivial ?_
   repeat refine ai ?_
   refine aj (by simp only[List.length_append,List.length_nil,List.length_cons,List.length_map,List.length_take] at*;unfold al at*;omega) ?_
   repeat refine ai ?_
   exact bU hlt hs trivial fun hw=>by repeat' first|exact rfl|exact trivial|exact nd hw|exact (dJ (by rw[List.take_succ_eq_append_getElem hlt,List.map_append];rfl))|refine aj ?_ ?_
  ·repeat refine ai ?_
   rw[List.take_of_length_le (Z h2)]
   repeat refine ai ?_
   refine aj ⟨rfl,rfl⟩ ?_
   repeat refine ai ?_
   exact ⟨[some 0],by repeat' first|exact rfl|exact trivial|refine aj ?_ ?_⟩
set_option maxHeartbeats 2000000 in
theorem qi (xs:List GatePurse):HSpec P 150 [.d (aN xs),.fn 151 []] hp0 (.own 0) ⟨[(0,.tree 109 5 GatePurse.n (xs.map GatePurse.e))],1,0⟩:=by
 refine af bW av [.tmp 4] Tryz.func150 rfl rfl rfl rfl (fun hok=>?_)
 have hs:xs.length≤al:=au hok.1.1
 repeat refine ai ?_
 refine aj ?_ ?_<;>intro h1
 ·rw[List.length_map] at h1
  have:=beq_iff_eq.1 h1
  have:xs=[]:=List.eq_nil_of_length_eq_zero (by omega)
  subst this
  repeat refine ai ?_
  exact ⟨[none],by repeat' first|exact rfl|exact trivial|refine aj ?_ ?_⟩
 ·repeat refine ai ?_
  refine ⟨Int.le_refl _,Int.natCast_nonneg _,c7 hs,?_⟩
  repeat refine ai ?_
  refine eb (xs) (fun i=>True) (fun i=>[(1,.fn 151 []),(5,.own 0),(14,.d (aN xs)),(15,.d (.int .i64 (xs.map GatePurse.e).length)),(16,.d (.int .i64 i))]) (fun i=>⟨[(0,.tree 109 5 GatePurse.n ((xs.take i).map GatePurse.e))],1,0⟩) (trivial) ?_
  intro i hi hr
  repeat refine ai ?_
  refine aj ?_ ?_<;>intro h2
  ·have hlt:i<xs.length:=Y h2
   repeat refine ai ?_
   refine U (e:=GatePurse.e) (xs:=xs) (hlt) rfl ?_
   repeat refine ai ?_
   refine oc (E7 _) ?_
   repeat refine ai ?_
   refine aj trivial ?_
   repeat refine ai ?_
   refine aj (by simp only[List.length_append,List.length_nil,List.length_cons,List.length_map,List.length_take] at*;unfold al at*;omega) ?_
   repeat refine ai ?_
   exact bU hlt hs trivial fun hw=>by repeat' first|exact rfl|exact trivial|exact nd hw|exact (dJ (by rw[List.take_succ_eq_append_getElem hlt,List.map_append];rfl))|refine aj ?_ ?_
  ·repeat refine ai ?_
   rw[List.take_of_length_le (Z h2)]
   repeat refine ai ?_
   refine aj ⟨rfl,rfl⟩ ?_
   repeat refine ai ?_
   exact ⟨[some 0],by repeat' first|exact rfl|exact trivial|refine aj ?_ ?_⟩
theorem jJ (b:GateBook):HSpec P 82 [st b.e] hp0 (.agg b.a) ⟨b.o,4,0⟩:=by
 refine af bW av [.cell 2 48] Tryz.func82 rfl rfl rfl rfl (fun hok=>?_)
 repeat refine ai ?_
 refine ow (o9 _) ?_
 repeat refine ai ?_
 refine ow (qj _) ?_
 repeat refine ai ?_
 refine ow (pa _) ?_
 repeat refine ai ?_
 refine ow (qi _) ?_
 repeat refine ai ?_
 exact ⟨[some 2,some 3,some 4,some 5],by repeat' first|exact rfl|exact trivial|refine aj ?_ ?_⟩
end Go.Vc
end
section
namespace Go.Vc
open Go.Proofs
set_option maxRecDepth 100000
set_option maxHeartbeats 2000000 in
theorem AG (now tick given:Int) (t1 s1 t2 s2 t3 s3:Nat) (n1 n2 n3:List NT) (R1 R2 R3:List (List D)) (ps:List GatePurse) (i:Nat):FSpec P 152 [.ptr 0 0,.d (.int .i64 (i:Int))]
 ⟨[(0,.cells 48 [.d (.int .i64 now),.d (.int .i64 tick),.d (.int .i64 given),.own 1,.own 2,.own 3,.own 4]),(1,.tree t1 s1 n1 R1),(2,.tree t2 s2 n2 R2),(3,.tree t3 s3 n3 R3),(4,.tree 109 5 GatePurse.n (ps.map GatePurse.e))],5,5⟩ (.tup [])
 ⟨[(0,.cells 48 [.d (.int .i64 now),.d (.int .i64 tick),.d (.int .i64 given),.own 1,.own 2,.own 3,.own 5]),(1,.tree t1 s1 n1 R1),(2,.tree t2 s2 n2 R2),(3,.tree t3 s3 n3 R3),(5,.tree 109 5 GatePurse.n ((ps.eraseIdx i).map GatePurse.e))],6,5⟩:=by
 refine FSpec.of_vc bW av [] Tryz.func152 rfl rfl rfl rfl rfl (fun hok hob=>?_)
 have hs:ps.length≤al:=au (hob 4 _ rfl).1
 repeat refine ai ?_
 refine eb (ps) (fun q=>True) (fun q=>[(0,.ptr 0 0),(1,.d (.int .i64 (i:Int))),(4,.own 5),(10,.own 4),(11,.d (.int .i64 (ps.map GatePurse.e).length)),(12,.d (.int .i64 q))]) (fun q=>⟨[(5,.tree 109 5 GatePurse.n ((qm ps i q).map GatePurse.e)),(0,.cells 48 [.d (.int .i64 now),.d (.int .i64 tick),.d (.int .i64 given),.own 1,.own 2,.own 3,.own 4]),(1,.tree t1 s1 n1 R1),(2,.tree t2 s2 n2 R2),(3,.tree t3 s3 n3 R3),(4,.tree 109 5 GatePurse.n (ps.map GatePurse.e))],6,5⟩) (trivial) ?_
 intro q hq hr
 repeat refine ai ?_
 refine aj ?_ ?_<;>intro h1
 ·have hlt:q<ps.length:=Y h1
  repeat refine ai ?_
  refine dB (e:=GatePurse.e) (xs:=ps) hlt ?_
  repeat refine ai ?_
  refine eL (e:=GatePurse.e) (xs:=ps) hlt ?_
  repeat refine ai ?_
  refine aj ?_ ?_<;>intro h2
  ·repeat refine ai ?_
   refine aj trivial ?_
   repeat refine ai ?_
   refine aj (by have:=Fg (xs:=ps) (i:=i) (q:=q);simp only[List.length_append,List.length_nil,List.length_cons,List.length_map,List.length_take] at*;unfold al at*;omega) ?_
   repeat refine ai ?_
   exact bU hlt hs trivial fun hw=>by repeat' first|exact rfl|exact trivial|exact nd hw|exact (dJ (by rw[Eg hlt h2,List.map_append];rfl))|refine aj ?_ ?_
  ·repeat refine ai ?_
   exact bU hlt hs trivial fun hw=>by repeat' first|exact rfl|exact trivial|exact nd hw|exact (dJ (by rw[Ee hlt h2]))|refine aj ?_ ?_
 ·repeat refine ai ?_
  rw[Fh (Z h1)]
  repeat refine ai ?_
  all_goals (repeat' first|exact rfl|exact trivial|refine aj ?_ ?_)
set_option maxHeartbeats 2000000 in
theorem pQ (b:GateBook) (i k:Nat) (hi:i<b.purses.length) (hk:k<b.ledgers.length) (e:ka b b.purses[i].team b.purses[i].resource=(k:Int)):FSpec P 83 [.ptr 0 0,.d (.int .i64 (i:Int))]
 ⟨[(0,vz b 1 2 3 4),(1,EH b),(2,Fr b),(3,Fq b),(4,Fp b)],5,5⟩ (.tup []) ⟨[(0,vz (gG b i k hi hk) 1 2 3 11),(1,EH b),(2,Fr b),(3,Fq (gG b i k hi hk)),(11,Fp (gG b i k hi hk))],12,5⟩:=by
 refine FSpec.of_vc bW av [] Tryz.func83 rfl rfl rfl rfl rfl (fun hok hob=>?_)
 repeat refine ai ?_
 refine dB (e:=GatePurse.e) (xs:=b.purses) hi ?_
 repeat refine ai ?_
 refine eL (e:=GatePurse.e) (xs:=b.purses) hi ?_
 repeat refine ai ?_
 refine GB ?_
 repeat refine ai ?_
 refine ol (vm b _ _ k e) ?_
 repeat refine ai ?_
 refine dB (e:=GateLedger.e) (xs:=b.ledgers) hk ?_
 repeat refine ai ?_
 refine eL (e:=GateLedger.e) (xs:=b.ledgers) hk ?_
 repeat refine ai ?_
 refine dB (e:=GateLedger.e) (xs:=b.ledgers) hk ?_
 repeat refine ai ?_
 refine ⟨_,DJ hk,Nat.le_refl _,?_⟩
 repeat refine ai ?_
 refine om [0,1,2,3,4] none (AG _ _ _ _ _ _ _ _ _ _ _ _ _ _ _ b.purses i) ?_
 repeat refine ai ?_
 all_goals (repeat' first|exact rfl|exact trivial|exact AZ rfl|refine aj ?_ ?_)
end Go.Vc
end
section
namespace Go.Vc
open Go.Proofs
set_option maxRecDepth 100000
theorem B9 (o:GateObject):HSpec P 141 [st o.e] hp0 (.agg o.a) ⟨o.o,2,0⟩:=by
 refine af bW av [.cell 2 103] Tryz.func141 rfl rfl rfl rfl (fun hok=>?_)
 have hb:=iH (o:=o) hok
 repeat refine ai ?_
 refine aj (AD _) ?_
 repeat refine ai ?_
 refine aj (by simpa using hb.1) ?_
 repeat refine ai ?_
 refine aj (AD _) ?_
 repeat refine ai ?_
 refine aj (by simpa using hb.2) ?_
 repeat refine ai ?_
 exact ⟨[some 2,some 3],by repeat' first|exact rfl|exact trivial|refine aj ?_ ?_⟩
theorem B7 (x:GateRule):HSpec P 142 [st x.e] hp0 (.agg x.a) ⟨x.o,1,0⟩:=by
 refine af bW av [.cell 2 171] Tryz.func142 rfl rfl rfl rfl (fun hok=>?_)
 have hs:x.verbs.length≤al:=by
  have:=hok.1
  simp only[st,AV.ok,GateRule.e,List.map,ex] at this
  exact au this.1.1
 repeat refine ai ?_
 refine aj (D7 _) ?_
 repeat refine ai ?_
 refine aj (by simpa using hs) ?_
 repeat refine ai ?_
 exact ⟨[some 2],by repeat' first|exact rfl|exact trivial|refine aj ?_ ?_⟩
set_option maxHeartbeats 2000000 in
theorem li (b:GateBook):HSpec P 80 [st b.e] hp0 (.agg b.a) ⟨b.o,4,0⟩:=by
 refine af bW av [.cell 2 48] Tryz.func80 rfl rfl rfl rfl (fun hok=>?_)
 have hb:=bT hok
 have ho:=hb.1
 have hg:=hb.2.1
 repeat refine ai ?_
 refine eb (b.objects) (fun i=>True) (fun i=>[(1,.ptr 0 0),(2,.ptr 1 0),(3,.ptr 2 0),(4,.d (.int .i64 i))]) (fun i=>⟨[(3,.tree 103 7 GateObject.n ((b.objects.take i).map GateObject.e)),(2,.cells 48 [.d (.int .i64 b.now),.d (.int .i64 b.tick),.d (.int .i64 b.given),.own 3,.nils,.nils,.nils]),(1,.cells 48 [.d (.int .i64 0),.d (.int .i64 0),.d (.int .i64 0),.nils,.nils,.nils,.nils]),(0,.cells 48 (b.e.map .d))],4,0⟩) (trivial) ?_
 intro i hi hr
 repeat refine ai ?_
 refine aj ?_ ?_<;>intro h1
 ·have hlt:i<b.objects.length:=Y h1
  repeat refine ai ?_
  refine akp 10 (.one [0,1,2,3,4,5,6] [] 7 (.one [] [0,1] 8 (.one [] [0,1] 9 (.fin [] [])))) ?_
  repeat refine ai ?_
  refine U (e:=GateObject.e) (xs:=b.objects) (hlt) rfl ?_
  repeat refine ai ?_
  refine ow (B9 _) ?_
  repeat refine ai ?_
  refine aj trivial ?_
  repeat refine ai ?_
  refine aj (by simp only[List.length_append,List.length_nil,List.length_cons,List.length_map,List.length_take] at*;unfold al at*;omega) ?_
  repeat refine ai ?_
  exact bU hlt ho trivial fun hw=>by repeat' first|exact rfl|exact trivial|exact nd hw|exact (dJ (by rw[List.take_succ_eq_append_getElem hlt,List.map_append];rfl))|refine aj ?_ ?_
 ·repeat refine ai ?_
  rw[List.take_of_length_le (Z h1)]
  repeat refine ai ?_
  refine eb (b.grants) (fun i=>True) (fun i=>[(1,.ptr 0 0),(2,.ptr 1 0),(3,.ptr 2 0),(5,.d (.int .i64 i))]) (fun i=>⟨[(4,.tree 173 7 GateGrant.n ((b.grants.take i).map GateGrant.e)),(3,EH b),(2,.cells 48 [.d (.int .i64 b.now),.d (.int .i64 b.tick),.d (.int .i64 b.given),.own 3,.own 4,.nils,.nils]),(1,.cells 48 [.d (.int .i64 0),.d (.int .i64 0),.d (.int .i64 0),.nils,.nils,.nils,.nils]),(0,.cells 48 (b.e.map .d))],5,0⟩) (trivial) ?_
  intro i hi hr
  repeat refine ai ?_
  refine aj ?_ ?_<;>intro h2
  ·have hlt:i<b.grants.length:=Y h2
   repeat refine ai ?_
   refine U (e:=GateGrant.e) (xs:=b.grants) (hlt) rfl ?_
   repeat refine ai ?_
   refine ow (B7 b.grants[i].rule) ?_
   repeat refine ai ?_
   refine aj trivial ?_
   repeat refine ai ?_
   refine aj (by simp only[List.length_append,List.length_nil,List.length_cons,List.length_map,List.length_take] at*;unfold al at*;omega) ?_
   repeat refine ai ?_
   exact bU hlt hg trivial fun hw=>by repeat' first|exact rfl|exact trivial|exact nd hw|exact (dJ (by rw[List.take_succ_eq_append_getElem hlt,List.map_append];rfl))|refine aj ?_ ?_
  ·repeat refine ai ?_
   rw[List.take_of_length_le (Z h2)]
   repeat refine ai ?_
   refine aj (FU _) ?_
   repeat refine ai ?_
   refine aj (by simpa using hb.2.2.1) ?_
   repeat refine ai ?_
   refine aj (D6 _) ?_
   repeat refine ai ?_
   refine aj (by simpa using hb.2.2.2) ?_
   repeat refine ai ?_
   exact ⟨[some 3,some 4,some 5,some 6],by repeat' first|exact rfl|exact trivial|refine aj ?_ ?_⟩
theorem Ef {ps:List GatePurse} {i:Nat} {z:Int} (hz:z=((i+1:Nat):Int)) (h:i<ps.length):
 ([]:List (List D))++((ps.map GatePurse.e).take (i:Int).toNat).drop (0:Int).toNat++((ps.map GatePurse.e).take (((ps.map GatePurse.e).length:Nat):Int).toNat).drop z.toNat=(ps.eraseIdx i).map GatePurse.e:=by
 subst hz
 rw[List.eraseIdx_eq_take_drop_succ,List.map_append,List.nil_append,Int.toNat_natCast,Int.toNat_natCast,Int.toNat_natCast,List.map_take,List.map_drop,List.take_of_length_le (Nat.le_refl _)]
 rfl
theorem EM (ps:List GatePurse) (i:Nat) (h:i<ps.length):HSpec P 143 [.d (aN ps),.d (.int .i64 (i:Int))] hp0 (.own 0) ⟨[(0,.tree 109 5 GatePurse.n ((ps.eraseIdx i).map GatePurse.e))],1,0⟩:=by
 refine af bW av [.tmp 4] Tryz.func143 rfl rfl rfl rfl (fun hok=>?_)
 have hs:ps.length≤al:=au hok.1.1
 have hf:=D6 ps
 have hw:=V h hs
 have c1:(0:Int)≤0∧(0:Int)≤(i:Int)∧(i:Int)≤(((ps.map GatePurse.e).length:Nat):Int)∧∀r∈ps.map GatePurse.e,r.length=5:=⟨Int.le_refl _,Int.natCast_nonneg _,by rw[List.length_map];omega,fun r hr=>(hf r hr).1⟩
 have c2:(0:Int)≤IntKind.i64.wrap ((i:Int)+1)∧IntKind.i64.wrap ((i:Int)+1)≤(((ps.map GatePurse.e).length:Nat):Int)∧(((ps.map GatePurse.e).length:Nat):Int)≤(((ps.map GatePurse.e).length:Nat):Int)∧∀r∈ps.map GatePurse.e,r.length=5:=⟨by rw[hw];omega,by rw[hw,List.length_map];omega,Int.le_refl _,fun r hr=>(hf r hr).1⟩
 repeat refine ai ?_
 refine akp 10 (.one [1,2,3,5,6,7,8] [] 0 (.one [] [1,2,3,5,6,7,8] 4 (.one [] [5,6,7,8] 9 (.fin [] [])))) ?_
 repeat refine ai ?_
 repeat' first
  |refine ai ?_
  |refine aj c1 ?_
  |refine aj c2 ?_
  |refine aj (fun r hr=>hf r (List.mem_of_mem_take (List.mem_of_mem_drop hr))) ?_
  |refine aj (by (try rw[hw]);simp only[List.length_append,List.length_nil,List.length_take,List.length_drop,List.length_map];unfold al at*;omega) ?_
 exact ⟨[some 0],by repeat' first|exact rfl|exact trivial|exact dJ (Ef hw h)|refine aj ?_ ?_⟩
end Go.Vc
end
section
namespace Go.Vc
open Go.Proofs
set_option maxRecDepth 100000
set_option maxHeartbeats 2000000 in
theorem xT (b:GateBook) (i k:Nat) (hi:i<b.purses.length) (hk:k<b.ledgers.length) (e:ka b b.purses[i].team b.purses[i].resource=(k:Int)):FSpec P 81 [Gg b 0 1 2 3,.d (.int .i64 (i:Int))]
 ⟨[(0,EH b),(1,Fr b),(2,Fq b),(3,Fp b)],4,4⟩ (Gg (gG b i k hi hk) 0 1 2 7) ⟨[(0,EH b),(1,Fr b),(2,Fq (gG b i k hi hk)),(7,Fp (gG b i k hi hk))],8,4⟩:=by
 refine FSpec.of_vc bW av [.cell 4 48] Tryz.func81 rfl rfl rfl rfl rfl (fun hok hob=>?_)
 repeat refine ai ?_
 refine dB (e:=GatePurse.e) (xs:=b.purses) hi ?_
 repeat refine ai ?_
 refine eL (e:=GatePurse.e) (xs:=b.purses) hi ?_
 repeat refine ai ?_
 refine ol (uD b _ _ k e) ?_
 repeat refine ai ?_
 refine GB ?_
 repeat refine ai ?_
 refine dB (e:=GateLedger.e) (xs:=b.ledgers) hk ?_
 repeat refine ai ?_
 refine eL (e:=GateLedger.e) (xs:=b.ledgers) hk ?_
 repeat refine ai ?_
 refine dB (e:=GateLedger.e) (xs:=b.ledgers) hk ?_
 repeat refine ai ?_
 refine ⟨_,DJ hk,Nat.le_refl _,?_⟩
 repeat refine ai ?_
 refine ov (EM b.purses i hi) ?_
 repeat refine ai ?_
 all_goals (repeat' first|exact rfl|exact trivial|exact AZ rfl|refine aj ?_ ?_)
theorem B6 (b:GateBook) (d t r:Bs):Spec P 88 [st b.e,.d (.str d),.d (.str t),.d (.str r)] (.d (.int .i64 (oU b d t r))):=by
 refine Spec.of_vc aP av [.tmp 8] Tryz.func88 rfl rfl rfl rfl (fun hok=>?_)
 have hs:b.purses.length≤al:=(bT (cV hok)).2.2.2
 repeat refine ai ?_
 refine eb (b.purses) (fun i=>oU b d t r=ea (fun x=>x.door==d&&(x.team==t&&x.resource==r)) (b.purses.drop i) i) (fun i=>[(1,.d (.str d)),(2,.d (.str t)),(3,.d (.str r)),(4,.ptr 0 0),(9,.d (.int .i64 i))]) (fun i=>⟨[(0,.cells 48 (b.e.map .d))],1,0⟩) (rfl) ?_
 intro i hi hr
 repeat refine ai ?_
 refine aj ?_ ?_<;>intro h1
 ·have hlt:i<b.purses.length:=Y h1
  rw[cM hlt] at hr
  repeat refine ai ?_
  refine U (e:=GatePurse.e) (xs:=b.purses) (hlt) rfl ?_
  repeat refine ai ?_
  refine aj ?_ ?_<;>intro h2
  ·repeat refine ai ?_
   refine U (e:=GatePurse.e) (xs:=b.purses) (hlt) rfl ?_
   repeat refine ai ?_
   refine aj ?_ ?_<;>intro h3
   ·repeat refine ai ?_
    refine U (e:=GatePurse.e) (xs:=b.purses) (hlt) rfl ?_
    repeat refine ai ?_
    refine aj ?_ ?_<;>intro h4
    ·refine nd ?_
     rw[hr,h2,h3,h4];rfl
    ·repeat refine ai ?_
     exact bU hlt hs (by rw[hr,h2,h3,h4];rfl)
   ·repeat refine ai ?_
    exact bU hlt hs (by rw[hr,h2,h3];rfl)
  ·repeat refine ai ?_
   exact bU hlt hs (by rw[hr,h2];rfl)
 ·refine nd ?_
  rw[hr,dC (Z h1)]
theorem E9 (b:GateBook) (d t r:Bs):Spec P 89 [st b.e,.d (.str d),.d (.str t),.d (.str r)] (.d (.int .i64 (oU b d t r))):=by
 refine Spec.of_vc aP av [.tmp 8] Tryz.func89 rfl rfl rfl rfl (fun hok=>?_)
 have hs:b.purses.length≤al:=(bT (cV hok)).2.2.2
 repeat refine ai ?_
 refine eb (b.purses) (fun i=>oU b d t r=ea (fun x=>x.door==d&&(x.team==t&&x.resource==r)) (b.purses.drop i) i) (fun i=>[(1,.d (.str d)),(2,.d (.str t)),(3,.d (.str r)),(4,.ptr 0 0),(12,.d (aN b.purses)),(13,.d (.int .i64 (b.purses.map GatePurse.e).length)),(14,.d (.int .i64 i))]) (fun i=>⟨[(0,.cells 48 (b.e.map .d))],1,0⟩) (rfl) ?_
 intro i hi hr
 repeat refine ai ?_
 refine aj ?_ ?_<;>intro h1
 ·have hlt:i<b.purses.length:=Y h1
  rw[cM hlt] at hr
  repeat refine ai ?_
  refine U (e:=GatePurse.e) (xs:=b.purses) (hlt) rfl ?_
  repeat refine ai ?_
  refine aj ?_ ?_<;>intro h2
  ·repeat refine ai ?_
   repeat refine ai ?_
   refine aj ?_ ?_<;>intro h3
   ·repeat refine ai ?_
    repeat refine ai ?_
    refine aj ?_ ?_<;>intro h4
    ·refine nd ?_
     rw[hr,h2,h3,h4];rfl
    ·repeat refine ai ?_
     exact bU hlt hs (by rw[hr,h2,h3,h4];rfl)
   ·repeat refine ai ?_
    exact bU hlt hs (by rw[hr,h2,h3];rfl)
  ·repeat refine ai ?_
   exact bU hlt hs (by rw[hr,h2];rfl)
 ·refine nd ?_
  rw[hr,dC (Z h1)]
theorem Dd (b:GateBook) (d t r:Bs) (v:Int) (h:oU b d t r=v):Spec P 88 [st b.e,.d (.str d),.d (.str t),.d (.str r)] (.d (.int .i64 v)):=by
 rw[←h];exact B6 b d t r
theorem DW (b:GateBook) (d t r:Bs) (v:Int) (h:oU b d t r=v):Spec P 89 [st b.e,.d (.str d),.d (.str t),.d (.str r)] (.d (.int .i64 v)):=by
 rw[←h];exact E9 b d t r
def nilBk:GateBook:=⟨0,0,0,[],[],[],[]⟩
def cR (L:GateLaw) (b:GateBook) (d t r:Bs):GateBook×Int:=bif cb L b then (bif decide (oU b d t r≥0) then (oa b (oU b d t r).toNat,0) else (b,2)) else (nilBk,1)
set_option maxHeartbeats 2000000 in
theorem zS (L:GateLaw) (b:GateBook) (d t r:Bs):Spec P 31 [st L.e,st b.e,.d (.str d),.d (.str t),.d (.str r)] (.tup [st (cR L b d t r).1.e,.d (.int .i64 (cR L b d t r).2)]):=by
 refine Spec.of_vc bW av [.cell 10 48,.tmp 11] Tryz.func31 rfl rfl rfl rfl (fun hok=>?_)
 cases hb:cb L b with
 |false=>
  rw[show cR L b d t r=(nilBk,1) from by unfold cR;rw[hb];rfl]
  repeat refine ai ?_
  refine oc (dL L b) ?_
  rw[hb]
  repeat refine ai ?_
  refine ay ?_
  repeat refine ai ?_
  rfl
 |true=>
  cases hp:decide (oU b d t r≥0) with
  |false=>
   obtain ⟨e,_⟩:=nR hp
   rw[show cR L b d t r=(b,2) from by unfold cR;rw[hb,hp];rfl]
   repeat refine ai ?_
   refine oc (dL L b) ?_
   rw[hb]
   repeat refine ai ?_
   refine an ?_
   repeat refine ai ?_
   refine ow (li b) ?_
   repeat refine ai ?_
   refine oc (Dd b d t r _ e) ?_
   repeat refine ai ?_
   refine ay ?_
   repeat refine ai ?_
   rfl
  |true=>
   obtain ⟨i,hi,e,_⟩:=cx hp
   obtain ⟨k,hk,ek,ebk⟩:=sw (qq hb) hi
   rw[show cR L b d t r=(gG b i k hi hk,0) from by unfold cR;rw[hb,hp,show oU b d t r=(i:Int) from e,cond_true,cond_true,Int.toNat_natCast,ebk]]
   repeat refine ai ?_
   refine oc (dL L b) ?_
   rw[hb]
   repeat refine ai ?_
   refine an ?_
   repeat refine ai ?_
   refine ow (li b) ?_
   repeat refine ai ?_
   refine oc (Dd b d t r _ e) ?_
   repeat refine ai ?_
   refine an ?_ (by simp only[decide_eq_true_eq];omega)
   repeat refine ai ?_
   refine om [3,4,5,6] none (xT b i k hi hk ek) ?_
   repeat refine ai ?_
   rfl
set_option maxHeartbeats 2000000 in
theorem Ax (L:GateLaw) (b:GateBook) (d t r:Bs):HSpec P 32 [st L.e,st b.e,.d (.str d),.d (.str t),.d (.str r)] hp0 (.tup [.agg (cR L b d t r).1.a,.d (.int .i64 (cR L b d t r).2)]) ⟨(cR L b d t r).1.o,4,0⟩:=by
 refine af bW av [.cell 10 48,.tmp 11] Tryz.func32 rfl rfl rfl rfl (fun hok=>?_)
 cases hb:cb L b with
 |false=>
  rw[show cR L b d t r=(nilBk,1) from by unfold cR;rw[hb];rfl]
  repeat refine ai ?_
  refine oc (dP L b) ?_
  rw[hb]
  repeat refine ai ?_
  refine ay ?_
  repeat refine ai ?_
  exact ⟨[none,none,none,none],by repeat' first|exact rfl|exact trivial|refine aj ?_ ?_⟩
 |true=>
  cases hp:decide (oU b d t r≥0) with
  |false=>
   obtain ⟨e,_⟩:=nR hp
   rw[show cR L b d t r=(b,2) from by unfold cR;rw[hb,hp];rfl]
   repeat refine ai ?_
   refine oc (dP L b) ?_
   rw[hb]
   repeat refine ai ?_
   refine an ?_
   repeat refine ai ?_
   refine ow (jJ b) ?_
   repeat refine ai ?_
   refine ol (DW b d t r _ e) ?_
   repeat refine ai ?_
   refine ay ?_
   repeat refine ai ?_
   exact ⟨[some 3,some 4,some 5,some 6],by repeat' first|exact rfl|exact trivial|refine aj ?_ ?_⟩
  |true=>
   obtain ⟨i,hi,e,_⟩:=cx hp
   obtain ⟨k,hk,ek,ebk⟩:=sw (qq hb) hi
   rw[show cR L b d t r=(gG b i k hi hk,0) from by unfold cR;rw[hb,hp,show oU b d t r=(i:Int) from e,cond_true,cond_true,Int.toNat_natCast,ebk]]
   repeat refine ai ?_
   refine oc (dP L b) ?_
   rw[hb]
   repeat refine ai ?_
   refine an ?_
   repeat refine ai ?_
   refine ow (jJ b) ?_
   repeat refine ai ?_
   refine ol (DW b d t r _ e) ?_
   repeat refine ai ?_
   refine an ?_ (by simp only[decide_eq_true_eq];omega)
   repeat refine ai ?_
   refine om [7,3,4,5,6] none (pQ b i k hi hk ek) ?_
   repeat refine ai ?_
   exact ⟨[some 3,some 4,some 5,some 19],by repeat' first|exact rfl|exact trivial|refine aj ?_ ?_⟩
end Go.Vc
end
section
namespace Go.Vc
open Go.Proofs
set_option maxRecDepth 100000
theorem aq {k:Int} (h0:0≤k) (h:k+1≤1099511627776):wk k=k+1:=by
 unfold wk
 rw[IntKind.wrap_i64];omega
def mi (k:Int):Int:=k
def mb (k:Int):Bool:=k.tmod 3==0
def bv {α:Type} (f:α→Int):List α→Int
 |[]=>0
 |x::xs=>f x+bv f xs
def jP {α:Type} (f:α→Int):List α→Int
 |[]=>0
 |x::xs=>1+f x+jP f xs
theorem aC {α:Type} {f:α→Int} (h:∀x,0≤f x):∀xs,0≤bv f xs
 |[]=>Int.le_refl _
 |x::xs=>by have:=aC h xs;have:=h x;simp only[bv];omega
theorem cm {α:Type} {f:α→Int} (h:∀x,0≤f x):∀xs,0≤jP f xs
 |[]=>Int.le_refl _
 |x::xs=>by have:=cm h xs;have:=h x;simp only[jP];omega
theorem fV {α:Type} {f g:α→Int} (h:∀x,f x≤32+32*g x):∀xs,bv f xs≤32*jP g xs
 |[]=>by simp[bv,jP]
 |x::xs=>by have:=fV h xs;have:=h x;simp only[bv,jP];omega
theorem cf {α:Type} {f:α→Int→α×Int} {l:α→Int} (hf:∀x k,0≤k→k+l x≤1099511627776→(f x k).2=k+l x) (hl:∀x,0≤l x):∀(xs:List α) (k:Int),0≤k→k+bv l xs≤1099511627776→(aA f xs k).2=k+bv l xs
 |[],k,_,_=>by simp[aA,bv]
 |x::xs,k,h0,h=>by
  have p:=aC hl xs
  have q:=hl x
  simp only[bv] at h
  simp only[aA,bv]
  rw[hf x k h0 (by omega),cf hf hl xs _ (by omega) (by omega)];omega
theorem o4 {α:Type} {f:α→Int→α×Int} {l:α→Int} (hf:∀x k,0≤k→k+l x≤1099511627776→(f x k).2=k+l x) (hl:∀x,0≤l x) {xs:List α} {k:Int} {i:Nat} (h0:0≤k) (h:k+bv l xs≤1099511627776) (hi:i<xs.length):
 0≤gO f xs k i∧gO f xs k i+l xs[i]≤1099511627776:=by
 have split:∀(xs:List α) (i:Nat) (hi:i<xs.length),bv l (xs.take i)+l xs[i]≤bv l xs:=by
  intro xs
  induction xs with
  |nil=>intro i hi;simp at hi
  |cons x xs ih=>
   intro i hi
   have p:=aC hl xs
   cases i with
   |zero=>simp only[List.take_zero,bv,List.getElem_cons_zero];omega
   |succ i=>
    have:=ih i (by simpa using hi)
    simp only[List.take_succ_cons,bv,List.getElem_cons_succ];omega
 have h1:=split xs i hi
 have h2:=aC hl (xs.take i)
 have h3:=hl xs[i]
 unfold gO
 rw[cf hf hl _ _ h0 (by omega)];omega
def fu {α:Type} (_:α):Int:=1
def BG {α:Type} (_:α):Int:=0
theorem dh {α:Type} (x:α):0≤fu x:=by unfold fu;decide
theorem iN {α:Type} (x:α):0≤BG x:=by unfold BG;decide
theorem wM {α:Type} (x:α):fu x≤32+32*BG x:=by unfold fu BG;decide
def dg (k:Int):UInt8:=UInt8.ofNat (IntKind.u8.wrap (IntKind.i64.wrap (48+k.tmod 10))).toNat
def FL:Nat→Int→Bs→Bs
 |0,_,out=>out
 |n+1,k,out=>bif decide (k>0) then FL n (IntKind.i64.wrap (k.tdiv 10)) (dg k::out) else out
def mt (k:Int):Bs:=bif decide (k≤0) then [109,48] else 109::FL 21 k []
def Gp (out:Bs) (j:Int):Prop:=out=[]∨(1≤out.length∧out.length≤20∧j.toNat*10 ^ (out.length - 1)<10 ^ 19)
theorem EY {out:Bs} {j:Int} (h:Gp out j):out.length≤20:=by
 rcases h with rfl|h
 ·simp
 ·exact h.2.1
theorem DH {out:Bs} {j:Int} (h:Gp out j) (hj:0<j):out.length≤19:=by
 rcases h with rfl|⟨h1,h2,h3⟩
 ·simp
 ·refine Nat.le_of_not_lt fun hl=>?_
  have e:out.length - 1=19:=by omega
  rw[e] at h3
  have:1≤j.toNat:=by omega
  omega
theorem DG {out:Bs} {j:Int} {c:UInt8} (h:Gp out j) (hj:0<j):Gp (c::out) (IntKind.i64.wrap (j.tdiv 10)):=by
 have hl:=DH h hj
 have hd:j.tdiv 10=j/10:=Int.tdiv_eq_ediv_of_nonneg (by omega)
 have hw:(IntKind.i64.wrap (j.tdiv 10)).toNat≤j.toNat/10∧(IntKind.i64.wrap (j.tdiv 10)).toNat<10 ^ 19:=by
  rw[hd,IntKind.wrap_i64]
  omega
 refine .inr ⟨by simp,by simp only[List.length_cons];omega,?_⟩
 simp only[List.length_cons,Nat.add_sub_cancel]
 rcases h with rfl|⟨h1,h2,h3⟩
 ·simpa using hw.2
 ·obtain ⟨n,hn⟩:∃n,out.length=n+1:=⟨out.length - 1,by omega⟩
  rw[hn,Nat.add_sub_cancel] at h3
  rw[hn,Nat.pow_succ]
  refine Nat.lt_of_le_of_lt ?_ h3
  rw[Nat.mul_comm (10 ^ n) 10,←Nat.mul_assoc]
  refine Nat.mul_le_mul_right _ ?_
  have:=hw.1
  omega
theorem lD (k:Int):Spec P 136 [.d (.int .i64 k)] (.d (.str (mt k))):=by
 refine Spec.of_vc aP av [.tmp 2] Tryz.func136 rfl rfl rfl rfl (fun hok=>?_)
 repeat refine ai ?_
 refine aj ?_ ?_<;>intro h0
 ·repeat refine ai ?_
  unfold mt
  rw[h0]
  rfl
 ·repeat refine ai ?_
  refine ⟨fun m l h=>∃(out:Bs) (j:Int),m=21 - out.length∧FL 21 k []=FL (21 - out.length) j out∧Gp out j∧l=[(0,.d (.int .i64 j)),(3,.d (.str out))]∧h=hp0,
   ⟨_,_,_,⟨[],k,rfl,rfl,.inl rfl,rfl,rfl⟩,rfl,rfl,⟨rfl,rfl,trivial⟩,trivial,trivial⟩,?_⟩
  rintro m l hh ⟨out,j,rfl,hr,hb,rfl,rfl⟩
  repeat refine ai ?_
  refine aj ?_ ?_<;>intro h1
  ·have hj:0<j:=of_decide_eq_true h1
   have hl:=DH hb hj
   repeat refine ai ?_
   refine aj (by decide) ?_
   repeat refine ai ?_
   refine aj (by unfold al;simp) ?_
   repeat refine ai ?_
   refine aj (by unfold al;simp only[List.length_cons,List.length_nil];omega) ?_
   repeat refine ai ?_
   refine aj (by decide) ?_
   repeat refine ai ?_
   refine ⟨_,_,_,⟨dg j::out,IntKind.i64.wrap (j.tdiv 10),rfl,?_,DG hb hj,rfl,rfl⟩,?_,rfl,rfl,⟨rfl,rfl,trivial⟩,trivial,trivial⟩
   ·rw[hr,show 21 - out.length=(21 - (dg j::out).length)+1 from by simp only[List.length_cons];omega]
    simp only[FL,h1,cond_true]
   ·simp only[List.length_cons];omega
  ·have hl:=EY hb
   repeat refine ai ?_
   refine aj (by unfold al;simp only[List.length_cons,List.length_nil];omega) ?_
   repeat refine ai ?_
   have hg:FL (21 - out.length) j out=out:=by
    rw[show 21 - out.length=(20 - out.length)+1 from by omega]
    simp only[FL,h1,cond_false]
   unfold mt
   rw[h0,hr,hg]
   rfl
def eZ (_:Bs) (k:Int):Bs×Int:=(mt k,wk k)
def i5 (_:Int) (k:Int):Int×Int:=(mi k,wk k)
theorem ll (x:Bs) (k:Int) (h0:0≤k) (h:k+fu x≤1099511627776):(eZ x k).2=k+fu x:=aq h0 h
theorem wK (x:Int) (k:Int) (h0:0≤k) (h:k+fu x≤1099511627776):(i5 x k).2=k+fu x:=aq h0 h
end Go.Vc
end
section
namespace Go.Vc
open Go.Proofs
noncomputable def GateField.mark (x:GateField) (k:Int):GateField×Int:=(⟨(mt k),(mi (wk k)),(mi (wk (wk k))),(mi (wk (wk (wk k)))),(aA eZ x.words (wk (wk (wk (wk k))))).1,(mt (aA eZ x.words (wk (wk (wk (wk k))))).2),(mi (wk (aA eZ x.words (wk (wk (wk (wk k))))).2)),(mb (wk (wk (aA eZ x.words (wk (wk (wk (wk k))))).2))),(mb (wk (wk (wk (aA eZ x.words (wk (wk (wk (wk k))))).2)))),(mt (wk (wk (wk (wk (aA eZ x.words (wk (wk (wk (wk k))))).2))))),(mt (wk (wk (wk (wk (wk (aA eZ x.words (wk (wk (wk (wk k))))).2))))))⟩,(wk (wk (wk (wk (wk (wk (aA eZ x.words (wk (wk (wk (wk k))))).2)))))))
noncomputable def GateField.marks (x:GateField) (k:Int):GateField×Int:=(⟨x.name,x.kind,x.least,x.most,(aA eZ x.words k).1,x.to_,x.role,x.must,x.fixed,x.default_,x.weighs⟩,(aA eZ x.words k).2)
def GateField.lv (x:GateField):Int:=10+bv fu x.words
def GateField.el (x:GateField):Int:=0+jP BG x.words
theorem GateField.lv_nn (x:GateField):0≤x.lv:=by
 have p0:=aC dh x.words
 unfold GateField.lv;omega
theorem GateField.el_nn (x:GateField):0≤x.el:=by
 have p0:=cm iN x.words
 unfold GateField.el;omega
theorem GateField.lv_le (x:GateField):x.lv≤32+32*x.el:=by
 have p0:=fV wM x.words
 unfold GateField.lv GateField.el;omega
theorem GateField.mark_val (x:GateField) (k:Int) (h0:0≤k) (hB:k+(10+bv fu x.words)≤1099511627776):(GateField.mark x k).2=k+(10+bv fu x.words):=by
 have p0:=aC dh x.words
 have s0:(wk k)=k+1:=aq (by omega) (by omega)
 have s1:(wk (wk k))=k+2:=by rw[s0,aq (by omega) (by omega)];try omega
 have s2:(wk (wk (wk k)))=k+3:=by rw[s1,aq (by omega) (by omega)];try omega
 have s3:(wk (wk (wk (wk k))))=k+4:=by rw[s2,aq (by omega) (by omega)];try omega
 have s4:(aA eZ x.words (wk (wk (wk (wk k))))).2=k+4+bv fu x.words:=by rw[s3,cf (l:=fu) ll dh x.words _ (by omega) (by omega)];try omega
 have s5:(wk (aA eZ x.words (wk (wk (wk (wk k))))).2)=k+5+bv fu x.words:=by rw[s4,aq (by omega) (by omega)];try omega
 have s6:(wk (wk (aA eZ x.words (wk (wk (wk (wk k))))).2))=k+6+bv fu x.words:=by rw[s5,aq (by omega) (by omega)];try omega
 have s7:(wk (wk (wk (aA eZ x.words (wk (wk (wk (wk k))))).2)))=k+7+bv fu x.words:=by rw[s6,aq (by omega) (by omega)];try omega
 have s8:(wk (wk (wk (wk (aA eZ x.words (wk (wk (wk (wk k))))).2))))=k+8+bv fu x.words:=by rw[s7,aq (by omega) (by omega)];try omega
 have s9:(wk (wk (wk (wk (wk (aA eZ x.words (wk (wk (wk (wk k))))).2)))))=k+9+bv fu x.words:=by rw[s8,aq (by omega) (by omega)];try omega
 have s10:(wk (wk (wk (wk (wk (wk (aA eZ x.words (wk (wk (wk (wk k))))).2))))))=k+10+bv fu x.words:=by rw[s9,aq (by omega) (by omega)];try omega
 show (wk (wk (wk (wk (wk (wk (aA eZ x.words (wk (wk (wk (wk k))))).2))))))=_
 rw[s10];try omega
noncomputable def GateShape.mark (x:GateShape) (k:Int):GateShape×Int:=(⟨(mt k),(aA GateField.mark x.fields (wk k)).1⟩,(aA GateField.mark x.fields (wk k)).2)
noncomputable def GateShape.marks (x:GateShape) (k:Int):GateShape×Int:=(⟨x.kind,(aA GateField.mark x.fields k).1⟩,(aA GateField.mark x.fields k).2)
def GateShape.lv (x:GateShape):Int:=1+bv GateField.lv x.fields
def GateShape.el (x:GateShape):Int:=0+jP GateField.el x.fields
theorem GateShape.lv_nn (x:GateShape):0≤x.lv:=by
 have p0:=aC GateField.lv_nn x.fields
 unfold GateShape.lv;omega
theorem GateShape.el_nn (x:GateShape):0≤x.el:=by
 have p0:=cm GateField.el_nn x.fields
 unfold GateShape.el;omega
theorem GateShape.lv_le (x:GateShape):x.lv≤32+32*x.el:=by
 have p0:=fV GateField.lv_le x.fields
 unfold GateShape.lv GateShape.el;omega
theorem GateShape.mark_val (x:GateShape) (k:Int) (h0:0≤k) (hB:k+(1+bv GateField.lv x.fields)≤1099511627776):(GateShape.mark x k).2=k+(1+bv GateField.lv x.fields):=by
 have p0:=aC GateField.lv_nn x.fields
 have s0:(wk k)=k+1:=aq (by omega) (by omega)
 have s1:(aA GateField.mark x.fields (wk k)).2=k+1+bv GateField.lv x.fields:=by rw[s0,cf (l:=GateField.lv) GateField.mark_val GateField.lv_nn x.fields _ (by omega) (by omega)];try omega
 show (aA GateField.mark x.fields (wk k)).2=_
 rw[s1];try omega
noncomputable def GateMend.mark (x:GateMend) (k:Int):GateMend×Int:=(⟨(mt k),(mt (wk k)),(mt (wk (wk k))),(mt (wk (wk (wk k)))),(mt (wk (wk (wk (wk k))))),(mt (wk (wk (wk (wk (wk k))))))⟩,(wk (wk (wk (wk (wk (wk k)))))))
noncomputable def GateMend.marks (x:GateMend) (k:Int):GateMend×Int:=(⟨x.kind,x.field,x.when_,x.is_,x.put,x.from_⟩,k)
def GateMend.lv (x:GateMend):Int:=6
def GateMend.el (x:GateMend):Int:=0
theorem GateMend.lv_nn (x:GateMend):0≤x.lv:=by
 unfold GateMend.lv;omega
theorem GateMend.el_nn (x:GateMend):0≤x.el:=by
 unfold GateMend.el;omega
theorem GateMend.lv_le (x:GateMend):x.lv≤32+32*x.el:=by
 unfold GateMend.lv GateMend.el;omega
theorem GateMend.mark_val (x:GateMend) (k:Int) (h0:0≤k) (hB:k+(6)≤1099511627776):(GateMend.mark x k).2=k+(6):=by
 have s0:(wk k)=k+1:=aq (by omega) (by omega)
 have s1:(wk (wk k))=k+2:=by rw[s0,aq (by omega) (by omega)];try omega
 have s2:(wk (wk (wk k)))=k+3:=by rw[s1,aq (by omega) (by omega)];try omega
 have s3:(wk (wk (wk (wk k))))=k+4:=by rw[s2,aq (by omega) (by omega)];try omega
 have s4:(wk (wk (wk (wk (wk k)))))=k+5:=by rw[s3,aq (by omega) (by omega)];try omega
 have s5:(wk (wk (wk (wk (wk (wk k))))))=k+6:=by rw[s4,aq (by omega) (by omega)];try omega
 show (wk (wk (wk (wk (wk (wk k))))))=_
 rw[s5];try omega
noncomputable def GateTeam.mark (x:GateTeam) (k:Int):GateTeam×Int:=(⟨(mt k),(mt (wk k))⟩,(wk (wk k)))
noncomputable def GateTeam.marks (x:GateTeam) (k:Int):GateTeam×Int:=(⟨x.name,x.over⟩,k)
def GateTeam.lv (x:GateTeam):Int:=2
def GateTeam.el (x:GateTeam):Int:=0
theorem GateTeam.lv_nn (x:GateTeam):0≤x.lv:=by
 unfold GateTeam.lv;omega
theorem GateTeam.el_nn (x:GateTeam):0≤x.el:=by
 unfold GateTeam.el;omega
theorem GateTeam.lv_le (x:GateTeam):x.lv≤32+32*x.el:=by
 unfold GateTeam.lv GateTeam.el;omega
theorem GateTeam.mark_val (x:GateTeam) (k:Int) (h0:0≤k) (hB:k+(2)≤1099511627776):(GateTeam.mark x k).2=k+(2):=by
 have s0:(wk k)=k+1:=aq (by omega) (by omega)
 have s1:(wk (wk k))=k+2:=by rw[s0,aq (by omega) (by omega)];try omega
 show (wk (wk k))=_
 rw[s1];try omega
noncomputable def GateLaw.mark (x:GateLaw) (k:Int):GateLaw×Int:=(⟨(aA GateShape.mark x.shapes k).1,(aA GateMend.mark x.mends (aA GateShape.mark x.shapes k).2).1,(aA GateTeam.mark x.teams (aA GateMend.mark x.mends (aA GateShape.mark x.shapes k).2).2).1⟩,(aA GateTeam.mark x.teams (aA GateMend.mark x.mends (aA GateShape.mark x.shapes k).2).2).2)
noncomputable def GateLaw.marks (x:GateLaw) (k:Int):GateLaw×Int:=(⟨(aA GateShape.mark x.shapes k).1,(aA GateMend.mark x.mends (aA GateShape.mark x.shapes k).2).1,(aA GateTeam.mark x.teams (aA GateMend.mark x.mends (aA GateShape.mark x.shapes k).2).2).1⟩,(aA GateTeam.mark x.teams (aA GateMend.mark x.mends (aA GateShape.mark x.shapes k).2).2).2)
def GateLaw.lv (x:GateLaw):Int:=0+bv GateShape.lv x.shapes+bv GateMend.lv x.mends+bv GateTeam.lv x.teams
def GateLaw.el (x:GateLaw):Int:=0+jP GateShape.el x.shapes+jP GateMend.el x.mends+jP GateTeam.el x.teams
theorem GateLaw.lv_nn (x:GateLaw):0≤x.lv:=by
 have p0:=aC GateShape.lv_nn x.shapes
 have p1:=aC GateMend.lv_nn x.mends
 have p2:=aC GateTeam.lv_nn x.teams
 unfold GateLaw.lv;omega
theorem GateLaw.el_nn (x:GateLaw):0≤x.el:=by
 have p0:=cm GateShape.el_nn x.shapes
 have p1:=cm GateMend.el_nn x.mends
 have p2:=cm GateTeam.el_nn x.teams
 unfold GateLaw.el;omega
theorem GateLaw.lv_le (x:GateLaw):x.lv≤32+32*x.el:=by
 have p0:=fV GateShape.lv_le x.shapes
 have p1:=fV GateMend.lv_le x.mends
 have p2:=fV GateTeam.lv_le x.teams
 unfold GateLaw.lv GateLaw.el;omega
theorem GateLaw.marks_val (x:GateLaw) (k:Int) (h0:0≤k) (hB:k+(0+bv GateShape.lv x.shapes+bv GateMend.lv x.mends+bv GateTeam.lv x.teams)≤1099511627776):(GateLaw.marks x k).2=k+(0+bv GateShape.lv x.shapes+bv GateMend.lv x.mends+bv GateTeam.lv x.teams):=by
 have p0:=aC GateShape.lv_nn x.shapes
 have p1:=aC GateMend.lv_nn x.mends
 have p2:=aC GateTeam.lv_nn x.teams
 have s0:(aA GateShape.mark x.shapes k).2=k+0+bv GateShape.lv x.shapes:=by rw[cf (l:=GateShape.lv) GateShape.mark_val GateShape.lv_nn x.shapes _ (by omega) (by omega)];try omega
 have s1:(aA GateMend.mark x.mends (aA GateShape.mark x.shapes k).2).2=k+0+bv GateShape.lv x.shapes+bv GateMend.lv x.mends:=by rw[s0,cf (l:=GateMend.lv) GateMend.mark_val GateMend.lv_nn x.mends _ (by omega) (by omega)];try omega
 have s2:(aA GateTeam.mark x.teams (aA GateMend.mark x.mends (aA GateShape.mark x.shapes k).2).2).2=k+0+bv GateShape.lv x.shapes+bv GateMend.lv x.mends+bv GateTeam.lv x.teams:=by rw[s1,cf (l:=GateTeam.lv) GateTeam.mark_val GateTeam.lv_nn x.teams _ (by omega) (by omega)];try omega
 show (aA GateTeam.mark x.teams (aA GateMend.mark x.mends (aA GateShape.mark x.shapes k).2).2).2=_
 rw[s2];try omega
noncomputable def GateObject.mark (x:GateObject) (k:Int):GateObject×Int:=(⟨(mt k),(mt (wk k)),(mt (wk (wk k))),(aA eZ x.values (wk (wk (wk k)))).1,(mb (aA eZ x.values (wk (wk (wk k)))).2),(aA eZ x.holds (wk (aA eZ x.values (wk (wk (wk k)))).2)).1,(mi (aA eZ x.holds (wk (aA eZ x.values (wk (wk (wk k)))).2)).2)⟩,(wk (aA eZ x.holds (wk (aA eZ x.values (wk (wk (wk k)))).2)).2))
noncomputable def GateObject.marks (x:GateObject) (k:Int):GateObject×Int:=(⟨x.kind,x.name,x.team,(aA eZ x.values k).1,x.ending,(aA eZ x.holds (aA eZ x.values k).2).1,x.version⟩,(aA eZ x.holds (aA eZ x.values k).2).2)
def GateObject.lv (x:GateObject):Int:=5+bv fu x.values+bv fu x.holds
def GateObject.el (x:GateObject):Int:=0+jP BG x.values+jP BG x.holds
theorem GateObject.lv_nn (x:GateObject):0≤x.lv:=by
 have p0:=aC dh x.values
 have p1:=aC dh x.holds
 unfold GateObject.lv;omega
theorem GateObject.el_nn (x:GateObject):0≤x.el:=by
 have p0:=cm iN x.values
 have p1:=cm iN x.holds
 unfold GateObject.el;omega
theorem GateObject.lv_le (x:GateObject):x.lv≤32+32*x.el:=by
 have p0:=fV wM x.values
 have p1:=fV wM x.holds
 unfold GateObject.lv GateObject.el;omega
theorem GateObject.mark_val (x:GateObject) (k:Int) (h0:0≤k) (hB:k+(5+bv fu x.values+bv fu x.holds)≤1099511627776):(GateObject.mark x k).2=k+(5+bv fu x.values+bv fu x.holds):=by
 have p0:=aC dh x.values
 have p1:=aC dh x.holds
 have s0:(wk k)=k+1:=aq (by omega) (by omega)
 have s1:(wk (wk k))=k+2:=by rw[s0,aq (by omega) (by omega)];try omega
 have s2:(wk (wk (wk k)))=k+3:=by rw[s1,aq (by omega) (by omega)];try omega
 have s3:(aA eZ x.values (wk (wk (wk k)))).2=k+3+bv fu x.values:=by rw[s2,cf (l:=fu) ll dh x.values _ (by omega) (by omega)];try omega
 have s4:(wk (aA eZ x.values (wk (wk (wk k)))).2)=k+4+bv fu x.values:=by rw[s3,aq (by omega) (by omega)];try omega
 have s5:(aA eZ x.holds (wk (aA eZ x.values (wk (wk (wk k)))).2)).2=k+4+bv fu x.values+bv fu x.holds:=by rw[s4,cf (l:=fu) ll dh x.holds _ (by omega) (by omega)];try omega
 have s6:(wk (aA eZ x.holds (wk (aA eZ x.values (wk (wk (wk k)))).2)).2)=k+5+bv fu x.values+bv fu x.holds:=by rw[s5,aq (by omega) (by omega)];try omega
 show (wk (aA eZ x.holds (wk (aA eZ x.values (wk (wk (wk k)))).2)).2)=_
 rw[s6];try omega
noncomputable def GateRule.mark (x:GateRule) (k:Int):GateRule×Int:=(⟨(aA i5 x.verbs k).1,(mt (aA i5 x.verbs k).2),(mt (wk (aA i5 x.verbs k).2)),(mt (wk (wk (aA i5 x.verbs k).2)))⟩,(wk (wk (wk (aA i5 x.verbs k).2))))
noncomputable def GateRule.marks (x:GateRule) (k:Int):GateRule×Int:=(⟨(aA i5 x.verbs k).1,x.kind,x.team,x.prefix_⟩,(aA i5 x.verbs k).2)
def GateRule.lv (x:GateRule):Int:=3+bv fu x.verbs
def GateRule.el (x:GateRule):Int:=0+jP BG x.verbs
theorem GateRule.lv_nn (x:GateRule):0≤x.lv:=by
 have p0:=aC dh x.verbs
 unfold GateRule.lv;omega
theorem GateRule.el_nn (x:GateRule):0≤x.el:=by
 have p0:=cm iN x.verbs
 unfold GateRule.el;omega
noncomputable def GateGrant.mark (x:GateGrant) (k:Int):GateGrant×Int:=(⟨(mi k),(mt (wk k)),(mt (wk (wk k))),⟨(aA i5 x.rule.verbs (wk (wk (wk k)))).1,(mt (aA i5 x.rule.verbs (wk (wk (wk k)))).2),(mt (wk (aA i5 x.rule.verbs (wk (wk (wk k)))).2)),(mt (wk (wk (aA i5 x.rule.verbs (wk (wk (wk k)))).2)))⟩⟩,(wk (wk (wk (aA i5 x.rule.verbs (wk (wk (wk k)))).2))))
noncomputable def GateGrant.marks (x:GateGrant) (k:Int):GateGrant×Int:=(⟨x.number,x.to_,x.by_,⟨(aA i5 x.rule.verbs k).1,x.rule.kind,x.rule.team,x.rule.prefix_⟩⟩,(aA i5 x.rule.verbs k).2)
def GateGrant.lv (x:GateGrant):Int:=6+bv fu x.rule.verbs
def GateGrant.el (x:GateGrant):Int:=0+jP BG x.rule.verbs
theorem GateGrant.lv_nn (x:GateGrant):0≤x.lv:=by
 have p0:=aC dh x.rule.verbs
 unfold GateGrant.lv;omega
theorem GateGrant.el_nn (x:GateGrant):0≤x.el:=by
 have p0:=cm iN x.rule.verbs
 unfold GateGrant.el;omega
theorem GateGrant.lv_le (x:GateGrant):x.lv≤32+32*x.el:=by
 have p0:=fV wM x.rule.verbs
 unfold GateGrant.lv GateGrant.el;omega
theorem GateGrant.mark_val (x:GateGrant) (k:Int) (h0:0≤k) (hB:k+(6+bv fu x.rule.verbs)≤1099511627776):(GateGrant.mark x k).2=k+(6+bv fu x.rule.verbs):=by
 have p0:=aC dh x.rule.verbs
 have s0:(wk k)=k+1:=aq (by omega) (by omega)
 have s1:(wk (wk k))=k+2:=by rw[s0,aq (by omega) (by omega)];try omega
 have s2:(wk (wk (wk k)))=k+3:=by rw[s1,aq (by omega) (by omega)];try omega
 have s3:(aA i5 x.rule.verbs (wk (wk (wk k)))).2=k+3+bv fu x.rule.verbs:=by rw[s2,cf (l:=fu) wK dh x.rule.verbs _ (by omega) (by omega)];try omega
 have s4:(wk (aA i5 x.rule.verbs (wk (wk (wk k)))).2)=k+4+bv fu x.rule.verbs:=by rw[s3,aq (by omega) (by omega)];try omega
 have s5:(wk (wk (aA i5 x.rule.verbs (wk (wk (wk k)))).2))=k+5+bv fu x.rule.verbs:=by rw[s4,aq (by omega) (by omega)];try omega
 have s6:(wk (wk (wk (aA i5 x.rule.verbs (wk (wk (wk k)))).2)))=k+6+bv fu x.rule.verbs:=by rw[s5,aq (by omega) (by omega)];try omega
 show (wk (wk (wk (aA i5 x.rule.verbs (wk (wk (wk k)))).2)))=_
 rw[s6];try omega
noncomputable def GateLedger.mark (x:GateLedger) (k:Int):GateLedger×Int:=(⟨(mt k),(mt (wk k)),(mi (wk (wk k))),(mi (wk (wk (wk k))))⟩,(wk (wk (wk (wk k)))))
noncomputable def GateLedger.marks (x:GateLedger) (k:Int):GateLedger×Int:=(⟨x.team,x.resource,x.most,x.free⟩,k)
def GateLedger.lv (x:GateLedger):Int:=4
def GateLedger.el (x:GateLedger):Int:=0
theorem GateLedger.lv_nn (x:GateLedger):0≤x.lv:=by
 unfold GateLedger.lv;omega
theorem GateLedger.el_nn (x:GateLedger):0≤x.el:=by
 unfold GateLedger.el;omega
theorem GateLedger.lv_le (x:GateLedger):x.lv≤32+32*x.el:=by
 unfold GateLedger.lv GateLedger.el;omega
theorem GateLedger.mark_val (x:GateLedger) (k:Int) (h0:0≤k) (hB:k+(4)≤1099511627776):(GateLedger.mark x k).2=k+(4):=by
 have s0:(wk k)=k+1:=aq (by omega) (by omega)
 have s1:(wk (wk k))=k+2:=by rw[s0,aq (by omega) (by omega)];try omega
 have s2:(wk (wk (wk k)))=k+3:=by rw[s1,aq (by omega) (by omega)];try omega
 have s3:(wk (wk (wk (wk k))))=k+4:=by rw[s2,aq (by omega) (by omega)];try omega
 show (wk (wk (wk (wk k))))=_
 rw[s3];try omega
noncomputable def GatePurse.mark (x:GatePurse) (k:Int):GatePurse×Int:=(⟨(mt k),(mt (wk k)),(mt (wk (wk k))),(mi (wk (wk (wk k)))),(mi (wk (wk (wk (wk k)))))⟩,(wk (wk (wk (wk (wk k))))))
noncomputable def GatePurse.marks (x:GatePurse) (k:Int):GatePurse×Int:=(⟨x.door,x.team,x.resource,x.amount,x.until_⟩,k)
def GatePurse.lv (x:GatePurse):Int:=5
def GatePurse.el (x:GatePurse):Int:=0
theorem GatePurse.lv_nn (x:GatePurse):0≤x.lv:=by
 unfold GatePurse.lv;omega
theorem GatePurse.el_nn (x:GatePurse):0≤x.el:=by
 unfold GatePurse.el;omega
theorem GatePurse.lv_le (x:GatePurse):x.lv≤32+32*x.el:=by
 unfold GatePurse.lv GatePurse.el;omega
theorem GatePurse.mark_val (x:GatePurse) (k:Int) (h0:0≤k) (hB:k+(5)≤1099511627776):(GatePurse.mark x k).2=k+(5):=by
 have s0:(wk k)=k+1:=aq (by omega) (by omega)
 have s1:(wk (wk k))=k+2:=by rw[s0,aq (by omega) (by omega)];try omega
 have s2:(wk (wk (wk k)))=k+3:=by rw[s1,aq (by omega) (by omega)];try omega
 have s3:(wk (wk (wk (wk k))))=k+4:=by rw[s2,aq (by omega) (by omega)];try omega
 have s4:(wk (wk (wk (wk (wk k)))))=k+5:=by rw[s3,aq (by omega) (by omega)];try omega
 show (wk (wk (wk (wk (wk k)))))=_
 rw[s4];try omega
noncomputable def GateBook.mark (x:GateBook) (k:Int):GateBook×Int:=(⟨(mi k),(mi (wk k)),(mi (wk (wk k))),(aA GateObject.mark x.objects (wk (wk (wk k)))).1,(aA GateGrant.mark x.grants (aA GateObject.mark x.objects (wk (wk (wk k)))).2).1,(aA GateLedger.mark x.ledgers (aA GateGrant.mark x.grants (aA GateObject.mark x.objects (wk (wk (wk k)))).2).2).1,(aA GatePurse.mark x.purses (aA GateLedger.mark x.ledgers (aA GateGrant.mark x.grants (aA GateObject.mark x.objects (wk (wk (wk k)))).2).2).2).1⟩,(aA GatePurse.mark x.purses (aA GateLedger.mark x.ledgers (aA GateGrant.mark x.grants (aA GateObject.mark x.objects (wk (wk (wk k)))).2).2).2).2)
noncomputable def GateBook.marks (x:GateBook) (k:Int):GateBook×Int:=(⟨x.now,x.tick,x.given,(aA GateObject.mark x.objects k).1,(aA GateGrant.mark x.grants (aA GateObject.mark x.objects k).2).1,(aA GateLedger.mark x.ledgers (aA GateGrant.mark x.grants (aA GateObject.mark x.objects k).2).2).1,(aA GatePurse.mark x.purses (aA GateLedger.mark x.ledgers (aA GateGrant.mark x.grants (aA GateObject.mark x.objects k).2).2).2).1⟩,(aA GatePurse.mark x.purses (aA GateLedger.mark x.ledgers (aA GateGrant.mark x.grants (aA GateObject.mark x.objects k).2).2).2).2)
def GateBook.lv (x:GateBook):Int:=3+bv GateObject.lv x.objects+bv GateGrant.lv x.grants+bv GateLedger.lv x.ledgers+bv GatePurse.lv x.purses
def GateBook.el (x:GateBook):Int:=0+jP GateObject.el x.objects+jP GateGrant.el x.grants+jP GateLedger.el x.ledgers+jP GatePurse.el x.purses
theorem GateBook.lv_nn (x:GateBook):0≤x.lv:=by
 have p0:=aC GateObject.lv_nn x.objects
 have p1:=aC GateGrant.lv_nn x.grants
 have p2:=aC GateLedger.lv_nn x.ledgers
 have p3:=aC GatePurse.lv_nn x.purses
 unfold GateBook.lv;omega
theorem GateBook.el_nn (x:GateBook):0≤x.el:=by
 have p0:=cm GateObject.el_nn x.objects
 have p1:=cm GateGrant.el_nn x.grants
 have p2:=cm GateLedger.el_nn x.ledgers
 have p3:=cm GatePurse.el_nn x.purses
 unfold GateBook.el;omega
theorem GateBook.lv_le (x:GateBook):x.lv≤32+32*x.el:=by
 have p0:=fV GateObject.lv_le x.objects
 have p1:=fV GateGrant.lv_le x.grants
 have p2:=fV GateLedger.lv_le x.ledgers
 have p3:=fV GatePurse.lv_le x.purses
 unfold GateBook.lv GateBook.el;omega
theorem GateBook.marks_val (x:GateBook) (k:Int) (h0:0≤k) (hB:k+(0+bv GateObject.lv x.objects+bv GateGrant.lv x.grants+bv GateLedger.lv x.ledgers+bv GatePurse.lv x.purses)≤1099511627776):(GateBook.marks x k).2=k+(0+bv GateObject.lv x.objects+bv GateGrant.lv x.grants+bv GateLedger.lv x.ledgers+bv GatePurse.lv x.purses):=by
 have p0:=aC GateObject.lv_nn x.objects
 have p1:=aC GateGrant.lv_nn x.grants
 have p2:=aC GateLedger.lv_nn x.ledgers
 have p3:=aC GatePurse.lv_nn x.purses
 have s0:(aA GateObject.mark x.objects k).2=k+0+bv GateObject.lv x.objects:=by rw[cf (l:=GateObject.lv) GateObject.mark_val GateObject.lv_nn x.objects _ (by omega) (by omega)];try omega
 have s1:(aA GateGrant.mark x.grants (aA GateObject.mark x.objects k).2).2=k+0+bv GateObject.lv x.objects+bv GateGrant.lv x.grants:=by rw[s0,cf (l:=GateGrant.lv) GateGrant.mark_val GateGrant.lv_nn x.grants _ (by omega) (by omega)];try omega
 have s2:(aA GateLedger.mark x.ledgers (aA GateGrant.mark x.grants (aA GateObject.mark x.objects k).2).2).2=k+0+bv GateObject.lv x.objects+bv GateGrant.lv x.grants+bv GateLedger.lv x.ledgers:=by rw[s1,cf (l:=GateLedger.lv) GateLedger.mark_val GateLedger.lv_nn x.ledgers _ (by omega) (by omega)];try omega
 have s3:(aA GatePurse.mark x.purses (aA GateLedger.mark x.ledgers (aA GateGrant.mark x.grants (aA GateObject.mark x.objects k).2).2).2).2=k+0+bv GateObject.lv x.objects+bv GateGrant.lv x.grants+bv GateLedger.lv x.ledgers+bv GatePurse.lv x.purses:=by rw[s2,cf (l:=GatePurse.lv) GatePurse.mark_val GatePurse.lv_nn x.purses _ (by omega) (by omega)];try omega
 show (aA GatePurse.mark x.purses (aA GateLedger.mark x.ledgers (aA GateGrant.mark x.grants (aA GateObject.mark x.objects k).2).2).2).2=_
 rw[s3];try omega
end Go.Vc
end
section
namespace Go.Vc
open Go.Proofs
set_option maxRecDepth 100000
set_option maxHeartbeats 8000000 in
theorem jF (xs:List Bs) (k:Int):FSpec P 138 [.own 0,.d (.int .i64 k)] ⟨[(0,.tree 9 1 [.leaf] (xs.map eB))],1,1⟩ (.d (.int .i64 (aA eZ xs k).2)) ⟨[(0,.tree 9 1 [.leaf] ((aA eZ xs k).1.map eB))],1,1⟩:=by
 refine FSpec.of_vc bW av [.tmp 4] Tryz.func138 rfl rfl rfl rfl rfl (fun hok hob=>?_)
 have hs:xs.length≤al:=by have:=(hob 0 _ rfl).1;rwa [List.length_map] at this
 repeat refine ai ?_
 refine ⟨fun m l h=>∃i:Nat,m=xs.length - i∧i≤xs.length∧l=[(0,.own 0),(1,.d (.int .i64 (gO eZ xs k i))),(5,.d (.int .i64 i))]∧h=⟨[(0,.tree 9 1 [.leaf] (uS eZ eB xs k i))],1,1⟩,
  ⟨_,_,_,⟨0,rfl,Nat.zero_le _,rfl,rfl⟩,rfl,rfl,⟨rfl,rfl,rfl,trivial⟩,⟨rfl,trivial⟩,⟨rfl,trivial⟩⟩,?_⟩
 rintro m l h1 ⟨i,rfl,hi,rfl,rfl⟩
 refine aj ?_ ?_<;>intro h1
 ·have hlt:i<xs.length:=by
   have:=of_decide_eq_true h1
   rw[ce _ hi] at this;omega
  repeat' first
   |refine ai ?_
   |refine aj (Int.natCast_nonneg _) (aj (Int.ofNat_lt.2 (by (try simp only[List.length_set]);exact bj hlt)) ?_)
   |refine Exists.intro _ (aj (aV hlt) (aj (Nat.le_of_ble_eq_true rfl) ?_))
   |refine Exists.intro _ (aj (gu (by (try simp only[List.length_set]);exact bj hlt)) (aj (Nat.le_of_ble_eq_true rfl) ?_))
   |refine Exists.intro _ (aj (aV hlt) (aj rfl ?_))
   |refine aj (show (3:Int)≠0 by decide) ?_
   |refine Or.inl (Exists.intro _ (aj (lD _) ?_))
   |refine Exists.intro _ (aj (aV hlt) ?_)
   |refine Exists.intro _ (aj (gu (by (try simp only[List.length_set]);exact bj hlt)) ?_)
  refine ⟨_,_,_,⟨i+1,rfl,hlt,rfl,rfl⟩,by omega,rfl,rfl,⟨rfl,nd (cv (f:=eZ) hlt k),nd (V hlt hs),trivial⟩,⟨rfl,trivial⟩,⟨?_,trivial⟩⟩
  refine congrArg some (congrArg (AO.tree _ _ _) ?_)
  try simp only[List.set_set]
  exact eT hlt rfl
 ·have hge:xs.length≤i:=by
   have:=of_decide_eq_false h1
   rw[ce _ hi] at this;omega
  refine aj (nd (du hge)) (aj rfl (aj rfl (aj rfl (aj trivial (aj ⟨rfl,trivial⟩ ⟨?_,trivial⟩)))))
  exact congrArg some (congrArg (AO.tree _ _ _) (gk hge))
set_option maxHeartbeats 8000000 in
theorem Bm (xs:List Int) (k:Int):FSpec P 22 [.own 0,.d (.int .i64 k)] ⟨[(0,.tree 3 1 [.leaf] (xs.map eN))],1,1⟩ (.d (.int .i64 (aA i5 xs k).2)) ⟨[(0,.tree 3 1 [.leaf] ((aA i5 xs k).1.map eN))],1,1⟩:=by
 refine FSpec.of_vc bW av [.tmp 4] Tryz.func22 rfl rfl rfl rfl rfl (fun hok hob=>?_)
 have hs:xs.length≤al:=by have:=(hob 0 _ rfl).1;rwa [List.length_map] at this
 repeat refine ai ?_
 refine ⟨fun m l h=>∃i:Nat,m=xs.length - i∧i≤xs.length∧l=[(0,.own 0),(1,.d (.int .i64 (gO i5 xs k i))),(5,.d (.int .i64 i))]∧h=⟨[(0,.tree 3 1 [.leaf] (uS i5 eN xs k i))],1,1⟩,
  ⟨_,_,_,⟨0,rfl,Nat.zero_le _,rfl,rfl⟩,rfl,rfl,⟨rfl,rfl,rfl,trivial⟩,⟨rfl,trivial⟩,⟨rfl,trivial⟩⟩,?_⟩
 rintro m l h1 ⟨i,rfl,hi,rfl,rfl⟩
 refine aj ?_ ?_<;>intro h1
 ·have hlt:i<xs.length:=by
   have:=of_decide_eq_true h1
   rw[ce _ hi] at this;omega
  repeat' first
   |refine ai ?_
   |refine aj (Int.natCast_nonneg _) (aj (Int.ofNat_lt.2 (by (try simp only[List.length_set]);exact bj hlt)) ?_)
   |refine Exists.intro _ (aj (aV hlt) (aj (Nat.le_of_ble_eq_true rfl) ?_))
   |refine Exists.intro _ (aj (gu (by (try simp only[List.length_set]);exact bj hlt)) (aj (Nat.le_of_ble_eq_true rfl) ?_))
   |refine Exists.intro _ (aj (aV hlt) (aj rfl ?_))
   |refine aj (show (3:Int)≠0 by decide) ?_
   |refine Or.inl (Exists.intro _ (aj (lD _) ?_))
   |refine Exists.intro _ (aj (aV hlt) ?_)
   |refine Exists.intro _ (aj (gu (by (try simp only[List.length_set]);exact bj hlt)) ?_)
  refine ⟨_,_,_,⟨i+1,rfl,hlt,rfl,rfl⟩,by omega,rfl,rfl,⟨rfl,nd (cv (f:=i5) hlt k),nd (V hlt hs),trivial⟩,⟨rfl,trivial⟩,⟨?_,trivial⟩⟩
  refine congrArg some (congrArg (AO.tree _ _ _) ?_)
  try simp only[List.set_set]
  exact eT hlt rfl
 ·have hge:xs.length≤i:=by
   have:=of_decide_eq_false h1
   rw[ce _ hi] at this;omega
  refine aj (nd (du hge)) (aj rfl (aj rfl (aj rfl (aj trivial (aj ⟨rfl,trivial⟩ ⟨?_,trivial⟩)))))
  exact congrArg some (congrArg (AO.tree _ _ _) (gk hge))
set_option maxHeartbeats 8000000 in
theorem lO (xs:List GateField) (k:Int):FSpec P 137 [.own 0,.d (.int .i64 k)] ⟨[(0,.tree 138 11 GateField.n (xs.map GateField.e))],1,1⟩ (.d (.int .i64 (aA GateField.mark xs k).2)) ⟨[(0,.tree 138 11 GateField.n ((aA GateField.mark xs k).1.map GateField.e))],1,1⟩:=by
 refine FSpec.of_vc bW av [.tmp 4] Tryz.func137 rfl rfl rfl rfl rfl (fun hok hob=>?_)
 have hs:xs.length≤al:=by have:=(hob 0 _ rfl).1;rwa [List.length_map] at this
 repeat refine ai ?_
 refine ⟨fun m l h=>∃i:Nat,m=xs.length - i∧i≤xs.length∧l=[(0,.own 0),(1,.d (.int .i64 (gO GateField.mark xs k i))),(5,.d (.int .i64 i))]∧h=⟨[(0,.tree 138 11 GateField.n (uS GateField.mark GateField.e xs k i))],1,1⟩,
  ⟨_,_,_,⟨0,rfl,Nat.zero_le _,rfl,rfl⟩,rfl,rfl,⟨rfl,rfl,rfl,trivial⟩,⟨rfl,trivial⟩,⟨rfl,trivial⟩⟩,?_⟩
 rintro m l h1 ⟨i,rfl,hi,rfl,rfl⟩
 refine aj ?_ ?_<;>intro h1
 ·have hlt:i<xs.length:=by
   have:=of_decide_eq_true h1
   rw[ce _ hi] at this;omega
  repeat' first
   |refine ai ?_
   |refine aj (Int.natCast_nonneg _) (aj (Int.ofNat_lt.2 (by (try simp only[List.length_set]);exact bj hlt)) ?_)
   |refine Exists.intro _ (aj (aV hlt) (aj (Nat.le_of_ble_eq_true rfl) ?_))
   |refine Exists.intro _ (aj (gu (by (try simp only[List.length_set]);exact bj hlt)) (aj (Nat.le_of_ble_eq_true rfl) ?_))
   |refine Exists.intro _ (aj (aV hlt) (aj rfl ?_))
   |refine aj (show (3:Int)≠0 by decide) ?_
   |refine Or.inl (Exists.intro _ (aj (lD _) ?_))
   |refine Or.inr (Or.inr (Or.inr (Or.inr (Or.inr (Or.inr (Or.inr (Or.inr (aj rfl (Exists.intro _ (Exists.intro _ (aj (gu (by (try simp only[List.length_set]);exact bj hlt)) (aj rfl (Exists.intro _ (Exists.intro _ (aj rfl (aj (jF _ _) (Exists.intro _ (aj rfl ?_))))))))))))))))))
   |refine Or.inr (Or.inr (Or.inr (Or.inr (Or.inr (Or.inr (Or.inr (Or.inr (aj rfl (Exists.intro _ (Exists.intro _ (aj (aV hlt) (aj rfl (Exists.intro _ (Exists.intro _ (aj rfl (aj (jF _ _) (Exists.intro _ (aj rfl ?_))))))))))))))))))
   |refine Exists.intro _ (aj (aV hlt) ?_)
   |refine Exists.intro _ (aj (gu (by (try simp only[List.length_set]);exact bj hlt)) ?_)
  refine ⟨_,_,_,⟨i+1,rfl,hlt,rfl,rfl⟩,by omega,rfl,rfl,⟨rfl,nd (cv (f:=GateField.mark) hlt k),nd (V hlt hs),trivial⟩,⟨rfl,trivial⟩,⟨?_,trivial⟩⟩
  refine congrArg some (congrArg (AO.tree _ _ _) ?_)
  try simp only[List.set_set]
  exact eT hlt rfl
 ·have hge:xs.length≤i:=by
   have:=of_decide_eq_false h1
   rw[ce _ hi] at this;omega
  refine aj (nd (du hge)) (aj rfl (aj rfl (aj rfl (aj trivial (aj ⟨rfl,trivial⟩ ⟨?_,trivial⟩)))))
  exact congrArg some (congrArg (AO.tree _ _ _) (gk hge))
set_option maxHeartbeats 8000000 in
theorem tZ (xs:List GateShape) (k:Int):FSpec P 64 [.own 0,.d (.int .i64 k)] ⟨[(0,.tree 164 2 GateShape.n (xs.map GateShape.e))],1,1⟩ (.d (.int .i64 (aA GateShape.mark xs k).2)) ⟨[(0,.tree 164 2 GateShape.n ((aA GateShape.mark xs k).1.map GateShape.e))],1,1⟩:=by
 refine FSpec.of_vc bW av [.tmp 4] Tryz.func64 rfl rfl rfl rfl rfl (fun hok hob=>?_)
 have hs:xs.length≤al:=by have:=(hob 0 _ rfl).1;rwa [List.length_map] at this
 repeat refine ai ?_
 refine ⟨fun m l h=>∃i:Nat,m=xs.length - i∧i≤xs.length∧l=[(0,.own 0),(1,.d (.int .i64 (gO GateShape.mark xs k i))),(5,.d (.int .i64 i))]∧h=⟨[(0,.tree 164 2 GateShape.n (uS GateShape.mark GateShape.e xs k i))],1,1⟩,
  ⟨_,_,_,⟨0,rfl,Nat.zero_le _,rfl,rfl⟩,rfl,rfl,⟨rfl,rfl,rfl,trivial⟩,⟨rfl,trivial⟩,⟨rfl,trivial⟩⟩,?_⟩
 rintro m l h1 ⟨i,rfl,hi,rfl,rfl⟩
 refine aj ?_ ?_<;>intro h1
 ·have hlt:i<xs.length:=by
   have:=of_decide_eq_true h1
   rw[ce _ hi] at this;omega
  repeat' first
   |refine ai ?_
   |refine aj (Int.natCast_nonneg _) (aj (Int.ofNat_lt.2 (by (try simp only[List.length_set]);exact bj hlt)) ?_)
   |refine Exists.intro _ (aj (aV hlt) (aj (Nat.le_of_ble_eq_true rfl) ?_))
   |refine Exists.intro _ (aj (gu (by (try simp only[List.length_set]);exact bj hlt)) (aj (Nat.le_of_ble_eq_true rfl) ?_))
   |refine Exists.intro _ (aj (aV hlt) (aj rfl ?_))
   |refine aj (show (3:Int)≠0 by decide) ?_
   |refine Or.inl (Exists.intro _ (aj (lD _) ?_))
   |refine Or.inr (Or.inr (Or.inr (Or.inr (Or.inr (Or.inr (Or.inr (Or.inr (aj rfl (Exists.intro _ (Exists.intro _ (aj (gu (by (try simp only[List.length_set]);exact bj hlt)) (aj rfl (Exists.intro _ (Exists.intro _ (aj rfl (aj (lO _ _) (Exists.intro _ (aj rfl ?_))))))))))))))))))
   |refine Or.inr (Or.inr (Or.inr (Or.inr (Or.inr (Or.inr (Or.inr (Or.inr (aj rfl (Exists.intro _ (Exists.intro _ (aj (aV hlt) (aj rfl (Exists.intro _ (Exists.intro _ (aj rfl (aj (lO _ _) (Exists.intro _ (aj rfl ?_))))))))))))))))))
   |refine Exists.intro _ (aj (aV hlt) ?_)
   |refine Exists.intro _ (aj (gu (by (try simp only[List.length_set]);exact bj hlt)) ?_)
  refine ⟨_,_,_,⟨i+1,rfl,hlt,rfl,rfl⟩,by omega,rfl,rfl,⟨rfl,nd (cv (f:=GateShape.mark) hlt k),nd (V hlt hs),trivial⟩,⟨rfl,trivial⟩,⟨?_,trivial⟩⟩
  refine congrArg some (congrArg (AO.tree _ _ _) ?_)
  try simp only[List.set_set]
  exact eT hlt rfl
 ·have hge:xs.length≤i:=by
   have:=of_decide_eq_false h1
   rw[ce _ hi] at this;omega
  refine aj (nd (du hge)) (aj rfl (aj rfl (aj rfl (aj trivial (aj ⟨rfl,trivial⟩ ⟨?_,trivial⟩)))))
  exact congrArg some (congrArg (AO.tree _ _ _) (gk hge))
set_option maxHeartbeats 8000000 in
theorem wI (xs:List GateMend) (k:Int):FSpec P 65 [.own 0,.d (.int .i64 k)] ⟨[(0,.tree 166 6 GateMend.n (xs.map GateMend.e))],1,1⟩ (.d (.int .i64 (aA GateMend.mark xs k).2)) ⟨[(0,.tree 166 6 GateMend.n ((aA GateMend.mark xs k).1.map GateMend.e))],1,1⟩:=by
 refine FSpec.of_vc bW av [.tmp 4] Tryz.func65 rfl rfl rfl rfl rfl (fun hok hob=>?_)
 have hs:xs.length≤al:=by have:=(hob 0 _ rfl).1;rwa [List.length_map] at this
 repeat refine ai ?_
 refine ⟨fun m l h=>∃i:Nat,m=xs.length - i∧i≤xs.length∧l=[(0,.own 0),(1,.d (.int .i64 (gO GateMend.mark xs k i))),(5,.d (.int .i64 i))]∧h=⟨[(0,.tree 166 6 GateMend.n (uS GateMend.mark GateMend.e xs k i))],1,1⟩,
  ⟨_,_,_,⟨0,rfl,Nat.zero_le _,rfl,rfl⟩,rfl,rfl,⟨rfl,rfl,rfl,trivial⟩,⟨rfl,trivial⟩,⟨rfl,trivial⟩⟩,?_⟩
 rintro m l h1 ⟨i,rfl,hi,rfl,rfl⟩
 refine aj ?_ ?_<;>intro h1
 ·have hlt:i<xs.length:=by
   have:=of_decide_eq_true h1
   rw[ce _ hi] at this;omega
  repeat' first
   |refine ai ?_
   |refine aj (Int.natCast_nonneg _) (aj (Int.ofNat_lt.2 (by (try simp only[List.length_set]);exact bj hlt)) ?_)
   |refine Exists.intro _ (aj (aV hlt) (aj (Nat.le_of_ble_eq_true rfl) ?_))
   |refine Exists.intro _ (aj (gu (by (try simp only[List.length_set]);exact bj hlt)) (aj (Nat.le_of_ble_eq_true rfl) ?_))
   |refine Exists.intro _ (aj (aV hlt) (aj rfl ?_))
   |refine aj (show (3:Int)≠0 by decide) ?_
   |refine Or.inl (Exists.intro _ (aj (lD _) ?_))
   |refine Exists.intro _ (aj (aV hlt) ?_)
   |refine Exists.intro _ (aj (gu (by (try simp only[List.length_set]);exact bj hlt)) ?_)
  refine ⟨_,_,_,⟨i+1,rfl,hlt,rfl,rfl⟩,by omega,rfl,rfl,⟨rfl,nd (cv (f:=GateMend.mark) hlt k),nd (V hlt hs),trivial⟩,⟨rfl,trivial⟩,⟨?_,trivial⟩⟩
  refine congrArg some (congrArg (AO.tree _ _ _) ?_)
  try simp only[List.set_set]
  exact eT hlt rfl
 ·have hge:xs.length≤i:=by
   have:=of_decide_eq_false h1
   rw[ce _ hi] at this;omega
  refine aj (nd (du hge)) (aj rfl (aj rfl (aj rfl (aj trivial (aj ⟨rfl,trivial⟩ ⟨?_,trivial⟩)))))
  exact congrArg some (congrArg (AO.tree _ _ _) (gk hge))
set_option maxHeartbeats 8000000 in
theorem wH (xs:List GateTeam) (k:Int):FSpec P 66 [.own 0,.d (.int .i64 k)] ⟨[(0,.tree 168 2 GateTeam.n (xs.map GateTeam.e))],1,1⟩ (.d (.int .i64 (aA GateTeam.mark xs k).2)) ⟨[(0,.tree 168 2 GateTeam.n ((aA GateTeam.mark xs k).1.map GateTeam.e))],1,1⟩:=by
 refine FSpec.of_vc bW av [.tmp 4] Tryz.func66 rfl rfl rfl rfl rfl (fun hok hob=>?_)
 have hs:xs.length≤al:=by have:=(hob 0 _ rfl).1;rwa [List.length_map] at this
 repeat refine ai ?_
 refine ⟨fun m l h=>∃i:Nat,m=xs.length - i∧i≤xs.length∧l=[(0,.own 0),(1,.d (.int .i64 (gO GateTeam.mark xs k i))),(5,.d (.int .i64 i))]∧h=⟨[(0,.tree 168 2 GateTeam.n (uS GateTeam.mark GateTeam.e xs k i))],1,1⟩,
  ⟨_,_,_,⟨0,rfl,Nat.zero_le _,rfl,rfl⟩,rfl,rfl,⟨rfl,rfl,rfl,trivial⟩,⟨rfl,trivial⟩,⟨rfl,trivial⟩⟩,?_⟩
 rintro m l h1 ⟨i,rfl,hi,rfl,rfl⟩
 refine aj ?_ ?_<;>intro h1
 ·have hlt:i<xs.length:=by
   have:=of_decide_eq_true h1
   rw[ce _ hi] at this;omega
  repeat' first
   |refine ai ?_
   |refine aj (Int.natCast_nonneg _) (aj (Int.ofNat_lt.2 (by (try simp only[List.length_set]);exact bj hlt)) ?_)
   |refine Exists.intro _ (aj (aV hlt) (aj (Nat.le_of_ble_eq_true rfl) ?_))
   |refine Exists.intro _ (aj (gu (by (try simp only[List.length_set]);exact bj hlt)) (aj (Nat.le_of_ble_eq_true rfl) ?_))
   |refine Exists.intro _ (aj (aV hlt) (aj rfl ?_))
   |refine aj (show (3:Int)≠0 by decide) ?_
   |refine Or.inl (Exists.intro _ (aj (lD _) ?_))
   |refine Exists.intro _ (aj (aV hlt) ?_)
   |refine Exists.intro _ (aj (gu (by (try simp only[List.length_set]);exact bj hlt)) ?_)
  refine ⟨_,_,_,⟨i+1,rfl,hlt,rfl,rfl⟩,by omega,rfl,rfl,⟨rfl,nd (cv (f:=GateTeam.mark) hlt k),nd (V hlt hs),trivial⟩,⟨rfl,trivial⟩,⟨?_,trivial⟩⟩
  refine congrArg some (congrArg (AO.tree _ _ _) ?_)
  try simp only[List.set_set]
  exact eT hlt rfl
 ·have hge:xs.length≤i:=by
   have:=of_decide_eq_false h1
   rw[ce _ hi] at this;omega
  refine aj (nd (du hge)) (aj rfl (aj rfl (aj rfl (aj trivial (aj ⟨rfl,trivial⟩ ⟨?_,trivial⟩)))))
  exact congrArg some (congrArg (AO.tree _ _ _) (gk hge))
set_option maxHeartbeats 8000000 in
theorem my (x:GateLaw) (k:Int):FSpec P 20 [.agg x.a,.d (.int .i64 k)] ⟨x.o,3,3⟩ (.d (.int .i64 (GateLaw.marks x k).2)) ⟨(GateLaw.marks x k).1.o,3,3⟩:=by
 refine FSpec.of_vc bW av [.tmp 4] Tryz.func20 rfl rfl rfl rfl rfl (fun hok hob=>?_)
 repeat refine ai ?_
 refine om [0] none (tZ _ _) ?_
 repeat refine ai ?_
 refine om [1] none (wI _ _) ?_
 repeat refine ai ?_
 refine om [2] none (wH _ _) ?_
 repeat refine ai ?_
 repeat' first|exact rfl|exact trivial|refine aj ?_ ?_
set_option maxHeartbeats 8000000 in
theorem rX (xs:List GateObject) (k:Int):FSpec P 67 [.own 0,.d (.int .i64 k)] ⟨[(0,.tree 103 7 GateObject.n (xs.map GateObject.e))],1,1⟩ (.d (.int .i64 (aA GateObject.mark xs k).2)) ⟨[(0,.tree 103 7 GateObject.n ((aA GateObject.mark xs k).1.map GateObject.e))],1,1⟩:=by
 refine FSpec.of_vc bW av [.tmp 4] Tryz.func67 rfl rfl rfl rfl rfl (fun hok hob=>?_)
 have hs:xs.length≤al:=by have:=(hob 0 _ rfl).1;rwa [List.length_map] at this
 repeat refine ai ?_
 refine ⟨fun m l h=>∃i:Nat,m=xs.length - i∧i≤xs.length∧l=[(0,.own 0),(1,.d (.int .i64 (gO GateObject.mark xs k i))),(5,.d (.int .i64 i))]∧h=⟨[(0,.tree 103 7 GateObject.n (uS GateObject.mark GateObject.e xs k i))],1,1⟩,
  ⟨_,_,_,⟨0,rfl,Nat.zero_le _,rfl,rfl⟩,rfl,rfl,⟨rfl,rfl,rfl,trivial⟩,⟨rfl,trivial⟩,⟨rfl,trivial⟩⟩,?_⟩
 rintro m l h1 ⟨i,rfl,hi,rfl,rfl⟩
 refine aj ?_ ?_<;>intro h1
 ·have hlt:i<xs.length:=by
   have:=of_decide_eq_true h1
   rw[ce _ hi] at this;omega
  repeat' first
   |refine ai ?_
   |refine aj (Int.natCast_nonneg _) (aj (Int.ofNat_lt.2 (by (try simp only[List.length_set]);exact bj hlt)) ?_)
   |refine Exists.intro _ (aj (aV hlt) (aj (Nat.le_of_ble_eq_true rfl) ?_))
   |refine Exists.intro _ (aj (gu (by (try simp only[List.length_set]);exact bj hlt)) (aj (Nat.le_of_ble_eq_true rfl) ?_))
   |refine Exists.intro _ (aj (aV hlt) (aj rfl ?_))
   |refine aj (show (3:Int)≠0 by decide) ?_
   |refine Or.inl (Exists.intro _ (aj (lD _) ?_))
   |refine Or.inr (Or.inr (Or.inr (Or.inr (Or.inr (Or.inr (Or.inr (Or.inr (aj rfl (Exists.intro _ (Exists.intro _ (aj (gu (by (try simp only[List.length_set]);exact bj hlt)) (aj rfl (Exists.intro _ (Exists.intro _ (aj rfl (aj (jF _ _) (Exists.intro _ (aj rfl ?_))))))))))))))))))
   |refine Or.inr (Or.inr (Or.inr (Or.inr (Or.inr (Or.inr (Or.inr (Or.inr (aj rfl (Exists.intro _ (Exists.intro _ (aj (aV hlt) (aj rfl (Exists.intro _ (Exists.intro _ (aj rfl (aj (jF _ _) (Exists.intro _ (aj rfl ?_))))))))))))))))))
   |refine Exists.intro _ (aj (aV hlt) ?_)
   |refine Exists.intro _ (aj (gu (by (try simp only[List.length_set]);exact bj hlt)) ?_)
  refine ⟨_,_,_,⟨i+1,rfl,hlt,rfl,rfl⟩,by omega,rfl,rfl,⟨rfl,nd (cv (f:=GateObject.mark) hlt k),nd (V hlt hs),trivial⟩,⟨rfl,trivial⟩,⟨?_,trivial⟩⟩
  refine congrArg some (congrArg (AO.tree _ _ _) ?_)
  try simp only[List.set_set]
  exact eT hlt rfl
 ·have hge:xs.length≤i:=by
   have:=of_decide_eq_false h1
   rw[ce _ hi] at this;omega
  refine aj (nd (du hge)) (aj rfl (aj rfl (aj rfl (aj trivial (aj ⟨rfl,trivial⟩ ⟨?_,trivial⟩)))))
  exact congrArg some (congrArg (AO.tree _ _ _) (gk hge))
set_option maxHeartbeats 8000000 in
theorem t9 (xs:List GateGrant) (k:Int):FSpec P 68 [.own 0,.d (.int .i64 k)] ⟨[(0,.tree 173 7 GateGrant.n (xs.map GateGrant.e))],1,1⟩ (.d (.int .i64 (aA GateGrant.mark xs k).2)) ⟨[(0,.tree 173 7 GateGrant.n ((aA GateGrant.mark xs k).1.map GateGrant.e))],1,1⟩:=by
 refine FSpec.of_vc bW av [.tmp 4] Tryz.func68 rfl rfl rfl rfl rfl (fun hok hob=>?_)
 have hs:xs.length≤al:=by have:=(hob 0 _ rfl).1;rwa [List.length_map] at this
 repeat refine ai ?_
 refine ⟨fun m l h=>∃i:Nat,m=xs.length - i∧i≤xs.length∧l=[(0,.own 0),(1,.d (.int .i64 (gO GateGrant.mark xs k i))),(5,.d (.int .i64 i))]∧h=⟨[(0,.tree 173 7 GateGrant.n (uS GateGrant.mark GateGrant.e xs k i))],1,1⟩,
  ⟨_,_,_,⟨0,rfl,Nat.zero_le _,rfl,rfl⟩,rfl,rfl,⟨rfl,rfl,rfl,trivial⟩,⟨rfl,trivial⟩,⟨rfl,trivial⟩⟩,?_⟩
 rintro m l h1 ⟨i,rfl,hi,rfl,rfl⟩
 refine aj ?_ ?_<;>intro h1
 ·have hlt:i<xs.length:=by
   have:=of_decide_eq_true h1
   rw[ce _ hi] at this;omega
  repeat' first
   |refine ai ?_
   |refine aj (Int.natCast_nonneg _) (aj (Int.ofNat_lt.2 (by (try simp only[List.length_set]);exact bj hlt)) ?_)
   |refine Exists.intro _ (aj (aV hlt) (aj (Nat.le_of_ble_eq_true rfl) ?_))
   |refine Exists.intro _ (aj (gu (by (try simp only[List.length_set]);exact bj hlt)) (aj (Nat.le_of_ble_eq_true rfl) ?_))
   |refine Exists.intro _ (aj (aV hlt) (aj rfl ?_))
   |refine aj (show (3:Int)≠0 by decide) ?_
   |refine Or.inl (Exists.intro _ (aj (lD _) ?_))
   |refine Or.inr (Or.inr (Or.inr (Or.inr (Or.inr (Or.inr (Or.inr (Or.inr (aj rfl (Exists.intro _ (Exists.intro _ (aj (gu (by (try simp only[List.length_set]);exact bj hlt)) (aj rfl (Exists.intro _ (Exists.intro _ (aj rfl (aj (Bm _ _) (Exists.intro _ (aj rfl ?_))))))))))))))))))
   |refine Or.inr (Or.inr (Or.inr (Or.inr (Or.inr (Or.inr (Or.inr (Or.inr (aj rfl (Exists.intro _ (Exists.intro _ (aj (aV hlt) (aj rfl (Exists.intro _ (Exists.intro _ (aj rfl (aj (Bm _ _) (Exists.intro _ (aj rfl ?_))))))))))))))))))
   |refine Exists.intro _ (aj (aV hlt) ?_)
   |refine Exists.intro _ (aj (gu (by (try simp only[List.length_set]);exact bj hlt)) ?_)
  refine ⟨_,_,_,⟨i+1,rfl,hlt,rfl,rfl⟩,by omega,rfl,rfl,⟨rfl,nd (cv (f:=GateGrant.mark) hlt k),nd (V hlt hs),trivial⟩,⟨rfl,trivial⟩,⟨?_,trivial⟩⟩
  refine congrArg some (congrArg (AO.tree _ _ _) ?_)
  try simp only[List.set_set]
  exact eT hlt rfl
 ·have hge:xs.length≤i:=by
   have:=of_decide_eq_false h1
   rw[ce _ hi] at this;omega
  refine aj (nd (du hge)) (aj rfl (aj rfl (aj rfl (aj trivial (aj ⟨rfl,trivial⟩ ⟨?_,trivial⟩)))))
  exact congrArg some (congrArg (AO.tree _ _ _) (gk hge))
set_option maxHeartbeats 8000000 in
theorem rY (xs:List GateLedger) (k:Int):FSpec P 69 [.own 0,.d (.int .i64 k)] ⟨[(0,.tree 119 4 GateLedger.n (xs.map GateLedger.e))],1,1⟩ (.d (.int .i64 (aA GateLedger.mark xs k).2)) ⟨[(0,.tree 119 4 GateLedger.n ((aA GateLedger.mark xs k).1.map GateLedger.e))],1,1⟩:=by
 refine FSpec.of_vc bW av [.tmp 4] Tryz.func69 rfl rfl rfl rfl rfl (fun hok hob=>?_)
 have hs:xs.length≤al:=by have:=(hob 0 _ rfl).1;rwa [List.length_map] at this
 repeat refine ai ?_
 refine ⟨fun m l h=>∃i:Nat,m=xs.length - i∧i≤xs.length∧l=[(0,.own 0),(1,.d (.int .i64 (gO GateLedger.mark xs k i))),(5,.d (.int .i64 i))]∧h=⟨[(0,.tree 119 4 GateLedger.n (uS GateLedger.mark GateLedger.e xs k i))],1,1⟩,
  ⟨_,_,_,⟨0,rfl,Nat.zero_le _,rfl,rfl⟩,rfl,rfl,⟨rfl,rfl,rfl,trivial⟩,⟨rfl,trivial⟩,⟨rfl,trivial⟩⟩,?_⟩
 rintro m l h1 ⟨i,rfl,hi,rfl,rfl⟩
 refine aj ?_ ?_<;>intro h1
 ·have hlt:i<xs.length:=by
   have:=of_decide_eq_true h1
   rw[ce _ hi] at this;omega
  repeat' first
   |refine ai ?_
   |refine aj (Int.natCast_nonneg _) (aj (Int.ofNat_lt.2 (by (try simp only[List.length_set]);exact bj hlt)) ?_)
   |refine Exists.intro _ (aj (aV hlt) (aj (Nat.le_of_ble_eq_true rfl) ?_))
   |refine Exists.intro _ (aj (gu (by (try simp only[List.length_set]);exact bj hlt)) (aj (Nat.le_of_ble_eq_true rfl) ?_))
   |refine Exists.intro _ (aj (aV hlt) (aj rfl ?_))
   |refine aj (show (3:Int)≠0 by decide) ?_
   |refine Or.inl (Exists.intro _ (aj (lD _) ?_))
   |refine Exists.intro _ (aj (aV hlt) ?_)
   |refine Exists.intro _ (aj (gu (by (try simp only[List.length_set]);exact bj hlt)) ?_)
  refine ⟨_,_,_,⟨i+1,rfl,hlt,rfl,rfl⟩,by omega,rfl,rfl,⟨rfl,nd (cv (f:=GateLedger.mark) hlt k),nd (V hlt hs),trivial⟩,⟨rfl,trivial⟩,⟨?_,trivial⟩⟩
  refine congrArg some (congrArg (AO.tree _ _ _) ?_)
  try simp only[List.set_set]
  exact eT hlt rfl
 ·have hge:xs.length≤i:=by
   have:=of_decide_eq_false h1
   rw[ce _ hi] at this;omega
  refine aj (nd (du hge)) (aj rfl (aj rfl (aj rfl (aj trivial (aj ⟨rfl,trivial⟩ ⟨?_,trivial⟩)))))
  exact congrArg some (congrArg (AO.tree _ _ _) (gk hge))
set_option maxHeartbeats 8000000 in
theorem t8 (xs:List GatePurse) (k:Int):FSpec P 70 [.own 0,.d (.int .i64 k)] ⟨[(0,.tree 109 5 GatePurse.n (xs.map GatePurse.e))],1,1⟩ (.d (.int .i64 (aA GatePurse.mark xs k).2)) ⟨[(0,.tree 109 5 GatePurse.n ((aA GatePurse.mark xs k).1.map GatePurse.e))],1,1⟩:=by
 refine FSpec.of_vc bW av [.tmp 4] Tryz.func70 rfl rfl rfl rfl rfl (fun hok hob=>?_)
 have hs:xs.length≤al:=by have:=(hob 0 _ rfl).1;rwa [List.length_map] at this
 repeat refine ai ?_
 refine ⟨fun m l h=>∃i:Nat,m=xs.length - i∧i≤xs.length∧l=[(0,.own 0),(1,.d (.int .i64 (gO GatePurse.mark xs k i))),(5,.d (.int .i64 i))]∧h=⟨[(0,.tree 109 5 GatePurse.n (uS GatePurse.mark GatePurse.e xs k i))],1,1⟩,
  ⟨_,_,_,⟨0,rfl,Nat.zero_le _,rfl,rfl⟩,rfl,rfl,⟨rfl,rfl,rfl,trivial⟩,⟨rfl,trivial⟩,⟨rfl,trivial⟩⟩,?_⟩
 rintro m l h1 ⟨i,rfl,hi,rfl,rfl⟩
 refine aj ?_ ?_<;>intro h1
 ·have hlt:i<xs.length:=by
   have:=of_decide_eq_true h1
   rw[ce _ hi] at this;omega
  repeat' first
   |refine ai ?_
   |refine aj (Int.natCast_nonneg _) (aj (Int.ofNat_lt.2 (by (try simp only[List.length_set]);exact bj hlt)) ?_)
   |refine Exists.intro _ (aj (aV hlt) (aj (Nat.le_of_ble_eq_true rfl) ?_))
   |refine Exists.intro _ (aj (gu (by (try simp only[List.length_set]);exact bj hlt)) (aj (Nat.le_of_ble_eq_true rfl) ?_))
   |refine Exists.intro _ (aj (aV hlt) (aj rfl ?_))
   |refine aj (show (3:Int)≠0 by decide) ?_
   |refine Or.inl (Exists.intro _ (aj (lD _) ?_))
   |refine Exists.intro _ (aj (aV hlt) ?_)
   |refine Exists.intro _ (aj (gu (by (try simp only[List.length_set]);exact bj hlt)) ?_)
  refine ⟨_,_,_,⟨i+1,rfl,hlt,rfl,rfl⟩,by omega,rfl,rfl,⟨rfl,nd (cv (f:=GatePurse.mark) hlt k),nd (V hlt hs),trivial⟩,⟨rfl,trivial⟩,⟨?_,trivial⟩⟩
  refine congrArg some (congrArg (AO.tree _ _ _) ?_)
  try simp only[List.set_set]
  exact eT hlt rfl
 ·have hge:xs.length≤i:=by
   have:=of_decide_eq_false h1
   rw[ce _ hi] at this;omega
  refine aj (nd (du hge)) (aj rfl (aj rfl (aj rfl (aj trivial (aj ⟨rfl,trivial⟩ ⟨?_,trivial⟩)))))
  exact congrArg some (congrArg (AO.tree _ _ _) (gk hge))
set_option maxHeartbeats 8000000 in
theorem fp (x:GateBook) (k:Int):FSpec P 21 [.agg x.a,.d (.int .i64 k)] ⟨x.o,4,4⟩ (.d (.int .i64 (GateBook.marks x k).2)) ⟨(GateBook.marks x k).1.o,4,4⟩:=by
 refine FSpec.of_vc bW av [.tmp 4] Tryz.func21 rfl rfl rfl rfl rfl (fun hok hob=>?_)
 repeat refine ai ?_
 refine om [0] none (rX _ _) ?_
 repeat refine ai ?_
 refine om [1] none (t9 _ _) ?_
 repeat refine ai ?_
 refine om [2] none (rY _ _) ?_
 repeat refine ai ?_
 refine om [3] none (t8 _ _) ?_
 repeat refine ai ?_
 repeat' first|exact rfl|exact trivial|refine aj ?_ ?_
set_option maxHeartbeats 8000000 in
theorem sG (xs:List Bs) (k:Int) (h0:0≤k) (hB:k+bv fu xs≤1099511627776):Spec P 153 [.d (lS (aA eZ xs k).1),.d (.int .i64 k)] (.d (.int .i64 (aA eZ xs k).2)):=by
 refine Spec.of_vc aP av [.tmp 4] Tryz.func153 rfl rfl rfl rfl (fun hok=>?_)
 have hs:xs.length≤al:=by have:=hok.1.1;rwa [List.length_map,bu] at this
 repeat refine ai ?_
 refine ⟨fun m l h=>∃i:Nat,m=xs.length - i∧i≤xs.length∧l=[(0,.d (lS (aA eZ xs k).1)),(1,.d (.int .i64 (gO eZ xs k i))),(5,.d (.int .i64 i))]∧h=hp0,
  ⟨_,_,_,⟨0,rfl,Nat.zero_le _,rfl,rfl⟩,rfl,rfl,⟨rfl,rfl,rfl,trivial⟩,trivial,trivial⟩,?_⟩
 rintro m l h1 ⟨i,rfl,hi,rfl,rfl⟩
 refine aj ?_ ?_<;>intro h1
 ·have hlt:i<xs.length:=by
   have:=of_decide_eq_true h1
   rw[List.length_map,bu] at this;omega
  have hK:=o4 (l:=fu) ll dh h0 hB hlt
  have hstep:=cv (f:=eZ) hlt k
  have hix:∀{sz:Nat} {Kp:List D→Prop},(eB (eZ xs[i] (gO eZ xs k i)).1).length=sz→Kp (eB (eZ xs[i] (gO eZ xs k i)).1)→(0:Int)≤(i:Int)∧∃b,(((aA eZ xs k).1).map eB)[(i:Int).toNat]? =some b∧b.length=sz∧Kp b:=fun hs h=>vd hlt hs h
  generalize gO eZ xs k i=K at*
  simp only[fu] at hK
  have s0:(wk K)=K+1:=aq (by omega) (by omega)
  repeat' first
   |refine ai ?_
   |refine hix rfl ?_
   |refine aj (show (3:Int)≠0 by decide) ?_
   |refine Or.inl (Exists.intro _ (aj (lD _) ?_))
   |skip;fail
   |refine aj (fun h=>absurd h (by simp[eZ,mi,mb,wk])) (fun _=>?_)
   |refine ak ?_
  exact ⟨_,_,_,⟨i+1,rfl,hlt,rfl,rfl⟩,by omega,rfl,rfl,⟨rfl,nd hstep,nd (V hlt hs),trivial⟩,trivial,trivial⟩
 ·have hge:xs.length≤i:=by
   have:=of_decide_eq_false h1
   rw[List.length_map,bu] at this;omega
  exact nd (du hge)
set_option maxHeartbeats 8000000 in
theorem Fd (xs:List Int) (k:Int) (h0:0≤k) (hB:k+bv fu xs≤1099511627776):Spec P 23 [.d (lI (aA i5 xs k).1),.d (.int .i64 k)] (.d (.int .i64 (aA i5 xs k).2)):=by
 refine Spec.of_vc aP av [.tmp 4] Tryz.func23 rfl rfl rfl rfl (fun hok=>?_)
 have hs:xs.length≤al:=by have:=hok.1.1;rwa [List.length_map,bu] at this
 repeat refine ai ?_
 refine ⟨fun m l h=>∃i:Nat,m=xs.length - i∧i≤xs.length∧l=[(0,.d (lI (aA i5 xs k).1)),(1,.d (.int .i64 (gO i5 xs k i))),(5,.d (.int .i64 i))]∧h=hp0,
  ⟨_,_,_,⟨0,rfl,Nat.zero_le _,rfl,rfl⟩,rfl,rfl,⟨rfl,rfl,rfl,trivial⟩,trivial,trivial⟩,?_⟩
 rintro m l h1 ⟨i,rfl,hi,rfl,rfl⟩
 refine aj ?_ ?_<;>intro h1
 ·have hlt:i<xs.length:=by
   have:=of_decide_eq_true h1
   rw[List.length_map,bu] at this;omega
  have hK:=o4 (l:=fu) wK dh h0 hB hlt
  have hstep:=cv (f:=i5) hlt k
  have hix:∀{sz:Nat} {Kp:List D→Prop},(eN (i5 xs[i] (gO i5 xs k i)).1).length=sz→Kp (eN (i5 xs[i] (gO i5 xs k i)).1)→(0:Int)≤(i:Int)∧∃b,(((aA i5 xs k).1).map eN)[(i:Int).toNat]? =some b∧b.length=sz∧Kp b:=fun hs h=>vd hlt hs h
  generalize gO i5 xs k i=K at*
  simp only[fu] at hK
  have s0:(wk K)=K+1:=aq (by omega) (by omega)
  repeat' first
   |refine ai ?_
   |refine hix rfl ?_
   |refine aj (show (3:Int)≠0 by decide) ?_
   |refine Or.inl (Exists.intro _ (aj (lD _) ?_))
   |skip;fail
   |refine aj (fun h=>absurd h (by simp[i5,mi,mb,wk])) (fun _=>?_)
   |refine ak ?_
  exact ⟨_,_,_,⟨i+1,rfl,hlt,rfl,rfl⟩,by omega,rfl,rfl,⟨rfl,nd hstep,nd (V hlt hs),trivial⟩,trivial,trivial⟩
 ·have hge:xs.length≤i:=by
   have:=of_decide_eq_false h1
   rw[List.length_map,bu] at this;omega
  exact nd (du hge)
set_option maxHeartbeats 8000000 in
theorem sH (xs:List GateObject) (k:Int) (h0:0≤k) (hB:k+bv GateObject.lv xs≤1099511627776):Spec P 84 [.d (aE (aA GateObject.mark xs k).1),.d (.int .i64 k)] (.d (.int .i64 (aA GateObject.mark xs k).2)):=by
 refine Spec.of_vc aP av [.tmp 4] Tryz.func84 rfl rfl rfl rfl (fun hok=>?_)
 have hs:xs.length≤al:=by have:=hok.1.1;rwa [List.length_map,bu] at this
 repeat refine ai ?_
 refine ⟨fun m l h=>∃i:Nat,m=xs.length - i∧i≤xs.length∧l=[(0,.d (aE (aA GateObject.mark xs k).1)),(1,.d (.int .i64 (gO GateObject.mark xs k i))),(5,.d (.int .i64 i))]∧h=hp0,
  ⟨_,_,_,⟨0,rfl,Nat.zero_le _,rfl,rfl⟩,rfl,rfl,⟨rfl,rfl,rfl,trivial⟩,trivial,trivial⟩,?_⟩
 rintro m l h1 ⟨i,rfl,hi,rfl,rfl⟩
 refine aj ?_ ?_<;>intro h1
 ·have hlt:i<xs.length:=by
   have:=of_decide_eq_true h1
   rw[List.length_map,bu] at this;omega
  have hK:=o4 (l:=GateObject.lv) GateObject.mark_val GateObject.lv_nn h0 hB hlt
  have hstep:=cv (f:=GateObject.mark) hlt k
  have hix:∀{sz:Nat} {Kp:List D→Prop},(GateObject.e (GateObject.mark xs[i] (gO GateObject.mark xs k i)).1).length=sz→Kp (GateObject.e (GateObject.mark xs[i] (gO GateObject.mark xs k i)).1)→(0:Int)≤(i:Int)∧∃b,(((aA GateObject.mark xs k).1).map GateObject.e)[(i:Int).toNat]? =some b∧b.length=sz∧Kp b:=fun hs h=>vd hlt hs h
  generalize gO GateObject.mark xs k i=K at*
  simp only[GateObject.lv] at hK
  have p0:=aC dh xs[i].values
  have p1:=aC dh xs[i].holds
  have s0:(wk K)=K+1:=aq (by omega) (by omega)
  have s1:(wk (wk K))=K+2:=by rw[s0,aq (by omega) (by omega)];try omega
  have s2:(wk (wk (wk K)))=K+3:=by rw[s1,aq (by omega) (by omega)];try omega
  have s3:(aA eZ xs[i].values (wk (wk (wk K)))).2=K+3+bv fu xs[i].values:=by rw[s2,cf (l:=fu) ll dh xs[i].values _ (by omega) (by omega)];try omega
  have s4:(wk (aA eZ xs[i].values (wk (wk (wk K)))).2)=K+4+bv fu xs[i].values:=by rw[s3,aq (by omega) (by omega)];try omega
  have s5:(aA eZ xs[i].holds (wk (aA eZ xs[i].values (wk (wk (wk K)))).2)).2=K+4+bv fu xs[i].values+bv fu xs[i].holds:=by rw[s4,cf (l:=fu) ll dh xs[i].holds _ (by omega) (by omega)];try omega
  have s6:(wk (aA eZ xs[i].holds (wk (aA eZ xs[i].values (wk (wk (wk K)))).2)).2)=K+5+bv fu xs[i].values+bv fu xs[i].holds:=by rw[s5,aq (by omega) (by omega)];try omega
  repeat' first
   |refine ai ?_
   |refine hix rfl ?_
   |refine aj (show (3:Int)≠0 by decide) ?_
   |refine Or.inl (Exists.intro _ (aj (lD _) ?_))
   |refine Or.inl (Exists.intro _ (aj (sG xs[i].values (wk (wk (wk K))) (by rw[s2];omega) (by rw[s2];omega)) ?_))
   |refine aj (fun h=>absurd (of_decide_eq_true h) (by rw[s3];omega)) (fun _=>?_)
   |refine Or.inl (Exists.intro _ (aj (sG xs[i].holds (wk (aA eZ xs[i].values (wk (wk (wk K)))).2) (by rw[s4];omega) (by rw[s4];omega)) ?_))
   |refine aj (fun h=>absurd (of_decide_eq_true h) (by rw[s5];omega)) (fun _=>?_)
   |refine aj (fun h=>absurd h (by simp[GateObject.mark,mi,mb,wk])) (fun _=>?_)
   |refine ak ?_
  exact ⟨_,_,_,⟨i+1,rfl,hlt,rfl,rfl⟩,by omega,rfl,rfl,⟨rfl,nd hstep,nd (V hlt hs),trivial⟩,trivial,trivial⟩
 ·have hge:xs.length≤i:=by
   have:=of_decide_eq_false h1
   rw[List.length_map,bu] at this;omega
  exact nd (du hge)
set_option maxHeartbeats 8000000 in
theorem uh (xs:List GateGrant) (k:Int) (h0:0≤k) (hB:k+bv GateGrant.lv xs≤1099511627776):Spec P 85 [.d (aU (aA GateGrant.mark xs k).1),.d (.int .i64 k)] (.d (.int .i64 (aA GateGrant.mark xs k).2)):=by
 refine Spec.of_vc aP av [.tmp 4] Tryz.func85 rfl rfl rfl rfl (fun hok=>?_)
 have hs:xs.length≤al:=by have:=hok.1.1;rwa [List.length_map,bu] at this
 repeat refine ai ?_
 refine ⟨fun m l h=>∃i:Nat,m=xs.length - i∧i≤xs.length∧l=[(0,.d (aU (aA GateGrant.mark xs k).1)),(1,.d (.int .i64 (gO GateGrant.mark xs k i))),(5,.d (.int .i64 i))]∧h=hp0,
  ⟨_,_,_,⟨0,rfl,Nat.zero_le _,rfl,rfl⟩,rfl,rfl,⟨rfl,rfl,rfl,trivial⟩,trivial,trivial⟩,?_⟩
 rintro m l h1 ⟨i,rfl,hi,rfl,rfl⟩
 refine aj ?_ ?_<;>intro h1
 ·have hlt:i<xs.length:=by
   have:=of_decide_eq_true h1
   rw[List.length_map,bu] at this;omega
  have hK:=o4 (l:=GateGrant.lv) GateGrant.mark_val GateGrant.lv_nn h0 hB hlt
  have hstep:=cv (f:=GateGrant.mark) hlt k
  have hix:∀{sz:Nat} {Kp:List D→Prop},(GateGrant.e (GateGrant.mark xs[i] (gO GateGrant.mark xs k i)).1).length=sz→Kp (GateGrant.e (GateGrant.mark xs[i] (gO GateGrant.mark xs k i)).1)→(0:Int)≤(i:Int)∧∃b,(((aA GateGrant.mark xs k).1).map GateGrant.e)[(i:Int).toNat]? =some b∧b.length=sz∧Kp b:=fun hs h=>vd hlt hs h
  generalize gO GateGrant.mark xs k i=K at*
  simp only[GateGrant.lv] at hK
  have p0:=aC dh xs[i].rule.verbs
  have s0:(wk K)=K+1:=aq (by omega) (by omega)
  have s1:(wk (wk K))=K+2:=by rw[s0,aq (by omega) (by omega)];try omega
  have s2:(wk (wk (wk K)))=K+3:=by rw[s1,aq (by omega) (by omega)];try omega
  have s3:(aA i5 xs[i].rule.verbs (wk (wk (wk K)))).2=K+3+bv fu xs[i].rule.verbs:=by rw[s2,cf (l:=fu) wK dh xs[i].rule.verbs _ (by omega) (by omega)];try omega
  have s4:(wk (aA i5 xs[i].rule.verbs (wk (wk (wk K)))).2)=K+4+bv fu xs[i].rule.verbs:=by rw[s3,aq (by omega) (by omega)];try omega
  have s5:(wk (wk (aA i5 xs[i].rule.verbs (wk (wk (wk K)))).2))=K+5+bv fu xs[i].rule.verbs:=by rw[s4,aq (by omega) (by omega)];try omega
  have s6:(wk (wk (wk (aA i5 xs[i].rule.verbs (wk (wk (wk K)))).2)))=K+6+bv fu xs[i].rule.verbs:=by rw[s5,aq (by omega) (by omega)];try omega
  repeat' first
   |refine ai ?_
   |refine hix rfl ?_
   |refine aj (show (3:Int)≠0 by decide) ?_
   |refine Or.inl (Exists.intro _ (aj (lD _) ?_))
   |refine Or.inl (Exists.intro _ (aj (Fd xs[i].rule.verbs (wk (wk (wk K))) (by rw[s2];omega) (by rw[s2];omega)) ?_))
   |refine aj (fun h=>absurd (of_decide_eq_true h) (by rw[s3];omega)) (fun _=>?_)
   |refine aj (fun h=>absurd h (by simp[GateGrant.mark,mi,mb,wk])) (fun _=>?_)
   |refine ak ?_
  exact ⟨_,_,_,⟨i+1,rfl,hlt,rfl,rfl⟩,by omega,rfl,rfl,⟨rfl,nd hstep,nd (V hlt hs),trivial⟩,trivial,trivial⟩
 ·have hge:xs.length≤i:=by
   have:=of_decide_eq_false h1
   rw[List.length_map,bu] at this;omega
  exact nd (du hge)
set_option maxHeartbeats 8000000 in
theorem sI (xs:List GateLedger) (k:Int) (h0:0≤k) (hB:k+bv GateLedger.lv xs≤1099511627776):Spec P 86 [.d (aJ (aA GateLedger.mark xs k).1),.d (.int .i64 k)] (.d (.int .i64 (aA GateLedger.mark xs k).2)):=by
 refine Spec.of_vc aP av [.tmp 4] Tryz.func86 rfl rfl rfl rfl (fun hok=>?_)
 have hs:xs.length≤al:=by have:=hok.1.1;rwa [List.length_map,bu] at this
 repeat refine ai ?_
 refine ⟨fun m l h=>∃i:Nat,m=xs.length - i∧i≤xs.length∧l=[(0,.d (aJ (aA GateLedger.mark xs k).1)),(1,.d (.int .i64 (gO GateLedger.mark xs k i))),(5,.d (.int .i64 i))]∧h=hp0,
  ⟨_,_,_,⟨0,rfl,Nat.zero_le _,rfl,rfl⟩,rfl,rfl,⟨rfl,rfl,rfl,trivial⟩,trivial,trivial⟩,?_⟩
 rintro m l h1 ⟨i,rfl,hi,rfl,rfl⟩
 refine aj ?_ ?_<;>intro h1
 ·have hlt:i<xs.length:=by
   have:=of_decide_eq_true h1
   rw[List.length_map,bu] at this;omega
  have hK:=o4 (l:=GateLedger.lv) GateLedger.mark_val GateLedger.lv_nn h0 hB hlt
  have hstep:=cv (f:=GateLedger.mark) hlt k
  have hix:∀{sz:Nat} {Kp:List D→Prop},(GateLedger.e (GateLedger.mark xs[i] (gO GateLedger.mark xs k i)).1).length=sz→Kp (GateLedger.e (GateLedger.mark xs[i] (gO GateLedger.mark xs k i)).1)→(0:Int)≤(i:Int)∧∃b,(((aA GateLedger.mark xs k).1).map GateLedger.e)[(i:Int).toNat]? =some b∧b.length=sz∧Kp b:=fun hs h=>vd hlt hs h
  generalize gO GateLedger.mark xs k i=K at*
  simp only[GateLedger.lv] at hK
  have s0:(wk K)=K+1:=aq (by omega) (by omega)
  have s1:(wk (wk K))=K+2:=by rw[s0,aq (by omega) (by omega)];try omega
  have s2:(wk (wk (wk K)))=K+3:=by rw[s1,aq (by omega) (by omega)];try omega
  have s3:(wk (wk (wk (wk K))))=K+4:=by rw[s2,aq (by omega) (by omega)];try omega
  repeat' first
   |refine ai ?_
   |refine hix rfl ?_
   |refine aj (show (3:Int)≠0 by decide) ?_
   |refine Or.inl (Exists.intro _ (aj (lD _) ?_))
   |skip;fail
   |refine aj (fun h=>absurd h (by simp[GateLedger.mark,mi,mb,wk])) (fun _=>?_)
   |refine ak ?_
  exact ⟨_,_,_,⟨i+1,rfl,hlt,rfl,rfl⟩,by omega,rfl,rfl,⟨rfl,nd hstep,nd (V hlt hs),trivial⟩,trivial,trivial⟩
 ·have hge:xs.length≤i:=by
   have:=of_decide_eq_false h1
   rw[List.length_map,bu] at this;omega
  exact nd (du hge)
set_option maxHeartbeats 8000000 in
theorem ug (xs:List GatePurse) (k:Int) (h0:0≤k) (hB:k+bv GatePurse.lv xs≤1099511627776):Spec P 87 [.d (aN (aA GatePurse.mark xs k).1),.d (.int .i64 k)] (.d (.int .i64 (aA GatePurse.mark xs k).2)):=by
 refine Spec.of_vc aP av [.tmp 4] Tryz.func87 rfl rfl rfl rfl (fun hok=>?_)
 have hs:xs.length≤al:=by have:=hok.1.1;rwa [List.length_map,bu] at this
 repeat refine ai ?_
 refine ⟨fun m l h=>∃i:Nat,m=xs.length - i∧i≤xs.length∧l=[(0,.d (aN (aA GatePurse.mark xs k).1)),(1,.d (.int .i64 (gO GatePurse.mark xs k i))),(5,.d (.int .i64 i))]∧h=hp0,
  ⟨_,_,_,⟨0,rfl,Nat.zero_le _,rfl,rfl⟩,rfl,rfl,⟨rfl,rfl,rfl,trivial⟩,trivial,trivial⟩,?_⟩
 rintro m l h1 ⟨i,rfl,hi,rfl,rfl⟩
 refine aj ?_ ?_<;>intro h1
 ·have hlt:i<xs.length:=by
   have:=of_decide_eq_true h1
   rw[List.length_map,bu] at this;omega
  have hK:=o4 (l:=GatePurse.lv) GatePurse.mark_val GatePurse.lv_nn h0 hB hlt
  have hstep:=cv (f:=GatePurse.mark) hlt k
  have hix:∀{sz:Nat} {Kp:List D→Prop},(GatePurse.e (GatePurse.mark xs[i] (gO GatePurse.mark xs k i)).1).length=sz→Kp (GatePurse.e (GatePurse.mark xs[i] (gO GatePurse.mark xs k i)).1)→(0:Int)≤(i:Int)∧∃b,(((aA GatePurse.mark xs k).1).map GatePurse.e)[(i:Int).toNat]? =some b∧b.length=sz∧Kp b:=fun hs h=>vd hlt hs h
  generalize gO GatePurse.mark xs k i=K at*
  simp only[GatePurse.lv] at hK
  have s0:(wk K)=K+1:=aq (by omega) (by omega)
  have s1:(wk (wk K))=K+2:=by rw[s0,aq (by omega) (by omega)];try omega
  have s2:(wk (wk (wk K)))=K+3:=by rw[s1,aq (by omega) (by omega)];try omega
  have s3:(wk (wk (wk (wk K))))=K+4:=by rw[s2,aq (by omega) (by omega)];try omega
  have s4:(wk (wk (wk (wk (wk K)))))=K+5:=by rw[s3,aq (by omega) (by omega)];try omega
  repeat' first
   |refine ai ?_
   |refine hix rfl ?_
   |refine aj (show (3:Int)≠0 by decide) ?_
   |refine Or.inl (Exists.intro _ (aj (lD _) ?_))
   |skip;fail
   |refine aj (fun h=>absurd h (by simp[GatePurse.mark,mi,mb,wk])) (fun _=>?_)
   |refine ak ?_
  exact ⟨_,_,_,⟨i+1,rfl,hlt,rfl,rfl⟩,by omega,rfl,rfl,⟨rfl,nd hstep,nd (V hlt hs),trivial⟩,trivial,trivial⟩
 ·have hge:xs.length≤i:=by
   have:=of_decide_eq_false h1
   rw[List.length_map,bu] at this;omega
  exact nd (du hge)
set_option maxHeartbeats 8000000 in
theorem da (x:GateBook) (k:Int) (h0:0≤k) (hB:k+(0+bv GateObject.lv x.objects+bv GateGrant.lv x.grants+bv GateLedger.lv x.ledgers+bv GatePurse.lv x.purses)≤1099511627776):Spec P 30 [st (GateBook.marks x k).1.e,.d (.int .i64 k)] (.d (.int .i64 (GateBook.marks x k).2)):=by
 refine Spec.of_vc aP av [.tmp 4] Tryz.func30 rfl rfl rfl rfl (fun hok=>?_)
 have p0:=aC GateObject.lv_nn x.objects
 have p1:=aC GateGrant.lv_nn x.grants
 have p2:=aC GateLedger.lv_nn x.ledgers
 have p3:=aC GatePurse.lv_nn x.purses
 have s0:(aA GateObject.mark x.objects k).2=k+0+bv GateObject.lv x.objects:=by rw[cf (l:=GateObject.lv) GateObject.mark_val GateObject.lv_nn x.objects _ (by omega) (by omega)];try omega
 have s1:(aA GateGrant.mark x.grants (aA GateObject.mark x.objects k).2).2=k+0+bv GateObject.lv x.objects+bv GateGrant.lv x.grants:=by rw[s0,cf (l:=GateGrant.lv) GateGrant.mark_val GateGrant.lv_nn x.grants _ (by omega) (by omega)];try omega
 have s2:(aA GateLedger.mark x.ledgers (aA GateGrant.mark x.grants (aA GateObject.mark x.objects k).2).2).2=k+0+bv GateObject.lv x.objects+bv GateGrant.lv x.grants+bv GateLedger.lv x.ledgers:=by rw[s1,cf (l:=GateLedger.lv) GateLedger.mark_val GateLedger.lv_nn x.ledgers _ (by omega) (by omega)];try omega
 have s3:(aA GatePurse.mark x.purses (aA GateLedger.mark x.ledgers (aA GateGrant.mark x.grants (aA GateObject.mark x.objects k).2).2).2).2=k+0+bv GateObject.lv x.objects+bv GateGrant.lv x.grants+bv GateLedger.lv x.ledgers+bv GatePurse.lv x.purses:=by rw[s2,cf (l:=GatePurse.lv) GatePurse.mark_val GatePurse.lv_nn x.purses _ (by omega) (by omega)];try omega
 repeat' first
  |refine ai ?_
  |refine Or.inl (Exists.intro _ (aj (sH x.objects k (by omega) (by omega)) ?_))
  |refine aj (fun h=>absurd (of_decide_eq_true h) (by rw[s0];omega)) (fun _=>?_)
  |refine Or.inl (Exists.intro _ (aj (uh x.grants (aA GateObject.mark x.objects k).2 (by rw[s0];omega) (by rw[s0];omega)) ?_))
  |refine aj (fun h=>absurd (of_decide_eq_true h) (by rw[s1];omega)) (fun _=>?_)
  |refine Or.inl (Exists.intro _ (aj (sI x.ledgers (aA GateGrant.mark x.grants (aA GateObject.mark x.objects k).2).2 (by rw[s1];omega) (by rw[s1];omega)) ?_))
  |refine aj (fun h=>absurd (of_decide_eq_true h) (by rw[s2];omega)) (fun _=>?_)
  |refine Or.inl (Exists.intro _ (aj (ug x.purses (aA GateLedger.mark x.ledgers (aA GateGrant.mark x.grants (aA GateObject.mark x.objects k).2).2).2 (by rw[s2];omega) (by rw[s2];omega)) ?_))
  |refine aj (fun h=>absurd (of_decide_eq_true h) (by rw[s3];omega)) (fun _=>?_)
  |refine ak ?_
 all_goals exact rfl
end Go.Vc
end
section
namespace Go.Vc
open Go.Proofs
theorem aW {a:Int} {k:Int→Int} (h:0≤aM a k):0≤a∧aM a k=k a:=by
 unfold aM at h ⊢
 cases hd:decide (a<0) with
 |true=>rw[hd] at h;simp at h
 |false=>have:=of_decide_eq_false hd;exact ⟨by omega,rfl⟩
theorem bc {n:Int} {l:Nat} (h:n≤1048576) (hl:l≤al) (h0: -1≤n):IntKind.i64.wrap (n - (l:Int))=n - l:=by
 unfold al at hl
 rw[IntKind.wrap_i64];omega
theorem C6 {α:Type} {m:α→Int→Int} {el:α→Int} {ok:α→Prop} (hm:∀x n,ok x→0≤n→n≤1048576→0≤m x n→m x n+el x≤n) (he:∀x,0≤el x):∀(xs:List α) (n:Int),(∀x∈xs,ok x)→0≤n→n≤1048576→0≤ik m xs n→ik m xs n+jP el xs≤n+xs.length
 |[],n,_,_,_,_=>by simp[ik,jP]
 |x::xs,n,hx,h0,hn,h=>by
  simp only[ik] at h
  obtain ⟨h1,h2⟩:=aW h
  have h3:=hm x n (hx x (List.mem_cons_self ..)) h0 hn h1
  have h4:=he x
  rw[h2] at h
  have:=C6 hm he xs (m x n) (fun y hy=>hx y (List.mem_cons_of_mem _ hy)) h1 (by omega) h
  simp only[ik,jP,List.length_cons]
  rw[h2];omega
theorem jt {α:Type} {e:α→List D} {m:α→Int→Int} {el:α→Int} {ok:α→Prop} (hm:∀x n,ok x→0≤n→n≤1048576→0≤m x n→m x n+el x≤n) (he:∀x,0≤el x) (xs:List α) (n:Int) (hl:xs.length≤al) (hx:∀x∈xs,ok x) (h0:0≤n) (hn:n≤1048576)
 (h:0≤aM (IntKind.i64.wrap (n - ((xs.map e).length:Int))) fun n=>ik m xs n):(aM (IntKind.i64.wrap (n - ((xs.map e).length:Int))) fun n=>ik m xs n)+jP el xs≤n:=by
 obtain ⟨h1,h2⟩:=aW h
 rw[h2] at h ⊢
 rw[List.length_map] at*
 rw[bc hn hl (by omega)] at*
 have:=C6 hm he xs _ hx h1 (by omega) h
 omega
theorem eS {α:Type} {e:α→List D} {xs:List α} (h:(D.list (xs.map e)).ok):xs.length≤al∧∀x∈xs,bq (e x):=by
 simp only[D.ok] at h
 refine ⟨by have:=h.1;rwa [List.length_map] at this,fun x hx=>okRows_iff.1 h.2 _ (List.mem_map.2 ⟨x,hx,rfl⟩)⟩
theorem BF:∀xs:List Int,jP BG xs=xs.length
 |[]=>rfl
 |x::xs=>by simp only[jP,BF xs,BG,List.length_cons];omega
theorem cU:∀{ds:List D},bq ds→∀d∈ds,d.ok
 |[],_,d,hd=>by cases hd
 |x::ds,h,d,hd=>by
  rcases List.mem_cons.1 hd with rfl|hd
  ·exact h.1
  ·exact cU h.2 d hd
theorem yv:∀{ds:List D},(∀d∈ds,d.ok)→bq ds
 |[],_=>trivial
 |x::ds,h=>⟨h x (List.mem_cons_self ..),yv fun d hd=>h d (List.mem_cons_of_mem _ hd)⟩
theorem hU (xs:List Bs) (n:Int) (hx:(lS xs).ok) (h0:0≤n) (hn:n≤1048576) (h:0≤bb xs n):bb xs n+jP BG xs≤n:=by
 obtain ⟨hl,hr⟩:=eS hx
 refine jt (ok:=fun s:Bs=>bq (eB s)) (fun s n hs h0 hn h=>?_) iN xs n hl hr h0 hn h
 have hs:s.length≤al:=by simpa [eB,bq,D.ok] using hs
 rw[bc hn hs (by omega)] at*
 simp only[BG];omega
theorem xR (xs:List Int) (n:Int) (hx:(lI xs).ok) (h0:0≤n) (hn:n≤1048576) (h:0≤dS xs n):dS xs n+jP BG xs≤n:=by
 obtain ⟨hl,_⟩:=eS hx
 unfold dS at h ⊢
 obtain ⟨h1,h2⟩:=aW h
 rw[h2] at h ⊢
 rw[List.length_map] at*
 rw[bc hn hl (by omega)] at*
 rw[BF];omega
theorem oH (x:GateField) (n:Int) (hx:bq x.e) (h0:0≤n) (hn:n≤1048576) (h:0≤cE x n):cE x n+x.el≤n:=by
 have hx:=cU hx
 unfold cE at h ⊢
 unfold GateField.el
 obtain ⟨a0,e0⟩:=aW h
 rw[e0] at h ⊢
 have l0:x.name.length≤al:=hx (.str x.name) (by simp[GateField.e])
 have b0:IntKind.i64.wrap (n - (x.name.length:Int))=n - x.name.length:=bc (by omega) l0 (by omega)
 obtain ⟨a1,e1⟩:=aW h
 rw[e1] at h ⊢
 have b1:=hU x.words (IntKind.i64.wrap (n - (x.name.length:Int))) (hx _ (by simp[GateField.e])) (by omega) (by omega) a1
 have q1:=cm iN x.words
 obtain ⟨a2,e2⟩:=aW h
 rw[e2] at h ⊢
 have l2:x.to_.length≤al:=hx (.str x.to_) (by simp[GateField.e])
 have b2:IntKind.i64.wrap (bb x.words (IntKind.i64.wrap (n - (x.name.length:Int))) - (x.to_.length:Int))=bb x.words (IntKind.i64.wrap (n - (x.name.length:Int))) - x.to_.length:=bc (by omega) l2 (by omega)
 obtain ⟨a3,e3⟩:=aW h
 rw[e3] at h ⊢
 have l3:x.default_.length≤al:=hx (.str x.default_) (by simp[GateField.e])
 have b3:IntKind.i64.wrap (IntKind.i64.wrap (bb x.words (IntKind.i64.wrap (n - (x.name.length:Int))) - (x.to_.length:Int)) - (x.default_.length:Int))=IntKind.i64.wrap (bb x.words (IntKind.i64.wrap (n - (x.name.length:Int))) - (x.to_.length:Int)) - x.default_.length:=bc (by omega) l3 (by omega)
 obtain ⟨a4,e4⟩:=aW h
 rw[e4] at h ⊢
 have l4:x.weighs.length≤al:=hx (.str x.weighs) (by simp[GateField.e])
 have b4:IntKind.i64.wrap (IntKind.i64.wrap (IntKind.i64.wrap (bb x.words (IntKind.i64.wrap (n - (x.name.length:Int))) - (x.to_.length:Int)) - (x.default_.length:Int)) - (x.weighs.length:Int))=IntKind.i64.wrap (IntKind.i64.wrap (bb x.words (IntKind.i64.wrap (n - (x.name.length:Int))) - (x.to_.length:Int)) - (x.default_.length:Int)) - x.weighs.length:=bc (by omega) l4 (by omega)
 omega
theorem m9 (xs:List GateField) (n:Int) (hx:(ab xs).ok) (h0:0≤n) (hn:n≤1048576) (h:0≤er xs n):er xs n+jP GateField.el xs≤n:=by
 obtain ⟨hl,hr⟩:=eS hx
 exact jt (ok:=fun x:GateField=>bq x.e) oH GateField.el_nn xs n hl hr h0 hn h
theorem oD (x:GateShape) (n:Int) (hx:bq x.e) (h0:0≤n) (hn:n≤1048576) (h:0≤cA x n):cA x n+x.el≤n:=by
 have hx:=cU hx
 unfold cA at h ⊢
 unfold GateShape.el
 obtain ⟨a0,e0⟩:=aW h
 rw[e0] at h ⊢
 have l0:x.kind.length≤al:=hx (.str x.kind) (by simp[GateShape.e])
 have b0:IntKind.i64.wrap (n - (x.kind.length:Int))=n - x.kind.length:=bc (by omega) l0 (by omega)
 obtain ⟨a1,e1⟩:=aW h
 rw[e1] at h ⊢
 have b1:=m9 x.fields (IntKind.i64.wrap (n - (x.kind.length:Int))) (hx _ (by simp[GateShape.e])) (by omega) (by omega) a1
 have q1:=cm GateField.el_nn x.fields
 omega
theorem m4 (xs:List GateShape) (n:Int) (hx:(aa xs).ok) (h0:0≤n) (hn:n≤1048576) (h:0≤cH xs n):cH xs n+jP GateShape.el xs≤n:=by
 obtain ⟨hl,hr⟩:=eS hx
 exact jt (ok:=fun x:GateShape=>bq x.e) oD GateShape.el_nn xs n hl hr h0 hn h
theorem qa (x:GateMend) (n:Int) (hx:bq x.e) (h0:0≤n) (hn:n≤1048576) (h:0≤cY x n):cY x n+x.el≤n:=by
 have hx:=cU hx
 unfold cY at h ⊢
 unfold GateMend.el
 obtain ⟨a0,e0⟩:=aW h
 rw[e0] at h ⊢
 have l0:x.kind.length≤al:=hx (.str x.kind) (by simp[GateMend.e])
 have b0:IntKind.i64.wrap (n - (x.kind.length:Int))=n - x.kind.length:=bc (by omega) l0 (by omega)
 obtain ⟨a1,e1⟩:=aW h
 rw[e1] at h ⊢
 have l1:x.field.length≤al:=hx (.str x.field) (by simp[GateMend.e])
 have b1:IntKind.i64.wrap (IntKind.i64.wrap (n - (x.kind.length:Int)) - (x.field.length:Int))=IntKind.i64.wrap (n - (x.kind.length:Int)) - x.field.length:=bc (by omega) l1 (by omega)
 obtain ⟨a2,e2⟩:=aW h
 rw[e2] at h ⊢
 have l2:x.when_.length≤al:=hx (.str x.when_) (by simp[GateMend.e])
 have b2:IntKind.i64.wrap (IntKind.i64.wrap (IntKind.i64.wrap (n - (x.kind.length:Int)) - (x.field.length:Int)) - (x.when_.length:Int))=IntKind.i64.wrap (IntKind.i64.wrap (n - (x.kind.length:Int)) - (x.field.length:Int)) - x.when_.length:=bc (by omega) l2 (by omega)
 obtain ⟨a3,e3⟩:=aW h
 rw[e3] at h ⊢
 have l3:x.is_.length≤al:=hx (.str x.is_) (by simp[GateMend.e])
 have b3:IntKind.i64.wrap (IntKind.i64.wrap (IntKind.i64.wrap (IntKind.i64.wrap (n - (x.kind.length:Int)) - (x.field.length:Int)) - (x.when_.length:Int)) - (x.is_.length:Int))=IntKind.i64.wrap (IntKind.i64.wrap (IntKind.i64.wrap (n - (x.kind.length:Int)) - (x.field.length:Int)) - (x.when_.length:Int)) - x.is_.length:=bc (by omega) l3 (by omega)
 obtain ⟨a4,e4⟩:=aW h
 rw[e4] at h ⊢
 have l4:x.put.length≤al:=hx (.str x.put) (by simp[GateMend.e])
 have b4:IntKind.i64.wrap (IntKind.i64.wrap (IntKind.i64.wrap (IntKind.i64.wrap (IntKind.i64.wrap (n - (x.kind.length:Int)) - (x.field.length:Int)) - (x.when_.length:Int)) - (x.is_.length:Int)) - (x.put.length:Int))=IntKind.i64.wrap (IntKind.i64.wrap (IntKind.i64.wrap (IntKind.i64.wrap (n - (x.kind.length:Int)) - (x.field.length:Int)) - (x.when_.length:Int)) - (x.is_.length:Int)) - x.put.length:=bc (by omega) l4 (by omega)
 obtain ⟨a5,e5⟩:=aW h
 rw[e5] at h ⊢
 have l5:x.from_.length≤al:=hx (.str x.from_) (by simp[GateMend.e])
 have b5:IntKind.i64.wrap (IntKind.i64.wrap (IntKind.i64.wrap (IntKind.i64.wrap (IntKind.i64.wrap (IntKind.i64.wrap (n - (x.kind.length:Int)) - (x.field.length:Int)) - (x.when_.length:Int)) - (x.is_.length:Int)) - (x.put.length:Int)) - (x.from_.length:Int))=IntKind.i64.wrap (IntKind.i64.wrap (IntKind.i64.wrap (IntKind.i64.wrap (IntKind.i64.wrap (n - (x.kind.length:Int)) - (x.field.length:Int)) - (x.when_.length:Int)) - (x.is_.length:Int)) - (x.put.length:Int)) - x.from_.length:=bc (by omega) l5 (by omega)
 omega
theorem oF (xs:List GateMend) (n:Int) (hx:(ag xs).ok) (h0:0≤n) (hn:n≤1048576) (h:0≤dX xs n):dX xs n+jP GateMend.el xs≤n:=by
 obtain ⟨hl,hr⟩:=eS hx
 exact jt (ok:=fun x:GateMend=>bq x.e) qa GateMend.el_nn xs n hl hr h0 hn h
theorem p8 (x:GateTeam) (n:Int) (hx:bq x.e) (h0:0≤n) (hn:n≤1048576) (h:0≤cX x n):cX x n+x.el≤n:=by
 have hx:=cU hx
 unfold cX at h ⊢
 unfold GateTeam.el
 obtain ⟨a0,e0⟩:=aW h
 rw[e0] at h ⊢
 have l0:x.name.length≤al:=hx (.str x.name) (by simp[GateTeam.e])
 have b0:IntKind.i64.wrap (n - (x.name.length:Int))=n - x.name.length:=bc (by omega) l0 (by omega)
 obtain ⟨a1,e1⟩:=aW h
 rw[e1] at h ⊢
 have l1:x.over.length≤al:=hx (.str x.over) (by simp[GateTeam.e])
 have b1:IntKind.i64.wrap (IntKind.i64.wrap (n - (x.name.length:Int)) - (x.over.length:Int))=IntKind.i64.wrap (n - (x.name.length:Int)) - x.over.length:=bc (by omega) l1 (by omega)
 omega
theorem oC (xs:List GateTeam) (n:Int) (hx:(ao xs).ok) (h0:0≤n) (hn:n≤1048576) (h:0≤eP xs n):eP xs n+jP GateTeam.el xs≤n:=by
 obtain ⟨hl,hr⟩:=eS hx
 exact jt (ok:=fun x:GateTeam=>bq x.e) p8 GateTeam.el_nn xs n hl hr h0 hn h
theorem hZ (x:GateLaw) (n:Int) (hx:bq x.e) (h0:0≤n) (hn:n≤1048576) (h:0≤cC x n):cC x n+x.el≤n:=by
 have hx:=cU hx
 unfold cC at h ⊢
 unfold GateLaw.el
 obtain ⟨a0,e0⟩:=aW h
 rw[e0] at h ⊢
 have b0:=m4 x.shapes (n) (hx _ (by simp[GateLaw.e])) (by omega) (by omega) a0
 have q0:=cm GateShape.el_nn x.shapes
 obtain ⟨a1,e1⟩:=aW h
 rw[e1] at h ⊢
 have b1:=oF x.mends (cH x.shapes (n)) (hx _ (by simp[GateLaw.e])) (by omega) (by omega) a1
 have q1:=cm GateMend.el_nn x.mends
 obtain ⟨a2,e2⟩:=aW h
 rw[e2] at h ⊢
 have b2:=oC x.teams (dX x.mends (cH x.shapes (n))) (hx _ (by simp[GateLaw.e])) (by omega) (by omega) a2
 have q2:=cm GateTeam.el_nn x.teams
 omega
theorem m6 (x:GateObject) (n:Int) (hx:bq x.e) (h0:0≤n) (hn:n≤1048576) (h:0≤cj x n):cj x n+x.el≤n:=by
 have hx:=cU hx
 unfold cj at h ⊢
 unfold GateObject.el
 obtain ⟨a0,e0⟩:=aW h
 rw[e0] at h ⊢
 have l0:x.kind.length≤al:=hx (.str x.kind) (by simp[GateObject.e])
 have b0:IntKind.i64.wrap (n - (x.kind.length:Int))=n - x.kind.length:=bc (by omega) l0 (by omega)
 obtain ⟨a1,e1⟩:=aW h
 rw[e1] at h ⊢
 have l1:x.name.length≤al:=hx (.str x.name) (by simp[GateObject.e])
 have b1:IntKind.i64.wrap (IntKind.i64.wrap (n - (x.kind.length:Int)) - (x.name.length:Int))=IntKind.i64.wrap (n - (x.kind.length:Int)) - x.name.length:=bc (by omega) l1 (by omega)
 obtain ⟨a2,e2⟩:=aW h
 rw[e2] at h ⊢
 have l2:x.team.length≤al:=hx (.str x.team) (by simp[GateObject.e])
 have b2:IntKind.i64.wrap (IntKind.i64.wrap (IntKind.i64.wrap (n - (x.kind.length:Int)) - (x.name.length:Int)) - (x.team.length:Int))=IntKind.i64.wrap (IntKind.i64.wrap (n - (x.kind.length:Int)) - (x.name.length:Int)) - x.team.length:=bc (by omega) l2 (by omega)
 obtain ⟨a3,e3⟩:=aW h
 rw[e3] at h ⊢
 have b3:=hU x.values (IntKind.i64.wrap (IntKind.i64.wrap (IntKind.i64.wrap (n - (x.kind.length:Int)) - (x.name.length:Int)) - (x.team.length:Int))) (hx _ (by simp[GateObject.e])) (by omega) (by omega) a3
 have q3:=cm iN x.values
 obtain ⟨a4,e4⟩:=aW h
 rw[e4] at h ⊢
 have b4:=hU x.holds (bb x.values (IntKind.i64.wrap (IntKind.i64.wrap (IntKind.i64.wrap (n - (x.kind.length:Int)) - (x.name.length:Int)) - (x.team.length:Int)))) (hx _ (by simp[GateObject.e])) (by omega) (by omega) a4
 have q4:=cm iN x.holds
 omega
theorem mc (xs:List GateObject) (n:Int) (hx:(aE xs).ok) (h0:0≤n) (hn:n≤1048576) (h:0≤bO xs n):bO xs n+jP GateObject.el xs≤n:=by
 obtain ⟨hl,hr⟩:=eS hx
 exact jt (ok:=fun x:GateObject=>bq x.e) m6 GateObject.el_nn xs n hl hr h0 hn h
theorem p9 (x:GateRule) (n:Int) (hx:bq x.e) (h0:0≤n) (hn:n≤1048576) (h:0≤eG x n):eG x n+x.el≤n:=by
 have hx:=cU hx
 unfold eG at h ⊢
 unfold GateRule.el
 obtain ⟨a0,e0⟩:=aW h
 rw[e0] at h ⊢
 have b0:=xR x.verbs (n) (hx _ (by simp[GateRule.e])) (by omega) (by omega) a0
 have q0:=cm iN x.verbs
 obtain ⟨a1,e1⟩:=aW h
 rw[e1] at h ⊢
 have l1:x.kind.length≤al:=hx (.str x.kind) (by simp[GateRule.e])
 have b1:IntKind.i64.wrap (dS x.verbs (n) - (x.kind.length:Int))=dS x.verbs (n) - x.kind.length:=bc (by omega) l1 (by omega)
 obtain ⟨a2,e2⟩:=aW h
 rw[e2] at h ⊢
 have l2:x.team.length≤al:=hx (.str x.team) (by simp[GateRule.e])
 have b2:IntKind.i64.wrap (IntKind.i64.wrap (dS x.verbs (n) - (x.kind.length:Int)) - (x.team.length:Int))=IntKind.i64.wrap (dS x.verbs (n) - (x.kind.length:Int)) - x.team.length:=bc (by omega) l2 (by omega)
 obtain ⟨a3,e3⟩:=aW h
 rw[e3] at h ⊢
 have l3:x.prefix_.length≤al:=hx (.str x.prefix_) (by simp[GateRule.e])
 have b3:IntKind.i64.wrap (IntKind.i64.wrap (IntKind.i64.wrap (dS x.verbs (n) - (x.kind.length:Int)) - (x.team.length:Int)) - (x.prefix_.length:Int))=IntKind.i64.wrap (IntKind.i64.wrap (dS x.verbs (n) - (x.kind.length:Int)) - (x.team.length:Int)) - x.prefix_.length:=bc (by omega) l3 (by omega)
 omega
theorem oG (x:GateGrant) (n:Int) (hx:bq x.e) (h0:0≤n) (hn:n≤1048576) (h:0≤cD x n):cD x n+x.el≤n:=by
 have hx:=cU hx
 unfold cD at h ⊢
 unfold GateGrant.el
 obtain ⟨a0,e0⟩:=aW h
 rw[e0] at h ⊢
 have l0:x.to_.length≤al:=hx (.str x.to_) (by simp[GateGrant.e])
 have b0:IntKind.i64.wrap (n - (x.to_.length:Int))=n - x.to_.length:=bc (by omega) l0 (by omega)
 obtain ⟨a1,e1⟩:=aW h
 rw[e1] at h ⊢
 have l1:x.by_.length≤al:=hx (.str x.by_) (by simp[GateGrant.e])
 have b1:IntKind.i64.wrap (IntKind.i64.wrap (n - (x.to_.length:Int)) - (x.by_.length:Int))=IntKind.i64.wrap (n - (x.to_.length:Int)) - x.by_.length:=bc (by omega) l1 (by omega)
 obtain ⟨a2,e2⟩:=aW h
 rw[e2] at h ⊢
 have b2:=p9 x.rule (IntKind.i64.wrap (IntKind.i64.wrap (n - (x.to_.length:Int)) - (x.by_.length:Int))) (yv fun d hd=>hx d (by simp[GateGrant.e,GateRule.e] at hd ⊢;simp[hd])) (by omega) (by omega) a2
 have q2:=GateRule.el_nn x.rule
 unfold GateRule.el at b2 q2
 omega
theorem m8 (xs:List GateGrant) (n:Int) (hx:(aU xs).ok) (h0:0≤n) (hn:n≤1048576) (h:0≤cI xs n):cI xs n+jP GateGrant.el xs≤n:=by
 obtain ⟨hl,hr⟩:=eS hx
 exact jt (ok:=fun x:GateGrant=>bq x.e) oG GateGrant.el_nn xs n hl hr h0 hn h
theorem m7 (x:GateLedger) (n:Int) (hx:bq x.e) (h0:0≤n) (hn:n≤1048576) (h:0≤cl x n):cl x n+x.el≤n:=by
 have hx:=cU hx
 unfold cl at h ⊢
 unfold GateLedger.el
 obtain ⟨a0,e0⟩:=aW h
 rw[e0] at h ⊢
 have l0:x.team.length≤al:=hx (.str x.team) (by simp[GateLedger.e])
 have b0:IntKind.i64.wrap (n - (x.team.length:Int))=n - x.team.length:=bc (by omega) l0 (by omega)
 obtain ⟨a1,e1⟩:=aW h
 rw[e1] at h ⊢
 have l1:x.resource.length≤al:=hx (.str x.resource) (by simp[GateLedger.e])
 have b1:IntKind.i64.wrap (IntKind.i64.wrap (n - (x.team.length:Int)) - (x.resource.length:Int))=IntKind.i64.wrap (n - (x.team.length:Int)) - x.resource.length:=bc (by omega) l1 (by omega)
 omega
theorem md (xs:List GateLedger) (n:Int) (hx:(aJ xs).ok) (h0:0≤n) (hn:n≤1048576) (h:0≤cT xs n):cT xs n+jP GateLedger.el xs≤n:=by
 obtain ⟨hl,hr⟩:=eS hx
 exact jt (ok:=fun x:GateLedger=>bq x.e) m7 GateLedger.el_nn xs n hl hr h0 hn h
theorem oE (x:GatePurse) (n:Int) (hx:bq x.e) (h0:0≤n) (hn:n≤1048576) (h:0≤cB x n):cB x n+x.el≤n:=by
 have hx:=cU hx
 unfold cB at h ⊢
 unfold GatePurse.el
 obtain ⟨a0,e0⟩:=aW h
 rw[e0] at h ⊢
 have l0:x.door.length≤al:=hx (.str x.door) (by simp[GatePurse.e])
 have b0:IntKind.i64.wrap (n - (x.door.length:Int))=n - x.door.length:=bc (by omega) l0 (by omega)
 obtain ⟨a1,e1⟩:=aW h
 rw[e1] at h ⊢
 have l1:x.team.length≤al:=hx (.str x.team) (by simp[GatePurse.e])
 have b1:IntKind.i64.wrap (IntKind.i64.wrap (n - (x.door.length:Int)) - (x.team.length:Int))=IntKind.i64.wrap (n - (x.door.length:Int)) - x.team.length:=bc (by omega) l1 (by omega)
 obtain ⟨a2,e2⟩:=aW h
 rw[e2] at h ⊢
 have l2:x.resource.length≤al:=hx (.str x.resource) (by simp[GatePurse.e])
 have b2:IntKind.i64.wrap (IntKind.i64.wrap (IntKind.i64.wrap (n - (x.door.length:Int)) - (x.team.length:Int)) - (x.resource.length:Int))=IntKind.i64.wrap (IntKind.i64.wrap (n - (x.door.length:Int)) - (x.team.length:Int)) - x.resource.length:=bc (by omega) l2 (by omega)
 omega
theorem m5 (xs:List GatePurse) (n:Int) (hx:(aN xs).ok) (h0:0≤n) (hn:n≤1048576) (h:0≤ei xs n):ei xs n+jP GatePurse.el xs≤n:=by
 obtain ⟨hl,hr⟩:=eS hx
 exact jt (ok:=fun x:GatePurse=>bq x.e) oE GatePurse.el_nn xs n hl hr h0 hn h
theorem gD (x:GateBook) (n:Int) (hx:bq x.e) (h0:0≤n) (hn:n≤1048576) (h:0≤dK x n):dK x n+x.el≤n:=by
 have hx:=cU hx
 unfold dK at h ⊢
 unfold GateBook.el
 obtain ⟨a0,e0⟩:=aW h
 rw[e0] at h ⊢
 have b0:=mc x.objects (n) (hx _ (by simp[GateBook.e])) (by omega) (by omega) a0
 have q0:=cm GateObject.el_nn x.objects
 obtain ⟨a1,e1⟩:=aW h
 rw[e1] at h ⊢
 have b1:=m8 x.grants (bO x.objects (n)) (hx _ (by simp[GateBook.e])) (by omega) (by omega) a1
 have q1:=cm GateGrant.el_nn x.grants
 obtain ⟨a2,e2⟩:=aW h
 rw[e2] at h ⊢
 have b2:=md x.ledgers (cI x.grants (bO x.objects (n))) (hx _ (by simp[GateBook.e])) (by omega) (by omega) a2
 have q2:=cm GateLedger.el_nn x.ledgers
 obtain ⟨a3,e3⟩:=aW h
 rw[e3] at h ⊢
 have b3:=m5 x.purses (cT x.ledgers (cI x.grants (bO x.objects (n)))) (hx _ (by simp[GateBook.e])) (by omega) (by omega) a3
 have q3:=cm GatePurse.el_nn x.purses
 omega
end Go.Vc
end
section
namespace Go.Vc
open Go.Proofs
theorem GateLaw.marks_le (x:GateLaw) (k:Int) (h0:0≤k) (hB:k+x.lv≤1099511627776):k≤(GateLaw.marks x k).2∧(GateLaw.marks x k).2≤k+x.lv:=by
 have p0:=aC GateShape.lv_nn x.shapes
 have p1:=aC GateMend.lv_nn x.mends
 have p2:=aC GateTeam.lv_nn x.teams
 unfold GateLaw.lv at*
 have:=GateLaw.marks_val x k h0 (by omega)
 omega
theorem GateBook.marks_le (x:GateBook) (k:Int) (h0:0≤k) (hB:k+x.lv≤1099511627776):k≤(GateBook.marks x k).2∧(GateBook.marks x k).2≤k+x.lv:=by
 have p0:=aC GateObject.lv_nn x.objects
 have p1:=aC GateGrant.lv_nn x.grants
 have p2:=aC GateLedger.lv_nn x.ledgers
 have p3:=aC GatePurse.lv_nn x.purses
 unfold GateBook.lv at*
 have:=GateBook.marks_val x k h0 (by omega)
 omega
end Go.Vc
end
section
namespace Go.Vc
theorem uP {ds:List D} (h:AV.ok (st ds)):bq ds:=by
 unfold st at h
 simp only[AV.ok] at h
 induction ds with
 |nil=>exact trivial
 |cons d ds ih=>exact ⟨h.1,ih h.2⟩
end Go.Vc
end
section
namespace Go.Vc
theorem pi {α:Type} {f:α→Int} (h:∀x,f x=0):∀xs:List α,jP f xs=xs.length
 |[]=>rfl
 |x::xs=>by simp only[jP,h x,pi h xs,List.length_cons];omega
theorem Gc (b:GateBook):b.el=jP GateObject.el b.objects+jP GateGrant.el b.grants+b.ledgers.length+b.purses.length:=by
 unfold GateBook.el
 rw[pi (f:=GateLedger.el) (fun _=>rfl),pi (f:=GatePurse.el) (fun _=>rfl)]
 omega
theorem zr (b:GateBook) (i:Nat):(oa b i).el≤b.el:=by
 unfold oa
 split
 ·exact Int.le_refl _
 ·split
  ·exact Int.le_refl _
  ·rw[Gc,Gc]
   have:=List.length_eraseIdx_le b.purses i
   simp only[List.length_set]
   omega
theorem rS (b:GateBook):nilBk.el≤b.el:=by
 have:=b.el_nn
 exact this
theorem Ew (L:GateLaw) (b:GateBook) (d t r:Bs):(cR L b d t r).1.el≤b.el:=by
 unfold cR
 cases cb L b with
 |false=>exact rS b
 |true=>
  simp only[cond_true]
  cases decide (oU b d t r≥0) with
  |false=>exact Int.le_refl _
  |true=>exact zr b _
end Go.Vc
end
section
namespace Go.Vc
open Go.Proofs
set_option maxRecDepth 100000
section
variable {A:Type} {σ:Env} {h:Heap} {c:BN} {Q:Exit→Env→Heap→Prop}
def D1 (J:Nat→A→Prop) (f:Nat→A→List (Nat×AV)) (g:Nat→A→Heap) (m:Nat) (l:List (Nat×AV)) (h:Heap):Prop:=∃a,J m a∧l=f m a∧h=g m a
theorem G7 (n:Nat) (J:Nat→A→Prop) (f:Nat→A→List (Nat×AV)) (g:Nat→A→Heap) (a:A) (j:J n a) (H:∀m a,J m a→c (Env.of (f m a)) (g m a) (rI (D1 J f g) m Q))
 (w:il σ h (f n a) (g n a)):oy c σ h Q:=
 ⟨D1 J f g,⟨_,_,_,⟨a,j,rfl,rfl⟩,w⟩,fun _ _ _ ⟨a,hj,el,eh⟩=>by subst el eh;exact H _ a hj⟩
theorem GL {J:Nat→A→Prop} {f:Nat→A→List (Nat×AV)} {g:Nat→A→Heap} {m m':Nat} (a:A) (ht:m'<m) (j:J m' a) (w:il σ h (f m' a) (g m' a)):∃k' l' h'',D1 J f g k' l' h''∧k'<m∧il σ h l' h'':=
 ⟨m',_,_,⟨a,j,rfl,rfl⟩,ht,w⟩
end
def pm (m:Nat):Int:=(m:Int) - 1
theorem Bd (m:Nat):pm (m+1)=(m:Int):=by unfold pm;omega
theorem k8 {m:Nat} (h:m≤al):IntKind.i64.wrap ((m:Int) - 1)=pm m:=by
 unfold al at h
 unfold pm
 rw[IntKind.wrap_i64]
 omega
def gH:Nat→GateBook→GateBook
 |0,b=>b
 |m+1,b=>gH m (bif (match b.purses[m]? with|some p=>decide (p.until_<b.tick)|none=>false) then oa b m else b)
def cP (L:GateLaw) (b:GateBook):GateBook×Int:=bif cb L b then (bif b.tick==1000000 then (b,2) else (gH b.purses.length {b with tick:=cq b.tick 1},0)) else (nilBk,1)
theorem uB {b:GateBook} {m:Nat} (hm:m<b.purses.length) (h:decide (b.purses[m].until_<b.tick)=true):gH (m+1) b=gH m (oa b m):=by
 simp only[gH,List.getElem?_eq_getElem hm,h,cond_true]
theorem xN {b:GateBook} {m:Nat} (hm:m<b.purses.length) (h:decide (b.purses[m].until_<b.tick)=false):gH (m+1) b=gH m b:=by
 simp only[gH,List.getElem?_eq_getElem hm,h,cond_false]
theorem zq {b:GateBook} {i k:Nat} (hi:i<b.purses.length) (hk:k<b.ledgers.length):i≤(gG b i k hi hk).purses.length:=by
 simp only[gG]
 rw[List.length_eraseIdx,if_pos hi]
 omega
theorem vB {L:GateLaw} {b:GateBook} (h:cb L b=true):decide (b.tick≥1000000)=(b.tick==1000000):=by
 have ht:d9 b.tick 0 1000000=true:=by
  unfold cb at h
  simp only[Bool.and_eq_true] at h
  exact h.2.2.1
 unfold d9 at ht
 simp only[Bool.and_eq_true,decide_eq_true_eq] at ht
 rw[Bool.eq_iff_iff,decide_eq_true_eq,beq_iff_eq]
 omega
set_option maxHeartbeats 2000000 in
theorem zR (L:GateLaw) (b:GateBook):Spec P 28 [st L.e,st b.e] (.tup [st (cP L b).1.e,.d (.int .i64 (cP L b).2)]):=by
 refine Spec.of_vc bW av [.cell 4 48,.tmp 5] Tryz.func28 rfl rfl rfl rfl (fun hok=>?_)
 cases hb:cb L b with
 |false=>
  rw[show cP L b=(nilBk,1) from by unfold cP;rw[hb];rfl]
  repeat refine ai ?_
  refine oc (dL L b) ?_
  rw[hb]
  repeat refine ai ?_
  refine ay ?_
  repeat refine ai ?_
  rfl
 |true=>
  have hlp:=(bT hok.2).2.2.2
  repeat refine ai ?_
  refine oc (dL L b) ?_
  rw[hb]
  repeat refine ai ?_
  refine an ?_
  repeat refine ai ?_
  refine ow (li b) ?_
  repeat refine ai ?_
  refine aj ?_ ?_<;>intro h1
  ·rw[vB hb] at h1
   rw[show cP L b=(b,2) from by unfold cP;rw[hb,h1];rfl]
   repeat refine ai ?_
   rfl
  ·rw[vB hb] at h1
   rw[show cP L b=(gH b.purses.length {b with tick:=cq b.tick 1},0) from by unfold cP;rw[hb,h1];rfl]
   generalize hR:gH b.purses.length {b with tick:=cq b.tick 1}=R
   repeat refine ai ?_
   refine G7 b.purses.length (fun m B=>gH m B=R∧pC B∧m≤B.purses.length∧m≤al) (fun m B=>[(4,.ptr 2 0),(6,.ptr 7 0),(7,.d (.int .i64 (pm m)))]) (fun m B=>⟨[(7,vz B 3 4 5 6),(3,EH B),(4,Fr B),(5,Fq B),(6,Fp B),(2,.cells 48 [.d (.int .i64 0),.d (.int .i64 0),.d (.int .i64 0),.nils,.nils,.nils,.nils])],8,0⟩)
    {b with tick:=cq b.tick 1} ⟨hR,(qq hb:pC b),Nat.le_refl _,hlp⟩ ?_ (by repeat' first|exact rfl|exact trivial|exact nd (by rw[List.length_map];exact k8 hlp)|refine aj ?_ ?_)
   intro m B hJ
   obtain ⟨hK,hti,hm,hmb⟩:=hJ
   cases m with
   |zero=>
    refine an ?_ (by simp only[decide_eq_true_eq];unfold pm;omega)
    subst hK
    repeat refine ai ?_
    rfl
   |succ m=>
    have hm':m<B.purses.length:=hm
    obtain ⟨k,hk,ek,ebk⟩:=sw hti hm'
    rw[Bd]
    refine ay ?_ (by simp only[decide_eq_false_iff_not];omega)
    repeat refine ai ?_
    refine ak ?_
    repeat refine ai ?_
    refine dB (e:=GatePurse.e) (xs:=B.purses) hm' ?_
    repeat refine ai ?_
    refine eL (e:=GatePurse.e) (xs:=B.purses) hm' ?_
    repeat refine ai ?_
    refine aj ?_ ?_<;>intro h2
    ·rw[uB hm' h2] at hK
     have hti2:=vC hti hm'
     rw[ebk] at hK hti2
     repeat refine ai ?_
     refine om [3,4,5,6] (some (15,6)) (xT B m k hm' hk ek) ?_
     repeat refine ai ?_
     exact GL _ (Nat.lt_succ_self m) ⟨hK,hti2,zq hm' hk,by omega⟩ (by repeat' first|exact rfl|exact trivial|exact nd (k8 (by omega))|refine aj ?_ ?_)
    ·rw[xN hm' h2] at hK
     repeat refine ai ?_
     exact GL B (Nat.lt_succ_self m) ⟨hK,hti,Nat.le_of_lt hm',by omega⟩ (by repeat' first|exact rfl|exact trivial|exact nd (k8 (by omega))|refine aj ?_ ?_)
set_option maxHeartbeats 2000000 in
theorem Av (L:GateLaw) (b:GateBook):HSpec P 29 [st L.e,st b.e] hp0 (.tup [.agg (cP L b).1.a,.d (.int .i64 (cP L b).2)]) ⟨(cP L b).1.o,4,0⟩:=by
 refine af bW av [.cell 4 48,.tmp 5] Tryz.func29 rfl rfl rfl rfl (fun hok=>?_)
 cases hb:cb L b with
 |false=>
  rw[show cP L b=(nilBk,1) from by unfold cP;rw[hb];rfl]
  repeat refine ai ?_
  refine oc (dP L b) ?_
  rw[hb]
  repeat refine ai ?_
  refine ay ?_
  repeat refine ai ?_
  exact ⟨[none,none,none,none],by repeat' first|exact rfl|exact trivial|refine aj ?_ ?_⟩
 |true=>
  have hlp:=(bT hok.2).2.2.2
  repeat refine ai ?_
  refine oc (dP L b) ?_
  rw[hb]
  repeat refine ai ?_
  refine an ?_
  repeat refine ai ?_
  refine ow (jJ b) ?_
  repeat refine ai ?_
  refine aj ?_ ?_<;>intro h1
  ·skip
   rw[show cP L b=(b,2) from by unfold cP;rw[hb,h1];rfl]
   repeat refine ai ?_
   exact ⟨[some 3,some 4,some 5,some 6],by repeat' first|exact rfl|exact trivial|refine aj ?_ ?_⟩
  ·skip
   rw[show cP L b=(gH b.purses.length {b with tick:=cq b.tick 1},0) from by unfold cP;rw[hb,h1];rfl]
   generalize hR:gH b.purses.length {b with tick:=cq b.tick 1}=R
   repeat refine ai ?_
   refine G7 b.purses.length (fun m B=>gH m B=R∧pC B∧m≤B.purses.length∧m≤al) (fun m B=>[(4,.ptr 2 0),(6,.ptr 7 0),(7,.d (.int .i64 (pm m)))]) (fun m B=>⟨[(7,vz B 3 4 5 6),(3,EH B),(4,Fr B),(5,Fq B),(6,Fp B),(2,.cells 48 [.d (.int .i64 0),.d (.int .i64 0),.d (.int .i64 0),.nils,.nils,.nils,.nils])],8,0⟩)
    {b with tick:=cq b.tick 1} ⟨hR,(qq hb:pC b),Nat.le_refl _,hlp⟩ ?_ (by repeat' first|exact rfl|exact trivial|exact nd (by rw[List.length_map];exact k8 hlp)|refine aj ?_ ?_)
   intro m B hJ
   obtain ⟨hK,hti,hm,hmb⟩:=hJ
   cases m with
   |zero=>
    refine an ?_ (by simp only[decide_eq_true_eq];unfold pm;omega)
    subst hK
    repeat refine ai ?_
    exact ⟨[some 3,some 4,some 5,some 6],by repeat' first|exact rfl|exact trivial|refine aj ?_ ?_⟩
   |succ m=>
    have hm':m<B.purses.length:=hm
    obtain ⟨k,hk,ek,ebk⟩:=sw hti hm'
    rw[Bd]
    refine ay ?_ (by simp only[decide_eq_false_iff_not];omega)
    repeat refine ai ?_
    refine ak ?_
    repeat refine ai ?_
    refine dB (e:=GatePurse.e) (xs:=B.purses) hm' ?_
    repeat refine ai ?_
    refine eL (e:=GatePurse.e) (xs:=B.purses) hm' ?_
    repeat refine ai ?_
    refine aj ?_ ?_<;>intro h2
    ·rw[uB hm' h2] at hK
     have hti2:=vC hti hm'
     rw[ebk] at hK hti2
     repeat refine ai ?_
     refine om [7,3,4,5,6] (some (19,6)) (pQ B m k hm' hk ek) ?_
     repeat refine ai ?_
     exact GL _ (Nat.lt_succ_self m) ⟨hK,hti2,zq hm' hk,by omega⟩ (by repeat' first|exact rfl|exact trivial|exact nd (k8 (by omega))|refine aj ?_ ?_)
    ·rw[xN hm' h2] at hK
     repeat refine ai ?_
     exact GL B (Nat.lt_succ_self m) ⟨hK,hti,Nat.le_of_lt hm',by omega⟩ (by repeat' first|exact rfl|exact trivial|exact nd (k8 (by omega))|refine aj ?_ ?_)
end Go.Vc
end
