/- Part 7 of a proof: Contracts of the functions that the laws bring with them, pr -/
import Derived.Test.YteongcjplmbkgaaGreatDoorSwa
import Derived.Test.YteongcjplmbkgaaGreatDoorSwb
import Derived.Test.YteongcjplmbkgaaGreatDoorSwc
import Derived.Test.YteongcjplmbkgaaGreatDoorSwd
import Derived.Test.YteongcjplmbkgaaGreatDoorSwe
import Derived.Test.YteongcjplmbkgaaGreatDoorSwf
open Exists renaming intro → Qaa
open List renaming length_map → Qab, length_set → Qae, length_cons → Qah, take_succ_eq_append_getElem → Qai, drop_of_length_le → Qaj, take_of_length_le → Qal, length_take → Qam, eq_nil_of_length_eq_zero → Qan, length_append → Qao, length_nil → Qap, set_set → Qaq, map_append → Qar, getElem?_eq_getElem → Qas, mem_cons_of_mem → Qat, mem_cons_self → Qaw, not_mem_nil → Qax
open Int renaming natCast_nonneg → Qac, le_refl → Qag
open Nat renaming zero_le → Qad, le_of_ble_eq_true → Qaf, le_refl → Qak, le_of_lt → Qau, add_sub_cancel → Qav
set_option linter.unusedVariables false
set_option linter.unusedSimpArgs false
section
namespace Go.Vc
open Go.Proofs
set_option maxRecDepth 100000
def bh (xs:List Bs) (n:Int):Int:=aP (IntKind.i64.wrap (n - ((xs.map eB).length:Int))) fun n=>iO (fun (s:Bs) n=>IntKind.i64.wrap (n - (s.length:Int))) xs n
theorem zD (xs:List Bs) (n:Int):Spec P 168 [.d (lS xs),.d (.int .i64 n)] (.d (.int .i64 (aP (IntKind.i64.wrap (n - ((xs.map eB).length:Int))) fun n=>iO (fun (s:Bs) n=>IntKind.i64.wrap (n - (s.length:Int))) xs n))):=by
 refine Spec.of_vc aO aA [.tmp 4] Tryz.func168 rfl rfl rfl rfl (fun hok=>?_);have hs:xs.length≤big:=by have:=hok.1.1;rwa [Qab] at this
 refine aj (fun h=>nd (by simp only[aP,h,cond_true,cond_false])) (fun h=>?_);simp only[aP,h,cond_true,cond_false]
 refine ⟨fun k l h=>∃(i:Nat) (v:Int),k=xs.length - i∧i≤xs.length∧iO (fun (s:Bs) n=>IntKind.i64.wrap (n - (s.length:Int))) xs (IntKind.i64.wrap (n - ((xs.map eB).length:Int)))=iO (fun (s:Bs) n=>IntKind.i64.wrap (n - (s.length:Int))) (xs.drop i) v∧l=[(0,.d (lS xs)),(1,.d (.int .i64 v)),(5,.d (.int .i64 i))]∧h=hp0,
  ⟨_,_,_,⟨0,_,rfl,Qad _,rfl,rfl,rfl⟩,rfl,rfl,⟨rfl,rfl,rfl,trivial⟩,trivial,trivial⟩,?_⟩
 rintro k l h1 ⟨i,v,rfl,hi,hr,rfl,rfl⟩;refine aj ?_ ?_<;>intro h1
 ·have hlt:i<xs.length:=U h1
  repeat refine ai ?_
  refine O (e:=eB) (xs:=xs) (hlt) rfl ?_;repeat refine ai ?_
  refine aj ?_ ?_<;>intro h2
  ·refine nd ?_
   rw[hr,cm hlt];simp only[aP,h2,cond_true]
  ·refine ⟨_,_,_,⟨i+1,_,rfl,hlt,?_,rfl,rfl⟩,by omega,rfl,rfl,⟨rfl,rfl,nd (aa hlt hs),trivial⟩,trivial,trivial⟩
   rw[hr,cm hlt];simp only[aP,h2,cond_false]
 ·refine nd ?_
  rw[hr,Qaj (V h1)];rfl
theorem kY (xs:List Bs) (n:Int):Spec P 168 [.d (lS xs),.d (.int .i64 n)] (.d (.int .i64 (bh xs n))):=zD xs n
def dU (x:List Int) (n:Int):Int:=aP (IntKind.i64.wrap (n - ((x.map eN).length:Int))) fun n=>n
theorem FN (x:List Int) (n:Int):Spec P 200 [.d (lI x),.d (.int .i64 n)] (.d (.int .i64 (aP (IntKind.i64.wrap (n - ((x.map eN).length:Int))) fun n=>n))):=by
 refine Spec.of_vc aO aA [.tmp 4] Tryz.func200 rfl rfl rfl rfl (fun hok=>?_);refine aj (fun h=>nd (by simp only[aP,h,cond_true,cond_false])) (fun h=>nd (by simp only[aP,h,cond_true,cond_false]))
theorem FM (x:List Int) (n:Int):Spec P 200 [.d (lI x),.d (.int .i64 n)] (.d (.int .i64 (dU x n))):=FN x n
def cN (x:GateField) (n:Int):Int:=aP (IntKind.i64.wrap (n - (x.name.length:Int))) fun n=>aP (bh x.words n) fun n=>aP (IntKind.i64.wrap (n - (x.to_.length:Int))) fun n=>aP (IntKind.i64.wrap (n - (x.default_.length:Int))) fun n=>aP (IntKind.i64.wrap (n - (x.weighs.length:Int))) fun n=>n
theorem vf (x:GateField) (n:Int):Spec P 199 [st x.e,.d (.int .i64 n)] (.d (.int .i64 (aP (IntKind.i64.wrap (n - (x.name.length:Int))) fun n=>aP (bh x.words n) fun n=>aP (IntKind.i64.wrap (n - (x.to_.length:Int))) fun n=>aP (IntKind.i64.wrap (n - (x.default_.length:Int))) fun n=>aP (IntKind.i64.wrap (n - (x.weighs.length:Int))) fun n=>n))):=by
 refine Spec.of_vc aO aA [.tmp 4] Tryz.func199 rfl rfl rfl rfl (fun hok=>?_);refine aj (fun h=>nd (by simp only[aP,h, *,cond_true,cond_false])) (fun h0=>?_);repeat refine ai ?_
 refine oc (kY _ _) ?_;refine aj (fun h=>nd (by simp only[aP,h, *,cond_true,cond_false])) (fun h1=>?_);refine aj (fun h=>nd (by simp only[aP,h, *,cond_true,cond_false])) (fun h2=>?_);refine aj (fun h=>nd (by simp only[aP,h, *,cond_true,cond_false])) (fun h3=>?_);refine aj (fun h=>nd (by simp only[aP,h, *,cond_true,cond_false])) (fun h4=>?_);exact nd (by simp only[aP, *,cond_true,cond_false])
theorem u7 (x:GateField) (n:Int):Spec P 199 [st x.e,.d (.int .i64 n)] (.d (.int .i64 (cN x n))):=vf x n
def ei (xs:List GateField) (n:Int):Int:=aP (IntKind.i64.wrap (n - ((xs.map GateField.e).length:Int))) fun n=>iO cN xs n
theorem sK (xs:List GateField) (n:Int):Spec P 167 [.d (ad xs),.d (.int .i64 n)] (.d (.int .i64 (aP (IntKind.i64.wrap (n - ((xs.map GateField.e).length:Int))) fun n=>iO cN xs n))):=by
 refine Spec.of_vc aO aA [.tmp 4] Tryz.func167 rfl rfl rfl rfl (fun hok=>?_);have hs:xs.length≤big:=by have:=hok.1.1;rwa [Qab] at this
 refine aj (fun h=>nd (by simp only[aP,h,cond_true,cond_false])) (fun h=>?_);simp only[aP,h,cond_true,cond_false]
 refine ⟨fun k l h=>∃(i:Nat) (v:Int),k=xs.length - i∧i≤xs.length∧iO cN xs (IntKind.i64.wrap (n - ((xs.map GateField.e).length:Int)))=iO cN (xs.drop i) v∧l=[(0,.d (ad xs)),(1,.d (.int .i64 v)),(5,.d (.int .i64 i))]∧h=hp0,
  ⟨_,_,_,⟨0,_,rfl,Qad _,rfl,rfl,rfl⟩,rfl,rfl,⟨rfl,rfl,rfl,trivial⟩,trivial,trivial⟩,?_⟩
 rintro k l h1 ⟨i,v,rfl,hi,hr,rfl,rfl⟩;refine aj ?_ ?_<;>intro h1
 ·have hlt:i<xs.length:=U h1
  repeat refine ai ?_
  refine O (e:=GateField.e) (xs:=xs) (hlt) rfl ?_;repeat refine ai ?_
  refine oc (u7 _ _) ?_;refine aj ?_ ?_<;>intro h2
  ·refine nd ?_
   rw[hr,cm hlt];simp only[aP,h2,cond_true]
  ·refine ⟨_,_,_,⟨i+1,_,rfl,hlt,?_,rfl,rfl⟩,by omega,rfl,rfl,⟨rfl,rfl,nd (aa hlt hs),trivial⟩,trivial,trivial⟩
   rw[hr,cm hlt];simp only[aP,h2,cond_false]
 ·refine nd ?_
  rw[hr,Qaj (V h1)];rfl
theorem sE (xs:List GateField) (n:Int):Spec P 167 [.d (ad xs),.d (.int .i64 n)] (.d (.int .i64 (ei xs n))):=sK xs n
def cK (x:GateShape) (n:Int):Int:=aP (IntKind.i64.wrap (n - (x.kind.length:Int))) fun n=>aP (ei x.fields n) fun n=>n
theorem va (x:GateShape) (n:Int):Spec P 107 [st x.e,.d (.int .i64 n)] (.d (.int .i64 (aP (IntKind.i64.wrap (n - (x.kind.length:Int))) fun n=>aP (ei x.fields n) fun n=>n))):=by
 refine Spec.of_vc aO aA [.tmp 4] Tryz.func107 rfl rfl rfl rfl (fun hok=>?_);refine aj (fun h=>nd (by simp only[aP,h, *,cond_true,cond_false])) (fun h0=>?_);repeat refine ai ?_
 refine oc (sE _ _) ?_;refine aj (fun h=>nd (by simp only[aP,h, *,cond_true,cond_false])) (fun h1=>?_);exact nd (by simp only[aP, *,cond_true,cond_false])
theorem uW (x:GateShape) (n:Int):Spec P 107 [st x.e,.d (.int .i64 n)] (.d (.int .i64 (cK x n))):=va x n
def cQ (xs:List GateShape) (n:Int):Int:=aP (IntKind.i64.wrap (n - ((xs.map GateShape.e).length:Int))) fun n=>iO cK xs n
theorem sF (xs:List GateShape) (n:Int):Spec P 39 [.d (ab xs),.d (.int .i64 n)] (.d (.int .i64 (aP (IntKind.i64.wrap (n - ((xs.map GateShape.e).length:Int))) fun n=>iO cK xs n))):=by
 refine Spec.of_vc aO aA [.tmp 4] Tryz.func39 rfl rfl rfl rfl (fun hok=>?_);have hs:xs.length≤big:=by have:=hok.1.1;rwa [Qab] at this
 refine aj (fun h=>nd (by simp only[aP,h,cond_true,cond_false])) (fun h=>?_);simp only[aP,h,cond_true,cond_false]
 refine ⟨fun k l h=>∃(i:Nat) (v:Int),k=xs.length - i∧i≤xs.length∧iO cK xs (IntKind.i64.wrap (n - ((xs.map GateShape.e).length:Int)))=iO cK (xs.drop i) v∧l=[(0,.d (ab xs)),(1,.d (.int .i64 v)),(5,.d (.int .i64 i))]∧h=hp0,
  ⟨_,_,_,⟨0,_,rfl,Qad _,rfl,rfl,rfl⟩,rfl,rfl,⟨rfl,rfl,rfl,trivial⟩,trivial,trivial⟩,?_⟩
 rintro k l h1 ⟨i,v,rfl,hi,hr,rfl,rfl⟩;refine aj ?_ ?_<;>intro h1
 ·have hlt:i<xs.length:=U h1
  repeat refine ai ?_
  refine O (e:=GateShape.e) (xs:=xs) (hlt) rfl ?_;repeat refine ai ?_
  refine oc (uW _ _) ?_;refine aj ?_ ?_<;>intro h2
  ·refine nd ?_
   rw[hr,cm hlt];simp only[aP,h2,cond_true]
  ·refine ⟨_,_,_,⟨i+1,_,rfl,hlt,?_,rfl,rfl⟩,by omega,rfl,rfl,⟨rfl,rfl,nd (aa hlt hs),trivial⟩,trivial,trivial⟩
   rw[hr,cm hlt];simp only[aP,h2,cond_false]
 ·refine nd ?_
  rw[hr,Qaj (V h1)];rfl
theorem sw (xs:List GateShape) (n:Int):Spec P 39 [.d (ab xs),.d (.int .i64 n)] (.d (.int .i64 (cQ xs n))):=sF xs n
def da (x:GateMend) (n:Int):Int:=aP (IntKind.i64.wrap (n - (x.kind.length:Int))) fun n=>aP (IntKind.i64.wrap (n - (x.field.length:Int))) fun n=>aP (IntKind.i64.wrap (n - (x.when_.length:Int))) fun n=>aP (IntKind.i64.wrap (n - (x.is_.length:Int))) fun n=>aP (IntKind.i64.wrap (n - (x.put.length:Int))) fun n=>aP (IntKind.i64.wrap (n - (x.from_.length:Int))) fun n=>n
theorem xN (x:GateMend) (n:Int):Spec P 108 [st x.e,.d (.int .i64 n)] (.d (.int .i64 (aP (IntKind.i64.wrap (n - (x.kind.length:Int))) fun n=>aP (IntKind.i64.wrap (n - (x.field.length:Int))) fun n=>aP (IntKind.i64.wrap (n - (x.when_.length:Int))) fun n=>aP (IntKind.i64.wrap (n - (x.is_.length:Int))) fun n=>aP (IntKind.i64.wrap (n - (x.put.length:Int))) fun n=>aP (IntKind.i64.wrap (n - (x.from_.length:Int))) fun n=>n))):=by
 refine Spec.of_vc aO aA [.tmp 4] Tryz.func108 rfl rfl rfl rfl (fun hok=>?_);refine aj (fun h=>nd (by simp only[aP,h, *,cond_true,cond_false])) (fun h0=>?_);refine aj (fun h=>nd (by simp only[aP,h, *,cond_true,cond_false])) (fun h1=>?_);refine aj (fun h=>nd (by simp only[aP,h, *,cond_true,cond_false])) (fun h2=>?_);refine aj (fun h=>nd (by simp only[aP,h, *,cond_true,cond_false])) (fun h3=>?_);refine aj (fun h=>nd (by simp only[aP,h, *,cond_true,cond_false])) (fun h4=>?_);refine aj (fun h=>nd (by simp only[aP,h, *,cond_true,cond_false])) (fun h5=>?_);exact nd (by simp only[aP, *,cond_true,cond_false])
theorem xJ (x:GateMend) (n:Int):Spec P 108 [st x.e,.d (.int .i64 n)] (.d (.int .i64 (da x n))):=xN x n
def dZ (xs:List GateMend) (n:Int):Int:=aP (IntKind.i64.wrap (n - ((xs.map GateMend.e).length:Int))) fun n=>iO da xs n
theorem vd (xs:List GateMend) (n:Int):Spec P 40 [.d (ap xs),.d (.int .i64 n)] (.d (.int .i64 (aP (IntKind.i64.wrap (n - ((xs.map GateMend.e).length:Int))) fun n=>iO da xs n))):=by
 refine Spec.of_vc aO aA [.tmp 4] Tryz.func40 rfl rfl rfl rfl (fun hok=>?_);have hs:xs.length≤big:=by have:=hok.1.1;rwa [Qab] at this
 refine aj (fun h=>nd (by simp only[aP,h,cond_true,cond_false])) (fun h=>?_);simp only[aP,h,cond_true,cond_false]
 refine ⟨fun k l h=>∃(i:Nat) (v:Int),k=xs.length - i∧i≤xs.length∧iO da xs (IntKind.i64.wrap (n - ((xs.map GateMend.e).length:Int)))=iO da (xs.drop i) v∧l=[(0,.d (ap xs)),(1,.d (.int .i64 v)),(5,.d (.int .i64 i))]∧h=hp0,
  ⟨_,_,_,⟨0,_,rfl,Qad _,rfl,rfl,rfl⟩,rfl,rfl,⟨rfl,rfl,rfl,trivial⟩,trivial,trivial⟩,?_⟩
 rintro k l h1 ⟨i,v,rfl,hi,hr,rfl,rfl⟩;refine aj ?_ ?_<;>intro h1
 ·have hlt:i<xs.length:=U h1
  repeat refine ai ?_
  refine O (e:=GateMend.e) (xs:=xs) (hlt) rfl ?_;repeat refine ai ?_
  refine oc (xJ _ _) ?_;refine aj ?_ ?_<;>intro h2
  ·refine nd ?_
   rw[hr,cm hlt];simp only[aP,h2,cond_true]
  ·refine ⟨_,_,_,⟨i+1,_,rfl,hlt,?_,rfl,rfl⟩,by omega,rfl,rfl,⟨rfl,rfl,nd (aa hlt hs),trivial⟩,trivial,trivial⟩
   rw[hr,cm hlt];simp only[aP,h2,cond_false]
 ·refine nd ?_
  rw[hr,Qaj (V h1)];rfl
theorem uY (xs:List GateMend) (n:Int):Spec P 40 [.d (ap xs),.d (.int .i64 n)] (.d (.int .i64 (dZ xs n))):=vd xs n
def c9 (x:GateTeam) (n:Int):Int:=aP (IntKind.i64.wrap (n - (x.name.length:Int))) fun n=>aP (IntKind.i64.wrap (n - (x.over.length:Int))) fun n=>n
theorem xL (x:GateTeam) (n:Int):Spec P 109 [st x.e,.d (.int .i64 n)] (.d (.int .i64 (aP (IntKind.i64.wrap (n - (x.name.length:Int))) fun n=>aP (IntKind.i64.wrap (n - (x.over.length:Int))) fun n=>n))):=by
 refine Spec.of_vc aO aA [.tmp 4] Tryz.func109 rfl rfl rfl rfl (fun hok=>?_);refine aj (fun h=>nd (by simp only[aP,h, *,cond_true,cond_false])) (fun h0=>?_);refine aj (fun h=>nd (by simp only[aP,h, *,cond_true,cond_false])) (fun h1=>?_);exact nd (by simp only[aP, *,cond_true,cond_false])
theorem xH (x:GateTeam) (n:Int):Spec P 109 [st x.e,.d (.int .i64 n)] (.d (.int .i64 (c9 x n))):=xL x n
def e8 (xs:List GateTeam) (n:Int):Int:=aP (IntKind.i64.wrap (n - ((xs.map GateTeam.e).length:Int))) fun n=>iO c9 xs n
theorem u9 (xs:List GateTeam) (n:Int):Spec P 41 [.d (ar xs),.d (.int .i64 n)] (.d (.int .i64 (aP (IntKind.i64.wrap (n - ((xs.map GateTeam.e).length:Int))) fun n=>iO c9 xs n))):=by
 refine Spec.of_vc aO aA [.tmp 4] Tryz.func41 rfl rfl rfl rfl (fun hok=>?_);have hs:xs.length≤big:=by have:=hok.1.1;rwa [Qab] at this
 refine aj (fun h=>nd (by simp only[aP,h,cond_true,cond_false])) (fun h=>?_);simp only[aP,h,cond_true,cond_false]
 refine ⟨fun k l h=>∃(i:Nat) (v:Int),k=xs.length - i∧i≤xs.length∧iO c9 xs (IntKind.i64.wrap (n - ((xs.map GateTeam.e).length:Int)))=iO c9 (xs.drop i) v∧l=[(0,.d (ar xs)),(1,.d (.int .i64 v)),(5,.d (.int .i64 i))]∧h=hp0,
  ⟨_,_,_,⟨0,_,rfl,Qad _,rfl,rfl,rfl⟩,rfl,rfl,⟨rfl,rfl,rfl,trivial⟩,trivial,trivial⟩,?_⟩
 rintro k l h1 ⟨i,v,rfl,hi,hr,rfl,rfl⟩;refine aj ?_ ?_<;>intro h1
 ·have hlt:i<xs.length:=U h1
  repeat refine ai ?_
  refine O (e:=GateTeam.e) (xs:=xs) (hlt) rfl ?_;repeat refine ai ?_
  refine oc (xH _ _) ?_;refine aj ?_ ?_<;>intro h2
  ·refine nd ?_
   rw[hr,cm hlt];simp only[aP,h2,cond_true]
  ·refine ⟨_,_,_,⟨i+1,_,rfl,hlt,?_,rfl,rfl⟩,by omega,rfl,rfl,⟨rfl,rfl,nd (aa hlt hs),trivial⟩,trivial,trivial⟩
   rw[hr,cm hlt];simp only[aP,h2,cond_false]
 ·refine nd ?_
  rw[hr,Qaj (V h1)];rfl
theorem uV (xs:List GateTeam) (n:Int):Spec P 41 [.d (ar xs),.d (.int .i64 n)] (.d (.int .i64 (e8 xs n))):=u9 xs n
def fB (x:GateLaw) (n:Int):Int:=aP (cQ x.shapes n) fun n=>aP (dZ x.mends n) fun n=>aP (e8 x.teams n) fun n=>n
theorem zE (x:GateLaw) (n:Int):Spec P 11 [st x.e,.d (.int .i64 n)] (.d (.int .i64 (aP (cQ x.shapes n) fun n=>aP (dZ x.mends n) fun n=>aP (e8 x.teams n) fun n=>n))):=by
 refine Spec.of_vc aO aA [.tmp 4] Tryz.func11 rfl rfl rfl rfl (fun hok=>?_);repeat refine ai ?_
 refine oc (sw _ _) ?_;refine aj (fun h=>nd (by simp only[aP,h, *,cond_true,cond_false])) (fun h0=>?_);repeat refine ai ?_
 refine oc (uY _ _) ?_;refine aj (fun h=>nd (by simp only[aP,h, *,cond_true,cond_false])) (fun h1=>?_);repeat refine ai ?_
 refine oc (uV _ _) ?_;refine aj (fun h=>nd (by simp only[aP,h, *,cond_true,cond_false])) (fun h2=>?_);exact nd (by simp only[aP, *,cond_true,cond_false])
theorem zC (x:GateLaw) (n:Int):Spec P 11 [st x.e,.d (.int .i64 n)] (.d (.int .i64 (fB x n))):=zE x n
def cx (x:GateObject) (n:Int):Int:=aP (IntKind.i64.wrap (n - (x.kind.length:Int))) fun n=>aP (IntKind.i64.wrap (n - (x.name.length:Int))) fun n=>aP (IntKind.i64.wrap (n - (x.team.length:Int))) fun n=>aP (bh x.values n) fun n=>aP (bh x.holds n) fun n=>n
theorem sH (x:GateObject) (n:Int):Spec P 110 [st x.e,.d (.int .i64 n)] (.d (.int .i64 (aP (IntKind.i64.wrap (n - (x.kind.length:Int))) fun n=>aP (IntKind.i64.wrap (n - (x.name.length:Int))) fun n=>aP (IntKind.i64.wrap (n - (x.team.length:Int))) fun n=>aP (bh x.values n) fun n=>aP (bh x.holds n) fun n=>n))):=by
 refine Spec.of_vc aO aA [.tmp 4] Tryz.func110 rfl rfl rfl rfl (fun hok=>?_);refine aj (fun h=>nd (by simp only[aP,h, *,cond_true,cond_false])) (fun h0=>?_);refine aj (fun h=>nd (by simp only[aP,h, *,cond_true,cond_false])) (fun h1=>?_);refine aj (fun h=>nd (by simp only[aP,h, *,cond_true,cond_false])) (fun h2=>?_);repeat refine ai ?_
 refine oc (kY _ _) ?_;refine aj (fun h=>nd (by simp only[aP,h, *,cond_true,cond_false])) (fun h3=>?_);repeat refine ai ?_
 refine oc (kY _ _) ?_;refine aj (fun h=>nd (by simp only[aP,h, *,cond_true,cond_false])) (fun h4=>?_);exact nd (by simp only[aP, *,cond_true,cond_false])
theorem sy (x:GateObject) (n:Int):Spec P 110 [st x.e,.d (.int .i64 n)] (.d (.int .i64 (cx x n))):=sH x n
def cg (xs:List GateObject) (n:Int):Int:=aP (IntKind.i64.wrap (n - ((xs.map GateObject.e).length:Int))) fun n=>iO cx xs n
theorem qX (xs:List GateObject) (n:Int):Spec P 42 [.d (aC xs),.d (.int .i64 n)] (.d (.int .i64 (aP (IntKind.i64.wrap (n - ((xs.map GateObject.e).length:Int))) fun n=>iO cx xs n))):=by
 refine Spec.of_vc aO aA [.tmp 4] Tryz.func42 rfl rfl rfl rfl (fun hok=>?_);have hs:xs.length≤big:=by have:=hok.1.1;rwa [Qab] at this
 refine aj (fun h=>nd (by simp only[aP,h,cond_true,cond_false])) (fun h=>?_);simp only[aP,h,cond_true,cond_false]
 refine ⟨fun k l h=>∃(i:Nat) (v:Int),k=xs.length - i∧i≤xs.length∧iO cx xs (IntKind.i64.wrap (n - ((xs.map GateObject.e).length:Int)))=iO cx (xs.drop i) v∧l=[(0,.d (aC xs)),(1,.d (.int .i64 v)),(5,.d (.int .i64 i))]∧h=hp0,
  ⟨_,_,_,⟨0,_,rfl,Qad _,rfl,rfl,rfl⟩,rfl,rfl,⟨rfl,rfl,rfl,trivial⟩,trivial,trivial⟩,?_⟩
 rintro k l h1 ⟨i,v,rfl,hi,hr,rfl,rfl⟩;refine aj ?_ ?_<;>intro h1
 ·have hlt:i<xs.length:=U h1
  repeat refine ai ?_
  refine O (e:=GateObject.e) (xs:=xs) (hlt) rfl ?_;repeat refine ai ?_
  refine oc (sy _ _) ?_;refine aj ?_ ?_<;>intro h2
  ·refine nd ?_
   rw[hr,cm hlt];simp only[aP,h2,cond_true]
  ·refine ⟨_,_,_,⟨i+1,_,rfl,hlt,?_,rfl,rfl⟩,by omega,rfl,rfl,⟨rfl,rfl,nd (aa hlt hs),trivial⟩,trivial,trivial⟩
   rw[hr,cm hlt];simp only[aP,h2,cond_false]
 ·refine nd ?_
  rw[hr,Qaj (V h1)];rfl
theorem qV (xs:List GateObject) (n:Int):Spec P 42 [.d (aC xs),.d (.int .i64 n)] (.d (.int .i64 (cg xs n))):=qX xs n
def eJ (x:GateRule) (n:Int):Int:=aP (dU x.verbs n) fun n=>aP (IntKind.i64.wrap (n - (x.kind.length:Int))) fun n=>aP (IntKind.i64.wrap (n - (x.team.length:Int))) fun n=>aP (IntKind.i64.wrap (n - (x.prefix_.length:Int))) fun n=>n
theorem xM (x:GateRule) (n:Int):Spec P 169 [st x.e,.d (.int .i64 n)] (.d (.int .i64 (aP (dU x.verbs n) fun n=>aP (IntKind.i64.wrap (n - (x.kind.length:Int))) fun n=>aP (IntKind.i64.wrap (n - (x.team.length:Int))) fun n=>aP (IntKind.i64.wrap (n - (x.prefix_.length:Int))) fun n=>n))):=by
 refine Spec.of_vc aO aA [.tmp 4] Tryz.func169 rfl rfl rfl rfl (fun hok=>?_);repeat refine ai ?_
 refine oc (FM _ _) ?_;refine aj (fun h=>nd (by simp only[aP,h, *,cond_true,cond_false])) (fun h0=>?_);refine aj (fun h=>nd (by simp only[aP,h, *,cond_true,cond_false])) (fun h1=>?_);refine aj (fun h=>nd (by simp only[aP,h, *,cond_true,cond_false])) (fun h2=>?_);refine aj (fun h=>nd (by simp only[aP,h, *,cond_true,cond_false])) (fun h3=>?_);exact nd (by simp only[aP, *,cond_true,cond_false])
theorem xI (x:GateRule) (n:Int):Spec P 169 [st x.e,.d (.int .i64 n)] (.d (.int .i64 (eJ x n))):=xM x n
def cM (x:GateGrant) (n:Int):Int:=aP (IntKind.i64.wrap (n - (x.to_.length:Int))) fun n=>aP (IntKind.i64.wrap (n - (x.by_.length:Int))) fun n=>aP (eJ x.rule n) fun n=>n
theorem ve (x:GateGrant) (n:Int):Spec P 111 [st x.e,.d (.int .i64 n)] (.d (.int .i64 (aP (IntKind.i64.wrap (n - (x.to_.length:Int))) fun n=>aP (IntKind.i64.wrap (n - (x.by_.length:Int))) fun n=>aP (eJ x.rule n) fun n=>n))):=by
 refine Spec.of_vc aO aA [.tmp 4] Tryz.func111 rfl rfl rfl rfl (fun hok=>?_);refine aj (fun h=>nd (by simp only[aP,h, *,cond_true,cond_false])) (fun h0=>?_);refine aj (fun h=>nd (by simp only[aP,h, *,cond_true,cond_false])) (fun h1=>?_);repeat refine ai ?_
 refine oc (xI _ _) ?_;refine aj (fun h=>nd (by simp only[aP,h, *,cond_true,cond_false])) (fun h2=>?_);exact nd (by simp only[aP, *,cond_true,cond_false])
theorem uZ (x:GateGrant) (n:Int):Spec P 111 [st x.e,.d (.int .i64 n)] (.d (.int .i64 (cM x n))):=ve x n
def cR (xs:List GateGrant) (n:Int):Int:=aP (IntKind.i64.wrap (n - ((xs.map GateGrant.e).length:Int))) fun n=>iO cM xs n
theorem sJ (xs:List GateGrant) (n:Int):Spec P 43 [.d (bf xs),.d (.int .i64 n)] (.d (.int .i64 (aP (IntKind.i64.wrap (n - ((xs.map GateGrant.e).length:Int))) fun n=>iO cM xs n))):=by
 refine Spec.of_vc aO aA [.tmp 4] Tryz.func43 rfl rfl rfl rfl (fun hok=>?_);have hs:xs.length≤big:=by have:=hok.1.1;rwa [Qab] at this
 refine aj (fun h=>nd (by simp only[aP,h,cond_true,cond_false])) (fun h=>?_);simp only[aP,h,cond_true,cond_false]
 refine ⟨fun k l h=>∃(i:Nat) (v:Int),k=xs.length - i∧i≤xs.length∧iO cM xs (IntKind.i64.wrap (n - ((xs.map GateGrant.e).length:Int)))=iO cM (xs.drop i) v∧l=[(0,.d (bf xs)),(1,.d (.int .i64 v)),(5,.d (.int .i64 i))]∧h=hp0,
  ⟨_,_,_,⟨0,_,rfl,Qad _,rfl,rfl,rfl⟩,rfl,rfl,⟨rfl,rfl,rfl,trivial⟩,trivial,trivial⟩,?_⟩
 rintro k l h1 ⟨i,v,rfl,hi,hr,rfl,rfl⟩;refine aj ?_ ?_<;>intro h1
 ·have hlt:i<xs.length:=U h1
  repeat refine ai ?_
  refine O (e:=GateGrant.e) (xs:=xs) (hlt) rfl ?_;repeat refine ai ?_
  refine oc (uZ _ _) ?_;refine aj ?_ ?_<;>intro h2
  ·refine nd ?_
   rw[hr,cm hlt];simp only[aP,h2,cond_true]
  ·refine ⟨_,_,_,⟨i+1,_,rfl,hlt,?_,rfl,rfl⟩,by omega,rfl,rfl,⟨rfl,rfl,nd (aa hlt hs),trivial⟩,trivial,trivial⟩
   rw[hr,cm hlt];simp only[aP,h2,cond_false]
 ·refine nd ?_
  rw[hr,Qaj (V h1)];rfl
theorem sD (xs:List GateGrant) (n:Int):Spec P 43 [.d (bf xs),.d (.int .i64 n)] (.d (.int .i64 (cR xs n))):=sJ xs n
def cy (x:GateLedger) (n:Int):Int:=aP (IntKind.i64.wrap (n - (x.team.length:Int))) fun n=>aP (IntKind.i64.wrap (n - (x.resource.length:Int))) fun n=>n
theorem sI (x:GateLedger) (n:Int):Spec P 112 [st x.e,.d (.int .i64 n)] (.d (.int .i64 (aP (IntKind.i64.wrap (n - (x.team.length:Int))) fun n=>aP (IntKind.i64.wrap (n - (x.resource.length:Int))) fun n=>n))):=by
 refine Spec.of_vc aO aA [.tmp 4] Tryz.func112 rfl rfl rfl rfl (fun hok=>?_);refine aj (fun h=>nd (by simp only[aP,h, *,cond_true,cond_false])) (fun h0=>?_);refine aj (fun h=>nd (by simp only[aP,h, *,cond_true,cond_false])) (fun h1=>?_);exact nd (by simp only[aP, *,cond_true,cond_false])
theorem sC (x:GateLedger) (n:Int):Spec P 112 [st x.e,.d (.int .i64 n)] (.d (.int .i64 (cy x n))):=sI x n
def c6 (xs:List GateLedger) (n:Int):Int:=aP (IntKind.i64.wrap (n - ((xs.map GateLedger.e).length:Int))) fun n=>iO cy xs n
theorem qY (xs:List GateLedger) (n:Int):Spec P 44 [.d (aL xs),.d (.int .i64 n)] (.d (.int .i64 (aP (IntKind.i64.wrap (n - ((xs.map GateLedger.e).length:Int))) fun n=>iO cy xs n))):=by
 refine Spec.of_vc aO aA [.tmp 4] Tryz.func44 rfl rfl rfl rfl (fun hok=>?_);have hs:xs.length≤big:=by have:=hok.1.1;rwa [Qab] at this
 refine aj (fun h=>nd (by simp only[aP,h,cond_true,cond_false])) (fun h=>?_);simp only[aP,h,cond_true,cond_false]
 refine ⟨fun k l h=>∃(i:Nat) (v:Int),k=xs.length - i∧i≤xs.length∧iO cy xs (IntKind.i64.wrap (n - ((xs.map GateLedger.e).length:Int)))=iO cy (xs.drop i) v∧l=[(0,.d (aL xs)),(1,.d (.int .i64 v)),(5,.d (.int .i64 i))]∧h=hp0,
  ⟨_,_,_,⟨0,_,rfl,Qad _,rfl,rfl,rfl⟩,rfl,rfl,⟨rfl,rfl,rfl,trivial⟩,trivial,trivial⟩,?_⟩
 rintro k l h1 ⟨i,v,rfl,hi,hr,rfl,rfl⟩;refine aj ?_ ?_<;>intro h1
 ·have hlt:i<xs.length:=U h1
  repeat refine ai ?_
  refine O (e:=GateLedger.e) (xs:=xs) (hlt) rfl ?_;repeat refine ai ?_
  refine oc (sC _ _) ?_;refine aj ?_ ?_<;>intro h2
  ·refine nd ?_
   rw[hr,cm hlt];simp only[aP,h2,cond_true]
  ·refine ⟨_,_,_,⟨i+1,_,rfl,hlt,?_,rfl,rfl⟩,by omega,rfl,rfl,⟨rfl,rfl,nd (aa hlt hs),trivial⟩,trivial,trivial⟩
   rw[hr,cm hlt];simp only[aP,h2,cond_false]
 ·refine nd ?_
  rw[hr,Qaj (V h1)];rfl
theorem qW (xs:List GateLedger) (n:Int):Spec P 44 [.d (aL xs),.d (.int .i64 n)] (.d (.int .i64 (c6 xs n))):=qY xs n
def cL (x:GatePurse) (n:Int):Int:=aP (IntKind.i64.wrap (n - (x.door.length:Int))) fun n=>aP (IntKind.i64.wrap (n - (x.team.length:Int))) fun n=>aP (IntKind.i64.wrap (n - (x.resource.length:Int))) fun n=>n
theorem vb (x:GatePurse) (n:Int):Spec P 113 [st x.e,.d (.int .i64 n)] (.d (.int .i64 (aP (IntKind.i64.wrap (n - (x.door.length:Int))) fun n=>aP (IntKind.i64.wrap (n - (x.team.length:Int))) fun n=>aP (IntKind.i64.wrap (n - (x.resource.length:Int))) fun n=>n))):=by
 refine Spec.of_vc aO aA [.tmp 4] Tryz.func113 rfl rfl rfl rfl (fun hok=>?_);refine aj (fun h=>nd (by simp only[aP,h, *,cond_true,cond_false])) (fun h0=>?_);refine aj (fun h=>nd (by simp only[aP,h, *,cond_true,cond_false])) (fun h1=>?_);refine aj (fun h=>nd (by simp only[aP,h, *,cond_true,cond_false])) (fun h2=>?_);exact nd (by simp only[aP, *,cond_true,cond_false])
theorem uX (x:GatePurse) (n:Int):Spec P 113 [st x.e,.d (.int .i64 n)] (.d (.int .i64 (cL x n))):=vb x n
def eg (xs:List GatePurse) (n:Int):Int:=aP (IntKind.i64.wrap (n - ((xs.map GatePurse.e).length:Int))) fun n=>iO cL xs n
theorem sG (xs:List GatePurse) (n:Int):Spec P 45 [.d (be xs),.d (.int .i64 n)] (.d (.int .i64 (aP (IntKind.i64.wrap (n - ((xs.map GatePurse.e).length:Int))) fun n=>iO cL xs n))):=by
 refine Spec.of_vc aO aA [.tmp 4] Tryz.func45 rfl rfl rfl rfl (fun hok=>?_);have hs:xs.length≤big:=by have:=hok.1.1;rwa [Qab] at this
 refine aj (fun h=>nd (by simp only[aP,h,cond_true,cond_false])) (fun h=>?_);simp only[aP,h,cond_true,cond_false]
 refine ⟨fun k l h=>∃(i:Nat) (v:Int),k=xs.length - i∧i≤xs.length∧iO cL xs (IntKind.i64.wrap (n - ((xs.map GatePurse.e).length:Int)))=iO cL (xs.drop i) v∧l=[(0,.d (be xs)),(1,.d (.int .i64 v)),(5,.d (.int .i64 i))]∧h=hp0,
  ⟨_,_,_,⟨0,_,rfl,Qad _,rfl,rfl,rfl⟩,rfl,rfl,⟨rfl,rfl,rfl,trivial⟩,trivial,trivial⟩,?_⟩
 rintro k l h1 ⟨i,v,rfl,hi,hr,rfl,rfl⟩;refine aj ?_ ?_<;>intro h1
 ·have hlt:i<xs.length:=U h1
  repeat refine ai ?_
  refine O (e:=GatePurse.e) (xs:=xs) (hlt) rfl ?_;repeat refine ai ?_
  refine oc (uX _ _) ?_;refine aj ?_ ?_<;>intro h2
  ·refine nd ?_
   rw[hr,cm hlt];simp only[aP,h2,cond_true]
  ·refine ⟨_,_,_,⟨i+1,_,rfl,hlt,?_,rfl,rfl⟩,by omega,rfl,rfl,⟨rfl,rfl,nd (aa hlt hs),trivial⟩,trivial,trivial⟩
   rw[hr,cm hlt];simp only[aP,h2,cond_false]
 ·refine nd ?_
  rw[hr,Qaj (V h1)];rfl
theorem sx (xs:List GatePurse) (n:Int):Spec P 45 [.d (be xs),.d (.int .i64 n)] (.d (.int .i64 (eg xs n))):=sG xs n
def fM (x:GateBook) (n:Int):Int:=aP (cg x.objects n) fun n=>aP (cR x.grants n) fun n=>aP (c6 x.ledgers n) fun n=>aP (eg x.purses n) fun n=>n
theorem xO (x:GateBook) (n:Int):Spec P 12 [st x.e,.d (.int .i64 n)] (.d (.int .i64 (aP (cg x.objects n) fun n=>aP (cR x.grants n) fun n=>aP (c6 x.ledgers n) fun n=>aP (eg x.purses n) fun n=>n))):=by
 refine Spec.of_vc aO aA [.tmp 4] Tryz.func12 rfl rfl rfl rfl (fun hok=>?_);repeat refine ai ?_
 refine oc (qV _ _) ?_;refine aj (fun h=>nd (by simp only[aP,h, *,cond_true,cond_false])) (fun h0=>?_);repeat refine ai ?_
 refine oc (sD _ _) ?_;refine aj (fun h=>nd (by simp only[aP,h, *,cond_true,cond_false])) (fun h1=>?_);repeat refine ai ?_
 refine oc (qW _ _) ?_;refine aj (fun h=>nd (by simp only[aP,h, *,cond_true,cond_false])) (fun h2=>?_);repeat refine ai ?_
 refine oc (sx _ _) ?_;refine aj (fun h=>nd (by simp only[aP,h, *,cond_true,cond_false])) (fun h3=>?_);exact nd (by simp only[aP, *,cond_true,cond_false])
theorem xK (x:GateBook) (n:Int):Spec P 12 [st x.e,.d (.int .i64 n)] (.d (.int .i64 (fM x n))):=xO x n
theorem mR (xs:List Bs):Spec P 179 [.d (lS xs)] (.d (lS xs)):=by
 refine Spec.of_vc aO aA [.tmp 2] Tryz.func179 rfl rfl rfl rfl (fun hok=>?_);have hs:xs.length≤big:=by have:=hok.1.1;rwa [Qab] at this
 repeat refine ai ?_
 refine aj (Qac _) (aj (Qag _) (aj (dd hs) ?_))
 refine ⟨fun k l h=>∃i:Nat,k=xs.length - i∧i≤xs.length∧l=[(0,.d (lS xs)),(3,.own 0),(4,.d (.int .i64 i))]∧h=⟨[(0,.row 9 [D.str []].length (bo eB xs [D.str []] i))],1,0⟩,
  ⟨_,_,_,⟨0,rfl,Qad _,rfl,rfl⟩,rfl,rfl,⟨rfl,rfl,rfl,trivial⟩,⟨rfl,trivial⟩,⟨ct,trivial⟩⟩,?_⟩
 rintro k l h1 ⟨i,rfl,hi,rfl,rfl⟩;refine aj ?_ ?_<;>intro h1
 ·have hlt:i<xs.length:=U h1
  repeat refine ai ?_
  refine O (e:=eB) (xs:=xs) (hlt) rfl ?_;repeat refine ai ?_
  refine aj (Qac _) (aj (by rw[aY hi];omega) ?_);repeat refine ai ?_
  refine ⟨_,aZ hlt,Qak _,?_⟩;exact ⟨_,_,_,⟨i+1,rfl,hlt,rfl,rfl⟩,by omega,rfl,rfl,⟨rfl,rfl,nd (aa hlt hs),trivial⟩,⟨rfl,trivial⟩,⟨cS hlt rfl,trivial⟩⟩
 ·exact ld (cT (V h1) hi)
theorem HI (xs:List Int):Spec P 209 [.d (lI xs)] (.d (lI xs)):=by
 refine Spec.of_vc aO aA [.tmp 2] Tryz.func209 rfl rfl rfl rfl (fun hok=>?_);have hs:xs.length≤big:=by have:=hok.1.1;rwa [Qab] at this
 repeat refine ai ?_
 refine aj (Qac _) (aj (Qag _) (aj (dd hs) ?_))
 refine ⟨fun k l h=>∃i:Nat,k=xs.length - i∧i≤xs.length∧l=[(0,.d (lI xs)),(3,.own 0),(4,.d (.int .i64 i))]∧h=⟨[(0,.row 3 [D.int .i64 0].length (bo eN xs [D.int .i64 0] i))],1,0⟩,
  ⟨_,_,_,⟨0,rfl,Qad _,rfl,rfl⟩,rfl,rfl,⟨rfl,rfl,rfl,trivial⟩,⟨rfl,trivial⟩,⟨ct,trivial⟩⟩,?_⟩
 rintro k l h1 ⟨i,rfl,hi,rfl,rfl⟩;refine aj ?_ ?_<;>intro h1
 ·have hlt:i<xs.length:=U h1
  repeat refine ai ?_
  refine O (e:=eN) (xs:=xs) (hlt) rfl ?_;repeat refine ai ?_
  refine aj (Qac _) (aj (by rw[aY hi];omega) ?_);repeat refine ai ?_
  refine ⟨_,aZ hlt,Qak _,?_⟩;exact ⟨_,_,_,⟨i+1,rfl,hlt,rfl,rfl⟩,by omega,rfl,rfl,⟨rfl,rfl,nd (aa hlt hs),trivial⟩,⟨rfl,trivial⟩,⟨cS hlt rfl,trivial⟩⟩
 ·exact ld (cT (V h1) hi)
def GateField.z:List D:=[.str [],.int .i64 0,.int .i64 0,.int .i64 0,.list [],.str [],.int .i64 0,.bool false,.bool false,.str [],.str []]
theorem xD (x:GateField):Spec P 208 [st x.e] (st x.e):=by
 refine Spec.of_vc aO aA [.cell 2 138] Tryz.func208 rfl rfl rfl rfl (fun hok=>?_);repeat refine ai ?_
 refine oc (mR _) ?_;repeat refine ai ?_
 rfl
theorem uP (xs:List GateField):Spec P 178 [.d (ad xs)] (.d (ad xs)):=by
 refine Spec.of_vc aO aA [.tmp 2] Tryz.func178 rfl rfl rfl rfl (fun hok=>?_);have hs:xs.length≤big:=by have:=hok.1.1;rwa [Qab] at this
 repeat refine ai ?_
 refine aj (Qac _) (aj (Qag _) (aj (dd hs) ?_))
 refine ⟨fun k l h=>∃i:Nat,k=xs.length - i∧i≤xs.length∧l=[(0,.d (ad xs)),(3,.own 0),(4,.d (.int .i64 i))]∧h=⟨[(0,.row 138 GateField.z.length (bo GateField.e xs GateField.z i))],1,0⟩,
  ⟨_,_,_,⟨0,rfl,Qad _,rfl,rfl⟩,rfl,rfl,⟨rfl,rfl,rfl,trivial⟩,⟨rfl,trivial⟩,⟨ct,trivial⟩⟩,?_⟩
 rintro k l h1 ⟨i,rfl,hi,rfl,rfl⟩;refine aj ?_ ?_<;>intro h1
 ·have hlt:i<xs.length:=U h1
  repeat refine ai ?_
  refine O (e:=GateField.e) (xs:=xs) (hlt) rfl ?_;repeat refine ai ?_
  refine oc (xD _) ?_;repeat refine ai ?_
  refine aj (Qac _) (aj (by rw[aY hi];omega) ?_);repeat refine ai ?_
  refine ⟨_,aZ hlt,Qak _,?_⟩;exact ⟨_,_,_,⟨i+1,rfl,hlt,rfl,rfl⟩,by omega,rfl,rfl,⟨rfl,rfl,nd (aa hlt hs),trivial⟩,⟨rfl,trivial⟩,⟨cS hlt rfl,trivial⟩⟩
 ·exact ld (cT (V h1) hi)
def GateShape.z:List D:=[.str [],.list []]
theorem xA (x:GateShape):Spec P 118 [st x.e] (st x.e):=by
 refine Spec.of_vc aO aA [.cell 2 164] Tryz.func118 rfl rfl rfl rfl (fun hok=>?_);repeat refine ai ?_
 refine oc (uP _) ?_;repeat refine ai ?_
 rfl
theorem uL (xs:List GateShape):Spec P 48 [.d (ab xs)] (.d (ab xs)):=by
 refine Spec.of_vc aO aA [.tmp 2] Tryz.func48 rfl rfl rfl rfl (fun hok=>?_);have hs:xs.length≤big:=by have:=hok.1.1;rwa [Qab] at this
 repeat refine ai ?_
 refine aj (Qac _) (aj (Qag _) (aj (dd hs) ?_))
 refine ⟨fun k l h=>∃i:Nat,k=xs.length - i∧i≤xs.length∧l=[(0,.d (ab xs)),(3,.own 0),(4,.d (.int .i64 i))]∧h=⟨[(0,.row 164 GateShape.z.length (bo GateShape.e xs GateShape.z i))],1,0⟩,
  ⟨_,_,_,⟨0,rfl,Qad _,rfl,rfl⟩,rfl,rfl,⟨rfl,rfl,rfl,trivial⟩,⟨rfl,trivial⟩,⟨ct,trivial⟩⟩,?_⟩
 rintro k l h1 ⟨i,rfl,hi,rfl,rfl⟩;refine aj ?_ ?_<;>intro h1
 ·have hlt:i<xs.length:=U h1
  repeat refine ai ?_
  refine O (e:=GateShape.e) (xs:=xs) (hlt) rfl ?_;repeat refine ai ?_
  refine oc (xA _) ?_;repeat refine ai ?_
  refine aj (Qac _) (aj (by rw[aY hi];omega) ?_);repeat refine ai ?_
  refine ⟨_,aZ hlt,Qak _,?_⟩;exact ⟨_,_,_,⟨i+1,rfl,hlt,rfl,rfl⟩,by omega,rfl,rfl,⟨rfl,rfl,nd (aa hlt hs),trivial⟩,⟨rfl,trivial⟩,⟨cS hlt rfl,trivial⟩⟩
 ·exact ld (cT (V h1) hi)
def GateMend.z:List D:=[.str [],.str [],.str [],.str [],.str [],.str []]
theorem qu (x:GateMend):Spec P 119 [st x.e] (st x.e):=by
 refine Spec.of_vc aO aA [.cell 2 166] Tryz.func119 rfl rfl rfl rfl (fun hok=>?_);repeat refine ai ?_
 rfl
theorem xB (xs:List GateMend):Spec P 49 [.d (ap xs)] (.d (ap xs)):=by
 refine Spec.of_vc aO aA [.tmp 2] Tryz.func49 rfl rfl rfl rfl (fun hok=>?_);have hs:xs.length≤big:=by have:=hok.1.1;rwa [Qab] at this
 repeat refine ai ?_
 refine aj (Qac _) (aj (Qag _) (aj (dd hs) ?_))
 refine ⟨fun k l h=>∃i:Nat,k=xs.length - i∧i≤xs.length∧l=[(0,.d (ap xs)),(3,.own 0),(4,.d (.int .i64 i))]∧h=⟨[(0,.row 166 GateMend.z.length (bo GateMend.e xs GateMend.z i))],1,0⟩,
  ⟨_,_,_,⟨0,rfl,Qad _,rfl,rfl⟩,rfl,rfl,⟨rfl,rfl,rfl,trivial⟩,⟨rfl,trivial⟩,⟨ct,trivial⟩⟩,?_⟩
 rintro k l h1 ⟨i,rfl,hi,rfl,rfl⟩;refine aj ?_ ?_<;>intro h1
 ·have hlt:i<xs.length:=U h1
  repeat refine ai ?_
  refine O (e:=GateMend.e) (xs:=xs) (hlt) rfl ?_;repeat refine ai ?_
  refine oc (qu _) ?_;repeat refine ai ?_
  refine aj (Qac _) (aj (by rw[aY hi];omega) ?_);repeat refine ai ?_
  refine ⟨_,aZ hlt,Qak _,?_⟩;exact ⟨_,_,_,⟨i+1,rfl,hlt,rfl,rfl⟩,by omega,rfl,rfl,⟨rfl,rfl,nd (aa hlt hs),trivial⟩,⟨rfl,trivial⟩,⟨cS hlt rfl,trivial⟩⟩
 ·exact ld (cT (V h1) hi)
def GateTeam.z:List D:=[.str [],.str []]
theorem qt (x:GateTeam):Spec P 120 [st x.e] (st x.e):=by
 refine Spec.of_vc aO aA [.cell 2 168] Tryz.func120 rfl rfl rfl rfl (fun hok=>?_);repeat refine ai ?_
 rfl
theorem xz (xs:List GateTeam):Spec P 50 [.d (ar xs)] (.d (ar xs)):=by
 refine Spec.of_vc aO aA [.tmp 2] Tryz.func50 rfl rfl rfl rfl (fun hok=>?_);have hs:xs.length≤big:=by have:=hok.1.1;rwa [Qab] at this
 repeat refine ai ?_
 refine aj (Qac _) (aj (Qag _) (aj (dd hs) ?_))
 refine ⟨fun k l h=>∃i:Nat,k=xs.length - i∧i≤xs.length∧l=[(0,.d (ar xs)),(3,.own 0),(4,.d (.int .i64 i))]∧h=⟨[(0,.row 168 GateTeam.z.length (bo GateTeam.e xs GateTeam.z i))],1,0⟩,
  ⟨_,_,_,⟨0,rfl,Qad _,rfl,rfl⟩,rfl,rfl,⟨rfl,rfl,rfl,trivial⟩,⟨rfl,trivial⟩,⟨ct,trivial⟩⟩,?_⟩
 rintro k l h1 ⟨i,rfl,hi,rfl,rfl⟩;refine aj ?_ ?_<;>intro h1
 ·have hlt:i<xs.length:=U h1
  repeat refine ai ?_
  refine O (e:=GateTeam.e) (xs:=xs) (hlt) rfl ?_;repeat refine ai ?_
  refine oc (qt _) ?_;repeat refine ai ?_
  refine aj (Qac _) (aj (by rw[aY hi];omega) ?_);repeat refine ai ?_
  refine ⟨_,aZ hlt,Qak _,?_⟩;exact ⟨_,_,_,⟨i+1,rfl,hlt,rfl,rfl⟩,by omega,rfl,rfl,⟨rfl,rfl,nd (aa hlt hs),trivial⟩,⟨rfl,trivial⟩,⟨cS hlt rfl,trivial⟩⟩
 ·exact ld (cT (V h1) hi)
def GateLaw.z:List D:=[.list [],.list [],.list []]
theorem iF (x:GateLaw):Spec P 14 [st x.e] (st x.e):=by
 refine Spec.of_vc aO aA [.cell 2 41] Tryz.func14 rfl rfl rfl rfl (fun hok=>?_);repeat refine ai ?_
 refine oc (uL _) ?_;repeat refine ai ?_
 refine oc (xB _) ?_;repeat refine ai ?_
 refine oc (xz _) ?_;repeat refine ai ?_
 rfl
def GateObject.z:List D:=[.str [],.str [],.str [],.list [],.bool false,.list [],.int .i64 0]
theorem uN (x:GateObject):Spec P 121 [st x.e] (st x.e):=by
 refine Spec.of_vc aO aA [.cell 2 103] Tryz.func121 rfl rfl rfl rfl (fun hok=>?_);repeat refine ai ?_
 refine oc (mR _) ?_;repeat refine ai ?_
 refine oc (mR _) ?_;repeat refine ai ?_
 rfl
theorem sk (xs:List GateObject):Spec P 51 [.d (aC xs)] (.d (aC xs)):=by
 refine Spec.of_vc aO aA [.tmp 2] Tryz.func51 rfl rfl rfl rfl (fun hok=>?_);have hs:xs.length≤big:=by have:=hok.1.1;rwa [Qab] at this
 repeat refine ai ?_
 refine aj (Qac _) (aj (Qag _) (aj (dd hs) ?_))
 refine ⟨fun k l h=>∃i:Nat,k=xs.length - i∧i≤xs.length∧l=[(0,.d (aC xs)),(3,.own 0),(4,.d (.int .i64 i))]∧h=⟨[(0,.row 103 GateObject.z.length (bo GateObject.e xs GateObject.z i))],1,0⟩,
  ⟨_,_,_,⟨0,rfl,Qad _,rfl,rfl⟩,rfl,rfl,⟨rfl,rfl,rfl,trivial⟩,⟨rfl,trivial⟩,⟨ct,trivial⟩⟩,?_⟩
 rintro k l h1 ⟨i,rfl,hi,rfl,rfl⟩;refine aj ?_ ?_<;>intro h1
 ·have hlt:i<xs.length:=U h1
  repeat refine ai ?_
  refine O (e:=GateObject.e) (xs:=xs) (hlt) rfl ?_;repeat refine ai ?_
  refine oc (uN _) ?_;repeat refine ai ?_
  refine aj (Qac _) (aj (by rw[aY hi];omega) ?_);repeat refine ai ?_
  refine ⟨_,aZ hlt,Qak _,?_⟩;exact ⟨_,_,_,⟨i+1,rfl,hlt,rfl,rfl⟩,by omega,rfl,rfl,⟨rfl,rfl,nd (aa hlt hs),trivial⟩,⟨rfl,trivial⟩,⟨cS hlt rfl,trivial⟩⟩
 ·exact ld (cT (V h1) hi)
def GateRule.z:List D:=[.list [],.str [],.str [],.str []]
theorem zz (x:GateRule):Spec P 180 [st x.e] (st x.e):=by
 refine Spec.of_vc aO aA [.cell 2 171] Tryz.func180 rfl rfl rfl rfl (fun hok=>?_);repeat refine ai ?_
 refine oc (HI _) ?_;repeat refine ai ?_
 rfl
def GateGrant.z:List D:=[.int .i64 0,.str [],.str [],.list [],.str [],.str [],.str []]
theorem xC (x:GateGrant):Spec P 122 [st x.e] (st x.e):=by
 refine Spec.of_vc aO aA [.cell 2 173] Tryz.func122 rfl rfl rfl rfl (fun hok=>?_);repeat refine ai ?_
 refine oc (zz _) ?_;repeat refine ai ?_
 rfl
theorem uO (xs:List GateGrant):Spec P 52 [.d (bf xs)] (.d (bf xs)):=by
 refine Spec.of_vc aO aA [.tmp 2] Tryz.func52 rfl rfl rfl rfl (fun hok=>?_);have hs:xs.length≤big:=by have:=hok.1.1;rwa [Qab] at this
 repeat refine ai ?_
 refine aj (Qac _) (aj (Qag _) (aj (dd hs) ?_))
 refine ⟨fun k l h=>∃i:Nat,k=xs.length - i∧i≤xs.length∧l=[(0,.d (bf xs)),(3,.own 0),(4,.d (.int .i64 i))]∧h=⟨[(0,.row 173 GateGrant.z.length (bo GateGrant.e xs GateGrant.z i))],1,0⟩,
  ⟨_,_,_,⟨0,rfl,Qad _,rfl,rfl⟩,rfl,rfl,⟨rfl,rfl,rfl,trivial⟩,⟨rfl,trivial⟩,⟨ct,trivial⟩⟩,?_⟩
 rintro k l h1 ⟨i,rfl,hi,rfl,rfl⟩;refine aj ?_ ?_<;>intro h1
 ·have hlt:i<xs.length:=U h1
  repeat refine ai ?_
  refine O (e:=GateGrant.e) (xs:=xs) (hlt) rfl ?_;repeat refine ai ?_
  refine oc (xC _) ?_;repeat refine ai ?_
  refine aj (Qac _) (aj (by rw[aY hi];omega) ?_);repeat refine ai ?_
  refine ⟨_,aZ hlt,Qak _,?_⟩;exact ⟨_,_,_,⟨i+1,rfl,hlt,rfl,rfl⟩,by omega,rfl,rfl,⟨rfl,rfl,nd (aa hlt hs),trivial⟩,⟨rfl,trivial⟩,⟨cS hlt rfl,trivial⟩⟩
 ·exact ld (cT (V h1) hi)
def GateLedger.z:List D:=[.str [],.str [],.int .i64 0,.int .i64 0]
theorem mp (x:GateLedger):Spec P 123 [st x.e] (st x.e):=by
 refine Spec.of_vc aO aA [.cell 2 119] Tryz.func123 rfl rfl rfl rfl (fun hok=>?_);repeat refine ai ?_
 rfl
theorem sn (xs:List GateLedger):Spec P 53 [.d (aL xs)] (.d (aL xs)):=by
 refine Spec.of_vc aO aA [.tmp 2] Tryz.func53 rfl rfl rfl rfl (fun hok=>?_);have hs:xs.length≤big:=by have:=hok.1.1;rwa [Qab] at this
 repeat refine ai ?_
 refine aj (Qac _) (aj (Qag _) (aj (dd hs) ?_))
 refine ⟨fun k l h=>∃i:Nat,k=xs.length - i∧i≤xs.length∧l=[(0,.d (aL xs)),(3,.own 0),(4,.d (.int .i64 i))]∧h=⟨[(0,.row 119 GateLedger.z.length (bo GateLedger.e xs GateLedger.z i))],1,0⟩,
  ⟨_,_,_,⟨0,rfl,Qad _,rfl,rfl⟩,rfl,rfl,⟨rfl,rfl,rfl,trivial⟩,⟨rfl,trivial⟩,⟨ct,trivial⟩⟩,?_⟩
 rintro k l h1 ⟨i,rfl,hi,rfl,rfl⟩;refine aj ?_ ?_<;>intro h1
 ·have hlt:i<xs.length:=U h1
  repeat refine ai ?_
  refine O (e:=GateLedger.e) (xs:=xs) (hlt) rfl ?_;repeat refine ai ?_
  refine oc (mp _) ?_;repeat refine ai ?_
  refine aj (Qac _) (aj (by rw[aY hi];omega) ?_);repeat refine ai ?_
  refine ⟨_,aZ hlt,Qak _,?_⟩;exact ⟨_,_,_,⟨i+1,rfl,hlt,rfl,rfl⟩,by omega,rfl,rfl,⟨rfl,rfl,nd (aa hlt hs),trivial⟩,⟨rfl,trivial⟩,⟨cS hlt rfl,trivial⟩⟩
 ·exact ld (cT (V h1) hi)
def GatePurse.z:List D:=[.str [],.str [],.str [],.int .i64 0,.int .i64 0]
theorem nJ (x:GatePurse):Spec P 124 [st x.e] (st x.e):=by
 refine Spec.of_vc aO aA [.cell 2 109] Tryz.func124 rfl rfl rfl rfl (fun hok=>?_);repeat refine ai ?_
 rfl
theorem uM (xs:List GatePurse):Spec P 54 [.d (be xs)] (.d (be xs)):=by
 refine Spec.of_vc aO aA [.tmp 2] Tryz.func54 rfl rfl rfl rfl (fun hok=>?_);have hs:xs.length≤big:=by have:=hok.1.1;rwa [Qab] at this
 repeat refine ai ?_
 refine aj (Qac _) (aj (Qag _) (aj (dd hs) ?_))
 refine ⟨fun k l h=>∃i:Nat,k=xs.length - i∧i≤xs.length∧l=[(0,.d (be xs)),(3,.own 0),(4,.d (.int .i64 i))]∧h=⟨[(0,.row 109 GatePurse.z.length (bo GatePurse.e xs GatePurse.z i))],1,0⟩,
  ⟨_,_,_,⟨0,rfl,Qad _,rfl,rfl⟩,rfl,rfl,⟨rfl,rfl,rfl,trivial⟩,⟨rfl,trivial⟩,⟨ct,trivial⟩⟩,?_⟩
 rintro k l h1 ⟨i,rfl,hi,rfl,rfl⟩;refine aj ?_ ?_<;>intro h1
 ·have hlt:i<xs.length:=U h1
  repeat refine ai ?_
  refine O (e:=GatePurse.e) (xs:=xs) (hlt) rfl ?_;repeat refine ai ?_
  refine oc (nJ _) ?_;repeat refine ai ?_
  refine aj (Qac _) (aj (by rw[aY hi];omega) ?_);repeat refine ai ?_
  refine ⟨_,aZ hlt,Qak _,?_⟩;exact ⟨_,_,_,⟨i+1,rfl,hlt,rfl,rfl⟩,by omega,rfl,rfl,⟨rfl,rfl,nd (aa hlt hs),trivial⟩,⟨rfl,trivial⟩,⟨cS hlt rfl,trivial⟩⟩
 ·exact ld (cT (V h1) hi)
def GateBook.z:List D:=[.int .i64 0,.int .i64 0,.int .i64 0,.list [],.list [],.list [],.list []]
theorem gR (x:GateBook):Spec P 15 [st x.e] (st x.e):=by
 refine Spec.of_vc aO aA [.cell 2 48] Tryz.func15 rfl rfl rfl rfl (fun hok=>?_);repeat refine ai ?_
 refine oc (sk _) ?_;repeat refine ai ?_
 refine oc (uO _) ?_;repeat refine ai ?_
 refine oc (sn _) ?_;repeat refine ai ?_
 refine oc (uM _) ?_;repeat refine ai ?_
 rfl
theorem nj (xs:List Bs):Spec P 189 [.d (lS xs),.d (lS xs)] (.d (.bool true)):=by
 refine Spec.of_vc aO aA [.tmp 4] Tryz.func189 rfl rfl rfl rfl (fun hok=>?_);have hs:xs.length≤big:=by have:=hok.1.1;rwa [Qab] at this
 repeat refine ai ?_
 refine an ?_
 refine ⟨fun k l h=>∃i:Nat,k=xs.length - i∧i≤xs.length∧l=[(0,.d (lS xs)),(1,.d (lS xs)),(5,.d (.int .i64 i))]∧h=hp0,
  ⟨_,_,_,⟨0,rfl,Qad _,rfl,rfl⟩,rfl,rfl,⟨rfl,rfl,rfl,trivial⟩,trivial,trivial⟩,?_⟩
 rintro k l h1 ⟨i,rfl,hi,rfl,rfl⟩;refine aj ?_ ?_<;>intro h1
 ·have hlt:i<xs.length:=U h1
  repeat refine ai ?_
  refine ak ?_;repeat refine ai ?_
  refine O (e:=eB) (xs:=xs) (hlt) rfl ?_;repeat refine ai ?_
  refine O (e:=eB) (xs:=xs) (hlt) rfl ?_;repeat refine ai ?_
  refine an ?_;exact ⟨_,_,_,⟨i+1,rfl,hlt,rfl,rfl⟩,by omega,rfl,rfl,⟨rfl,rfl,nd (aa hlt hs),trivial⟩,trivial,trivial⟩
 ·rfl
theorem Ik (xs:List Int):Spec P 17 [.d (lI xs),.d (lI xs)] (.d (.bool true)):=by
 refine Spec.of_vc aO aA [.tmp 4] Tryz.func17 rfl rfl rfl rfl (fun hok=>?_);have hs:xs.length≤big:=by have:=hok.1.1;rwa [Qab] at this
 repeat refine ai ?_
 refine an ?_
 refine ⟨fun k l h=>∃i:Nat,k=xs.length - i∧i≤xs.length∧l=[(0,.d (lI xs)),(1,.d (lI xs)),(5,.d (.int .i64 i))]∧h=hp0,
  ⟨_,_,_,⟨0,rfl,Qad _,rfl,rfl⟩,rfl,rfl,⟨rfl,rfl,rfl,trivial⟩,trivial,trivial⟩,?_⟩
 rintro k l h1 ⟨i,rfl,hi,rfl,rfl⟩;refine aj ?_ ?_<;>intro h1
 ·have hlt:i<xs.length:=U h1
  repeat refine ai ?_
  refine ak ?_;repeat refine ai ?_
  refine O (e:=eN) (xs:=xs) (hlt) rfl ?_;repeat refine ai ?_
  refine O (e:=eN) (xs:=xs) (hlt) rfl ?_;repeat refine ai ?_
  refine an ?_;exact ⟨_,_,_,⟨i+1,rfl,hlt,rfl,rfl⟩,by omega,rfl,rfl,⟨rfl,rfl,nd (aa hlt hs),trivial⟩,trivial,trivial⟩
 ·rfl
theorem yQ (x:GateField):Spec P 218 [st x.e,st x.e] (.d (.bool true)):=by
 refine Spec.of_vc aO aA [.tmp 4] Tryz.func218 rfl rfl rfl rfl (fun hok=>?_);repeat refine ai ?_
 refine an ?_;repeat refine ai ?_
 refine an ?_;repeat refine ai ?_
 refine an ?_;repeat refine ai ?_
 refine an ?_;repeat refine ai ?_
 refine oc (nj _) ?_;repeat refine ai ?_
 refine an ?_;repeat refine ai ?_
 refine an ?_;repeat refine ai ?_
 refine an ?_;repeat refine ai ?_
 refine an ?_;repeat refine ai ?_
 refine an ?_;repeat refine ai ?_
 refine an ?_;repeat refine ai ?_
 refine an ?_;repeat refine ai ?_
 rfl
theorem vI (xs:List GateField):Spec P 188 [.d (ad xs),.d (ad xs)] (.d (.bool true)):=by
 refine Spec.of_vc aO aA [.tmp 4] Tryz.func188 rfl rfl rfl rfl (fun hok=>?_);have hs:xs.length≤big:=by have:=hok.1.1;rwa [Qab] at this
 repeat refine ai ?_
 refine an ?_
 refine ⟨fun k l h=>∃i:Nat,k=xs.length - i∧i≤xs.length∧l=[(0,.d (ad xs)),(1,.d (ad xs)),(5,.d (.int .i64 i))]∧h=hp0,
  ⟨_,_,_,⟨0,rfl,Qad _,rfl,rfl⟩,rfl,rfl,⟨rfl,rfl,rfl,trivial⟩,trivial,trivial⟩,?_⟩
 rintro k l h1 ⟨i,rfl,hi,rfl,rfl⟩;refine aj ?_ ?_<;>intro h1
 ·have hlt:i<xs.length:=U h1
  repeat refine ai ?_
  refine ak ?_;repeat refine ai ?_
  refine O (e:=GateField.e) (xs:=xs) (hlt) rfl ?_;repeat refine ai ?_
  refine O (e:=GateField.e) (xs:=xs) (hlt) rfl ?_;repeat refine ai ?_
  refine oc (yQ _) ?_;repeat refine ai ?_
  refine an ?_;exact ⟨_,_,_,⟨i+1,rfl,hlt,rfl,rfl⟩,by omega,rfl,rfl,⟨rfl,rfl,nd (aa hlt hs),trivial⟩,trivial,trivial⟩
 ·rfl
theorem yM (x:GateShape):Spec P 129 [st x.e,st x.e] (.d (.bool true)):=by
 refine Spec.of_vc aO aA [.tmp 4] Tryz.func129 rfl rfl rfl rfl (fun hok=>?_);repeat refine ai ?_
 refine an ?_;repeat refine ai ?_
 refine oc (vI _) ?_;repeat refine ai ?_
 refine an ?_;repeat refine ai ?_
 rfl
theorem vD (xs:List GateShape):Spec P 57 [.d (ab xs),.d (ab xs)] (.d (.bool true)):=by
 refine Spec.of_vc aO aA [.tmp 4] Tryz.func57 rfl rfl rfl rfl (fun hok=>?_);have hs:xs.length≤big:=by have:=hok.1.1;rwa [Qab] at this
 repeat refine ai ?_
 refine an ?_
 refine ⟨fun k l h=>∃i:Nat,k=xs.length - i∧i≤xs.length∧l=[(0,.d (ab xs)),(1,.d (ab xs)),(5,.d (.int .i64 i))]∧h=hp0,
  ⟨_,_,_,⟨0,rfl,Qad _,rfl,rfl⟩,rfl,rfl,⟨rfl,rfl,rfl,trivial⟩,trivial,trivial⟩,?_⟩
 rintro k l h1 ⟨i,rfl,hi,rfl,rfl⟩;refine aj ?_ ?_<;>intro h1
 ·have hlt:i<xs.length:=U h1
  repeat refine ai ?_
  refine ak ?_;repeat refine ai ?_
  refine O (e:=GateShape.e) (xs:=xs) (hlt) rfl ?_;repeat refine ai ?_
  refine O (e:=GateShape.e) (xs:=xs) (hlt) rfl ?_;repeat refine ai ?_
  refine oc (yM _) ?_;repeat refine ai ?_
  refine an ?_;exact ⟨_,_,_,⟨i+1,rfl,hlt,rfl,rfl⟩,by omega,rfl,rfl,⟨rfl,rfl,nd (aa hlt hs),trivial⟩,trivial,trivial⟩
 ·rfl
theorem A9 (x:GateMend):Spec P 130 [st x.e,st x.e] (.d (.bool true)):=by
 refine Spec.of_vc aO aA [.tmp 4] Tryz.func130 rfl rfl rfl rfl (fun hok=>?_);repeat refine ai ?_
 refine an ?_;repeat refine ai ?_
 refine an ?_;repeat refine ai ?_
 refine an ?_;repeat refine ai ?_
 refine an ?_;repeat refine ai ?_
 refine an ?_;repeat refine ai ?_
 refine an ?_;repeat refine ai ?_
 rfl
theorem yO (xs:List GateMend):Spec P 58 [.d (ap xs),.d (ap xs)] (.d (.bool true)):=by
 refine Spec.of_vc aO aA [.tmp 4] Tryz.func58 rfl rfl rfl rfl (fun hok=>?_);have hs:xs.length≤big:=by have:=hok.1.1;rwa [Qab] at this
 repeat refine ai ?_
 refine an ?_
 refine ⟨fun k l h=>∃i:Nat,k=xs.length - i∧i≤xs.length∧l=[(0,.d (ap xs)),(1,.d (ap xs)),(5,.d (.int .i64 i))]∧h=hp0,
  ⟨_,_,_,⟨0,rfl,Qad _,rfl,rfl⟩,rfl,rfl,⟨rfl,rfl,rfl,trivial⟩,trivial,trivial⟩,?_⟩
 rintro k l h1 ⟨i,rfl,hi,rfl,rfl⟩;refine aj ?_ ?_<;>intro h1
 ·have hlt:i<xs.length:=U h1
  repeat refine ai ?_
  refine ak ?_;repeat refine ai ?_
  refine O (e:=GateMend.e) (xs:=xs) (hlt) rfl ?_;repeat refine ai ?_
  refine O (e:=GateMend.e) (xs:=xs) (hlt) rfl ?_;repeat refine ai ?_
  refine oc (A9 _) ?_;repeat refine ai ?_
  refine an ?_;exact ⟨_,_,_,⟨i+1,rfl,hlt,rfl,rfl⟩,by omega,rfl,rfl,⟨rfl,rfl,nd (aa hlt hs),trivial⟩,trivial,trivial⟩
 ·rfl
theorem A7 (x:GateTeam):Spec P 131 [st x.e,st x.e] (.d (.bool true)):=by
 refine Spec.of_vc aO aA [.tmp 4] Tryz.func131 rfl rfl rfl rfl (fun hok=>?_);repeat refine ai ?_
 refine an ?_;repeat refine ai ?_
 refine an ?_;repeat refine ai ?_
 rfl
theorem yL (xs:List GateTeam):Spec P 59 [.d (ar xs),.d (ar xs)] (.d (.bool true)):=by
 refine Spec.of_vc aO aA [.tmp 4] Tryz.func59 rfl rfl rfl rfl (fun hok=>?_);have hs:xs.length≤big:=by have:=hok.1.1;rwa [Qab] at this
 repeat refine ai ?_
 refine an ?_
 refine ⟨fun k l h=>∃i:Nat,k=xs.length - i∧i≤xs.length∧l=[(0,.d (ar xs)),(1,.d (ar xs)),(5,.d (.int .i64 i))]∧h=hp0,
  ⟨_,_,_,⟨0,rfl,Qad _,rfl,rfl⟩,rfl,rfl,⟨rfl,rfl,rfl,trivial⟩,trivial,trivial⟩,?_⟩
 rintro k l h1 ⟨i,rfl,hi,rfl,rfl⟩;refine aj ?_ ?_<;>intro h1
 ·have hlt:i<xs.length:=U h1
  repeat refine ai ?_
  refine ak ?_;repeat refine ai ?_
  refine O (e:=GateTeam.e) (xs:=xs) (hlt) rfl ?_;repeat refine ai ?_
  refine O (e:=GateTeam.e) (xs:=xs) (hlt) rfl ?_;repeat refine ai ?_
  refine oc (A7 _) ?_;repeat refine ai ?_
  refine an ?_;exact ⟨_,_,_,⟨i+1,rfl,hlt,rfl,rfl⟩,by omega,rfl,rfl,⟨rfl,rfl,nd (aa hlt hs),trivial⟩,trivial,trivial⟩
 ·rfl
theorem CK (x:GateLaw):Spec P 18 [st x.e,st x.e] (.d (.bool true)):=by
 refine Spec.of_vc aO aA [.tmp 4] Tryz.func18 rfl rfl rfl rfl (fun hok=>?_);repeat refine ai ?_
 refine oc (vD _) ?_;repeat refine ai ?_
 refine an ?_;repeat refine ai ?_
 refine oc (yO _) ?_;repeat refine ai ?_
 refine an ?_;repeat refine ai ?_
 refine oc (yL _) ?_;repeat refine ai ?_
 refine an ?_;repeat refine ai ?_
 rfl
theorem vF (x:GateObject):Spec P 132 [st x.e,st x.e] (.d (.bool true)):=by
 refine Spec.of_vc aO aA [.tmp 4] Tryz.func132 rfl rfl rfl rfl (fun hok=>?_);repeat refine ai ?_
 refine an ?_;repeat refine ai ?_
 refine an ?_;repeat refine ai ?_
 refine an ?_;repeat refine ai ?_
 refine oc (nj _) ?_;repeat refine ai ?_
 refine an ?_;repeat refine ai ?_
 refine an ?_;repeat refine ai ?_
 refine oc (nj _) ?_;repeat refine ai ?_
 refine an ?_;repeat refine ai ?_
 refine an ?_;repeat refine ai ?_
 rfl
theorem uq (xs:List GateObject):Spec P 60 [.d (aC xs),.d (aC xs)] (.d (.bool true)):=by
 refine Spec.of_vc aO aA [.tmp 4] Tryz.func60 rfl rfl rfl rfl (fun hok=>?_);have hs:xs.length≤big:=by have:=hok.1.1;rwa [Qab] at this
 repeat refine ai ?_
 refine an ?_
 refine ⟨fun k l h=>∃i:Nat,k=xs.length - i∧i≤xs.length∧l=[(0,.d (aC xs)),(1,.d (aC xs)),(5,.d (.int .i64 i))]∧h=hp0,
  ⟨_,_,_,⟨0,rfl,Qad _,rfl,rfl⟩,rfl,rfl,⟨rfl,rfl,rfl,trivial⟩,trivial,trivial⟩,?_⟩
 rintro k l h1 ⟨i,rfl,hi,rfl,rfl⟩;refine aj ?_ ?_<;>intro h1
 ·have hlt:i<xs.length:=U h1
  repeat refine ai ?_
  refine ak ?_;repeat refine ai ?_
  refine O (e:=GateObject.e) (xs:=xs) (hlt) rfl ?_;repeat refine ai ?_
  refine O (e:=GateObject.e) (xs:=xs) (hlt) rfl ?_;repeat refine ai ?_
  refine oc (vF _) ?_;repeat refine ai ?_
  refine an ?_;exact ⟨_,_,_,⟨i+1,rfl,hlt,rfl,rfl⟩,by omega,rfl,rfl,⟨rfl,rfl,nd (aa hlt hs),trivial⟩,trivial,trivial⟩
 ·rfl
theorem A8 (x:GateRule):Spec P 190 [st x.e,st x.e] (.d (.bool true)):=by
 refine Spec.of_vc aO aA [.tmp 4] Tryz.func190 rfl rfl rfl rfl (fun hok=>?_);repeat refine ai ?_
 refine oc (Ik _) ?_;repeat refine ai ?_
 refine an ?_;repeat refine ai ?_
 refine an ?_;repeat refine ai ?_
 refine an ?_;repeat refine ai ?_
 refine an ?_;repeat refine ai ?_
 rfl
theorem yP (x:GateGrant):Spec P 133 [st x.e,st x.e] (.d (.bool true)):=by
 refine Spec.of_vc aO aA [.tmp 4] Tryz.func133 rfl rfl rfl rfl (fun hok=>?_);repeat refine ai ?_
 refine an ?_;repeat refine ai ?_
 refine an ?_;repeat refine ai ?_
 refine an ?_;repeat refine ai ?_
 refine oc (A8 _) ?_;repeat refine ai ?_
 refine an ?_;repeat refine ai ?_
 rfl
theorem vH (xs:List GateGrant):Spec P 61 [.d (bf xs),.d (bf xs)] (.d (.bool true)):=by
 refine Spec.of_vc aO aA [.tmp 4] Tryz.func61 rfl rfl rfl rfl (fun hok=>?_);have hs:xs.length≤big:=by have:=hok.1.1;rwa [Qab] at this
 repeat refine ai ?_
 refine an ?_
 refine ⟨fun k l h=>∃i:Nat,k=xs.length - i∧i≤xs.length∧l=[(0,.d (bf xs)),(1,.d (bf xs)),(5,.d (.int .i64 i))]∧h=hp0,
  ⟨_,_,_,⟨0,rfl,Qad _,rfl,rfl⟩,rfl,rfl,⟨rfl,rfl,rfl,trivial⟩,trivial,trivial⟩,?_⟩
 rintro k l h1 ⟨i,rfl,hi,rfl,rfl⟩;refine aj ?_ ?_<;>intro h1
 ·have hlt:i<xs.length:=U h1
  repeat refine ai ?_
  refine ak ?_;repeat refine ai ?_
  refine O (e:=GateGrant.e) (xs:=xs) (hlt) rfl ?_;repeat refine ai ?_
  refine O (e:=GateGrant.e) (xs:=xs) (hlt) rfl ?_;repeat refine ai ?_
  refine oc (yP _) ?_;repeat refine ai ?_
  refine an ?_;exact ⟨_,_,_,⟨i+1,rfl,hlt,rfl,rfl⟩,by omega,rfl,rfl,⟨rfl,rfl,nd (aa hlt hs),trivial⟩,trivial,trivial⟩
 ·rfl
theorem vG (x:GateLedger):Spec P 134 [st x.e,st x.e] (.d (.bool true)):=by
 refine Spec.of_vc aO aA [.tmp 4] Tryz.func134 rfl rfl rfl rfl (fun hok=>?_);repeat refine ai ?_
 refine an ?_;repeat refine ai ?_
 refine an ?_;repeat refine ai ?_
 refine an ?_;repeat refine ai ?_
 refine an ?_;repeat refine ai ?_
 rfl
theorem ur (xs:List GateLedger):Spec P 62 [.d (aL xs),.d (aL xs)] (.d (.bool true)):=by
 refine Spec.of_vc aO aA [.tmp 4] Tryz.func62 rfl rfl rfl rfl (fun hok=>?_);have hs:xs.length≤big:=by have:=hok.1.1;rwa [Qab] at this
 repeat refine ai ?_
 refine an ?_
 refine ⟨fun k l h=>∃i:Nat,k=xs.length - i∧i≤xs.length∧l=[(0,.d (aL xs)),(1,.d (aL xs)),(5,.d (.int .i64 i))]∧h=hp0,
  ⟨_,_,_,⟨0,rfl,Qad _,rfl,rfl⟩,rfl,rfl,⟨rfl,rfl,rfl,trivial⟩,trivial,trivial⟩,?_⟩
 rintro k l h1 ⟨i,rfl,hi,rfl,rfl⟩;refine aj ?_ ?_<;>intro h1
 ·have hlt:i<xs.length:=U h1
  repeat refine ai ?_
  refine ak ?_;repeat refine ai ?_
  refine O (e:=GateLedger.e) (xs:=xs) (hlt) rfl ?_;repeat refine ai ?_
  refine O (e:=GateLedger.e) (xs:=xs) (hlt) rfl ?_;repeat refine ai ?_
  refine oc (vG _) ?_;repeat refine ai ?_
  refine an ?_;exact ⟨_,_,_,⟨i+1,rfl,hlt,rfl,rfl⟩,by omega,rfl,rfl,⟨rfl,rfl,nd (aa hlt hs),trivial⟩,trivial,trivial⟩
 ·rfl
theorem yN (x:GatePurse):Spec P 135 [st x.e,st x.e] (.d (.bool true)):=by
 refine Spec.of_vc aO aA [.tmp 4] Tryz.func135 rfl rfl rfl rfl (fun hok=>?_);repeat refine ai ?_
 refine an ?_;repeat refine ai ?_
 refine an ?_;repeat refine ai ?_
 refine an ?_;repeat refine ai ?_
 refine an ?_;repeat refine ai ?_
 refine an ?_;repeat refine ai ?_
 rfl
theorem vE (xs:List GatePurse):Spec P 63 [.d (be xs),.d (be xs)] (.d (.bool true)):=by
 refine Spec.of_vc aO aA [.tmp 4] Tryz.func63 rfl rfl rfl rfl (fun hok=>?_);have hs:xs.length≤big:=by have:=hok.1.1;rwa [Qab] at this
 repeat refine ai ?_
 refine an ?_
 refine ⟨fun k l h=>∃i:Nat,k=xs.length - i∧i≤xs.length∧l=[(0,.d (be xs)),(1,.d (be xs)),(5,.d (.int .i64 i))]∧h=hp0,
  ⟨_,_,_,⟨0,rfl,Qad _,rfl,rfl⟩,rfl,rfl,⟨rfl,rfl,rfl,trivial⟩,trivial,trivial⟩,?_⟩
 rintro k l h1 ⟨i,rfl,hi,rfl,rfl⟩;refine aj ?_ ?_<;>intro h1
 ·have hlt:i<xs.length:=U h1
  repeat refine ai ?_
  refine ak ?_;repeat refine ai ?_
  refine O (e:=GatePurse.e) (xs:=xs) (hlt) rfl ?_;repeat refine ai ?_
  refine O (e:=GatePurse.e) (xs:=xs) (hlt) rfl ?_;repeat refine ai ?_
  refine oc (yN _) ?_;repeat refine ai ?_
  refine an ?_;exact ⟨_,_,_,⟨i+1,rfl,hlt,rfl,rfl⟩,by omega,rfl,rfl,⟨rfl,rfl,nd (aa hlt hs),trivial⟩,trivial,trivial⟩
 ·rfl
theorem gX (x:GateBook):Spec P 19 [st x.e,st x.e] (.d (.bool true)):=by
 refine Spec.of_vc aO aA [.tmp 4] Tryz.func19 rfl rfl rfl rfl (fun hok=>?_);repeat refine ai ?_
 refine an ?_;repeat refine ai ?_
 refine an ?_;repeat refine ai ?_
 refine an ?_;repeat refine ai ?_
 refine oc (uq _) ?_;repeat refine ai ?_
 refine an ?_;repeat refine ai ?_
 refine oc (vH _) ?_;repeat refine ai ?_
 refine an ?_;repeat refine ai ?_
 refine oc (ur _) ?_;repeat refine ai ?_
 refine an ?_;repeat refine ai ?_
 refine oc (vE _) ?_;repeat refine ai ?_
 refine an ?_;repeat refine ai ?_
 rfl
end Go.Vc
end
section
namespace Go.Vc
section
variable {α:Type} {e:α→List D} {xs:List α} {z:List D} {i:Nat} {fs:List NT}
theorem dh {t n:Nat}:some (AO.tree t n fs (List.replicate ((((xs.map e).length:Nat):Int)).toNat z))=some (AO.tree t n fs (bo e xs z 0)):=by
 simp[bo]
theorem eY {t n:Nat} (hi:i<xs.length) (hz:(e xs[i]).length=z.length):
 some (AO.tree t n fs ((bo e xs z i).set i (dW z 0 (e xs[i]))))=some (AO.tree t n fs (bo e xs z (i+1))):=by
 have:=cS (t:=t) (n:=n) (e:=e) hi hz;simp only[Option.some.injEq,AO.row.injEq,true_and] at this;rw[this]
theorem eZ {t n:Nat} (h:xs.length≤i) (hi:i≤xs.length):some (AO.tree t n fs (bo e xs z i))=some (AO.tree t n fs (xs.map e)):=by
 rw[cT h hi]
end
def aE {α:Type} (f:α→Int→α×Int):List α→Int→List α×Int
 |[],k=>([],k)
 |x::xs,k=>((f x k).1::(aE f xs (f x k).2).1,(aE f xs (f x k).2).2)
def io {α:Type} (f:α→Int→α×Int) (xs:List α) (k:Int) (i:Nat):Int:=(aE f (xs.take i) k).2
def wi {α:Type} (f:α→Int→α×Int) (e:α→List D) (xs:List α) (k:Int) (i:Nat):List (List D):=((aE f (xs.take i) k).1++xs.drop i).map e
section
variable {α:Type} {f:α→Int→α×Int} {e:α→List D}
theorem Ap:∀(xs:List α) (y:α) (k:Int),aE f (xs++[y]) k=((aE f xs k).1++[(f y (aE f xs k).2).1],(f y (aE f xs k).2).2)
 |[],y,k=>rfl
 |x::xs,y,k=>by
  simp only[List.cons_append,aE,Ap xs y]
theorem bF:∀(xs:List α) (k:Int),(aE f xs k).1.length=xs.length
 |[],_=>rfl
 |x::xs,k=>by simp only[aE,Qah,bF xs]
theorem Ao {xs:List α} {i:Nat} (h:i<xs.length) (k:Int):aE f (xs.take (i+1)) k=((aE f (xs.take i) k).1++[(f xs[i] (io f xs k i)).1],(f xs[i] (io f xs k i)).2):=by
 rw[Qai h,Ap];rfl
theorem cG {xs:List α} {i:Nat} (h:i<xs.length) (k:Int):(f xs[i] (io f xs k i)).2=io f xs k (i+1):=by
 unfold io;rw[Ao h];rfl
theorem cu {xs:List α} {i:Nat} (k:Int) (h:i≤xs.length):(wi f e xs k i).length=xs.length:=by
 unfold wi;rw[Qab,Qao,bF,Qam,List.length_drop];omega
theorem bt {xs:List α} {i:Nat} {k:Int} (h:i<xs.length):i<(wi f e xs k i).length:=by rw[cu k (Qau h)];exact h
theorem aV {xs:List α} {i:Nat} {k:Int} (h:i<xs.length):(wi f e xs k i)[i]? =some (e xs[i]):=by
 unfold wi;rw[List.getElem?_map,List.getElem?_append_right (by rw[bF,Qam];omega),bF,Qam,Nat.min_eq_left (Qau h),Nat.sub_self,List.getElem?_drop,Nat.add_zero,Qas h];rfl
theorem fb {xs:List α} {i:Nat} {k:Int} (h:i<xs.length) {r:List D} (hr:r=e (f xs[i] (io f xs k i)).1):(wi f e xs k i).set i r=wi f e xs k (i+1):=by
 subst hr;unfold wi;rw[Ao h,List.drop_eq_getElem_cons h,←List.map_set]
 congr 1
 rw[List.set_append_right _ _ (by rw[bF,Qam];omega),bF,Qam,Nat.min_eq_left (Qau h),Nat.sub_self,List.set_cons_zero,List.append_assoc];rfl
theorem gG {xs:List α} {i:Nat} {k:Int} (h:xs.length≤i):wi f e xs k i=(aE f xs k).1.map e:=by
 unfold wi;rw[Qal h,Qaj h,List.append_nil]
theorem dx {xs:List α} {i:Nat} {k:Int} (h:xs.length≤i):io f xs k i=(aE f xs k).2:=by
 unfold io;rw[Qal h]
theorem ik {R:List (List D)} {i:Nat} {r:List D} (h:i<R.length):(R.set i r)[i]? =some r:=by
 rw[List.getElem?_set_self h]
theorem Jh {xs:List α} {i:Nat} (k:Int) (h:i<xs.length) (h':i<(aE f xs k).1.length):(aE f xs k).1[i]=(f xs[i] (io f xs k i)).1:=by
 have key:∀(xs:List α) (k:Int) (i:Nat) (h:i<xs.length),(aE f xs k).1[i]? =some (f xs[i] (io f xs k i)).1:=by
  intro xs
  induction xs with
  |nil=>intro k i h;simp at h
  |cons x xs ih=>
   intro k i h
   cases i with
   |zero=>rfl
   |succ i=>
    simp only[aE,List.getElem?_cons_succ];rw[ih (f x k).2 i (by simpa using h)];rfl
 have:=key xs k i h;rw[Qas h'] at this;injection this
end
theorem wB {α:Type} {f:α→Int→α×Int} {e:α→List D} {xs:List α} {k:Int} {i sz:Nat} {K:List D→Prop} (hk:i<xs.length) (hs:(e (f xs[i] (io f xs k i)).1).length=sz) (h:K (e (f xs[i] (io f xs k i)).1)):
 (0:Int)≤(i:Int)∧∃b,(((aE f xs k).1).map e)[(i:Int).toNat]? =some b∧b.length=sz∧K b:=by
 have hk':i<(aE f xs k).1.length:=by rw[bF];exact hk
 rw[←Jh k hk hk'] at hs h;exact O hk' hs h
def wk (k:Int):Int:=IntKind.i64.wrap (k+1)
end Go.Vc
end
section
namespace Go.Vc
open Go.Proofs
def GateField.n:List NT:=[.leaf,.leaf,.leaf,.leaf,.list 9 1 [.leaf],.leaf,.leaf,.leaf,.leaf,.leaf,.leaf]
def GateField.a (x:GateField):List AV:=[.d (.str x.name),.d (.int .i64 x.kind),.d (.int .i64 x.least),.d (.int .i64 x.most),.own 0,.d (.str x.to_),.d (.int .i64 x.role),.d (.bool x.must),.d (.bool x.fixed),.d (.str x.default_),.d (.str x.weighs)]
def GateField.o (x:GateField):List (Nat×AO):=[(0,.tree 9 1 [.leaf] (x.words.map eB))]
def GateShape.n:List NT:=[.leaf,.list 138 11 [.leaf,.leaf,.leaf,.leaf,.list 9 1 [.leaf],.leaf,.leaf,.leaf,.leaf,.leaf,.leaf]]
def GateShape.a (x:GateShape):List AV:=[.d (.str x.kind),.own 0]
def GateShape.o (x:GateShape):List (Nat×AO):=[(0,.tree 138 11 GateField.n (x.fields.map GateField.e))]
def GateMend.n:List NT:=[.leaf,.leaf,.leaf,.leaf,.leaf,.leaf]
def GateMend.a (x:GateMend):List AV:=[.d (.str x.kind),.d (.str x.field),.d (.str x.when_),.d (.str x.is_),.d (.str x.put),.d (.str x.from_)]
def GateMend.o (x:GateMend):List (Nat×AO):=[]
def GateTeam.n:List NT:=[.leaf,.leaf]
def GateTeam.a (x:GateTeam):List AV:=[.d (.str x.name),.d (.str x.over)]
def GateTeam.o (x:GateTeam):List (Nat×AO):=[]
def GateLaw.n:List NT:=[.list 164 2 [.leaf,.list 138 11 [.leaf,.leaf,.leaf,.leaf,.list 9 1 [.leaf],.leaf,.leaf,.leaf,.leaf,.leaf,.leaf]],.list 166 6 [.leaf,.leaf,.leaf,.leaf,.leaf,.leaf],.list 168 2 [.leaf,.leaf]]
def GateLaw.a (x:GateLaw):List AV:=[.own 0,.own 1,.own 2]
def GateLaw.o (x:GateLaw):List (Nat×AO):=[(0,.tree 164 2 GateShape.n (x.shapes.map GateShape.e)),(1,.tree 166 6 GateMend.n (x.mends.map GateMend.e)),(2,.tree 168 2 GateTeam.n (x.teams.map GateTeam.e))]
def GateObject.n:List NT:=[.leaf,.leaf,.leaf,.list 9 1 [.leaf],.leaf,.list 9 1 [.leaf],.leaf]
def GateObject.a (x:GateObject):List AV:=[.d (.str x.kind),.d (.str x.name),.d (.str x.team),.own 0,.d (.bool x.ending),.own 1,.d (.int .i64 x.version)]
def GateObject.o (x:GateObject):List (Nat×AO):=[(0,.tree 9 1 [.leaf] (x.values.map eB)),(1,.tree 9 1 [.leaf] (x.holds.map eB))]
def GateRule.n:List NT:=[.list 3 1 [.leaf],.leaf,.leaf,.leaf]
def GateRule.a (x:GateRule):List AV:=[.own 0,.d (.str x.kind),.d (.str x.team),.d (.str x.prefix_)]
def GateRule.o (x:GateRule):List (Nat×AO):=[(0,.tree 3 1 [.leaf] (x.verbs.map eN))]
def GateGrant.n:List NT:=[.leaf,.leaf,.leaf,.list 3 1 [.leaf],.leaf,.leaf,.leaf]
def GateGrant.a (x:GateGrant):List AV:=[.d (.int .i64 x.number),.d (.str x.to_),.d (.str x.by_),.own 0,.d (.str x.rule.kind),.d (.str x.rule.team),.d (.str x.rule.prefix_)]
def GateGrant.o (x:GateGrant):List (Nat×AO):=[(0,.tree 3 1 [.leaf] (x.rule.verbs.map eN))]
def GateLedger.n:List NT:=[.leaf,.leaf,.leaf,.leaf]
def GateLedger.a (x:GateLedger):List AV:=[.d (.str x.team),.d (.str x.resource),.d (.int .i64 x.most),.d (.int .i64 x.free)]
def GateLedger.o (x:GateLedger):List (Nat×AO):=[]
def GatePurse.n:List NT:=[.leaf,.leaf,.leaf,.leaf,.leaf]
def GatePurse.a (x:GatePurse):List AV:=[.d (.str x.door),.d (.str x.team),.d (.str x.resource),.d (.int .i64 x.amount),.d (.int .i64 x.until_)]
def GatePurse.o (x:GatePurse):List (Nat×AO):=[]
def GateBook.n:List NT:=[.leaf,.leaf,.leaf,.list 103 7 [.leaf,.leaf,.leaf,.list 9 1 [.leaf],.leaf,.list 9 1 [.leaf],.leaf],.list 173 7 [.leaf,.leaf,.leaf,.list 3 1 [.leaf],.leaf,.leaf,.leaf],.list 119 4 [.leaf,.leaf,.leaf,.leaf],.list 109 5 [.leaf,.leaf,.leaf,.leaf,.leaf]]
def GateBook.a (x:GateBook):List AV:=[.d (.int .i64 x.now),.d (.int .i64 x.tick),.d (.int .i64 x.given),.own 0,.own 1,.own 2,.own 3]
def GateBook.o (x:GateBook):List (Nat×AO):=[(0,.tree 103 7 GateObject.n (x.objects.map GateObject.e)),(1,.tree 173 7 GateGrant.n (x.grants.map GateGrant.e)),(2,.tree 119 4 GateLedger.n (x.ledgers.map GateLedger.e)),(3,.tree 109 5 GatePurse.n (x.purses.map GatePurse.e))]
end Go.Vc
end
section
namespace Go.Vc
open Go.Proofs
set_option maxRecDepth 100000
theorem kX (xs:List Bs):HSpec P 179 [.d (lS xs)] hp0 (.own 0) ⟨[(0,.tree 9 1 [.leaf] (xs.map eB))],1,0⟩:=by
 refine ae cd aA [.tmp 2] Tryz.func179 rfl rfl rfl rfl (fun hok=>?_);have hs:xs.length≤big:=by have:=hok.1.1;rwa [Qab] at this
 repeat refine ai ?_
 refine aj (Qac _) (aj (Qag _) (aj (dd hs) ?_))
 refine ⟨fun k l h=>∃i:Nat,k=xs.length - i∧i≤xs.length∧l=[(0,.d (lS xs)),(3,.own 0),(4,.d (.int .i64 i))]∧h=⟨[(0,.tree 9 1 [.leaf] (bo eB xs [D.str []] i))],1,0⟩,
  ⟨_,_,_,⟨0,rfl,Qad _,rfl,rfl⟩,rfl,rfl,⟨rfl,rfl,rfl,trivial⟩,⟨rfl,trivial⟩,⟨dh,trivial⟩⟩,?_⟩
 rintro k l h1 ⟨i,rfl,hi,rfl,rfl⟩;refine aj ?_ ?_<;>intro h1
 ·have hlt:i<xs.length:=U h1
  repeat refine ai ?_
  refine O (e:=eB) (xs:=xs) (hlt) rfl ?_;repeat refine ai ?_
  refine aj (Qac _) (aj (by rw[aY hi];omega) ?_);repeat refine ai ?_
  refine ⟨_,aZ hlt,Qak _,?_⟩;exact ⟨_,_,_,⟨i+1,rfl,hlt,rfl,rfl⟩,by omega,rfl,rfl,⟨rfl,rfl,nd (aa hlt hs),trivial⟩,⟨rfl,trivial⟩,⟨eY hlt rfl,trivial⟩⟩
 ·exact ⟨[some 0],rfl,rfl,⟨eZ (V h1) hi,rfl⟩,trivial⟩
theorem FK (xs:List Int):HSpec P 209 [.d (lI xs)] hp0 (.own 0) ⟨[(0,.tree 3 1 [.leaf] (xs.map eN))],1,0⟩:=by
 refine ae cd aA [.tmp 2] Tryz.func209 rfl rfl rfl rfl (fun hok=>?_);have hs:xs.length≤big:=by have:=hok.1.1;rwa [Qab] at this
 repeat refine ai ?_
 refine aj (Qac _) (aj (Qag _) (aj (dd hs) ?_))
 refine ⟨fun k l h=>∃i:Nat,k=xs.length - i∧i≤xs.length∧l=[(0,.d (lI xs)),(3,.own 0),(4,.d (.int .i64 i))]∧h=⟨[(0,.tree 3 1 [.leaf] (bo eN xs [D.int .i64 0] i))],1,0⟩,
  ⟨_,_,_,⟨0,rfl,Qad _,rfl,rfl⟩,rfl,rfl,⟨rfl,rfl,rfl,trivial⟩,⟨rfl,trivial⟩,⟨dh,trivial⟩⟩,?_⟩
 rintro k l h1 ⟨i,rfl,hi,rfl,rfl⟩;refine aj ?_ ?_<;>intro h1
 ·have hlt:i<xs.length:=U h1
  repeat refine ai ?_
  refine O (e:=eN) (xs:=xs) (hlt) rfl ?_;repeat refine ai ?_
  refine aj (Qac _) (aj (by rw[aY hi];omega) ?_);repeat refine ai ?_
  refine ⟨_,aZ hlt,Qak _,?_⟩;exact ⟨_,_,_,⟨i+1,rfl,hlt,rfl,rfl⟩,by omega,rfl,rfl,⟨rfl,rfl,nd (aa hlt hs),trivial⟩,⟨rfl,trivial⟩,⟨eY hlt rfl,trivial⟩⟩
 ·exact ⟨[some 0],rfl,rfl,⟨eZ (V h1) hi,rfl⟩,trivial⟩
set_option maxHeartbeats 2000000 in
theorem uU (x:GateField):HSpec P 208 [st x.e] hp0 (.agg x.a) ⟨x.o,1,0⟩:=by
 refine ae cd aA [.cell 2 138] Tryz.func208 rfl rfl rfl rfl (fun hok=>?_);repeat refine ai ?_
 refine ow (kX _) ?_;repeat refine ai ?_
 exact ⟨[some 3],by (repeat' first|exact rfl|exact trivial|refine aj ?_ ?_)⟩
theorem su (xs:List GateField):HSpec P 178 [.d (ad xs)] hp0 (.own 0) ⟨[(0,.tree 138 11 GateField.n (xs.map GateField.e))],1,0⟩:=by
 refine ae cd aA [.tmp 2] Tryz.func178 rfl rfl rfl rfl (fun hok=>?_);have hs:xs.length≤big:=by have:=hok.1.1;rwa [Qab] at this
 repeat refine ai ?_
 refine aj (Qac _) (aj (Qag _) (aj (dd hs) ?_))
 refine ⟨fun k l h=>∃i:Nat,k=xs.length - i∧i≤xs.length∧l=[(0,.d (ad xs)),(3,.own 0),(4,.d (.int .i64 i))]∧h=⟨[(0,.tree 138 11 GateField.n (bo GateField.e xs GateField.z i))],1,0⟩,
  ⟨_,_,_,⟨0,rfl,Qad _,rfl,rfl⟩,rfl,rfl,⟨rfl,rfl,rfl,trivial⟩,⟨rfl,trivial⟩,⟨dh,trivial⟩⟩,?_⟩
 rintro k l h1 ⟨i,rfl,hi,rfl,rfl⟩;refine aj ?_ ?_<;>intro h1
 ·have hlt:i<xs.length:=U h1
  repeat refine ai ?_
  refine O (e:=GateField.e) (xs:=xs) (hlt) rfl ?_;repeat refine ai ?_
  refine ow (uU _) ?_;repeat refine ai ?_
  refine aj (Qac _) (aj (by rw[aY hi];omega) ?_);repeat refine ai ?_
  refine ⟨_,aZ hlt,Qak _,?_⟩;exact ⟨_,_,_,⟨i+1,rfl,hlt,rfl,rfl⟩,by omega,rfl,rfl,⟨rfl,rfl,nd (aa hlt hs),trivial⟩,⟨rfl,trivial⟩,⟨eY hlt rfl,trivial⟩⟩
 ·exact ⟨[some 0],rfl,rfl,⟨eZ (V h1) hi,rfl⟩,trivial⟩
set_option maxHeartbeats 2000000 in
theorem uR (x:GateShape):HSpec P 118 [st x.e] hp0 (.agg x.a) ⟨x.o,1,0⟩:=by
 refine ae cd aA [.cell 2 164] Tryz.func118 rfl rfl rfl rfl (fun hok=>?_);repeat refine ai ?_
 refine ow (su _) ?_;repeat refine ai ?_
 exact ⟨[some 3],by (repeat' first|exact rfl|exact trivial|refine aj ?_ ?_)⟩
theorem so (xs:List GateShape):HSpec P 48 [.d (ab xs)] hp0 (.own 0) ⟨[(0,.tree 164 2 GateShape.n (xs.map GateShape.e))],1,0⟩:=by
 refine ae cd aA [.tmp 2] Tryz.func48 rfl rfl rfl rfl (fun hok=>?_);have hs:xs.length≤big:=by have:=hok.1.1;rwa [Qab] at this
 repeat refine ai ?_
 refine aj (Qac _) (aj (Qag _) (aj (dd hs) ?_))
 refine ⟨fun k l h=>∃i:Nat,k=xs.length - i∧i≤xs.length∧l=[(0,.d (ab xs)),(3,.own 0),(4,.d (.int .i64 i))]∧h=⟨[(0,.tree 164 2 GateShape.n (bo GateShape.e xs GateShape.z i))],1,0⟩,
  ⟨_,_,_,⟨0,rfl,Qad _,rfl,rfl⟩,rfl,rfl,⟨rfl,rfl,rfl,trivial⟩,⟨rfl,trivial⟩,⟨dh,trivial⟩⟩,?_⟩
 rintro k l h1 ⟨i,rfl,hi,rfl,rfl⟩;refine aj ?_ ?_<;>intro h1
 ·have hlt:i<xs.length:=U h1
  repeat refine ai ?_
  refine O (e:=GateShape.e) (xs:=xs) (hlt) rfl ?_;repeat refine ai ?_
  refine ow (uR _) ?_;repeat refine ai ?_
  refine aj (Qac _) (aj (by rw[aY hi];omega) ?_);repeat refine ai ?_
  refine ⟨_,aZ hlt,Qak _,?_⟩;exact ⟨_,_,_,⟨i+1,rfl,hlt,rfl,rfl⟩,by omega,rfl,rfl,⟨rfl,rfl,nd (aa hlt hs),trivial⟩,⟨rfl,trivial⟩,⟨eY hlt rfl,trivial⟩⟩
 ·exact ⟨[some 0],rfl,rfl,⟨eZ (V h1) hi,rfl⟩,trivial⟩
theorem uS (xs:List GateMend):HSpec P 49 [.d (ap xs)] hp0 (.own 0) ⟨[(0,.tree 166 6 GateMend.n (xs.map GateMend.e))],1,0⟩:=by
 refine ae cd aA [.tmp 2] Tryz.func49 rfl rfl rfl rfl (fun hok=>?_);have hs:xs.length≤big:=by have:=hok.1.1;rwa [Qab] at this
 repeat refine ai ?_
 refine aj (Qac _) (aj (Qag _) (aj (dd hs) ?_))
 refine ⟨fun k l h=>∃i:Nat,k=xs.length - i∧i≤xs.length∧l=[(0,.d (ap xs)),(3,.own 0),(4,.d (.int .i64 i))]∧h=⟨[(0,.tree 166 6 GateMend.n (bo GateMend.e xs GateMend.z i))],1,0⟩,
  ⟨_,_,_,⟨0,rfl,Qad _,rfl,rfl⟩,rfl,rfl,⟨rfl,rfl,rfl,trivial⟩,⟨rfl,trivial⟩,⟨dh,trivial⟩⟩,?_⟩
 rintro k l h1 ⟨i,rfl,hi,rfl,rfl⟩;refine aj ?_ ?_<;>intro h1
 ·have hlt:i<xs.length:=U h1
  repeat refine ai ?_
  refine O (e:=GateMend.e) (xs:=xs) (hlt) rfl ?_;repeat refine ai ?_
  refine oc (qu _) ?_;repeat refine ai ?_
  refine aj (Qac _) (aj (by rw[aY hi];omega) ?_);repeat refine ai ?_
  refine ⟨_,aZ hlt,Qak _,?_⟩;exact ⟨_,_,_,⟨i+1,rfl,hlt,rfl,rfl⟩,by omega,rfl,rfl,⟨rfl,rfl,nd (aa hlt hs),trivial⟩,⟨rfl,trivial⟩,⟨eY hlt rfl,trivial⟩⟩
 ·exact ⟨[some 0],rfl,rfl,⟨eZ (V h1) hi,rfl⟩,trivial⟩
theorem uQ (xs:List GateTeam):HSpec P 50 [.d (ar xs)] hp0 (.own 0) ⟨[(0,.tree 168 2 GateTeam.n (xs.map GateTeam.e))],1,0⟩:=by
 refine ae cd aA [.tmp 2] Tryz.func50 rfl rfl rfl rfl (fun hok=>?_);have hs:xs.length≤big:=by have:=hok.1.1;rwa [Qab] at this
 repeat refine ai ?_
 refine aj (Qac _) (aj (Qag _) (aj (dd hs) ?_))
 refine ⟨fun k l h=>∃i:Nat,k=xs.length - i∧i≤xs.length∧l=[(0,.d (ar xs)),(3,.own 0),(4,.d (.int .i64 i))]∧h=⟨[(0,.tree 168 2 GateTeam.n (bo GateTeam.e xs GateTeam.z i))],1,0⟩,
  ⟨_,_,_,⟨0,rfl,Qad _,rfl,rfl⟩,rfl,rfl,⟨rfl,rfl,rfl,trivial⟩,⟨rfl,trivial⟩,⟨dh,trivial⟩⟩,?_⟩
 rintro k l h1 ⟨i,rfl,hi,rfl,rfl⟩;refine aj ?_ ?_<;>intro h1
 ·have hlt:i<xs.length:=U h1
  repeat refine ai ?_
  refine O (e:=GateTeam.e) (xs:=xs) (hlt) rfl ?_;repeat refine ai ?_
  refine oc (qt _) ?_;repeat refine ai ?_
  refine aj (Qac _) (aj (by rw[aY hi];omega) ?_);repeat refine ai ?_
  refine ⟨_,aZ hlt,Qak _,?_⟩;exact ⟨_,_,_,⟨i+1,rfl,hlt,rfl,rfl⟩,by omega,rfl,rfl,⟨rfl,rfl,nd (aa hlt hs),trivial⟩,⟨rfl,trivial⟩,⟨eY hlt rfl,trivial⟩⟩
 ·exact ⟨[some 0],rfl,rfl,⟨eZ (V h1) hi,rfl⟩,trivial⟩
set_option maxHeartbeats 2000000 in
theorem zA (x:GateLaw):HSpec P 14 [st x.e] hp0 (.agg x.a) ⟨x.o,3,0⟩:=by
 refine ae cd aA [.cell 2 41] Tryz.func14 rfl rfl rfl rfl (fun hok=>?_);repeat refine ai ?_
 refine ow (so _) ?_;repeat refine ai ?_
 refine ow (uS _) ?_;repeat refine ai ?_
 refine ow (uQ _) ?_;repeat refine ai ?_
 exact ⟨[some 3,some 4,some 5],by (repeat' first|exact rfl|exact trivial|refine aj ?_ ?_)⟩
set_option maxHeartbeats 2000000 in
theorem sr (x:GateObject):HSpec P 121 [st x.e] hp0 (.agg x.a) ⟨x.o,2,0⟩:=by
 refine ae cd aA [.cell 2 103] Tryz.func121 rfl rfl rfl rfl (fun hok=>?_);repeat refine ai ?_
 refine ow (kX _) ?_;repeat refine ai ?_
 refine ow (kX _) ?_;repeat refine ai ?_
 exact ⟨[some 3,some 4],by (repeat' first|exact rfl|exact trivial|refine aj ?_ ?_)⟩
theorem qT (xs:List GateObject):HSpec P 51 [.d (aC xs)] hp0 (.own 0) ⟨[(0,.tree 103 7 GateObject.n (xs.map GateObject.e))],1,0⟩:=by
 refine ae cd aA [.tmp 2] Tryz.func51 rfl rfl rfl rfl (fun hok=>?_);have hs:xs.length≤big:=by have:=hok.1.1;rwa [Qab] at this
 repeat refine ai ?_
 refine aj (Qac _) (aj (Qag _) (aj (dd hs) ?_))
 refine ⟨fun k l h=>∃i:Nat,k=xs.length - i∧i≤xs.length∧l=[(0,.d (aC xs)),(3,.own 0),(4,.d (.int .i64 i))]∧h=⟨[(0,.tree 103 7 GateObject.n (bo GateObject.e xs GateObject.z i))],1,0⟩,
  ⟨_,_,_,⟨0,rfl,Qad _,rfl,rfl⟩,rfl,rfl,⟨rfl,rfl,rfl,trivial⟩,⟨rfl,trivial⟩,⟨dh,trivial⟩⟩,?_⟩
 rintro k l h1 ⟨i,rfl,hi,rfl,rfl⟩;refine aj ?_ ?_<;>intro h1
 ·have hlt:i<xs.length:=U h1
  repeat refine ai ?_
  refine O (e:=GateObject.e) (xs:=xs) (hlt) rfl ?_;repeat refine ai ?_
  refine ow (sr _) ?_;repeat refine ai ?_
  refine aj (Qac _) (aj (by rw[aY hi];omega) ?_);repeat refine ai ?_
  refine ⟨_,aZ hlt,Qak _,?_⟩;exact ⟨_,_,_,⟨i+1,rfl,hlt,rfl,rfl⟩,by omega,rfl,rfl,⟨rfl,rfl,nd (aa hlt hs),trivial⟩,⟨rfl,trivial⟩,⟨eY hlt rfl,trivial⟩⟩
 ·exact ⟨[some 0],rfl,rfl,⟨eZ (V h1) hi,rfl⟩,trivial⟩
set_option maxHeartbeats 2000000 in
theorem xE (x:GateRule):HSpec P 180 [st x.e] hp0 (.agg x.a) ⟨x.o,1,0⟩:=by
 refine ae cd aA [.cell 2 171] Tryz.func180 rfl rfl rfl rfl (fun hok=>?_);repeat refine ai ?_
 refine ow (FK _) ?_;repeat refine ai ?_
 exact ⟨[some 3],by (repeat' first|exact rfl|exact trivial|refine aj ?_ ?_)⟩
set_option maxHeartbeats 2000000 in
theorem uT (x:GateGrant):HSpec P 122 [st x.e] hp0 (.agg x.a) ⟨x.o,1,0⟩:=by
 refine ae cd aA [.cell 2 173] Tryz.func122 rfl rfl rfl rfl (fun hok=>?_);repeat refine ai ?_
 refine ow (xE _) ?_;repeat refine ai ?_
 exact ⟨[some 3],by (repeat' first|exact rfl|exact trivial|refine aj ?_ ?_)⟩
theorem ss (xs:List GateGrant):HSpec P 52 [.d (bf xs)] hp0 (.own 0) ⟨[(0,.tree 173 7 GateGrant.n (xs.map GateGrant.e))],1,0⟩:=by
 refine ae cd aA [.tmp 2] Tryz.func52 rfl rfl rfl rfl (fun hok=>?_);have hs:xs.length≤big:=by have:=hok.1.1;rwa [Qab] at this
 repeat refine ai ?_
 refine aj (Qac _) (aj (Qag _) (aj (dd hs) ?_))
 refine ⟨fun k l h=>∃i:Nat,k=xs.length - i∧i≤xs.length∧l=[(0,.d (bf xs)),(3,.own 0),(4,.d (.int .i64 i))]∧h=⟨[(0,.tree 173 7 GateGrant.n (bo GateGrant.e xs GateGrant.z i))],1,0⟩,
  ⟨_,_,_,⟨0,rfl,Qad _,rfl,rfl⟩,rfl,rfl,⟨rfl,rfl,rfl,trivial⟩,⟨rfl,trivial⟩,⟨dh,trivial⟩⟩,?_⟩
 rintro k l h1 ⟨i,rfl,hi,rfl,rfl⟩;refine aj ?_ ?_<;>intro h1
 ·have hlt:i<xs.length:=U h1
  repeat refine ai ?_
  refine O (e:=GateGrant.e) (xs:=xs) (hlt) rfl ?_;repeat refine ai ?_
  refine ow (uT _) ?_;repeat refine ai ?_
  refine aj (Qac _) (aj (by rw[aY hi];omega) ?_);repeat refine ai ?_
  refine ⟨_,aZ hlt,Qak _,?_⟩;exact ⟨_,_,_,⟨i+1,rfl,hlt,rfl,rfl⟩,by omega,rfl,rfl,⟨rfl,rfl,nd (aa hlt hs),trivial⟩,⟨rfl,trivial⟩,⟨eY hlt rfl,trivial⟩⟩
 ·exact ⟨[some 0],rfl,rfl,⟨eZ (V h1) hi,rfl⟩,trivial⟩
theorem qU (xs:List GateLedger):HSpec P 53 [.d (aL xs)] hp0 (.own 0) ⟨[(0,.tree 119 4 GateLedger.n (xs.map GateLedger.e))],1,0⟩:=by
 refine ae cd aA [.tmp 2] Tryz.func53 rfl rfl rfl rfl (fun hok=>?_);have hs:xs.length≤big:=by have:=hok.1.1;rwa [Qab] at this
 repeat refine ai ?_
 refine aj (Qac _) (aj (Qag _) (aj (dd hs) ?_))
 refine ⟨fun k l h=>∃i:Nat,k=xs.length - i∧i≤xs.length∧l=[(0,.d (aL xs)),(3,.own 0),(4,.d (.int .i64 i))]∧h=⟨[(0,.tree 119 4 GateLedger.n (bo GateLedger.e xs GateLedger.z i))],1,0⟩,
  ⟨_,_,_,⟨0,rfl,Qad _,rfl,rfl⟩,rfl,rfl,⟨rfl,rfl,rfl,trivial⟩,⟨rfl,trivial⟩,⟨dh,trivial⟩⟩,?_⟩
 rintro k l h1 ⟨i,rfl,hi,rfl,rfl⟩;refine aj ?_ ?_<;>intro h1
 ·have hlt:i<xs.length:=U h1
  repeat refine ai ?_
  refine O (e:=GateLedger.e) (xs:=xs) (hlt) rfl ?_;repeat refine ai ?_
  refine oc (mp _) ?_;repeat refine ai ?_
  refine aj (Qac _) (aj (by rw[aY hi];omega) ?_);repeat refine ai ?_
  refine ⟨_,aZ hlt,Qak _,?_⟩;exact ⟨_,_,_,⟨i+1,rfl,hlt,rfl,rfl⟩,by omega,rfl,rfl,⟨rfl,rfl,nd (aa hlt hs),trivial⟩,⟨rfl,trivial⟩,⟨eY hlt rfl,trivial⟩⟩
 ·exact ⟨[some 0],rfl,rfl,⟨eZ (V h1) hi,rfl⟩,trivial⟩
theorem sq (xs:List GatePurse):HSpec P 54 [.d (be xs)] hp0 (.own 0) ⟨[(0,.tree 109 5 GatePurse.n (xs.map GatePurse.e))],1,0⟩:=by
 refine ae cd aA [.tmp 2] Tryz.func54 rfl rfl rfl rfl (fun hok=>?_);have hs:xs.length≤big:=by have:=hok.1.1;rwa [Qab] at this
 repeat refine ai ?_
 refine aj (Qac _) (aj (Qag _) (aj (dd hs) ?_))
 refine ⟨fun k l h=>∃i:Nat,k=xs.length - i∧i≤xs.length∧l=[(0,.d (be xs)),(3,.own 0),(4,.d (.int .i64 i))]∧h=⟨[(0,.tree 109 5 GatePurse.n (bo GatePurse.e xs GatePurse.z i))],1,0⟩,
  ⟨_,_,_,⟨0,rfl,Qad _,rfl,rfl⟩,rfl,rfl,⟨rfl,rfl,rfl,trivial⟩,⟨rfl,trivial⟩,⟨dh,trivial⟩⟩,?_⟩
 rintro k l h1 ⟨i,rfl,hi,rfl,rfl⟩;refine aj ?_ ?_<;>intro h1
 ·have hlt:i<xs.length:=U h1
  repeat refine ai ?_
  refine O (e:=GatePurse.e) (xs:=xs) (hlt) rfl ?_;repeat refine ai ?_
  refine oc (nJ _) ?_;repeat refine ai ?_
  refine aj (Qac _) (aj (by rw[aY hi];omega) ?_);repeat refine ai ?_
  refine ⟨_,aZ hlt,Qak _,?_⟩;exact ⟨_,_,_,⟨i+1,rfl,hlt,rfl,rfl⟩,by omega,rfl,rfl,⟨rfl,rfl,nd (aa hlt hs),trivial⟩,⟨rfl,trivial⟩,⟨eY hlt rfl,trivial⟩⟩
 ·exact ⟨[some 0],rfl,rfl,⟨eZ (V h1) hi,rfl⟩,trivial⟩
set_option maxHeartbeats 2000000 in
theorem xF (x:GateBook):HSpec P 15 [st x.e] hp0 (.agg x.a) ⟨x.o,4,0⟩:=by
 refine ae cd aA [.cell 2 48] Tryz.func15 rfl rfl rfl rfl (fun hok=>?_);repeat refine ai ?_
 refine ow (qT _) ?_;repeat refine ai ?_
 refine ow (ss _) ?_;repeat refine ai ?_
 refine ow (qU _) ?_;repeat refine ai ?_
 refine ow (sq _) ?_;repeat refine ai ?_
 exact ⟨[some 3,some 4,some 5,some 6],by (repeat' first|exact rfl|exact trivial|refine aj ?_ ?_)⟩
end Go.Vc
end
section
namespace Go.Vc
open Go.Proofs
set_option maxRecDepth 100000
section
variable {α:Type} {e:α→List D} {xs:List α} {k:Nat}
theorem ri (h:k<xs.length):(xs.map e)[k]? =some (e xs[k]):=by simp[h]
theorem dm {K:Prop} (h:k<xs.length) (q:K):(0:Int)≤(k:Int)∧(k:Int)<(((xs.map e).length:Nat):Int)∧K:=⟨Qac _,by rw[Qab];omega,q⟩
theorem fu {K:List D→Prop} (h:k<xs.length) (q:K (e xs[k])):∃r,(xs.map e)[k]? =some r∧K r:=⟨_,ri h,q⟩
theorem C5 {t sz:Nat} {fs:List NT} {r:List D} {y:α} (hr:r=e y):some (AO.tree t sz fs ((xs.map e).set k r))=some (AO.tree t sz fs ((xs.set k y).map e)):=by
 rw[hr,List.map_set]
theorem bM {t sz:Nat} {fs:List NT} {a b:List (List D)} (h:a=b):some (AO.tree t sz fs a)=some (AO.tree t sz fs b):=by rw[h]
end
section
variable {α:Type} {xs:List α} {i q:Nat}
def JC (xs:List α) (i q:Nat):List α:=(xs.take q).eraseIdx i
theorem KB:JC xs i 0=[]:=rfl
theorem KV (h:xs.length≤q):JC xs i q=xs.eraseIdx i:=by
 unfold JC;rw[Qal h]
end
def rT (g:GateLedger) (n:Int):GateLedger:={g with free:=bR g.free n}
def Lj (b:GateBook) (i k:Nat) (hi:i<b.purses.length) (hk:k<b.ledgers.length):GateBook:=
 {b with ledgers:=b.ledgers.set k (rT b.ledgers[k] b.purses[i].amount),purses:=b.purses.eraseIdx i}
abbrev GC (b:GateBook) (t r:Bs):Int:=dC (fun x=>x.team==t&&x.resource==r) b.ledgers
abbrev Kd (b:GateBook) (d t r:Bs):Int:=dC (fun x=>x.door==d&&(x.team==t&&x.resource==r)) b.purses
def Lr (b:GateBook):Prop:=∀p∈b.purses,b.ledgers.any (fun g=>g.team==p.team&&g.resource==p.resource)=true
def IP (b:GateBook) (i:Nat):GateBook:=match b.purses[i]? with
 |none=>b
 |some p=>match b.ledgers[(GC b p.team p.resource).toNat]? with
  |none=>b
  |some g=>{b with ledgers:=b.ledgers.set (GC b p.team p.resource).toNat (rT g p.amount),purses:=b.purses.eraseIdx i}
def kL (b:GateBook) (o g l p:Nat):AO:= .cells 48 [.d (.int .i64 b.now),.d (.int .i64 b.tick),.d (.int .i64 b.given),.own o,.own g,.own l,.own p]
def K2 (b:GateBook) (o g l p:Nat):AV:= .agg [.d (.int .i64 b.now),.d (.int .i64 b.tick),.d (.int .i64 b.given),.own o,.own g,.own l,.own p]
def Ef (b:GateBook):AO:= .tree 103 7 GateObject.n (b.objects.map GateObject.e)
def C4 (b:GateBook):AO:= .tree 173 7 GateGrant.n (b.grants.map GateGrant.e)
def C3 (b:GateBook):AO:= .tree 119 4 GateLedger.n (b.ledgers.map GateLedger.e)
def C2 (b:GateBook):AO:= .tree 109 5 GatePurse.n (b.purses.map GatePurse.e)
end Go.Vc
end
section
namespace Go.Vc
open Go.Proofs
set_option maxRecDepth 100000
theorem CE (xs:List Bs):∀r∈xs.map eB,gM 1 r:=fun r hr=>by
 obtain ⟨x,_,rfl⟩:=List.mem_map.1 hr;exact ⟨rfl,fun d hd=>by rw[List.mem_singleton.1 hd];rfl⟩
theorem GY (xs:List Int):∀r∈xs.map eN,gM 1 r:=fun r hr=>by
 obtain ⟨x,_,rfl⟩:=List.mem_map.1 hr;exact ⟨rfl,fun d hd=>by rw[List.mem_singleton.1 hd];rfl⟩
theorem Ju (xs:List GateLedger):∀r∈xs.map GateLedger.e,gM 4 r:=fun r hr=>by
 obtain ⟨x,_,rfl⟩:=List.mem_map.1 hr;exact ⟨rfl,fun d hd=>by simp only[GateLedger.e,List.mem_cons,Qax,or_false] at hd;rcases hd with rfl|rfl|rfl|rfl<;>rfl⟩
theorem Jt (xs:List GatePurse):∀r∈xs.map GatePurse.e,gM 5 r:=fun r hr=>by
 obtain ⟨x,_,rfl⟩:=List.mem_map.1 hr;exact ⟨rfl,fun d hd=>by simp only[GatePurse.e,List.mem_cons,Qax,or_false] at hd;rcases hd with rfl|rfl|rfl|rfl|rfl<;>rfl⟩
theorem o9 (xs:List Bs):HSpec P 192 [.d (lS xs)] hp0 (.own 0) ⟨[(0,.tree 9 1 [.leaf] (xs.map eB))],1,0⟩:=by
 refine ae cd aA [.tmp 2] Tryz.func192 rfl rfl rfl rfl (fun hok=>?_);have hs:xs.length≤big:=az hok.1.1;repeat refine ai ?_
 refine aj ?_ ?_<;>intro h1
 ·rw[Qab] at h1
  have:=beq_iff_eq.1 h1;have:xs=[]:=Qan (by omega);subst this;repeat refine ai ?_
  exact ⟨[none],by repeat' first|exact rfl|exact trivial|refine aj ?_ ?_⟩
 ·rw[Qab] at h1
  have h1:=beq_eq_false_iff_ne.1 h1;repeat refine ai ?_
  refine ⟨Qac _,Qag _,dd hs,?_⟩;repeat refine ai ?_
  refine ⟨?_,?_,CE xs,?_⟩
  ·simp
  ·rw[Qab];omega
  repeat refine ai ?_
  exact ⟨[some 0],by repeat' first|exact rfl|exact trivial|refine aj ?_ ?_⟩
theorem H8 (o:GateObject):HSpec P 145 [st o.e] hp0 (.agg o.a) ⟨o.o,2,0⟩:=by
 refine ae cd aA [.cell 2 103] Tryz.func145 rfl rfl rfl rfl (fun hok=>?_);repeat refine ai ?_
 refine ow (o9 _) ?_;repeat refine ai ?_
 refine ow (o9 _) ?_;repeat refine ai ?_
 exact ⟨[some 2,some 3],by repeat' first|exact rfl|exact trivial|refine aj ?_ ?_⟩
theorem Cp (x:GateRule):HSpec P 193 [st x.e] hp0 (.agg x.a) ⟨x.o,1,0⟩:=by
 refine ae cd aA [.cell 2 171] Tryz.func193 rfl rfl rfl rfl (fun hok=>?_)
 have hs:x.verbs.length≤big:=by
  have:=hok.1;simp only[st,AV.ok,GateRule.e,List.map,dQ] at this;exact az this.1.1
 repeat refine ai ?_
 refine aj ?_ ?_<;>intro h1
 ·rw[Qab] at h1
  have:=beq_iff_eq.1 h1;have hv:x.verbs=[]:=Qan (by omega);have ho:x.o=[(0,.tree 3 1 [.leaf] [])]:=by unfold GateRule.o;rw[hv];rfl
  rw[ho];repeat refine ai ?_
  exact ⟨[none],by repeat' first|exact rfl|exact trivial|refine aj ?_ ?_⟩
 ·rw[Qab] at h1
  have h1:=beq_eq_false_iff_ne.1 h1;repeat refine ai ?_
  refine ⟨Qac _,Qag _,dd hs,?_⟩;repeat refine ai ?_
  refine ⟨?_,?_,GY x.verbs,?_⟩
  ·simp
  ·rw[Qab];omega
  repeat refine ai ?_
  exact ⟨[some 2],by repeat' first|exact rfl|exact trivial|refine aj ?_ ?_⟩
theorem AQ (x:GateGrant):HSpec P 147 [st x.e] hp0 (.agg x.a) ⟨x.o,1,0⟩:=by
 refine ae cd aA [.cell 2 173] Tryz.func147 rfl rfl rfl rfl (fun hok=>?_);repeat refine ai ?_
 refine ow (Cp x.rule) ?_;repeat refine ai ?_
 exact ⟨[some 2],by repeat' first|exact rfl|exact trivial|refine aj ?_ ?_⟩
theorem Ib (x:GateLedger):Spec P 149 [st x.e] (st x.e):=by
 refine Spec.of_vc cd aA [.cell 2 119] Tryz.func149 rfl rfl rfl rfl (fun hok=>?_);repeat refine ai ?_
 exact rfl
theorem Ia (x:GatePurse):Spec P 151 [st x.e] (st x.e):=by
 refine Spec.of_vc cd aA [.cell 2 109] Tryz.func151 rfl rfl rfl rfl (fun hok=>?_);repeat refine ai ?_
 exact rfl
set_option maxHeartbeats 2000000 in
theorem qf (xs:List GateObject):HSpec P 144 [.d (aC xs),.fn 145 []] hp0 (.own 0) ⟨[(0,.tree 103 7 GateObject.n (xs.map GateObject.e))],1,0⟩:=by
 refine ae cd aA [.tmp 4] Tryz.func144 rfl rfl rfl rfl (fun hok=>?_);have hs:xs.length≤big:=az hok.1.1;repeat refine ai ?_
 refine aj ?_ ?_<;>intro h1
 ·rw[Qab] at h1
  have:=beq_iff_eq.1 h1;have:xs=[]:=Qan (by omega);subst this;repeat refine ai ?_
  exact ⟨[none],by repeat' first|exact rfl|exact trivial|refine aj ?_ ?_⟩
 ·repeat refine ai ?_
  refine ⟨Qag _,Qac _,dd hs,?_⟩;repeat refine ai ?_
  refine d8 (xs) (fun i=>True) (fun i=>[(1,.fn 145 []),(5,.own 0),(14,.d (aC xs)),(15,.d (.int .i64 (xs.map GateObject.e).length)),(16,.d (.int .i64 i))]) (fun i=>⟨[(0,.tree 103 7 GateObject.n ((xs.take i).map GateObject.e))],1,0⟩) (trivial) ?_;intro i hi hr;repeat refine ai ?_
  refine aj ?_ ?_<;>intro h2
  ·have hlt:i<xs.length:=U h2
   repeat refine ai ?_
   refine O (e:=GateObject.e) (xs:=xs) (hlt) rfl ?_;repeat refine ai ?_
   refine ow (H8 _) ?_;repeat refine ai ?_
   refine aj trivial ?_;repeat refine ai ?_
   refine aj (by simp only[Qao,Qap,Qah,Qab,Qam] at*;unfold big at*;omega) ?_;repeat refine ai ?_
   exact bJ hlt hs trivial fun hw=>by repeat' first|exact rfl|exact trivial|exact nd hw|exact (bM (by rw[Qai hlt,Qar];rfl))|refine aj ?_ ?_
  ·repeat refine ai ?_
   rw[Qal (V h2)];repeat refine ai ?_
   refine aj ⟨rfl,rfl⟩ ?_;repeat refine ai ?_
   exact ⟨[some 0],by repeat' first|exact rfl|exact trivial|refine aj ?_ ?_⟩
set_option maxHeartbeats 2000000 in
theorem rx (xs:List GateGrant):HSpec P 146 [.d (bf xs),.fn 147 []] hp0 (.own 0) ⟨[(0,.tree 173 7 GateGrant.n (xs.map GateGrant.e))],1,0⟩:=by
 refine ae cd aA [.tmp 4] Tryz.func146 rfl rfl rfl rfl (fun hok=>?_);have hs:xs.length≤big:=az hok.1.1;repeat refine ai ?_
 refine aj ?_ ?_<;>intro h1
 ·rw[Qab] at h1
  have:=beq_iff_eq.1 h1;have:xs=[]:=Qan (by omega);subst this;repeat refine ai ?_
  exact ⟨[none],by repeat' first|exact rfl|exact trivial|refine aj ?_ ?_⟩
 ·repeat refine ai ?_
  refine ⟨Qag _,Qac _,dd hs,?_⟩;repeat refine ai ?_
  refine d8 (xs) (fun i=>True) (fun i=>[(1,.fn 147 []),(5,.own 0),(14,.d (bf xs)),(15,.d (.int .i64 (xs.map GateGrant.e).length)),(16,.d (.int .i64 i))]) (fun i=>⟨[(0,.tree 173 7 GateGrant.n ((xs.take i).map GateGrant.e))],1,0⟩) (trivial) ?_;intro i hi hr;repeat refine ai ?_
  refine aj ?_ ?_<;>intro h2
  ·have hlt:i<xs.length:=U h2
   repeat refine ai ?_
   refine O (e:=GateGrant.e) (xs:=xs) (hlt) rfl ?_;repeat refine ai ?_
   refine ow (AQ _) ?_;repeat refine ai ?_
   refine aj trivial ?_;repeat refine ai ?_
   refine aj (by simp only[Qao,Qap,Qah,Qab,Qam] at*;unfold big at*;omega) ?_;repeat refine ai ?_
   exact bJ hlt hs trivial fun hw=>by repeat' first|exact rfl|exact trivial|exact nd hw|exact (bM (by rw[Qai hlt,Qar];rfl))|refine aj ?_ ?_
  ·repeat refine ai ?_
   rw[Qal (V h2)];repeat refine ai ?_
   refine aj ⟨rfl,rfl⟩ ?_;repeat refine ai ?_
   exact ⟨[some 0],by repeat' first|exact rfl|exact trivial|refine aj ?_ ?_⟩
set_option maxHeartbeats 2000000 in
theorem qg (xs:List GateLedger):HSpec P 148 [.d (aL xs),.fn 149 []] hp0 (.own 0) ⟨[(0,.tree 119 4 GateLedger.n (xs.map GateLedger.e))],1,0⟩:=by
 refine ae cd aA [.tmp 4] Tryz.func148 rfl rfl rfl rfl (fun hok=>?_);have hs:xs.length≤big:=az hok.1.1;repeat refine ai ?_
 refine aj ?_ ?_<;>intro h1
 ·rw[Qab] at h1
  have:=beq_iff_eq.1 h1;have:xs=[]:=Qan (by omega);subst this;repeat refine ai ?_
  exact ⟨[none],by repeat' first|exact rfl|exact trivial|refine aj ?_ ?_⟩
 ·repeat refine ai ?_
  refine ⟨Qag _,Qac _,dd hs,?_⟩;repeat refine ai ?_
  refine d8 (xs) (fun i=>True) (fun i=>[(1,.fn 149 []),(5,.own 0),(14,.d (aL xs)),(15,.d (.int .i64 (xs.map GateLedger.e).length)),(16,.d (.int .i64 i))]) (fun i=>⟨[(0,.tree 119 4 GateLedger.n ((xs.take i).map GateLedger.e))],1,0⟩) (trivial) ?_;intro i hi hr;repeat refine ai ?_
  refine aj ?_ ?_<;>intro h2
  ·have hlt:i<xs.length:=U h2
   repeat refine ai ?_
   refine O (e:=GateLedger.e) (xs:=xs) (hlt) rfl ?_;repeat refine ai ?_
   refine oc (Ib _) ?_;repeat refine ai ?_
   refine aj trivial ?_;repeat refine ai ?_
   refine aj (by simp only[Qao,Qap,Qah,Qab,Qam] at*;unfold big at*;omega) ?_;repeat refine ai ?_
   exact bJ hlt hs trivial fun hw=>by repeat' first|exact rfl|exact trivial|exact nd hw|exact (bM (by rw[Qai hlt,Qar];rfl))|refine aj ?_ ?_
  ·repeat refine ai ?_
   rw[Qal (V h2)];repeat refine ai ?_
   refine aj ⟨rfl,rfl⟩ ?_;repeat refine ai ?_
   exact ⟨[some 0],by repeat' first|exact rfl|exact trivial|refine aj ?_ ?_⟩
set_option maxHeartbeats 2000000 in
theorem ru (xs:List GatePurse):HSpec P 150 [.d (be xs),.fn 151 []] hp0 (.own 0) ⟨[(0,.tree 109 5 GatePurse.n (xs.map GatePurse.e))],1,0⟩:=by
 refine ae cd aA [.tmp 4] Tryz.func150 rfl rfl rfl rfl (fun hok=>?_);have hs:xs.length≤big:=az hok.1.1;repeat refine ai ?_
 refine aj ?_ ?_<;>intro h1
 ·rw[Qab] at h1
  have:=beq_iff_eq.1 h1;have:xs=[]:=Qan (by omega);subst this;repeat refine ai ?_
  exact ⟨[none],by repeat' first|exact rfl|exact trivial|refine aj ?_ ?_⟩
 ·repeat refine ai ?_
  refine ⟨Qag _,Qac _,dd hs,?_⟩;repeat refine ai ?_
  refine d8 (xs) (fun i=>True) (fun i=>[(1,.fn 151 []),(5,.own 0),(14,.d (be xs)),(15,.d (.int .i64 (xs.map GatePurse.e).length)),(16,.d (.int .i64 i))]) (fun i=>⟨[(0,.tree 109 5 GatePurse.n ((xs.take i).map GatePurse.e))],1,0⟩) (trivial) ?_;intro i hi hr;repeat refine ai ?_
  refine aj ?_ ?_<;>intro h2
  ·have hlt:i<xs.length:=U h2
   repeat refine ai ?_
   refine O (e:=GatePurse.e) (xs:=xs) (hlt) rfl ?_;repeat refine ai ?_
   refine oc (Ia _) ?_;repeat refine ai ?_
   refine aj trivial ?_;repeat refine ai ?_
   refine aj (by simp only[Qao,Qap,Qah,Qab,Qam] at*;unfold big at*;omega) ?_;repeat refine ai ?_
   exact bJ hlt hs trivial fun hw=>by repeat' first|exact rfl|exact trivial|exact nd hw|exact (bM (by rw[Qai hlt,Qar];rfl))|refine aj ?_ ?_
  ·repeat refine ai ?_
   rw[Qal (V h2)];repeat refine ai ?_
   refine aj ⟨rfl,rfl⟩ ?_;repeat refine ai ?_
   exact ⟨[some 0],by repeat' first|exact rfl|exact trivial|refine aj ?_ ?_⟩
theorem t9 (b:GateBook):HSpec P 82 [st b.e] hp0 (.agg b.a) ⟨b.o,4,0⟩:=by
 refine ae cd aA [.cell 2 48] Tryz.func82 rfl rfl rfl rfl (fun hok=>?_);repeat refine ai ?_
 refine ow (qf _) ?_;repeat refine ai ?_
 refine ow (rx _) ?_;repeat refine ai ?_
 refine ow (qg _) ?_;repeat refine ai ?_
 refine ow (ru _) ?_;repeat refine ai ?_
 exact ⟨[some 2,some 3,some 4,some 5],by repeat' first|exact rfl|exact trivial|refine aj ?_ ?_⟩
end Go.Vc
end
section
namespace Go.Vc
open Go.Proofs
set_option maxRecDepth 100000
end Go.Vc
end
section
namespace Go.Vc
open Go.Proofs
set_option maxRecDepth 100000
theorem v5 (o:GateObject):HSpec P 141 [st o.e] hp0 (.agg o.a) ⟨o.o,2,0⟩:=by
 refine ae cd aA [.cell 2 103] Tryz.func141 rfl rfl rfl rfl (fun hok=>?_);have hb:=ji (o:=o) hok;repeat refine ai ?_
 refine aj (CE _) ?_;repeat refine ai ?_
 refine aj (by simpa using hb.1) ?_;repeat refine ai ?_
 refine aj (CE _) ?_;repeat refine ai ?_
 refine aj (by simpa using hb.2) ?_;repeat refine ai ?_
 exact ⟨[some 2,some 3],by repeat' first|exact rfl|exact trivial|refine aj ?_ ?_⟩
theorem Ev (x:GateRule):HSpec P 142 [st x.e] hp0 (.agg x.a) ⟨x.o,1,0⟩:=by
 refine ae cd aA [.cell 2 171] Tryz.func142 rfl rfl rfl rfl (fun hok=>?_)
 have hs:x.verbs.length≤big:=by
  have:=hok.1;simp only[st,AV.ok,GateRule.e,List.map,dQ] at this;exact az this.1.1
 repeat refine ai ?_
 refine aj (GY _) ?_;repeat refine ai ?_
 refine aj (by simpa using hs) ?_;repeat refine ai ?_
 exact ⟨[some 2],by repeat' first|exact rfl|exact trivial|refine aj ?_ ?_⟩
set_option maxHeartbeats 2000000 in
theorem pN (b:GateBook):HSpec P 80 [st b.e] hp0 (.agg b.a) ⟨b.o,4,0⟩:=by
 refine ae cd aA [.cell 2 48] Tryz.func80 rfl rfl rfl rfl (fun hok=>?_);have hb:=bC hok;have ho:=hb.1;have hg:=hb.2.1;repeat refine ai ?_
 refine d8 (b.objects) (fun i=>True) (fun i=>[(1,.ptr 0 0),(2,.ptr 1 0),(3,.ptr 2 0),(4,.d (.int .i64 i))]) (fun i=>⟨[(3,.tree 103 7 GateObject.n ((b.objects.take i).map GateObject.e)),(2,.cells 48 [.d (.int .i64 b.now),.d (.int .i64 b.tick),.d (.int .i64 b.given),.own 3,.nils,.nils,.nils]),(1,.cells 48 [.d (.int .i64 0),.d (.int .i64 0),.d (.int .i64 0),.nils,.nils,.nils,.nils]),(0,.cells 48 (b.e.map .d))],4,0⟩) (trivial) ?_;intro i hi hr;repeat refine ai ?_
 refine aj ?_ ?_<;>intro h1
 ·have hlt:i<b.objects.length:=U h1
  repeat refine ai ?_
  refine akp 10 (.one [0,1,2,3,4,5,6] [] 7 (.one [] [0,1] 8 (.one [] [0,1] 9 (.fin [] [])))) ?_;repeat refine ai ?_
  refine O (e:=GateObject.e) (xs:=b.objects) (hlt) rfl ?_;repeat refine ai ?_
  refine ow (v5 _) ?_;repeat refine ai ?_
  refine aj trivial ?_;repeat refine ai ?_
  refine aj (by simp only[Qao,Qap,Qah,Qab,Qam] at*;unfold big at*;omega) ?_;repeat refine ai ?_
  exact bJ hlt ho trivial fun hw=>by repeat' first|exact rfl|exact trivial|exact nd hw|exact (bM (by rw[Qai hlt,Qar];rfl))|refine aj ?_ ?_
 ·repeat refine ai ?_
  rw[Qal (V h1)];repeat refine ai ?_
  refine d8 (b.grants) (fun i=>True) (fun i=>[(1,.ptr 0 0),(2,.ptr 1 0),(3,.ptr 2 0),(5,.d (.int .i64 i))]) (fun i=>⟨[(4,.tree 173 7 GateGrant.n ((b.grants.take i).map GateGrant.e)),(3,Ef b),(2,.cells 48 [.d (.int .i64 b.now),.d (.int .i64 b.tick),.d (.int .i64 b.given),.own 3,.own 4,.nils,.nils]),(1,.cells 48 [.d (.int .i64 0),.d (.int .i64 0),.d (.int .i64 0),.nils,.nils,.nils,.nils]),(0,.cells 48 (b.e.map .d))],5,0⟩) (trivial) ?_;intro i hi hr;repeat refine ai ?_
  refine aj ?_ ?_<;>intro h2
  ·have hlt:i<b.grants.length:=U h2
   repeat refine ai ?_
   refine O (e:=GateGrant.e) (xs:=b.grants) (hlt) rfl ?_;repeat refine ai ?_
   refine ow (Ev b.grants[i].rule) ?_;repeat refine ai ?_
   refine aj trivial ?_;repeat refine ai ?_
   refine aj (by simp only[Qao,Qap,Qah,Qab,Qam] at*;unfold big at*;omega) ?_;repeat refine ai ?_
   exact bJ hlt hg trivial fun hw=>by repeat' first|exact rfl|exact trivial|exact nd hw|exact (bM (by rw[Qai hlt,Qar];rfl))|refine aj ?_ ?_
  ·repeat refine ai ?_
   rw[Qal (V h2)];repeat refine ai ?_
   refine aj (Ju _) ?_;repeat refine ai ?_
   refine aj (by simpa using hb.2.2.1) ?_;repeat refine ai ?_
   refine aj (Jt _) ?_;repeat refine ai ?_
   refine aj (by simpa using hb.2.2.2) ?_;repeat refine ai ?_
   exact ⟨[some 3,some 4,some 5,some 6],by repeat' first|exact rfl|exact trivial|refine aj ?_ ?_⟩
end Go.Vc
end
section
namespace Go.Vc
open Go.Proofs
set_option maxRecDepth 100000
def nilBk:GateBook:=⟨0,0,0,[],[],[],[]⟩
def LB (L:GateLaw) (b:GateBook) (d t r:Bs):GateBook×Int:=bif eW L b then (bif decide (Kd b d t r≥0) then (IP b (Kd b d t r).toNat,0) else (b,2)) else (nilBk,1)
end Go.Vc
end
section
namespace Go.Vc
open Go.Proofs
set_option maxRecDepth 100000
theorem aw {k:Int} (h0:0≤k) (h:k+1≤1099511627776):wk k=k+1:=by
 unfold wk;rw[IntKind.wrap_i64];omega
def mi (k:Int):Int:=k
def mb (k:Int):Bool:=k.tmod 3==0
def bQ {α:Type} (f:α→Int):List α→Int
 |[]=>0
 |x::xs=>f x+bQ f xs
def fm {α:Type} (f:α→Int):List α→Int
 |[]=>0
 |x::xs=>1+f x+fm f xs
theorem aQ {α:Type} {f:α→Int} (h:∀x,0≤f x):∀xs,0≤bQ f xs
 |[]=>Qag _
 |x::xs=>by have:=aQ h xs;have:=h x;simp only[bQ];omega
theorem cr {α:Type} {f:α→Int} (h:∀x,0≤f x):∀xs,0≤fm f xs
 |[]=>Qag _
 |x::xs=>by have:=cr h xs;have:=h x;simp only[fm];omega
theorem gv {α:Type} {f g:α→Int} (h:∀x,f x≤32+32*g x):∀xs,bQ f xs≤32*fm g xs
 |[]=>by simp[bQ,fm]
 |x::xs=>by have:=gv h xs;have:=h x;simp only[bQ,fm];omega
theorem cv {α:Type} {f:α→Int→α×Int} {l:α→Int} (hf:∀x k,0≤k→k+l x≤1099511627776→(f x k).2=k+l x) (hl:∀x,0≤l x):∀(xs:List α) (k:Int),0≤k→k+bQ l xs≤1099511627776→(aE f xs k).2=k+bQ l xs
 |[],k,_,_=>by simp[aE,bQ]
 |x::xs,k,h0,h=>by
  have p:=aQ hl xs;have q:=hl x;simp only[bQ] at h;simp only[aE,bQ];rw[hf x k h0 (by omega),cv hf hl xs _ (by omega) (by omega)];omega
theorem pW {α:Type} {f:α→Int→α×Int} {l:α→Int} (hf:∀x k,0≤k→k+l x≤1099511627776→(f x k).2=k+l x) (hl:∀x,0≤l x) {xs:List α} {k:Int} {i:Nat} (h0:0≤k) (h:k+bQ l xs≤1099511627776) (hi:i<xs.length):
 0≤io f xs k i∧io f xs k i+l xs[i]≤1099511627776:=by
 have split:∀(xs:List α) (i:Nat) (hi:i<xs.length),bQ l (xs.take i)+l xs[i]≤bQ l xs:=by
  intro xs
  induction xs with
  |nil=>intro i hi;simp at hi
  |cons x xs ih=>
   intro i hi;have p:=aQ hl xs
   cases i with
   |zero=>simp only[List.take_zero,bQ,List.getElem_cons_zero];omega
   |succ i=>
    have:=ih i (by simpa using hi);simp only[List.take_succ_cons,bQ,List.getElem_cons_succ];omega
 have h1:=split xs i hi;have h2:=aQ hl (xs.take i);have h3:=hl xs[i];unfold io;rw[cv hf hl _ _ h0 (by omega)];omega
def fG {α:Type} (_:α):Int:=1
def Bv {α:Type} (_:α):Int:=0
theorem dk {α:Type} (x:α):0≤fG x:=by unfold fG;decide
theorem jp {α:Type} (x:α):0≤Bv x:=by unfold Bv;decide
theorem yo {α:Type} (x:α):fG x≤32+32*Bv x:=by unfold fG Bv;decide
def dg (k:Int):UInt8:=UInt8.ofNat (IntKind.u8.wrap (IntKind.i64.wrap (48+k.tmod 10))).toNat
def Jg:Nat→Int→Bs→Bs
 |0,_,out=>out
 |n+1,k,out=>bif decide (k>0) then Jg n (IntKind.i64.wrap (k.tdiv 10)) (dg k::out) else out
def mt (k:Int):Bs:=bif decide (k≤0) then [109,48] else 109::Jg 21 k []
def Ke (out:Bs) (j:Int):Prop:=out=[]∨(1≤out.length∧out.length≤20∧j.toNat*10 ^ (out.length - 1)<10 ^ 19)
theorem H0 {out:Bs} {j:Int} (h:Ke out j):out.length≤20:=by
 rcases h with rfl|h
 ·simp
 ·exact h.2.1
theorem Gv {out:Bs} {j:Int} (h:Ke out j) (hj:0<j):out.length≤19:=by
 rcases h with rfl|⟨h1,h2,h3⟩
 ·simp
 ·refine Nat.le_of_not_lt fun hl=>?_
  have e:out.length - 1=19:=by omega
  rw[e] at h3;have:1≤j.toNat:=by omega
  omega
theorem Gu {out:Bs} {j:Int} {c:UInt8} (h:Ke out j) (hj:0<j):Ke (c::out) (IntKind.i64.wrap (j.tdiv 10)):=by
 have hl:=Gv h hj;have hd:j.tdiv 10=j/10:=Int.tdiv_eq_ediv_of_nonneg (by omega)
 have hw:(IntKind.i64.wrap (j.tdiv 10)).toNat≤j.toNat/10∧(IntKind.i64.wrap (j.tdiv 10)).toNat<10 ^ 19:=by
  rw[hd,IntKind.wrap_i64];omega
 refine .inr ⟨by simp,by simp only[Qah];omega,?_⟩;simp only[Qah,Qav];rcases h with rfl|⟨h1,h2,h3⟩
 ·simpa using hw.2
 ·obtain ⟨n,hn⟩:∃n,out.length=n+1:=⟨out.length - 1,by omega⟩
  rw[hn,Qav] at h3;rw[hn,Nat.pow_succ];refine Nat.lt_of_le_of_lt ?_ h3;rw[Nat.mul_comm (10 ^ n) 10,←Nat.mul_assoc];refine Nat.mul_le_mul_right _ ?_;have:=hw.1;omega
theorem me (k:Int):Spec P 136 [.d (.int .i64 k)] (.d (.str (mt k))):=by
 refine Spec.of_vc aO aA [.tmp 2] Tryz.func136 rfl rfl rfl rfl (fun hok=>?_);repeat refine ai ?_
 refine aj ?_ ?_<;>intro h0
 ·repeat refine ai ?_
  unfold mt;rw[h0];rfl
 ·repeat refine ai ?_
  refine ⟨fun m l h=>∃(out:Bs) (j:Int),m=21 - out.length∧Jg 21 k []=Jg (21 - out.length) j out∧Ke out j∧l=[(0,.d (.int .i64 j)),(3,.d (.str out))]∧h=hp0,
   ⟨_,_,_,⟨[],k,rfl,rfl,.inl rfl,rfl,rfl⟩,rfl,rfl,⟨rfl,rfl,trivial⟩,trivial,trivial⟩,?_⟩
  rintro m l hh ⟨out,j,rfl,hr,hb,rfl,rfl⟩;repeat refine ai ?_
  refine aj ?_ ?_<;>intro h1
  ·have hj:0<j:=of_decide_eq_true h1
   have hl:=Gv hb hj;repeat refine ai ?_
   refine aj (by decide) ?_;repeat refine ai ?_
   refine aj (by unfold big;simp) ?_;repeat refine ai ?_
   refine aj (by unfold big;simp only[Qah,Qap];omega) ?_;repeat refine ai ?_
   refine aj (by decide) ?_;repeat refine ai ?_
   refine ⟨_,_,_,⟨dg j::out,IntKind.i64.wrap (j.tdiv 10),rfl,?_,Gu hb hj,rfl,rfl⟩,?_,rfl,rfl,⟨rfl,rfl,trivial⟩,trivial,trivial⟩
   ·rw[hr,show 21 - out.length=(21 - (dg j::out).length)+1 from by simp only[Qah];omega]
    simp only[Jg,h1,cond_true]
   ·simp only[Qah];omega
  ·have hl:=H0 hb
   repeat refine ai ?_
   refine aj (by unfold big;simp only[Qah,Qap];omega) ?_;repeat refine ai ?_
   have hg:Jg (21 - out.length) j out=out:=by
    rw[show 21 - out.length=(20 - out.length)+1 from by omega];simp only[Jg,h1,cond_false]
   unfold mt;rw[h0,hr,hg];rfl
def fk (_:Bs) (k:Int):Bs×Int:=(mt k,wk k)
def jF (_:Int) (k:Int):Int×Int:=(mi k,wk k)
theorem lW (x:Bs) (k:Int) (h0:0≤k) (h:k+fG x≤1099511627776):(fk x k).2=k+fG x:=aw h0 h
theorem ym (x:Int) (k:Int) (h0:0≤k) (h:k+fG x≤1099511627776):(jF x k).2=k+fG x:=aw h0 h
end Go.Vc
end
section
namespace Go.Vc
open Go.Proofs
noncomputable def GateField.mark (x:GateField) (k:Int):GateField×Int:=(⟨(mt k),(mi (wk k)),(mi (wk (wk k))),(mi (wk (wk (wk k)))),(aE fk x.words (wk (wk (wk (wk k))))).1,(mt (aE fk x.words (wk (wk (wk (wk k))))).2),(mi (wk (aE fk x.words (wk (wk (wk (wk k))))).2)),(mb (wk (wk (aE fk x.words (wk (wk (wk (wk k))))).2))),(mb (wk (wk (wk (aE fk x.words (wk (wk (wk (wk k))))).2)))),(mt (wk (wk (wk (wk (aE fk x.words (wk (wk (wk (wk k))))).2))))),(mt (wk (wk (wk (wk (wk (aE fk x.words (wk (wk (wk (wk k))))).2))))))⟩,(wk (wk (wk (wk (wk (wk (aE fk x.words (wk (wk (wk (wk k))))).2)))))))
noncomputable def GateField.marks (x:GateField) (k:Int):GateField×Int:=(⟨x.name,x.kind,x.least,x.most,(aE fk x.words k).1,x.to_,x.role,x.must,x.fixed,x.default_,x.weighs⟩,(aE fk x.words k).2)
def GateField.lv (x:GateField):Int:=10+bQ fG x.words
def GateField.el (x:GateField):Int:=0+fm Bv x.words
theorem GateField.lv_nn (x:GateField):0≤x.lv:=by
 have p0:=aQ dk x.words;unfold GateField.lv;omega
theorem GateField.el_nn (x:GateField):0≤x.el:=by
 have p0:=cr jp x.words;unfold GateField.el;omega
theorem GateField.lv_le (x:GateField):x.lv≤32+32*x.el:=by
 have p0:=gv yo x.words;unfold GateField.lv GateField.el;omega
theorem GateField.mark_val (x:GateField) (k:Int) (h0:0≤k) (hB:k+(10+bQ fG x.words)≤1099511627776):(GateField.mark x k).2=k+(10+bQ fG x.words):=by
 have p0:=aQ dk x.words;have s0:(wk k)=k+1:=aw (by omega) (by omega);have s1:(wk (wk k))=k+2:=by rw[s0,aw (by omega) (by omega)];try omega
 have s2:(wk (wk (wk k)))=k+3:=by rw[s1,aw (by omega) (by omega)];try omega
 have s3:(wk (wk (wk (wk k))))=k+4:=by rw[s2,aw (by omega) (by omega)];try omega
 have s4:(aE fk x.words (wk (wk (wk (wk k))))).2=k+4+bQ fG x.words:=by rw[s3,cv (l:=fG) lW dk x.words _ (by omega) (by omega)];try omega
 have s5:(wk (aE fk x.words (wk (wk (wk (wk k))))).2)=k+5+bQ fG x.words:=by rw[s4,aw (by omega) (by omega)];try omega
 have s6:(wk (wk (aE fk x.words (wk (wk (wk (wk k))))).2))=k+6+bQ fG x.words:=by rw[s5,aw (by omega) (by omega)];try omega
 have s7:(wk (wk (wk (aE fk x.words (wk (wk (wk (wk k))))).2)))=k+7+bQ fG x.words:=by rw[s6,aw (by omega) (by omega)];try omega
 have s8:(wk (wk (wk (wk (aE fk x.words (wk (wk (wk (wk k))))).2))))=k+8+bQ fG x.words:=by rw[s7,aw (by omega) (by omega)];try omega
 have s9:(wk (wk (wk (wk (wk (aE fk x.words (wk (wk (wk (wk k))))).2)))))=k+9+bQ fG x.words:=by rw[s8,aw (by omega) (by omega)];try omega
 have s10:(wk (wk (wk (wk (wk (wk (aE fk x.words (wk (wk (wk (wk k))))).2))))))=k+10+bQ fG x.words:=by rw[s9,aw (by omega) (by omega)];try omega
 show (wk (wk (wk (wk (wk (wk (aE fk x.words (wk (wk (wk (wk k))))).2))))))=_;rw[s10];try omega
noncomputable def GateShape.mark (x:GateShape) (k:Int):GateShape×Int:=(⟨(mt k),(aE GateField.mark x.fields (wk k)).1⟩,(aE GateField.mark x.fields (wk k)).2)
noncomputable def GateShape.marks (x:GateShape) (k:Int):GateShape×Int:=(⟨x.kind,(aE GateField.mark x.fields k).1⟩,(aE GateField.mark x.fields k).2)
def GateShape.lv (x:GateShape):Int:=1+bQ GateField.lv x.fields
def GateShape.el (x:GateShape):Int:=0+fm GateField.el x.fields
theorem GateShape.lv_nn (x:GateShape):0≤x.lv:=by
 have p0:=aQ GateField.lv_nn x.fields;unfold GateShape.lv;omega
theorem GateShape.el_nn (x:GateShape):0≤x.el:=by
 have p0:=cr GateField.el_nn x.fields;unfold GateShape.el;omega
theorem GateShape.lv_le (x:GateShape):x.lv≤32+32*x.el:=by
 have p0:=gv GateField.lv_le x.fields;unfold GateShape.lv GateShape.el;omega
theorem GateShape.mark_val (x:GateShape) (k:Int) (h0:0≤k) (hB:k+(1+bQ GateField.lv x.fields)≤1099511627776):(GateShape.mark x k).2=k+(1+bQ GateField.lv x.fields):=by
 have p0:=aQ GateField.lv_nn x.fields;have s0:(wk k)=k+1:=aw (by omega) (by omega);have s1:(aE GateField.mark x.fields (wk k)).2=k+1+bQ GateField.lv x.fields:=by rw[s0,cv (l:=GateField.lv) GateField.mark_val GateField.lv_nn x.fields _ (by omega) (by omega)];try omega
 show (aE GateField.mark x.fields (wk k)).2=_;rw[s1];try omega
noncomputable def GateMend.mark (x:GateMend) (k:Int):GateMend×Int:=(⟨(mt k),(mt (wk k)),(mt (wk (wk k))),(mt (wk (wk (wk k)))),(mt (wk (wk (wk (wk k))))),(mt (wk (wk (wk (wk (wk k))))))⟩,(wk (wk (wk (wk (wk (wk k)))))))
noncomputable def GateMend.marks (x:GateMend) (k:Int):GateMend×Int:=(⟨x.kind,x.field,x.when_,x.is_,x.put,x.from_⟩,k)
def GateMend.lv (x:GateMend):Int:=6
def GateMend.el (x:GateMend):Int:=0
theorem GateMend.lv_nn (x:GateMend):0≤x.lv:=by
 unfold GateMend.lv;omega
theorem GateMend.el_nn (x:GateMend):0≤x.el:=by
 unfold GateMend.el;omega
theorem GateMend.lv_le (x:GateMend):x.lv≤32+32*x.el:=by
 unfold GateMend.lv GateMend.el;omega
theorem GateMend.mark_val (x:GateMend) (k:Int) (h0:0≤k) (hB:k+(6)≤1099511627776):(GateMend.mark x k).2=k+(6):=by
 have s0:(wk k)=k+1:=aw (by omega) (by omega);have s1:(wk (wk k))=k+2:=by rw[s0,aw (by omega) (by omega)];try omega
 have s2:(wk (wk (wk k)))=k+3:=by rw[s1,aw (by omega) (by omega)];try omega
 have s3:(wk (wk (wk (wk k))))=k+4:=by rw[s2,aw (by omega) (by omega)];try omega
 have s4:(wk (wk (wk (wk (wk k)))))=k+5:=by rw[s3,aw (by omega) (by omega)];try omega
 have s5:(wk (wk (wk (wk (wk (wk k))))))=k+6:=by rw[s4,aw (by omega) (by omega)];try omega
 show (wk (wk (wk (wk (wk (wk k))))))=_;rw[s5];try omega
noncomputable def GateTeam.mark (x:GateTeam) (k:Int):GateTeam×Int:=(⟨(mt k),(mt (wk k))⟩,(wk (wk k)))
noncomputable def GateTeam.marks (x:GateTeam) (k:Int):GateTeam×Int:=(⟨x.name,x.over⟩,k)
def GateTeam.lv (x:GateTeam):Int:=2
def GateTeam.el (x:GateTeam):Int:=0
theorem GateTeam.lv_nn (x:GateTeam):0≤x.lv:=by
 unfold GateTeam.lv;omega
theorem GateTeam.el_nn (x:GateTeam):0≤x.el:=by
 unfold GateTeam.el;omega
theorem GateTeam.lv_le (x:GateTeam):x.lv≤32+32*x.el:=by
 unfold GateTeam.lv GateTeam.el;omega
theorem GateTeam.mark_val (x:GateTeam) (k:Int) (h0:0≤k) (hB:k+(2)≤1099511627776):(GateTeam.mark x k).2=k+(2):=by
 have s0:(wk k)=k+1:=aw (by omega) (by omega);have s1:(wk (wk k))=k+2:=by rw[s0,aw (by omega) (by omega)];try omega
 show (wk (wk k))=_;rw[s1];try omega
noncomputable def GateLaw.mark (x:GateLaw) (k:Int):GateLaw×Int:=(⟨(aE GateShape.mark x.shapes k).1,(aE GateMend.mark x.mends (aE GateShape.mark x.shapes k).2).1,(aE GateTeam.mark x.teams (aE GateMend.mark x.mends (aE GateShape.mark x.shapes k).2).2).1⟩,(aE GateTeam.mark x.teams (aE GateMend.mark x.mends (aE GateShape.mark x.shapes k).2).2).2)
noncomputable def GateLaw.marks (x:GateLaw) (k:Int):GateLaw×Int:=(⟨(aE GateShape.mark x.shapes k).1,(aE GateMend.mark x.mends (aE GateShape.mark x.shapes k).2).1,(aE GateTeam.mark x.teams (aE GateMend.mark x.mends (aE GateShape.mark x.shapes k).2).2).1⟩,(aE GateTeam.mark x.teams (aE GateMend.mark x.mends (aE GateShape.mark x.shapes k).2).2).2)
def GateLaw.lv (x:GateLaw):Int:=0+bQ GateShape.lv x.shapes+bQ GateMend.lv x.mends+bQ GateTeam.lv x.teams
def GateLaw.el (x:GateLaw):Int:=0+fm GateShape.el x.shapes+fm GateMend.el x.mends+fm GateTeam.el x.teams
theorem GateLaw.lv_nn (x:GateLaw):0≤x.lv:=by
 have p0:=aQ GateShape.lv_nn x.shapes;have p1:=aQ GateMend.lv_nn x.mends;have p2:=aQ GateTeam.lv_nn x.teams;unfold GateLaw.lv;omega
theorem GateLaw.el_nn (x:GateLaw):0≤x.el:=by
 have p0:=cr GateShape.el_nn x.shapes;have p1:=cr GateMend.el_nn x.mends;have p2:=cr GateTeam.el_nn x.teams;unfold GateLaw.el;omega
theorem GateLaw.lv_le (x:GateLaw):x.lv≤32+32*x.el:=by
 have p0:=gv GateShape.lv_le x.shapes;have p1:=gv GateMend.lv_le x.mends;have p2:=gv GateTeam.lv_le x.teams;unfold GateLaw.lv GateLaw.el;omega
theorem GateLaw.marks_val (x:GateLaw) (k:Int) (h0:0≤k) (hB:k+(0+bQ GateShape.lv x.shapes+bQ GateMend.lv x.mends+bQ GateTeam.lv x.teams)≤1099511627776):(GateLaw.marks x k).2=k+(0+bQ GateShape.lv x.shapes+bQ GateMend.lv x.mends+bQ GateTeam.lv x.teams):=by
 have p0:=aQ GateShape.lv_nn x.shapes;have p1:=aQ GateMend.lv_nn x.mends;have p2:=aQ GateTeam.lv_nn x.teams;have s0:(aE GateShape.mark x.shapes k).2=k+0+bQ GateShape.lv x.shapes:=by rw[cv (l:=GateShape.lv) GateShape.mark_val GateShape.lv_nn x.shapes _ (by omega) (by omega)];try omega
 have s1:(aE GateMend.mark x.mends (aE GateShape.mark x.shapes k).2).2=k+0+bQ GateShape.lv x.shapes+bQ GateMend.lv x.mends:=by rw[s0,cv (l:=GateMend.lv) GateMend.mark_val GateMend.lv_nn x.mends _ (by omega) (by omega)];try omega
 have s2:(aE GateTeam.mark x.teams (aE GateMend.mark x.mends (aE GateShape.mark x.shapes k).2).2).2=k+0+bQ GateShape.lv x.shapes+bQ GateMend.lv x.mends+bQ GateTeam.lv x.teams:=by rw[s1,cv (l:=GateTeam.lv) GateTeam.mark_val GateTeam.lv_nn x.teams _ (by omega) (by omega)];try omega
 show (aE GateTeam.mark x.teams (aE GateMend.mark x.mends (aE GateShape.mark x.shapes k).2).2).2=_;rw[s2];try omega
noncomputable def GateObject.mark (x:GateObject) (k:Int):GateObject×Int:=(⟨(mt k),(mt (wk k)),(mt (wk (wk k))),(aE fk x.values (wk (wk (wk k)))).1,(mb (aE fk x.values (wk (wk (wk k)))).2),(aE fk x.holds (wk (aE fk x.values (wk (wk (wk k)))).2)).1,(mi (aE fk x.holds (wk (aE fk x.values (wk (wk (wk k)))).2)).2)⟩,(wk (aE fk x.holds (wk (aE fk x.values (wk (wk (wk k)))).2)).2))
noncomputable def GateObject.marks (x:GateObject) (k:Int):GateObject×Int:=(⟨x.kind,x.name,x.team,(aE fk x.values k).1,x.ending,(aE fk x.holds (aE fk x.values k).2).1,x.version⟩,(aE fk x.holds (aE fk x.values k).2).2)
def GateObject.lv (x:GateObject):Int:=5+bQ fG x.values+bQ fG x.holds
def GateObject.el (x:GateObject):Int:=0+fm Bv x.values+fm Bv x.holds
theorem GateObject.lv_nn (x:GateObject):0≤x.lv:=by
 have p0:=aQ dk x.values;have p1:=aQ dk x.holds;unfold GateObject.lv;omega
theorem GateObject.el_nn (x:GateObject):0≤x.el:=by
 have p0:=cr jp x.values;have p1:=cr jp x.holds;unfold GateObject.el;omega
theorem GateObject.lv_le (x:GateObject):x.lv≤32+32*x.el:=by
 have p0:=gv yo x.values;have p1:=gv yo x.holds;unfold GateObject.lv GateObject.el;omega
theorem GateObject.mark_val (x:GateObject) (k:Int) (h0:0≤k) (hB:k+(5+bQ fG x.values+bQ fG x.holds)≤1099511627776):(GateObject.mark x k).2=k+(5+bQ fG x.values+bQ fG x.holds):=by
 have p0:=aQ dk x.values;have p1:=aQ dk x.holds;have s0:(wk k)=k+1:=aw (by omega) (by omega);have s1:(wk (wk k))=k+2:=by rw[s0,aw (by omega) (by omega)];try omega
 have s2:(wk (wk (wk k)))=k+3:=by rw[s1,aw (by omega) (by omega)];try omega
 have s3:(aE fk x.values (wk (wk (wk k)))).2=k+3+bQ fG x.values:=by rw[s2,cv (l:=fG) lW dk x.values _ (by omega) (by omega)];try omega
 have s4:(wk (aE fk x.values (wk (wk (wk k)))).2)=k+4+bQ fG x.values:=by rw[s3,aw (by omega) (by omega)];try omega
 have s5:(aE fk x.holds (wk (aE fk x.values (wk (wk (wk k)))).2)).2=k+4+bQ fG x.values+bQ fG x.holds:=by rw[s4,cv (l:=fG) lW dk x.holds _ (by omega) (by omega)];try omega
 have s6:(wk (aE fk x.holds (wk (aE fk x.values (wk (wk (wk k)))).2)).2)=k+5+bQ fG x.values+bQ fG x.holds:=by rw[s5,aw (by omega) (by omega)];try omega
 show (wk (aE fk x.holds (wk (aE fk x.values (wk (wk (wk k)))).2)).2)=_;rw[s6];try omega
noncomputable def GateRule.mark (x:GateRule) (k:Int):GateRule×Int:=(⟨(aE jF x.verbs k).1,(mt (aE jF x.verbs k).2),(mt (wk (aE jF x.verbs k).2)),(mt (wk (wk (aE jF x.verbs k).2)))⟩,(wk (wk (wk (aE jF x.verbs k).2))))
noncomputable def GateRule.marks (x:GateRule) (k:Int):GateRule×Int:=(⟨(aE jF x.verbs k).1,x.kind,x.team,x.prefix_⟩,(aE jF x.verbs k).2)
def GateRule.lv (x:GateRule):Int:=3+bQ fG x.verbs
def GateRule.el (x:GateRule):Int:=0+fm Bv x.verbs
theorem GateRule.lv_nn (x:GateRule):0≤x.lv:=by
 have p0:=aQ dk x.verbs;unfold GateRule.lv;omega
theorem GateRule.el_nn (x:GateRule):0≤x.el:=by
 have p0:=cr jp x.verbs;unfold GateRule.el;omega
noncomputable def GateGrant.mark (x:GateGrant) (k:Int):GateGrant×Int:=(⟨(mi k),(mt (wk k)),(mt (wk (wk k))),⟨(aE jF x.rule.verbs (wk (wk (wk k)))).1,(mt (aE jF x.rule.verbs (wk (wk (wk k)))).2),(mt (wk (aE jF x.rule.verbs (wk (wk (wk k)))).2)),(mt (wk (wk (aE jF x.rule.verbs (wk (wk (wk k)))).2)))⟩⟩,(wk (wk (wk (aE jF x.rule.verbs (wk (wk (wk k)))).2))))
noncomputable def GateGrant.marks (x:GateGrant) (k:Int):GateGrant×Int:=(⟨x.number,x.to_,x.by_,⟨(aE jF x.rule.verbs k).1,x.rule.kind,x.rule.team,x.rule.prefix_⟩⟩,(aE jF x.rule.verbs k).2)
def GateGrant.lv (x:GateGrant):Int:=6+bQ fG x.rule.verbs
def GateGrant.el (x:GateGrant):Int:=0+fm Bv x.rule.verbs
theorem GateGrant.lv_nn (x:GateGrant):0≤x.lv:=by
 have p0:=aQ dk x.rule.verbs;unfold GateGrant.lv;omega
theorem GateGrant.el_nn (x:GateGrant):0≤x.el:=by
 have p0:=cr jp x.rule.verbs;unfold GateGrant.el;omega
theorem GateGrant.lv_le (x:GateGrant):x.lv≤32+32*x.el:=by
 have p0:=gv yo x.rule.verbs;unfold GateGrant.lv GateGrant.el;omega
theorem GateGrant.mark_val (x:GateGrant) (k:Int) (h0:0≤k) (hB:k+(6+bQ fG x.rule.verbs)≤1099511627776):(GateGrant.mark x k).2=k+(6+bQ fG x.rule.verbs):=by
 have p0:=aQ dk x.rule.verbs;have s0:(wk k)=k+1:=aw (by omega) (by omega);have s1:(wk (wk k))=k+2:=by rw[s0,aw (by omega) (by omega)];try omega
 have s2:(wk (wk (wk k)))=k+3:=by rw[s1,aw (by omega) (by omega)];try omega
 have s3:(aE jF x.rule.verbs (wk (wk (wk k)))).2=k+3+bQ fG x.rule.verbs:=by rw[s2,cv (l:=fG) ym dk x.rule.verbs _ (by omega) (by omega)];try omega
 have s4:(wk (aE jF x.rule.verbs (wk (wk (wk k)))).2)=k+4+bQ fG x.rule.verbs:=by rw[s3,aw (by omega) (by omega)];try omega
 have s5:(wk (wk (aE jF x.rule.verbs (wk (wk (wk k)))).2))=k+5+bQ fG x.rule.verbs:=by rw[s4,aw (by omega) (by omega)];try omega
 have s6:(wk (wk (wk (aE jF x.rule.verbs (wk (wk (wk k)))).2)))=k+6+bQ fG x.rule.verbs:=by rw[s5,aw (by omega) (by omega)];try omega
 show (wk (wk (wk (aE jF x.rule.verbs (wk (wk (wk k)))).2)))=_;rw[s6];try omega
noncomputable def GateLedger.mark (x:GateLedger) (k:Int):GateLedger×Int:=(⟨(mt k),(mt (wk k)),(mi (wk (wk k))),(mi (wk (wk (wk k))))⟩,(wk (wk (wk (wk k)))))
noncomputable def GateLedger.marks (x:GateLedger) (k:Int):GateLedger×Int:=(⟨x.team,x.resource,x.most,x.free⟩,k)
def GateLedger.lv (x:GateLedger):Int:=4
def GateLedger.el (x:GateLedger):Int:=0
theorem GateLedger.lv_nn (x:GateLedger):0≤x.lv:=by
 unfold GateLedger.lv;omega
theorem GateLedger.el_nn (x:GateLedger):0≤x.el:=by
 unfold GateLedger.el;omega
theorem GateLedger.lv_le (x:GateLedger):x.lv≤32+32*x.el:=by
 unfold GateLedger.lv GateLedger.el;omega
theorem GateLedger.mark_val (x:GateLedger) (k:Int) (h0:0≤k) (hB:k+(4)≤1099511627776):(GateLedger.mark x k).2=k+(4):=by
 have s0:(wk k)=k+1:=aw (by omega) (by omega);have s1:(wk (wk k))=k+2:=by rw[s0,aw (by omega) (by omega)];try omega
 have s2:(wk (wk (wk k)))=k+3:=by rw[s1,aw (by omega) (by omega)];try omega
 have s3:(wk (wk (wk (wk k))))=k+4:=by rw[s2,aw (by omega) (by omega)];try omega
 show (wk (wk (wk (wk k))))=_;rw[s3];try omega
noncomputable def GatePurse.mark (x:GatePurse) (k:Int):GatePurse×Int:=(⟨(mt k),(mt (wk k)),(mt (wk (wk k))),(mi (wk (wk (wk k)))),(mi (wk (wk (wk (wk k)))))⟩,(wk (wk (wk (wk (wk k))))))
noncomputable def GatePurse.marks (x:GatePurse) (k:Int):GatePurse×Int:=(⟨x.door,x.team,x.resource,x.amount,x.until_⟩,k)
def GatePurse.lv (x:GatePurse):Int:=5
def GatePurse.el (x:GatePurse):Int:=0
theorem GatePurse.lv_nn (x:GatePurse):0≤x.lv:=by
 unfold GatePurse.lv;omega
theorem GatePurse.el_nn (x:GatePurse):0≤x.el:=by
 unfold GatePurse.el;omega
theorem GatePurse.lv_le (x:GatePurse):x.lv≤32+32*x.el:=by
 unfold GatePurse.lv GatePurse.el;omega
theorem GatePurse.mark_val (x:GatePurse) (k:Int) (h0:0≤k) (hB:k+(5)≤1099511627776):(GatePurse.mark x k).2=k+(5):=by
 have s0:(wk k)=k+1:=aw (by omega) (by omega);have s1:(wk (wk k))=k+2:=by rw[s0,aw (by omega) (by omega)];try omega
 have s2:(wk (wk (wk k)))=k+3:=by rw[s1,aw (by omega) (by omega)];try omega
 have s3:(wk (wk (wk (wk k))))=k+4:=by rw[s2,aw (by omega) (by omega)];try omega
 have s4:(wk (wk (wk (wk (wk k)))))=k+5:=by rw[s3,aw (by omega) (by omega)];try omega
 show (wk (wk (wk (wk (wk k)))))=_;rw[s4];try omega
noncomputable def GateBook.mark (x:GateBook) (k:Int):GateBook×Int:=(⟨(mi k),(mi (wk k)),(mi (wk (wk k))),(aE GateObject.mark x.objects (wk (wk (wk k)))).1,(aE GateGrant.mark x.grants (aE GateObject.mark x.objects (wk (wk (wk k)))).2).1,(aE GateLedger.mark x.ledgers (aE GateGrant.mark x.grants (aE GateObject.mark x.objects (wk (wk (wk k)))).2).2).1,(aE GatePurse.mark x.purses (aE GateLedger.mark x.ledgers (aE GateGrant.mark x.grants (aE GateObject.mark x.objects (wk (wk (wk k)))).2).2).2).1⟩,(aE GatePurse.mark x.purses (aE GateLedger.mark x.ledgers (aE GateGrant.mark x.grants (aE GateObject.mark x.objects (wk (wk (wk k)))).2).2).2).2)
noncomputable def GateBook.marks (x:GateBook) (k:Int):GateBook×Int:=(⟨x.now,x.tick,x.given,(aE GateObject.mark x.objects k).1,(aE GateGrant.mark x.grants (aE GateObject.mark x.objects k).2).1,(aE GateLedger.mark x.ledgers (aE GateGrant.mark x.grants (aE GateObject.mark x.objects k).2).2).1,(aE GatePurse.mark x.purses (aE GateLedger.mark x.ledgers (aE GateGrant.mark x.grants (aE GateObject.mark x.objects k).2).2).2).1⟩,(aE GatePurse.mark x.purses (aE GateLedger.mark x.ledgers (aE GateGrant.mark x.grants (aE GateObject.mark x.objects k).2).2).2).2)
def GateBook.lv (x:GateBook):Int:=3+bQ GateObject.lv x.objects+bQ GateGrant.lv x.grants+bQ GateLedger.lv x.ledgers+bQ GatePurse.lv x.purses
def GateBook.el (x:GateBook):Int:=0+fm GateObject.el x.objects+fm GateGrant.el x.grants+fm GateLedger.el x.ledgers+fm GatePurse.el x.purses
theorem GateBook.lv_nn (x:GateBook):0≤x.lv:=by
 have p0:=aQ GateObject.lv_nn x.objects;have p1:=aQ GateGrant.lv_nn x.grants;have p2:=aQ GateLedger.lv_nn x.ledgers;have p3:=aQ GatePurse.lv_nn x.purses;unfold GateBook.lv;omega
theorem GateBook.el_nn (x:GateBook):0≤x.el:=by
 have p0:=cr GateObject.el_nn x.objects;have p1:=cr GateGrant.el_nn x.grants;have p2:=cr GateLedger.el_nn x.ledgers;have p3:=cr GatePurse.el_nn x.purses;unfold GateBook.el;omega
theorem GateBook.lv_le (x:GateBook):x.lv≤32+32*x.el:=by
 have p0:=gv GateObject.lv_le x.objects;have p1:=gv GateGrant.lv_le x.grants;have p2:=gv GateLedger.lv_le x.ledgers;have p3:=gv GatePurse.lv_le x.purses;unfold GateBook.lv GateBook.el;omega
theorem GateBook.marks_val (x:GateBook) (k:Int) (h0:0≤k) (hB:k+(0+bQ GateObject.lv x.objects+bQ GateGrant.lv x.grants+bQ GateLedger.lv x.ledgers+bQ GatePurse.lv x.purses)≤1099511627776):(GateBook.marks x k).2=k+(0+bQ GateObject.lv x.objects+bQ GateGrant.lv x.grants+bQ GateLedger.lv x.ledgers+bQ GatePurse.lv x.purses):=by
 have p0:=aQ GateObject.lv_nn x.objects;have p1:=aQ GateGrant.lv_nn x.grants;have p2:=aQ GateLedger.lv_nn x.ledgers;have p3:=aQ GatePurse.lv_nn x.purses;have s0:(aE GateObject.mark x.objects k).2=k+0+bQ GateObject.lv x.objects:=by rw[cv (l:=GateObject.lv) GateObject.mark_val GateObject.lv_nn x.objects _ (by omega) (by omega)];try omega
 have s1:(aE GateGrant.mark x.grants (aE GateObject.mark x.objects k).2).2=k+0+bQ GateObject.lv x.objects+bQ GateGrant.lv x.grants:=by rw[s0,cv (l:=GateGrant.lv) GateGrant.mark_val GateGrant.lv_nn x.grants _ (by omega) (by omega)];try omega
 have s2:(aE GateLedger.mark x.ledgers (aE GateGrant.mark x.grants (aE GateObject.mark x.objects k).2).2).2=k+0+bQ GateObject.lv x.objects+bQ GateGrant.lv x.grants+bQ GateLedger.lv x.ledgers:=by rw[s1,cv (l:=GateLedger.lv) GateLedger.mark_val GateLedger.lv_nn x.ledgers _ (by omega) (by omega)];try omega
 have s3:(aE GatePurse.mark x.purses (aE GateLedger.mark x.ledgers (aE GateGrant.mark x.grants (aE GateObject.mark x.objects k).2).2).2).2=k+0+bQ GateObject.lv x.objects+bQ GateGrant.lv x.grants+bQ GateLedger.lv x.ledgers+bQ GatePurse.lv x.purses:=by rw[s2,cv (l:=GatePurse.lv) GatePurse.mark_val GatePurse.lv_nn x.purses _ (by omega) (by omega)];try omega
 show (aE GatePurse.mark x.purses (aE GateLedger.mark x.ledgers (aE GateGrant.mark x.grants (aE GateObject.mark x.objects k).2).2).2).2=_;rw[s3];try omega
end Go.Vc
end
section
namespace Go.Vc
open Go.Proofs
set_option maxRecDepth 100000
set_option maxHeartbeats 8000000 in
theorem ki (xs:List Bs) (k:Int):FSpec P 138 [.own 0,.d (.int .i64 k)] ⟨[(0,.tree 9 1 [.leaf] (xs.map eB))],1,1⟩ (.d (.int .i64 (aE fk xs k).2)) ⟨[(0,.tree 9 1 [.leaf] ((aE fk xs k).1.map eB))],1,1⟩:=by
 refine FSpec.of_vc cd aA [.tmp 4] Tryz.func138 rfl rfl rfl rfl rfl (fun hok hob=>?_);have hs:xs.length≤big:=by have:=(hob 0 _ rfl).1;rwa [Qab] at this
 repeat refine ai ?_
 refine ⟨fun m l h=>∃i:Nat,m=xs.length - i∧i≤xs.length∧l=[(0,.own 0),(1,.d (.int .i64 (io fk xs k i))),(5,.d (.int .i64 i))]∧h=⟨[(0,.tree 9 1 [.leaf] (wi fk eB xs k i))],1,1⟩,
  ⟨_,_,_,⟨0,rfl,Qad _,rfl,rfl⟩,rfl,rfl,⟨rfl,rfl,rfl,trivial⟩,⟨rfl,trivial⟩,⟨rfl,trivial⟩⟩,?_⟩
 rintro m l h1 ⟨i,rfl,hi,rfl,rfl⟩;refine aj ?_ ?_<;>intro h1
 ·have hlt:i<xs.length:=by
   have:=of_decide_eq_true h1;rw[cu _ hi] at this;omega
  repeat' first
   |refine ai ?_
   |refine aj (Qac _) (aj (Int.ofNat_lt.2 (by (try simp only[Qae]);exact bt hlt)) ?_)
   |refine Qaa _ (aj (aV hlt) (aj (Qaf rfl) ?_))
   |refine Qaa _ (aj (ik (by (try simp only[Qae]);exact bt hlt)) (aj (Qaf rfl) ?_))
   |refine Qaa _ (aj (aV hlt) (aj rfl ?_))
   |refine aj (show (3:Int)≠0 by decide) ?_
   |refine Or.inl (Qaa _ (aj (me _) ?_))
   |refine Qaa _ (aj (aV hlt) ?_)
   |refine Qaa _ (aj (ik (by (try simp only[Qae]);exact bt hlt)) ?_)
  refine ⟨_,_,_,⟨i+1,rfl,hlt,rfl,rfl⟩,by omega,rfl,rfl,⟨rfl,nd (cG (f:=fk) hlt k),nd (aa hlt hs),trivial⟩,⟨rfl,trivial⟩,⟨?_,trivial⟩⟩;refine congrArg some (congrArg (AO.tree _ _ _) ?_);try simp only[Qaq]
  exact fb hlt rfl
 ·have hge:xs.length≤i:=by
   have:=of_decide_eq_false h1;rw[cu _ hi] at this;omega
  refine aj (nd (dx hge)) (aj rfl (aj rfl (aj rfl (aj trivial (aj ⟨rfl,trivial⟩ ⟨?_,trivial⟩)))));exact congrArg some (congrArg (AO.tree _ _ _) (gG hge))
set_option maxHeartbeats 8000000 in
theorem Dp (xs:List Int) (k:Int):FSpec P 22 [.own 0,.d (.int .i64 k)] ⟨[(0,.tree 3 1 [.leaf] (xs.map eN))],1,1⟩ (.d (.int .i64 (aE jF xs k).2)) ⟨[(0,.tree 3 1 [.leaf] ((aE jF xs k).1.map eN))],1,1⟩:=by
 refine FSpec.of_vc cd aA [.tmp 4] Tryz.func22 rfl rfl rfl rfl rfl (fun hok hob=>?_);have hs:xs.length≤big:=by have:=(hob 0 _ rfl).1;rwa [Qab] at this
 repeat refine ai ?_
 refine ⟨fun m l h=>∃i:Nat,m=xs.length - i∧i≤xs.length∧l=[(0,.own 0),(1,.d (.int .i64 (io jF xs k i))),(5,.d (.int .i64 i))]∧h=⟨[(0,.tree 3 1 [.leaf] (wi jF eN xs k i))],1,1⟩,
  ⟨_,_,_,⟨0,rfl,Qad _,rfl,rfl⟩,rfl,rfl,⟨rfl,rfl,rfl,trivial⟩,⟨rfl,trivial⟩,⟨rfl,trivial⟩⟩,?_⟩
 rintro m l h1 ⟨i,rfl,hi,rfl,rfl⟩;refine aj ?_ ?_<;>intro h1
 ·have hlt:i<xs.length:=by
   have:=of_decide_eq_true h1;rw[cu _ hi] at this;omega
  repeat' first
   |refine ai ?_
   |refine aj (Qac _) (aj (Int.ofNat_lt.2 (by (try simp only[Qae]);exact bt hlt)) ?_)
   |refine Qaa _ (aj (aV hlt) (aj (Qaf rfl) ?_))
   |refine Qaa _ (aj (ik (by (try simp only[Qae]);exact bt hlt)) (aj (Qaf rfl) ?_))
   |refine Qaa _ (aj (aV hlt) (aj rfl ?_))
   |refine aj (show (3:Int)≠0 by decide) ?_
   |refine Or.inl (Qaa _ (aj (me _) ?_))
   |refine Qaa _ (aj (aV hlt) ?_)
   |refine Qaa _ (aj (ik (by (try simp only[Qae]);exact bt hlt)) ?_)
  refine ⟨_,_,_,⟨i+1,rfl,hlt,rfl,rfl⟩,by omega,rfl,rfl,⟨rfl,nd (cG (f:=jF) hlt k),nd (aa hlt hs),trivial⟩,⟨rfl,trivial⟩,⟨?_,trivial⟩⟩;refine congrArg some (congrArg (AO.tree _ _ _) ?_);try simp only[Qaq]
  exact fb hlt rfl
 ·have hge:xs.length≤i:=by
   have:=of_decide_eq_false h1;rw[cu _ hi] at this;omega
  refine aj (nd (dx hge)) (aj rfl (aj rfl (aj rfl (aj trivial (aj ⟨rfl,trivial⟩ ⟨?_,trivial⟩)))));exact congrArg some (congrArg (AO.tree _ _ _) (gG hge))
set_option maxHeartbeats 8000000 in
theorem my (xs:List GateField) (k:Int):FSpec P 137 [.own 0,.d (.int .i64 k)] ⟨[(0,.tree 138 11 GateField.n (xs.map GateField.e))],1,1⟩ (.d (.int .i64 (aE GateField.mark xs k).2)) ⟨[(0,.tree 138 11 GateField.n ((aE GateField.mark xs k).1.map GateField.e))],1,1⟩:=by
 refine FSpec.of_vc cd aA [.tmp 4] Tryz.func137 rfl rfl rfl rfl rfl (fun hok hob=>?_);have hs:xs.length≤big:=by have:=(hob 0 _ rfl).1;rwa [Qab] at this
 repeat refine ai ?_
 refine ⟨fun m l h=>∃i:Nat,m=xs.length - i∧i≤xs.length∧l=[(0,.own 0),(1,.d (.int .i64 (io GateField.mark xs k i))),(5,.d (.int .i64 i))]∧h=⟨[(0,.tree 138 11 GateField.n (wi GateField.mark GateField.e xs k i))],1,1⟩,
  ⟨_,_,_,⟨0,rfl,Qad _,rfl,rfl⟩,rfl,rfl,⟨rfl,rfl,rfl,trivial⟩,⟨rfl,trivial⟩,⟨rfl,trivial⟩⟩,?_⟩
 rintro m l h1 ⟨i,rfl,hi,rfl,rfl⟩;refine aj ?_ ?_<;>intro h1
 ·have hlt:i<xs.length:=by
   have:=of_decide_eq_true h1;rw[cu _ hi] at this;omega
  repeat' first
   |refine ai ?_
   |refine aj (Qac _) (aj (Int.ofNat_lt.2 (by (try simp only[Qae]);exact bt hlt)) ?_)
   |refine Qaa _ (aj (aV hlt) (aj (Qaf rfl) ?_))
   |refine Qaa _ (aj (ik (by (try simp only[Qae]);exact bt hlt)) (aj (Qaf rfl) ?_))
   |refine Qaa _ (aj (aV hlt) (aj rfl ?_))
   |refine aj (show (3:Int)≠0 by decide) ?_
   |refine Or.inl (Qaa _ (aj (me _) ?_))
   |refine Or.inr (Or.inr (Or.inr (Or.inr (Or.inr (Or.inr (Or.inr (Or.inr (Or.inl (aj rfl (Qaa _ (Qaa _ (aj (ik (by (try simp only[Qae]);exact bt hlt)) (aj rfl (Qaa _ (Qaa _ (aj rfl (aj (ki _ _) (Qaa _ (aj rfl ?_)))))))))))))))))))
   |refine Or.inr (Or.inr (Or.inr (Or.inr (Or.inr (Or.inr (Or.inr (Or.inr (Or.inl (aj rfl (Qaa _ (Qaa _ (aj (aV hlt) (aj rfl (Qaa _ (Qaa _ (aj rfl (aj (ki _ _) (Qaa _ (aj rfl ?_)))))))))))))))))))
   |refine Qaa _ (aj (aV hlt) ?_)
   |refine Qaa _ (aj (ik (by (try simp only[Qae]);exact bt hlt)) ?_)
  refine ⟨_,_,_,⟨i+1,rfl,hlt,rfl,rfl⟩,by omega,rfl,rfl,⟨rfl,nd (cG (f:=GateField.mark) hlt k),nd (aa hlt hs),trivial⟩,⟨rfl,trivial⟩,⟨?_,trivial⟩⟩;refine congrArg some (congrArg (AO.tree _ _ _) ?_);try simp only[Qaq]
  exact fb hlt rfl
 ·have hge:xs.length≤i:=by
   have:=of_decide_eq_false h1;rw[cu _ hi] at this;omega
  refine aj (nd (dx hge)) (aj rfl (aj rfl (aj rfl (aj trivial (aj ⟨rfl,trivial⟩ ⟨?_,trivial⟩)))));exact congrArg some (congrArg (AO.tree _ _ _) (gG hge))
set_option maxHeartbeats 8000000 in
theorem vp (xs:List GateShape) (k:Int):FSpec P 64 [.own 0,.d (.int .i64 k)] ⟨[(0,.tree 164 2 GateShape.n (xs.map GateShape.e))],1,1⟩ (.d (.int .i64 (aE GateShape.mark xs k).2)) ⟨[(0,.tree 164 2 GateShape.n ((aE GateShape.mark xs k).1.map GateShape.e))],1,1⟩:=by
 refine FSpec.of_vc cd aA [.tmp 4] Tryz.func64 rfl rfl rfl rfl rfl (fun hok hob=>?_);have hs:xs.length≤big:=by have:=(hob 0 _ rfl).1;rwa [Qab] at this
 repeat refine ai ?_
 refine ⟨fun m l h=>∃i:Nat,m=xs.length - i∧i≤xs.length∧l=[(0,.own 0),(1,.d (.int .i64 (io GateShape.mark xs k i))),(5,.d (.int .i64 i))]∧h=⟨[(0,.tree 164 2 GateShape.n (wi GateShape.mark GateShape.e xs k i))],1,1⟩,
  ⟨_,_,_,⟨0,rfl,Qad _,rfl,rfl⟩,rfl,rfl,⟨rfl,rfl,rfl,trivial⟩,⟨rfl,trivial⟩,⟨rfl,trivial⟩⟩,?_⟩
 rintro m l h1 ⟨i,rfl,hi,rfl,rfl⟩;refine aj ?_ ?_<;>intro h1
 ·have hlt:i<xs.length:=by
   have:=of_decide_eq_true h1;rw[cu _ hi] at this;omega
  repeat' first
   |refine ai ?_
   |refine aj (Qac _) (aj (Int.ofNat_lt.2 (by (try simp only[Qae]);exact bt hlt)) ?_)
   |refine Qaa _ (aj (aV hlt) (aj (Qaf rfl) ?_))
   |refine Qaa _ (aj (ik (by (try simp only[Qae]);exact bt hlt)) (aj (Qaf rfl) ?_))
   |refine Qaa _ (aj (aV hlt) (aj rfl ?_))
   |refine aj (show (3:Int)≠0 by decide) ?_
   |refine Or.inl (Qaa _ (aj (me _) ?_))
   |refine Or.inr (Or.inr (Or.inr (Or.inr (Or.inr (Or.inr (Or.inr (Or.inr (Or.inl (aj rfl (Qaa _ (Qaa _ (aj (ik (by (try simp only[Qae]);exact bt hlt)) (aj rfl (Qaa _ (Qaa _ (aj rfl (aj (my _ _) (Qaa _ (aj rfl ?_)))))))))))))))))))
   |refine Or.inr (Or.inr (Or.inr (Or.inr (Or.inr (Or.inr (Or.inr (Or.inr (Or.inl (aj rfl (Qaa _ (Qaa _ (aj (aV hlt) (aj rfl (Qaa _ (Qaa _ (aj rfl (aj (my _ _) (Qaa _ (aj rfl ?_)))))))))))))))))))
   |refine Qaa _ (aj (aV hlt) ?_)
   |refine Qaa _ (aj (ik (by (try simp only[Qae]);exact bt hlt)) ?_)
  refine ⟨_,_,_,⟨i+1,rfl,hlt,rfl,rfl⟩,by omega,rfl,rfl,⟨rfl,nd (cG (f:=GateShape.mark) hlt k),nd (aa hlt hs),trivial⟩,⟨rfl,trivial⟩,⟨?_,trivial⟩⟩;refine congrArg some (congrArg (AO.tree _ _ _) ?_);try simp only[Qaq]
  exact fb hlt rfl
 ·have hge:xs.length≤i:=by
   have:=of_decide_eq_false h1;rw[cu _ hi] at this;omega
  refine aj (nd (dx hge)) (aj rfl (aj rfl (aj rfl (aj trivial (aj ⟨rfl,trivial⟩ ⟨?_,trivial⟩)))));exact congrArg some (congrArg (AO.tree _ _ _) (gG hge))
set_option maxHeartbeats 8000000 in
theorem yk (xs:List GateMend) (k:Int):FSpec P 65 [.own 0,.d (.int .i64 k)] ⟨[(0,.tree 166 6 GateMend.n (xs.map GateMend.e))],1,1⟩ (.d (.int .i64 (aE GateMend.mark xs k).2)) ⟨[(0,.tree 166 6 GateMend.n ((aE GateMend.mark xs k).1.map GateMend.e))],1,1⟩:=by
 refine FSpec.of_vc cd aA [.tmp 4] Tryz.func65 rfl rfl rfl rfl rfl (fun hok hob=>?_);have hs:xs.length≤big:=by have:=(hob 0 _ rfl).1;rwa [Qab] at this
 repeat refine ai ?_
 refine ⟨fun m l h=>∃i:Nat,m=xs.length - i∧i≤xs.length∧l=[(0,.own 0),(1,.d (.int .i64 (io GateMend.mark xs k i))),(5,.d (.int .i64 i))]∧h=⟨[(0,.tree 166 6 GateMend.n (wi GateMend.mark GateMend.e xs k i))],1,1⟩,
  ⟨_,_,_,⟨0,rfl,Qad _,rfl,rfl⟩,rfl,rfl,⟨rfl,rfl,rfl,trivial⟩,⟨rfl,trivial⟩,⟨rfl,trivial⟩⟩,?_⟩
 rintro m l h1 ⟨i,rfl,hi,rfl,rfl⟩;refine aj ?_ ?_<;>intro h1
 ·have hlt:i<xs.length:=by
   have:=of_decide_eq_true h1;rw[cu _ hi] at this;omega
  repeat' first
   |refine ai ?_
   |refine aj (Qac _) (aj (Int.ofNat_lt.2 (by (try simp only[Qae]);exact bt hlt)) ?_)
   |refine Qaa _ (aj (aV hlt) (aj (Qaf rfl) ?_))
   |refine Qaa _ (aj (ik (by (try simp only[Qae]);exact bt hlt)) (aj (Qaf rfl) ?_))
   |refine Qaa _ (aj (aV hlt) (aj rfl ?_))
   |refine aj (show (3:Int)≠0 by decide) ?_
   |refine Or.inl (Qaa _ (aj (me _) ?_))
   |refine Qaa _ (aj (aV hlt) ?_)
   |refine Qaa _ (aj (ik (by (try simp only[Qae]);exact bt hlt)) ?_)
  refine ⟨_,_,_,⟨i+1,rfl,hlt,rfl,rfl⟩,by omega,rfl,rfl,⟨rfl,nd (cG (f:=GateMend.mark) hlt k),nd (aa hlt hs),trivial⟩,⟨rfl,trivial⟩,⟨?_,trivial⟩⟩;refine congrArg some (congrArg (AO.tree _ _ _) ?_);try simp only[Qaq]
  exact fb hlt rfl
 ·have hge:xs.length≤i:=by
   have:=of_decide_eq_false h1;rw[cu _ hi] at this;omega
  refine aj (nd (dx hge)) (aj rfl (aj rfl (aj rfl (aj trivial (aj ⟨rfl,trivial⟩ ⟨?_,trivial⟩)))));exact congrArg some (congrArg (AO.tree _ _ _) (gG hge))
set_option maxHeartbeats 8000000 in
theorem yj (xs:List GateTeam) (k:Int):FSpec P 66 [.own 0,.d (.int .i64 k)] ⟨[(0,.tree 168 2 GateTeam.n (xs.map GateTeam.e))],1,1⟩ (.d (.int .i64 (aE GateTeam.mark xs k).2)) ⟨[(0,.tree 168 2 GateTeam.n ((aE GateTeam.mark xs k).1.map GateTeam.e))],1,1⟩:=by
 refine FSpec.of_vc cd aA [.tmp 4] Tryz.func66 rfl rfl rfl rfl rfl (fun hok hob=>?_);have hs:xs.length≤big:=by have:=(hob 0 _ rfl).1;rwa [Qab] at this
 repeat refine ai ?_
 refine ⟨fun m l h=>∃i:Nat,m=xs.length - i∧i≤xs.length∧l=[(0,.own 0),(1,.d (.int .i64 (io GateTeam.mark xs k i))),(5,.d (.int .i64 i))]∧h=⟨[(0,.tree 168 2 GateTeam.n (wi GateTeam.mark GateTeam.e xs k i))],1,1⟩,
  ⟨_,_,_,⟨0,rfl,Qad _,rfl,rfl⟩,rfl,rfl,⟨rfl,rfl,rfl,trivial⟩,⟨rfl,trivial⟩,⟨rfl,trivial⟩⟩,?_⟩
 rintro m l h1 ⟨i,rfl,hi,rfl,rfl⟩;refine aj ?_ ?_<;>intro h1
 ·have hlt:i<xs.length:=by
   have:=of_decide_eq_true h1;rw[cu _ hi] at this;omega
  repeat' first
   |refine ai ?_
   |refine aj (Qac _) (aj (Int.ofNat_lt.2 (by (try simp only[Qae]);exact bt hlt)) ?_)
   |refine Qaa _ (aj (aV hlt) (aj (Qaf rfl) ?_))
   |refine Qaa _ (aj (ik (by (try simp only[Qae]);exact bt hlt)) (aj (Qaf rfl) ?_))
   |refine Qaa _ (aj (aV hlt) (aj rfl ?_))
   |refine aj (show (3:Int)≠0 by decide) ?_
   |refine Or.inl (Qaa _ (aj (me _) ?_))
   |refine Qaa _ (aj (aV hlt) ?_)
   |refine Qaa _ (aj (ik (by (try simp only[Qae]);exact bt hlt)) ?_)
  refine ⟨_,_,_,⟨i+1,rfl,hlt,rfl,rfl⟩,by omega,rfl,rfl,⟨rfl,nd (cG (f:=GateTeam.mark) hlt k),nd (aa hlt hs),trivial⟩,⟨rfl,trivial⟩,⟨?_,trivial⟩⟩;refine congrArg some (congrArg (AO.tree _ _ _) ?_);try simp only[Qaq]
  exact fb hlt rfl
 ·have hge:xs.length≤i:=by
   have:=of_decide_eq_false h1;rw[cu _ hi] at this;omega
  refine aj (nd (dx hge)) (aj rfl (aj rfl (aj rfl (aj trivial (aj ⟨rfl,trivial⟩ ⟨?_,trivial⟩)))));exact congrArg some (congrArg (AO.tree _ _ _) (gG hge))
set_option maxHeartbeats 8000000 in
theorem Cd (x:GateLaw) (k:Int):FSpec P 20 [.agg x.a,.d (.int .i64 k)] ⟨x.o,3,3⟩ (.d (.int .i64 (GateLaw.marks x k).2)) ⟨(GateLaw.marks x k).1.o,3,3⟩:=by
 refine FSpec.of_vc cd aA [.tmp 4] Tryz.func20 rfl rfl rfl rfl rfl (fun hok hob=>?_);repeat refine ai ?_
 refine om [0] none (vp _ _) ?_;repeat refine ai ?_
 refine om [1] none (yk _ _) ?_;repeat refine ai ?_
 refine om [2] none (yj _ _) ?_;repeat refine ai ?_
 repeat' first|exact rfl|exact trivial|refine aj ?_ ?_
set_option maxHeartbeats 8000000 in
theorem tB (xs:List GateObject) (k:Int):FSpec P 67 [.own 0,.d (.int .i64 k)] ⟨[(0,.tree 103 7 GateObject.n (xs.map GateObject.e))],1,1⟩ (.d (.int .i64 (aE GateObject.mark xs k).2)) ⟨[(0,.tree 103 7 GateObject.n ((aE GateObject.mark xs k).1.map GateObject.e))],1,1⟩:=by
 refine FSpec.of_vc cd aA [.tmp 4] Tryz.func67 rfl rfl rfl rfl rfl (fun hok hob=>?_);have hs:xs.length≤big:=by have:=(hob 0 _ rfl).1;rwa [Qab] at this
 repeat refine ai ?_
 refine ⟨fun m l h=>∃i:Nat,m=xs.length - i∧i≤xs.length∧l=[(0,.own 0),(1,.d (.int .i64 (io GateObject.mark xs k i))),(5,.d (.int .i64 i))]∧h=⟨[(0,.tree 103 7 GateObject.n (wi GateObject.mark GateObject.e xs k i))],1,1⟩,
  ⟨_,_,_,⟨0,rfl,Qad _,rfl,rfl⟩,rfl,rfl,⟨rfl,rfl,rfl,trivial⟩,⟨rfl,trivial⟩,⟨rfl,trivial⟩⟩,?_⟩
 rintro m l h1 ⟨i,rfl,hi,rfl,rfl⟩;refine aj ?_ ?_<;>intro h1
 ·have hlt:i<xs.length:=by
   have:=of_decide_eq_true h1;rw[cu _ hi] at this;omega
  repeat' first
   |refine ai ?_
   |refine aj (Qac _) (aj (Int.ofNat_lt.2 (by (try simp only[Qae]);exact bt hlt)) ?_)
   |refine Qaa _ (aj (aV hlt) (aj (Qaf rfl) ?_))
   |refine Qaa _ (aj (ik (by (try simp only[Qae]);exact bt hlt)) (aj (Qaf rfl) ?_))
   |refine Qaa _ (aj (aV hlt) (aj rfl ?_))
   |refine aj (show (3:Int)≠0 by decide) ?_
   |refine Or.inl (Qaa _ (aj (me _) ?_))
   |refine Or.inr (Or.inr (Or.inr (Or.inr (Or.inr (Or.inr (Or.inr (Or.inr (Or.inl (aj rfl (Qaa _ (Qaa _ (aj (ik (by (try simp only[Qae]);exact bt hlt)) (aj rfl (Qaa _ (Qaa _ (aj rfl (aj (ki _ _) (Qaa _ (aj rfl ?_)))))))))))))))))))
   |refine Or.inr (Or.inr (Or.inr (Or.inr (Or.inr (Or.inr (Or.inr (Or.inr (Or.inl (aj rfl (Qaa _ (Qaa _ (aj (aV hlt) (aj rfl (Qaa _ (Qaa _ (aj rfl (aj (ki _ _) (Qaa _ (aj rfl ?_)))))))))))))))))))
   |refine Qaa _ (aj (aV hlt) ?_)
   |refine Qaa _ (aj (ik (by (try simp only[Qae]);exact bt hlt)) ?_)
  refine ⟨_,_,_,⟨i+1,rfl,hlt,rfl,rfl⟩,by omega,rfl,rfl,⟨rfl,nd (cG (f:=GateObject.mark) hlt k),nd (aa hlt hs),trivial⟩,⟨rfl,trivial⟩,⟨?_,trivial⟩⟩;refine congrArg some (congrArg (AO.tree _ _ _) ?_);try simp only[Qaq]
  exact fb hlt rfl
 ·have hge:xs.length≤i:=by
   have:=of_decide_eq_false h1;rw[cu _ hi] at this;omega
  refine aj (nd (dx hge)) (aj rfl (aj rfl (aj rfl (aj trivial (aj ⟨rfl,trivial⟩ ⟨?_,trivial⟩)))));exact congrArg some (congrArg (AO.tree _ _ _) (gG hge))
set_option maxHeartbeats 8000000 in
theorem vu (xs:List GateGrant) (k:Int):FSpec P 68 [.own 0,.d (.int .i64 k)] ⟨[(0,.tree 173 7 GateGrant.n (xs.map GateGrant.e))],1,1⟩ (.d (.int .i64 (aE GateGrant.mark xs k).2)) ⟨[(0,.tree 173 7 GateGrant.n ((aE GateGrant.mark xs k).1.map GateGrant.e))],1,1⟩:=by
 refine FSpec.of_vc cd aA [.tmp 4] Tryz.func68 rfl rfl rfl rfl rfl (fun hok hob=>?_);have hs:xs.length≤big:=by have:=(hob 0 _ rfl).1;rwa [Qab] at this
 repeat refine ai ?_
 refine ⟨fun m l h=>∃i:Nat,m=xs.length - i∧i≤xs.length∧l=[(0,.own 0),(1,.d (.int .i64 (io GateGrant.mark xs k i))),(5,.d (.int .i64 i))]∧h=⟨[(0,.tree 173 7 GateGrant.n (wi GateGrant.mark GateGrant.e xs k i))],1,1⟩,
  ⟨_,_,_,⟨0,rfl,Qad _,rfl,rfl⟩,rfl,rfl,⟨rfl,rfl,rfl,trivial⟩,⟨rfl,trivial⟩,⟨rfl,trivial⟩⟩,?_⟩
 rintro m l h1 ⟨i,rfl,hi,rfl,rfl⟩;refine aj ?_ ?_<;>intro h1
 ·have hlt:i<xs.length:=by
   have:=of_decide_eq_true h1;rw[cu _ hi] at this;omega
  repeat' first
   |refine ai ?_
   |refine aj (Qac _) (aj (Int.ofNat_lt.2 (by (try simp only[Qae]);exact bt hlt)) ?_)
   |refine Qaa _ (aj (aV hlt) (aj (Qaf rfl) ?_))
   |refine Qaa _ (aj (ik (by (try simp only[Qae]);exact bt hlt)) (aj (Qaf rfl) ?_))
   |refine Qaa _ (aj (aV hlt) (aj rfl ?_))
   |refine aj (show (3:Int)≠0 by decide) ?_
   |refine Or.inl (Qaa _ (aj (me _) ?_))
   |refine Or.inr (Or.inr (Or.inr (Or.inr (Or.inr (Or.inr (Or.inr (Or.inr (Or.inl (aj rfl (Qaa _ (Qaa _ (aj (ik (by (try simp only[Qae]);exact bt hlt)) (aj rfl (Qaa _ (Qaa _ (aj rfl (aj (Dp _ _) (Qaa _ (aj rfl ?_)))))))))))))))))))
   |refine Or.inr (Or.inr (Or.inr (Or.inr (Or.inr (Or.inr (Or.inr (Or.inr (Or.inl (aj rfl (Qaa _ (Qaa _ (aj (aV hlt) (aj rfl (Qaa _ (Qaa _ (aj rfl (aj (Dp _ _) (Qaa _ (aj rfl ?_)))))))))))))))))))
   |refine Qaa _ (aj (aV hlt) ?_)
   |refine Qaa _ (aj (ik (by (try simp only[Qae]);exact bt hlt)) ?_)
  refine ⟨_,_,_,⟨i+1,rfl,hlt,rfl,rfl⟩,by omega,rfl,rfl,⟨rfl,nd (cG (f:=GateGrant.mark) hlt k),nd (aa hlt hs),trivial⟩,⟨rfl,trivial⟩,⟨?_,trivial⟩⟩;refine congrArg some (congrArg (AO.tree _ _ _) ?_);try simp only[Qaq]
  exact fb hlt rfl
 ·have hge:xs.length≤i:=by
   have:=of_decide_eq_false h1;rw[cu _ hi] at this;omega
  refine aj (nd (dx hge)) (aj rfl (aj rfl (aj rfl (aj trivial (aj ⟨rfl,trivial⟩ ⟨?_,trivial⟩)))));exact congrArg some (congrArg (AO.tree _ _ _) (gG hge))
set_option maxHeartbeats 8000000 in
theorem tC (xs:List GateLedger) (k:Int):FSpec P 69 [.own 0,.d (.int .i64 k)] ⟨[(0,.tree 119 4 GateLedger.n (xs.map GateLedger.e))],1,1⟩ (.d (.int .i64 (aE GateLedger.mark xs k).2)) ⟨[(0,.tree 119 4 GateLedger.n ((aE GateLedger.mark xs k).1.map GateLedger.e))],1,1⟩:=by
 refine FSpec.of_vc cd aA [.tmp 4] Tryz.func69 rfl rfl rfl rfl rfl (fun hok hob=>?_);have hs:xs.length≤big:=by have:=(hob 0 _ rfl).1;rwa [Qab] at this
 repeat refine ai ?_
 refine ⟨fun m l h=>∃i:Nat,m=xs.length - i∧i≤xs.length∧l=[(0,.own 0),(1,.d (.int .i64 (io GateLedger.mark xs k i))),(5,.d (.int .i64 i))]∧h=⟨[(0,.tree 119 4 GateLedger.n (wi GateLedger.mark GateLedger.e xs k i))],1,1⟩,
  ⟨_,_,_,⟨0,rfl,Qad _,rfl,rfl⟩,rfl,rfl,⟨rfl,rfl,rfl,trivial⟩,⟨rfl,trivial⟩,⟨rfl,trivial⟩⟩,?_⟩
 rintro m l h1 ⟨i,rfl,hi,rfl,rfl⟩;refine aj ?_ ?_<;>intro h1
 ·have hlt:i<xs.length:=by
   have:=of_decide_eq_true h1;rw[cu _ hi] at this;omega
  repeat' first
   |refine ai ?_
   |refine aj (Qac _) (aj (Int.ofNat_lt.2 (by (try simp only[Qae]);exact bt hlt)) ?_)
   |refine Qaa _ (aj (aV hlt) (aj (Qaf rfl) ?_))
   |refine Qaa _ (aj (ik (by (try simp only[Qae]);exact bt hlt)) (aj (Qaf rfl) ?_))
   |refine Qaa _ (aj (aV hlt) (aj rfl ?_))
   |refine aj (show (3:Int)≠0 by decide) ?_
   |refine Or.inl (Qaa _ (aj (me _) ?_))
   |refine Qaa _ (aj (aV hlt) ?_)
   |refine Qaa _ (aj (ik (by (try simp only[Qae]);exact bt hlt)) ?_)
  refine ⟨_,_,_,⟨i+1,rfl,hlt,rfl,rfl⟩,by omega,rfl,rfl,⟨rfl,nd (cG (f:=GateLedger.mark) hlt k),nd (aa hlt hs),trivial⟩,⟨rfl,trivial⟩,⟨?_,trivial⟩⟩;refine congrArg some (congrArg (AO.tree _ _ _) ?_);try simp only[Qaq]
  exact fb hlt rfl
 ·have hge:xs.length≤i:=by
   have:=of_decide_eq_false h1;rw[cu _ hi] at this;omega
  refine aj (nd (dx hge)) (aj rfl (aj rfl (aj rfl (aj trivial (aj ⟨rfl,trivial⟩ ⟨?_,trivial⟩)))));exact congrArg some (congrArg (AO.tree _ _ _) (gG hge))
set_option maxHeartbeats 8000000 in
theorem vq (xs:List GatePurse) (k:Int):FSpec P 70 [.own 0,.d (.int .i64 k)] ⟨[(0,.tree 109 5 GatePurse.n (xs.map GatePurse.e))],1,1⟩ (.d (.int .i64 (aE GatePurse.mark xs k).2)) ⟨[(0,.tree 109 5 GatePurse.n ((aE GatePurse.mark xs k).1.map GatePurse.e))],1,1⟩:=by
 refine FSpec.of_vc cd aA [.tmp 4] Tryz.func70 rfl rfl rfl rfl rfl (fun hok hob=>?_);have hs:xs.length≤big:=by have:=(hob 0 _ rfl).1;rwa [Qab] at this
 repeat refine ai ?_
 refine ⟨fun m l h=>∃i:Nat,m=xs.length - i∧i≤xs.length∧l=[(0,.own 0),(1,.d (.int .i64 (io GatePurse.mark xs k i))),(5,.d (.int .i64 i))]∧h=⟨[(0,.tree 109 5 GatePurse.n (wi GatePurse.mark GatePurse.e xs k i))],1,1⟩,
  ⟨_,_,_,⟨0,rfl,Qad _,rfl,rfl⟩,rfl,rfl,⟨rfl,rfl,rfl,trivial⟩,⟨rfl,trivial⟩,⟨rfl,trivial⟩⟩,?_⟩
 rintro m l h1 ⟨i,rfl,hi,rfl,rfl⟩;refine aj ?_ ?_<;>intro h1
 ·have hlt:i<xs.length:=by
   have:=of_decide_eq_true h1;rw[cu _ hi] at this;omega
  repeat' first
   |refine ai ?_
   |refine aj (Qac _) (aj (Int.ofNat_lt.2 (by (try simp only[Qae]);exact bt hlt)) ?_)
   |refine Qaa _ (aj (aV hlt) (aj (Qaf rfl) ?_))
   |refine Qaa _ (aj (ik (by (try simp only[Qae]);exact bt hlt)) (aj (Qaf rfl) ?_))
   |refine Qaa _ (aj (aV hlt) (aj rfl ?_))
   |refine aj (show (3:Int)≠0 by decide) ?_
   |refine Or.inl (Qaa _ (aj (me _) ?_))
   |refine Qaa _ (aj (aV hlt) ?_)
   |refine Qaa _ (aj (ik (by (try simp only[Qae]);exact bt hlt)) ?_)
  refine ⟨_,_,_,⟨i+1,rfl,hlt,rfl,rfl⟩,by omega,rfl,rfl,⟨rfl,nd (cG (f:=GatePurse.mark) hlt k),nd (aa hlt hs),trivial⟩,⟨rfl,trivial⟩,⟨?_,trivial⟩⟩;refine congrArg some (congrArg (AO.tree _ _ _) ?_);try simp only[Qaq]
  exact fb hlt rfl
 ·have hge:xs.length≤i:=by
   have:=of_decide_eq_false h1;rw[cu _ hi] at this;omega
  refine aj (nd (dx hge)) (aj rfl (aj rfl (aj rfl (aj trivial (aj ⟨rfl,trivial⟩ ⟨?_,trivial⟩)))));exact congrArg some (congrArg (AO.tree _ _ _) (gG hge))
set_option maxHeartbeats 8000000 in
theorem qD (x:GateBook) (k:Int):FSpec P 21 [.agg x.a,.d (.int .i64 k)] ⟨x.o,4,4⟩ (.d (.int .i64 (GateBook.marks x k).2)) ⟨(GateBook.marks x k).1.o,4,4⟩:=by
 refine FSpec.of_vc cd aA [.tmp 4] Tryz.func21 rfl rfl rfl rfl rfl (fun hok hob=>?_);repeat refine ai ?_
 refine om [0] none (tB _ _) ?_;repeat refine ai ?_
 refine om [1] none (vu _ _) ?_;repeat refine ai ?_
 refine om [2] none (tC _ _) ?_;repeat refine ai ?_
 refine om [3] none (vq _ _) ?_;repeat refine ai ?_
 repeat' first|exact rfl|exact trivial|refine aj ?_ ?_
set_option maxHeartbeats 8000000 in
theorem ua (xs:List Bs) (k:Int) (h0:0≤k) (hB:k+bQ fG xs≤1099511627776):Spec P 153 [.d (lS (aE fk xs k).1),.d (.int .i64 k)] (.d (.int .i64 (aE fk xs k).2)):=by
 refine Spec.of_vc aO aA [.tmp 4] Tryz.func153 rfl rfl rfl rfl (fun hok=>?_);have hs:xs.length≤big:=by have:=hok.1.1;rwa [Qab,bF] at this
 repeat refine ai ?_
 refine ⟨fun m l h=>∃i:Nat,m=xs.length - i∧i≤xs.length∧l=[(0,.d (lS (aE fk xs k).1)),(1,.d (.int .i64 (io fk xs k i))),(5,.d (.int .i64 i))]∧h=hp0,
  ⟨_,_,_,⟨0,rfl,Qad _,rfl,rfl⟩,rfl,rfl,⟨rfl,rfl,rfl,trivial⟩,trivial,trivial⟩,?_⟩
 rintro m l h1 ⟨i,rfl,hi,rfl,rfl⟩;refine aj ?_ ?_<;>intro h1
 ·have hlt:i<xs.length:=by
   have:=of_decide_eq_true h1;rw[Qab,bF] at this;omega
  have hK:=pW (l:=fG) lW dk h0 hB hlt;have hstep:=cG (f:=fk) hlt k;have hix:∀{sz:Nat} {Kp:List D→Prop},(eB (fk xs[i] (io fk xs k i)).1).length=sz→Kp (eB (fk xs[i] (io fk xs k i)).1)→(0:Int)≤(i:Int)∧∃b,(((aE fk xs k).1).map eB)[(i:Int).toNat]? =some b∧b.length=sz∧Kp b:=fun hs h=>wB hlt hs h;generalize io fk xs k i=K at*;simp only[fG] at hK;have s0:(wk K)=K+1:=aw (by omega) (by omega)
  repeat' first
   |refine ai ?_
   |refine hix rfl ?_
   |refine aj (show (3:Int)≠0 by decide) ?_
   |refine Or.inl (Qaa _ (aj (me _) ?_))
   |skip;fail
   |refine aj (fun h=>absurd h (by simp[fk,mi,mb,wk])) (fun _=>?_)
   |refine ak ?_
  exact ⟨_,_,_,⟨i+1,rfl,hlt,rfl,rfl⟩,by omega,rfl,rfl,⟨rfl,nd hstep,nd (aa hlt hs),trivial⟩,trivial,trivial⟩
 ·have hge:xs.length≤i:=by
   have:=of_decide_eq_false h1;rw[Qab,bF] at this;omega
  exact nd (dx hge)
set_option maxHeartbeats 8000000 in
theorem If (xs:List Int) (k:Int) (h0:0≤k) (hB:k+bQ fG xs≤1099511627776):Spec P 23 [.d (lI (aE jF xs k).1),.d (.int .i64 k)] (.d (.int .i64 (aE jF xs k).2)):=by
 refine Spec.of_vc aO aA [.tmp 4] Tryz.func23 rfl rfl rfl rfl (fun hok=>?_);have hs:xs.length≤big:=by have:=hok.1.1;rwa [Qab,bF] at this
 repeat refine ai ?_
 refine ⟨fun m l h=>∃i:Nat,m=xs.length - i∧i≤xs.length∧l=[(0,.d (lI (aE jF xs k).1)),(1,.d (.int .i64 (io jF xs k i))),(5,.d (.int .i64 i))]∧h=hp0,
  ⟨_,_,_,⟨0,rfl,Qad _,rfl,rfl⟩,rfl,rfl,⟨rfl,rfl,rfl,trivial⟩,trivial,trivial⟩,?_⟩
 rintro m l h1 ⟨i,rfl,hi,rfl,rfl⟩;refine aj ?_ ?_<;>intro h1
 ·have hlt:i<xs.length:=by
   have:=of_decide_eq_true h1;rw[Qab,bF] at this;omega
  have hK:=pW (l:=fG) ym dk h0 hB hlt;have hstep:=cG (f:=jF) hlt k;have hix:∀{sz:Nat} {Kp:List D→Prop},(eN (jF xs[i] (io jF xs k i)).1).length=sz→Kp (eN (jF xs[i] (io jF xs k i)).1)→(0:Int)≤(i:Int)∧∃b,(((aE jF xs k).1).map eN)[(i:Int).toNat]? =some b∧b.length=sz∧Kp b:=fun hs h=>wB hlt hs h;generalize io jF xs k i=K at*;simp only[fG] at hK;have s0:(wk K)=K+1:=aw (by omega) (by omega)
  repeat' first
   |refine ai ?_
   |refine hix rfl ?_
   |refine aj (show (3:Int)≠0 by decide) ?_
   |refine Or.inl (Qaa _ (aj (me _) ?_))
   |skip;fail
   |refine aj (fun h=>absurd h (by simp[jF,mi,mb,wk])) (fun _=>?_)
   |refine ak ?_
  exact ⟨_,_,_,⟨i+1,rfl,hlt,rfl,rfl⟩,by omega,rfl,rfl,⟨rfl,nd hstep,nd (aa hlt hs),trivial⟩,trivial,trivial⟩
 ·have hge:xs.length≤i:=by
   have:=of_decide_eq_false h1;rw[Qab,bF] at this;omega
  exact nd (dx hge)
set_option maxHeartbeats 8000000 in
theorem ub (xs:List GateObject) (k:Int) (h0:0≤k) (hB:k+bQ GateObject.lv xs≤1099511627776):Spec P 84 [.d (aC (aE GateObject.mark xs k).1),.d (.int .i64 k)] (.d (.int .i64 (aE GateObject.mark xs k).2)):=by
 refine Spec.of_vc aO aA [.tmp 4] Tryz.func84 rfl rfl rfl rfl (fun hok=>?_);have hs:xs.length≤big:=by have:=hok.1.1;rwa [Qab,bF] at this
 repeat refine ai ?_
 refine ⟨fun m l h=>∃i:Nat,m=xs.length - i∧i≤xs.length∧l=[(0,.d (aC (aE GateObject.mark xs k).1)),(1,.d (.int .i64 (io GateObject.mark xs k i))),(5,.d (.int .i64 i))]∧h=hp0,
  ⟨_,_,_,⟨0,rfl,Qad _,rfl,rfl⟩,rfl,rfl,⟨rfl,rfl,rfl,trivial⟩,trivial,trivial⟩,?_⟩
 rintro m l h1 ⟨i,rfl,hi,rfl,rfl⟩;refine aj ?_ ?_<;>intro h1
 ·have hlt:i<xs.length:=by
   have:=of_decide_eq_true h1;rw[Qab,bF] at this;omega
  have hK:=pW (l:=GateObject.lv) GateObject.mark_val GateObject.lv_nn h0 hB hlt;have hstep:=cG (f:=GateObject.mark) hlt k;have hix:∀{sz:Nat} {Kp:List D→Prop},(GateObject.e (GateObject.mark xs[i] (io GateObject.mark xs k i)).1).length=sz→Kp (GateObject.e (GateObject.mark xs[i] (io GateObject.mark xs k i)).1)→(0:Int)≤(i:Int)∧∃b,(((aE GateObject.mark xs k).1).map GateObject.e)[(i:Int).toNat]? =some b∧b.length=sz∧Kp b:=fun hs h=>wB hlt hs h;generalize io GateObject.mark xs k i=K at*;simp only[GateObject.lv] at hK;have p0:=aQ dk xs[i].values;have p1:=aQ dk xs[i].holds;have s0:(wk K)=K+1:=aw (by omega) (by omega);have s1:(wk (wk K))=K+2:=by rw[s0,aw (by omega) (by omega)];try omega
  have s2:(wk (wk (wk K)))=K+3:=by rw[s1,aw (by omega) (by omega)];try omega
  have s3:(aE fk xs[i].values (wk (wk (wk K)))).2=K+3+bQ fG xs[i].values:=by rw[s2,cv (l:=fG) lW dk xs[i].values _ (by omega) (by omega)];try omega
  have s4:(wk (aE fk xs[i].values (wk (wk (wk K)))).2)=K+4+bQ fG xs[i].values:=by rw[s3,aw (by omega) (by omega)];try omega
  have s5:(aE fk xs[i].holds (wk (aE fk xs[i].values (wk (wk (wk K)))).2)).2=K+4+bQ fG xs[i].values+bQ fG xs[i].holds:=by rw[s4,cv (l:=fG) lW dk xs[i].holds _ (by omega) (by omega)];try omega
  have s6:(wk (aE fk xs[i].holds (wk (aE fk xs[i].values (wk (wk (wk K)))).2)).2)=K+5+bQ fG xs[i].values+bQ fG xs[i].holds:=by rw[s5,aw (by omega) (by omega)];try omega
  repeat' first
   |refine ai ?_
   |refine hix rfl ?_
   |refine aj (show (3:Int)≠0 by decide) ?_
   |refine Or.inl (Qaa _ (aj (me _) ?_))
   |refine Or.inl (Qaa _ (aj (ua xs[i].values (wk (wk (wk K))) (by rw[s2];omega) (by rw[s2];omega)) ?_))
   |refine aj (fun h=>absurd (of_decide_eq_true h) (by rw[s3];omega)) (fun _=>?_)
   |refine Or.inl (Qaa _ (aj (ua xs[i].holds (wk (aE fk xs[i].values (wk (wk (wk K)))).2) (by rw[s4];omega) (by rw[s4];omega)) ?_))
   |refine aj (fun h=>absurd (of_decide_eq_true h) (by rw[s5];omega)) (fun _=>?_)
   |refine aj (fun h=>absurd h (by simp[GateObject.mark,mi,mb,wk])) (fun _=>?_)
   |refine ak ?_
  exact ⟨_,_,_,⟨i+1,rfl,hlt,rfl,rfl⟩,by omega,rfl,rfl,⟨rfl,nd hstep,nd (aa hlt hs),trivial⟩,trivial,trivial⟩
 ·have hge:xs.length≤i:=by
   have:=of_decide_eq_false h1;rw[Qab,bF] at this;omega
  exact nd (dx hge)
set_option maxHeartbeats 8000000 in
theorem vC (xs:List GateGrant) (k:Int) (h0:0≤k) (hB:k+bQ GateGrant.lv xs≤1099511627776):Spec P 85 [.d (bf (aE GateGrant.mark xs k).1),.d (.int .i64 k)] (.d (.int .i64 (aE GateGrant.mark xs k).2)):=by
 refine Spec.of_vc aO aA [.tmp 4] Tryz.func85 rfl rfl rfl rfl (fun hok=>?_);have hs:xs.length≤big:=by have:=hok.1.1;rwa [Qab,bF] at this
 repeat refine ai ?_
 refine ⟨fun m l h=>∃i:Nat,m=xs.length - i∧i≤xs.length∧l=[(0,.d (bf (aE GateGrant.mark xs k).1)),(1,.d (.int .i64 (io GateGrant.mark xs k i))),(5,.d (.int .i64 i))]∧h=hp0,
  ⟨_,_,_,⟨0,rfl,Qad _,rfl,rfl⟩,rfl,rfl,⟨rfl,rfl,rfl,trivial⟩,trivial,trivial⟩,?_⟩
 rintro m l h1 ⟨i,rfl,hi,rfl,rfl⟩;refine aj ?_ ?_<;>intro h1
 ·have hlt:i<xs.length:=by
   have:=of_decide_eq_true h1;rw[Qab,bF] at this;omega
  have hK:=pW (l:=GateGrant.lv) GateGrant.mark_val GateGrant.lv_nn h0 hB hlt;have hstep:=cG (f:=GateGrant.mark) hlt k;have hix:∀{sz:Nat} {Kp:List D→Prop},(GateGrant.e (GateGrant.mark xs[i] (io GateGrant.mark xs k i)).1).length=sz→Kp (GateGrant.e (GateGrant.mark xs[i] (io GateGrant.mark xs k i)).1)→(0:Int)≤(i:Int)∧∃b,(((aE GateGrant.mark xs k).1).map GateGrant.e)[(i:Int).toNat]? =some b∧b.length=sz∧Kp b:=fun hs h=>wB hlt hs h;generalize io GateGrant.mark xs k i=K at*;simp only[GateGrant.lv] at hK;have p0:=aQ dk xs[i].rule.verbs;have s0:(wk K)=K+1:=aw (by omega) (by omega);have s1:(wk (wk K))=K+2:=by rw[s0,aw (by omega) (by omega)];try omega
  have s2:(wk (wk (wk K)))=K+3:=by rw[s1,aw (by omega) (by omega)];try omega
  have s3:(aE jF xs[i].rule.verbs (wk (wk (wk K)))).2=K+3+bQ fG xs[i].rule.verbs:=by rw[s2,cv (l:=fG) ym dk xs[i].rule.verbs _ (by omega) (by omega)];try omega
  have s4:(wk (aE jF xs[i].rule.verbs (wk (wk (wk K)))).2)=K+4+bQ fG xs[i].rule.verbs:=by rw[s3,aw (by omega) (by omega)];try omega
  have s5:(wk (wk (aE jF xs[i].rule.verbs (wk (wk (wk K)))).2))=K+5+bQ fG xs[i].rule.verbs:=by rw[s4,aw (by omega) (by omega)];try omega
  have s6:(wk (wk (wk (aE jF xs[i].rule.verbs (wk (wk (wk K)))).2)))=K+6+bQ fG xs[i].rule.verbs:=by rw[s5,aw (by omega) (by omega)];try omega
  repeat' first
   |refine ai ?_
   |refine hix rfl ?_
   |refine aj (show (3:Int)≠0 by decide) ?_
   |refine Or.inl (Qaa _ (aj (me _) ?_))
   |refine Or.inl (Qaa _ (aj (If xs[i].rule.verbs (wk (wk (wk K))) (by rw[s2];omega) (by rw[s2];omega)) ?_))
   |refine aj (fun h=>absurd (of_decide_eq_true h) (by rw[s3];omega)) (fun _=>?_)
   |refine aj (fun h=>absurd h (by simp[GateGrant.mark,mi,mb,wk])) (fun _=>?_)
   |refine ak ?_
  exact ⟨_,_,_,⟨i+1,rfl,hlt,rfl,rfl⟩,by omega,rfl,rfl,⟨rfl,nd hstep,nd (aa hlt hs),trivial⟩,trivial,trivial⟩
 ·have hge:xs.length≤i:=by
   have:=of_decide_eq_false h1;rw[Qab,bF] at this;omega
  exact nd (dx hge)
set_option maxHeartbeats 8000000 in
theorem uc (xs:List GateLedger) (k:Int) (h0:0≤k) (hB:k+bQ GateLedger.lv xs≤1099511627776):Spec P 86 [.d (aL (aE GateLedger.mark xs k).1),.d (.int .i64 k)] (.d (.int .i64 (aE GateLedger.mark xs k).2)):=by
 refine Spec.of_vc aO aA [.tmp 4] Tryz.func86 rfl rfl rfl rfl (fun hok=>?_);have hs:xs.length≤big:=by have:=hok.1.1;rwa [Qab,bF] at this
 repeat refine ai ?_
 refine ⟨fun m l h=>∃i:Nat,m=xs.length - i∧i≤xs.length∧l=[(0,.d (aL (aE GateLedger.mark xs k).1)),(1,.d (.int .i64 (io GateLedger.mark xs k i))),(5,.d (.int .i64 i))]∧h=hp0,
  ⟨_,_,_,⟨0,rfl,Qad _,rfl,rfl⟩,rfl,rfl,⟨rfl,rfl,rfl,trivial⟩,trivial,trivial⟩,?_⟩
 rintro m l h1 ⟨i,rfl,hi,rfl,rfl⟩;refine aj ?_ ?_<;>intro h1
 ·have hlt:i<xs.length:=by
   have:=of_decide_eq_true h1;rw[Qab,bF] at this;omega
  have hK:=pW (l:=GateLedger.lv) GateLedger.mark_val GateLedger.lv_nn h0 hB hlt;have hstep:=cG (f:=GateLedger.mark) hlt k;have hix:∀{sz:Nat} {Kp:List D→Prop},(GateLedger.e (GateLedger.mark xs[i] (io GateLedger.mark xs k i)).1).length=sz→Kp (GateLedger.e (GateLedger.mark xs[i] (io GateLedger.mark xs k i)).1)→(0:Int)≤(i:Int)∧∃b,(((aE GateLedger.mark xs k).1).map GateLedger.e)[(i:Int).toNat]? =some b∧b.length=sz∧Kp b:=fun hs h=>wB hlt hs h;generalize io GateLedger.mark xs k i=K at*;simp only[GateLedger.lv] at hK;have s0:(wk K)=K+1:=aw (by omega) (by omega);have s1:(wk (wk K))=K+2:=by rw[s0,aw (by omega) (by omega)];try omega
  have s2:(wk (wk (wk K)))=K+3:=by rw[s1,aw (by omega) (by omega)];try omega
  have s3:(wk (wk (wk (wk K))))=K+4:=by rw[s2,aw (by omega) (by omega)];try omega
  repeat' first
   |refine ai ?_
   |refine hix rfl ?_
   |refine aj (show (3:Int)≠0 by decide) ?_
   |refine Or.inl (Qaa _ (aj (me _) ?_))
   |skip;fail
   |refine aj (fun h=>absurd h (by simp[GateLedger.mark,mi,mb,wk])) (fun _=>?_)
   |refine ak ?_
  exact ⟨_,_,_,⟨i+1,rfl,hlt,rfl,rfl⟩,by omega,rfl,rfl,⟨rfl,nd hstep,nd (aa hlt hs),trivial⟩,trivial,trivial⟩
 ·have hge:xs.length≤i:=by
   have:=of_decide_eq_false h1;rw[Qab,bF] at this;omega
  exact nd (dx hge)
set_option maxHeartbeats 8000000 in
theorem vB (xs:List GatePurse) (k:Int) (h0:0≤k) (hB:k+bQ GatePurse.lv xs≤1099511627776):Spec P 87 [.d (be (aE GatePurse.mark xs k).1),.d (.int .i64 k)] (.d (.int .i64 (aE GatePurse.mark xs k).2)):=by
 refine Spec.of_vc aO aA [.tmp 4] Tryz.func87 rfl rfl rfl rfl (fun hok=>?_);have hs:xs.length≤big:=by have:=hok.1.1;rwa [Qab,bF] at this
 repeat refine ai ?_
 refine ⟨fun m l h=>∃i:Nat,m=xs.length - i∧i≤xs.length∧l=[(0,.d (be (aE GatePurse.mark xs k).1)),(1,.d (.int .i64 (io GatePurse.mark xs k i))),(5,.d (.int .i64 i))]∧h=hp0,
  ⟨_,_,_,⟨0,rfl,Qad _,rfl,rfl⟩,rfl,rfl,⟨rfl,rfl,rfl,trivial⟩,trivial,trivial⟩,?_⟩
 rintro m l h1 ⟨i,rfl,hi,rfl,rfl⟩;refine aj ?_ ?_<;>intro h1
 ·have hlt:i<xs.length:=by
   have:=of_decide_eq_true h1;rw[Qab,bF] at this;omega
  have hK:=pW (l:=GatePurse.lv) GatePurse.mark_val GatePurse.lv_nn h0 hB hlt;have hstep:=cG (f:=GatePurse.mark) hlt k;have hix:∀{sz:Nat} {Kp:List D→Prop},(GatePurse.e (GatePurse.mark xs[i] (io GatePurse.mark xs k i)).1).length=sz→Kp (GatePurse.e (GatePurse.mark xs[i] (io GatePurse.mark xs k i)).1)→(0:Int)≤(i:Int)∧∃b,(((aE GatePurse.mark xs k).1).map GatePurse.e)[(i:Int).toNat]? =some b∧b.length=sz∧Kp b:=fun hs h=>wB hlt hs h;generalize io GatePurse.mark xs k i=K at*;simp only[GatePurse.lv] at hK;have s0:(wk K)=K+1:=aw (by omega) (by omega);have s1:(wk (wk K))=K+2:=by rw[s0,aw (by omega) (by omega)];try omega
  have s2:(wk (wk (wk K)))=K+3:=by rw[s1,aw (by omega) (by omega)];try omega
  have s3:(wk (wk (wk (wk K))))=K+4:=by rw[s2,aw (by omega) (by omega)];try omega
  have s4:(wk (wk (wk (wk (wk K)))))=K+5:=by rw[s3,aw (by omega) (by omega)];try omega
  repeat' first
   |refine ai ?_
   |refine hix rfl ?_
   |refine aj (show (3:Int)≠0 by decide) ?_
   |refine Or.inl (Qaa _ (aj (me _) ?_))
   |skip;fail
   |refine aj (fun h=>absurd h (by simp[GatePurse.mark,mi,mb,wk])) (fun _=>?_)
   |refine ak ?_
  exact ⟨_,_,_,⟨i+1,rfl,hlt,rfl,rfl⟩,by omega,rfl,rfl,⟨rfl,nd hstep,nd (aa hlt hs),trivial⟩,trivial,trivial⟩
 ·have hge:xs.length≤i:=by
   have:=of_decide_eq_false h1;rw[Qab,bF] at this;omega
  exact nd (dx hge)
set_option maxHeartbeats 8000000 in
theorem lF (x:GateBook) (k:Int) (h0:0≤k) (hB:k+(0+bQ GateObject.lv x.objects+bQ GateGrant.lv x.grants+bQ GateLedger.lv x.ledgers+bQ GatePurse.lv x.purses)≤1099511627776):Spec P 30 [st (GateBook.marks x k).1.e,.d (.int .i64 k)] (.d (.int .i64 (GateBook.marks x k).2)):=by
 refine Spec.of_vc aO aA [.tmp 4] Tryz.func30 rfl rfl rfl rfl (fun hok=>?_);have p0:=aQ GateObject.lv_nn x.objects;have p1:=aQ GateGrant.lv_nn x.grants;have p2:=aQ GateLedger.lv_nn x.ledgers;have p3:=aQ GatePurse.lv_nn x.purses;have s0:(aE GateObject.mark x.objects k).2=k+0+bQ GateObject.lv x.objects:=by rw[cv (l:=GateObject.lv) GateObject.mark_val GateObject.lv_nn x.objects _ (by omega) (by omega)];try omega
 have s1:(aE GateGrant.mark x.grants (aE GateObject.mark x.objects k).2).2=k+0+bQ GateObject.lv x.objects+bQ GateGrant.lv x.grants:=by rw[s0,cv (l:=GateGrant.lv) GateGrant.mark_val GateGrant.lv_nn x.grants _ (by omega) (by omega)];try omega
 have s2:(aE GateLedger.mark x.ledgers (aE GateGrant.mark x.grants (aE GateObject.mark x.objects k).2).2).2=k+0+bQ GateObject.lv x.objects+bQ GateGrant.lv x.grants+bQ GateLedger.lv x.ledgers:=by rw[s1,cv (l:=GateLedger.lv) GateLedger.mark_val GateLedger.lv_nn x.ledgers _ (by omega) (by omega)];try omega
 have s3:(aE GatePurse.mark x.purses (aE GateLedger.mark x.ledgers (aE GateGrant.mark x.grants (aE GateObject.mark x.objects k).2).2).2).2=k+0+bQ GateObject.lv x.objects+bQ GateGrant.lv x.grants+bQ GateLedger.lv x.ledgers+bQ GatePurse.lv x.purses:=by rw[s2,cv (l:=GatePurse.lv) GatePurse.mark_val GatePurse.lv_nn x.purses _ (by omega) (by omega)];try omega
 repeat' first
  |refine ai ?_
  |refine Or.inl (Qaa _ (aj (ub x.objects k (by omega) (by omega)) ?_))
  |refine aj (fun h=>absurd (of_decide_eq_true h) (by rw[s0];omega)) (fun _=>?_)
  |refine Or.inl (Qaa _ (aj (vC x.grants (aE GateObject.mark x.objects k).2 (by rw[s0];omega) (by rw[s0];omega)) ?_))
  |refine aj (fun h=>absurd (of_decide_eq_true h) (by rw[s1];omega)) (fun _=>?_)
  |refine Or.inl (Qaa _ (aj (uc x.ledgers (aE GateGrant.mark x.grants (aE GateObject.mark x.objects k).2).2 (by rw[s1];omega) (by rw[s1];omega)) ?_))
  |refine aj (fun h=>absurd (of_decide_eq_true h) (by rw[s2];omega)) (fun _=>?_)
  |refine Or.inl (Qaa _ (aj (vB x.purses (aE GateLedger.mark x.ledgers (aE GateGrant.mark x.grants (aE GateObject.mark x.objects k).2).2).2 (by rw[s2];omega) (by rw[s2];omega)) ?_))
  |refine aj (fun h=>absurd (of_decide_eq_true h) (by rw[s3];omega)) (fun _=>?_)
  |refine ak ?_
 all_goals exact rfl
end Go.Vc
end
section
namespace Go.Vc
open Go.Proofs
theorem aW {a:Int} {k:Int→Int} (h:0≤aP a k):0≤a∧aP a k=k a:=by
 unfold aP at h ⊢
 cases hd:decide (a<0) with
 |true=>rw[hd] at h;simp at h
 |false=>have:=of_decide_eq_false hd;exact ⟨by omega,rfl⟩
theorem bj {n:Int} {l:Nat} (h:n≤1048576) (hl:l≤big) (h0: -1≤n):IntKind.i64.wrap (n - (l:Int))=n - l:=by
 unfold big at hl;rw[IntKind.wrap_i64];omega
theorem FO {α:Type} {m:α→Int→Int} {el:α→Int} {ok:α→Prop} (hm:∀x n,ok x→0≤n→n≤1048576→0≤m x n→m x n+el x≤n) (he:∀x,0≤el x):∀(xs:List α) (n:Int),(∀x∈xs,ok x)→0≤n→n≤1048576→0≤iO m xs n→iO m xs n+fm el xs≤n+xs.length
 |[],n,_,_,_,_=>by simp[iO,fm]
 |x::xs,n,hx,h0,hn,h=>by
  simp only[iO] at h;obtain ⟨h1,h2⟩:=aW h;have h3:=hm x n (hx x (Qaw ..)) h0 hn h1;have h4:=he x;rw[h2] at h;have:=FO hm he xs (m x n) (fun y hy=>hx y (Qat _ hy)) h1 (by omega) h;simp only[iO,fm,Qah];rw[h2];omega
theorem jZ {α:Type} {e:α→List D} {m:α→Int→Int} {el:α→Int} {ok:α→Prop} (hm:∀x n,ok x→0≤n→n≤1048576→0≤m x n→m x n+el x≤n) (he:∀x,0≤el x) (xs:List α) (n:Int) (hl:xs.length≤big) (hx:∀x∈xs,ok x) (h0:0≤n) (hn:n≤1048576)
 (h:0≤aP (IntKind.i64.wrap (n - ((xs.map e).length:Int))) fun n=>iO m xs n):(aP (IntKind.i64.wrap (n - ((xs.map e).length:Int))) fun n=>iO m xs n)+fm el xs≤n:=by
 obtain ⟨h1,h2⟩:=aW h;rw[h2] at h ⊢;rw[Qab] at*;rw[bj hn hl (by omega)] at*;have:=FO hm he xs _ hx h1 (by omega) h;omega
theorem fa {α:Type} {e:α→List D} {xs:List α} (h:(D.list (xs.map e)).ok):xs.length≤big∧∀x∈xs,bP (e x):=by
 simp only[D.ok] at h;refine ⟨by have:=h.1;rwa [Qab] at this,fun x hx=>okRows_iff.1 h.2 _ (List.mem_map.2 ⟨x,hx,rfl⟩)⟩
theorem DQ:∀xs:List Int,fm Bv xs=xs.length
 |[]=>rfl
 |x::xs=>by simp only[fm,DQ xs,Bv,Qah];omega
theorem c7:∀{ds:List D},bP ds→∀d∈ds,d.ok
 |[],_,d,hd=>by cases hd
 |x::ds,h,d,hd=>by
  rcases List.mem_cons.1 hd with rfl|hd
  ·exact h.1
  ·exact c7 h.2 d hd
theorem Ag:∀{ds:List D},(∀d∈ds,d.ok)→bP ds
 |[],_=>trivial
 |x::ds,h=>⟨h x (Qaw ..),Ag fun d hd=>h d (Qat _ hd)⟩
theorem iG (xs:List Bs) (n:Int) (hx:(lS xs).ok) (h0:0≤n) (hn:n≤1048576) (h:0≤bh xs n):bh xs n+fm Bv xs≤n:=by
 obtain ⟨hl,hr⟩:=fa hx;refine jZ (ok:=fun s:Bs=>bP (eB s)) (fun s n hs h0 hn h=>?_) jp xs n hl hr h0 hn h;have hs:s.length≤big:=by simpa [eB,bP,D.ok] using hs
 rw[bj hn hs (by omega)] at*;simp only[Bv];omega
theorem zF (xs:List Int) (n:Int) (hx:(lI xs).ok) (h0:0≤n) (hn:n≤1048576) (h:0≤dU xs n):dU xs n+fm Bv xs≤n:=by
 obtain ⟨hl,_⟩:=fa hx;unfold dU at h ⊢;obtain ⟨h1,h2⟩:=aW h;rw[h2] at h ⊢;rw[Qab] at*;rw[bj hn hl (by omega)] at*;rw[DQ];omega
theorem pH (x:GateField) (n:Int) (hx:bP x.e) (h0:0≤n) (hn:n≤1048576) (h:0≤cN x n):cN x n+x.el≤n:=by
 have hx:=c7 hx;unfold cN at h ⊢;unfold GateField.el;obtain ⟨a0,e0⟩:=aW h;rw[e0] at h ⊢;have l0:x.name.length≤big:=hx (.str x.name) (by simp[GateField.e]);have b0:IntKind.i64.wrap (n - (x.name.length:Int))=n - x.name.length:=bj (by omega) l0 (by omega);obtain ⟨a1,e1⟩:=aW h;rw[e1] at h ⊢;have b1:=iG x.words (IntKind.i64.wrap (n - (x.name.length:Int))) (hx _ (by simp[GateField.e])) (by omega) (by omega) a1;have q1:=cr jp x.words;obtain ⟨a2,e2⟩:=aW h;rw[e2] at h ⊢;have l2:x.to_.length≤big:=hx (.str x.to_) (by simp[GateField.e]);have b2:IntKind.i64.wrap (bh x.words (IntKind.i64.wrap (n - (x.name.length:Int))) - (x.to_.length:Int))=bh x.words (IntKind.i64.wrap (n - (x.name.length:Int))) - x.to_.length:=bj (by omega) l2 (by omega);obtain ⟨a3,e3⟩:=aW h;rw[e3] at h ⊢;have l3:x.default_.length≤big:=hx (.str x.default_) (by simp[GateField.e]);have b3:IntKind.i64.wrap (IntKind.i64.wrap (bh x.words (IntKind.i64.wrap (n - (x.name.length:Int))) - (x.to_.length:Int)) - (x.default_.length:Int))=IntKind.i64.wrap (bh x.words (IntKind.i64.wrap (n - (x.name.length:Int))) - (x.to_.length:Int)) - x.default_.length:=bj (by omega) l3 (by omega);obtain ⟨a4,e4⟩:=aW h;rw[e4] at h ⊢;have l4:x.weighs.length≤big:=hx (.str x.weighs) (by simp[GateField.e]);have b4:IntKind.i64.wrap (IntKind.i64.wrap (IntKind.i64.wrap (bh x.words (IntKind.i64.wrap (n - (x.name.length:Int))) - (x.to_.length:Int)) - (x.default_.length:Int)) - (x.weighs.length:Int))=IntKind.i64.wrap (IntKind.i64.wrap (bh x.words (IntKind.i64.wrap (n - (x.name.length:Int))) - (x.to_.length:Int)) - (x.default_.length:Int)) - x.weighs.length:=bj (by omega) l4 (by omega);omega
theorem nQ (xs:List GateField) (n:Int) (hx:(ad xs).ok) (h0:0≤n) (hn:n≤1048576) (h:0≤ei xs n):ei xs n+fm GateField.el xs≤n:=by
 obtain ⟨hl,hr⟩:=fa hx;exact jZ (ok:=fun x:GateField=>bP x.e) pH GateField.el_nn xs n hl hr h0 hn h
theorem pD (x:GateShape) (n:Int) (hx:bP x.e) (h0:0≤n) (hn:n≤1048576) (h:0≤cK x n):cK x n+x.el≤n:=by
 have hx:=c7 hx;unfold cK at h ⊢;unfold GateShape.el;obtain ⟨a0,e0⟩:=aW h;rw[e0] at h ⊢;have l0:x.kind.length≤big:=hx (.str x.kind) (by simp[GateShape.e]);have b0:IntKind.i64.wrap (n - (x.kind.length:Int))=n - x.kind.length:=bj (by omega) l0 (by omega);obtain ⟨a1,e1⟩:=aW h;rw[e1] at h ⊢;have b1:=nQ x.fields (IntKind.i64.wrap (n - (x.kind.length:Int))) (hx _ (by simp[GateShape.e])) (by omega) (by omega) a1;have q1:=cr GateField.el_nn x.fields;omega
theorem nK (xs:List GateShape) (n:Int) (hx:(ab xs).ok) (h0:0≤n) (hn:n≤1048576) (h:0≤cQ xs n):cQ xs n+fm GateShape.el xs≤n:=by
 obtain ⟨hl,hr⟩:=fa hx;exact jZ (ok:=fun x:GateShape=>bP x.e) pD GateShape.el_nn xs n hl hr h0 hn h
theorem ra (x:GateMend) (n:Int) (hx:bP x.e) (h0:0≤n) (hn:n≤1048576) (h:0≤da x n):da x n+x.el≤n:=by
 have hx:=c7 hx;unfold da at h ⊢;unfold GateMend.el;obtain ⟨a0,e0⟩:=aW h;rw[e0] at h ⊢;have l0:x.kind.length≤big:=hx (.str x.kind) (by simp[GateMend.e]);have b0:IntKind.i64.wrap (n - (x.kind.length:Int))=n - x.kind.length:=bj (by omega) l0 (by omega);obtain ⟨a1,e1⟩:=aW h;rw[e1] at h ⊢;have l1:x.field.length≤big:=hx (.str x.field) (by simp[GateMend.e]);have b1:IntKind.i64.wrap (IntKind.i64.wrap (n - (x.kind.length:Int)) - (x.field.length:Int))=IntKind.i64.wrap (n - (x.kind.length:Int)) - x.field.length:=bj (by omega) l1 (by omega);obtain ⟨a2,e2⟩:=aW h;rw[e2] at h ⊢;have l2:x.when_.length≤big:=hx (.str x.when_) (by simp[GateMend.e]);have b2:IntKind.i64.wrap (IntKind.i64.wrap (IntKind.i64.wrap (n - (x.kind.length:Int)) - (x.field.length:Int)) - (x.when_.length:Int))=IntKind.i64.wrap (IntKind.i64.wrap (n - (x.kind.length:Int)) - (x.field.length:Int)) - x.when_.length:=bj (by omega) l2 (by omega);obtain ⟨a3,e3⟩:=aW h;rw[e3] at h ⊢;have l3:x.is_.length≤big:=hx (.str x.is_) (by simp[GateMend.e]);have b3:IntKind.i64.wrap (IntKind.i64.wrap (IntKind.i64.wrap (IntKind.i64.wrap (n - (x.kind.length:Int)) - (x.field.length:Int)) - (x.when_.length:Int)) - (x.is_.length:Int))=IntKind.i64.wrap (IntKind.i64.wrap (IntKind.i64.wrap (n - (x.kind.length:Int)) - (x.field.length:Int)) - (x.when_.length:Int)) - x.is_.length:=bj (by omega) l3 (by omega);obtain ⟨a4,e4⟩:=aW h;rw[e4] at h ⊢;have l4:x.put.length≤big:=hx (.str x.put) (by simp[GateMend.e]);have b4:IntKind.i64.wrap (IntKind.i64.wrap (IntKind.i64.wrap (IntKind.i64.wrap (IntKind.i64.wrap (n - (x.kind.length:Int)) - (x.field.length:Int)) - (x.when_.length:Int)) - (x.is_.length:Int)) - (x.put.length:Int))=IntKind.i64.wrap (IntKind.i64.wrap (IntKind.i64.wrap (IntKind.i64.wrap (n - (x.kind.length:Int)) - (x.field.length:Int)) - (x.when_.length:Int)) - (x.is_.length:Int)) - x.put.length:=bj (by omega) l4 (by omega);obtain ⟨a5,e5⟩:=aW h;rw[e5] at h ⊢;have l5:x.from_.length≤big:=hx (.str x.from_) (by simp[GateMend.e]);have b5:IntKind.i64.wrap (IntKind.i64.wrap (IntKind.i64.wrap (IntKind.i64.wrap (IntKind.i64.wrap (IntKind.i64.wrap (n - (x.kind.length:Int)) - (x.field.length:Int)) - (x.when_.length:Int)) - (x.is_.length:Int)) - (x.put.length:Int)) - (x.from_.length:Int))=IntKind.i64.wrap (IntKind.i64.wrap (IntKind.i64.wrap (IntKind.i64.wrap (IntKind.i64.wrap (n - (x.kind.length:Int)) - (x.field.length:Int)) - (x.when_.length:Int)) - (x.is_.length:Int)) - (x.put.length:Int)) - x.from_.length:=bj (by omega) l5 (by omega);omega
theorem pF (xs:List GateMend) (n:Int) (hx:(ap xs).ok) (h0:0≤n) (hn:n≤1048576) (h:0≤dZ xs n):dZ xs n+fm GateMend.el xs≤n:=by
 obtain ⟨hl,hr⟩:=fa hx;exact jZ (ok:=fun x:GateMend=>bP x.e) ra GateMend.el_nn xs n hl hr h0 hn h
theorem qZ (x:GateTeam) (n:Int) (hx:bP x.e) (h0:0≤n) (hn:n≤1048576) (h:0≤c9 x n):c9 x n+x.el≤n:=by
 have hx:=c7 hx;unfold c9 at h ⊢;unfold GateTeam.el;obtain ⟨a0,e0⟩:=aW h;rw[e0] at h ⊢;have l0:x.name.length≤big:=hx (.str x.name) (by simp[GateTeam.e]);have b0:IntKind.i64.wrap (n - (x.name.length:Int))=n - x.name.length:=bj (by omega) l0 (by omega);obtain ⟨a1,e1⟩:=aW h;rw[e1] at h ⊢;have l1:x.over.length≤big:=hx (.str x.over) (by simp[GateTeam.e]);have b1:IntKind.i64.wrap (IntKind.i64.wrap (n - (x.name.length:Int)) - (x.over.length:Int))=IntKind.i64.wrap (n - (x.name.length:Int)) - x.over.length:=bj (by omega) l1 (by omega);omega
theorem pC (xs:List GateTeam) (n:Int) (hx:(ar xs).ok) (h0:0≤n) (hn:n≤1048576) (h:0≤e8 xs n):e8 xs n+fm GateTeam.el xs≤n:=by
 obtain ⟨hl,hr⟩:=fa hx;exact jZ (ok:=fun x:GateTeam=>bP x.e) qZ GateTeam.el_nn xs n hl hr h0 hn h
theorem sL (x:GateLaw) (n:Int) (hx:bP x.e) (h0:0≤n) (hn:n≤1048576) (h:0≤fB x n):fB x n+x.el≤n:=by
 have hx:=c7 hx;unfold fB at h ⊢;unfold GateLaw.el;obtain ⟨a0,e0⟩:=aW h;rw[e0] at h ⊢;have b0:=nK x.shapes (n) (hx _ (by simp[GateLaw.e])) (by omega) (by omega) a0;have q0:=cr GateShape.el_nn x.shapes;obtain ⟨a1,e1⟩:=aW h;rw[e1] at h ⊢;have b1:=pF x.mends (cQ x.shapes (n)) (hx _ (by simp[GateLaw.e])) (by omega) (by omega) a1;have q1:=cr GateMend.el_nn x.mends;obtain ⟨a2,e2⟩:=aW h;rw[e2] at h ⊢;have b2:=pC x.teams (dZ x.mends (cQ x.shapes (n))) (hx _ (by simp[GateLaw.e])) (by omega) (by omega) a2;have q2:=cr GateTeam.el_nn x.teams;omega
theorem nM (x:GateObject) (n:Int) (hx:bP x.e) (h0:0≤n) (hn:n≤1048576) (h:0≤cx x n):cx x n+x.el≤n:=by
 have hx:=c7 hx;unfold cx at h ⊢;unfold GateObject.el;obtain ⟨a0,e0⟩:=aW h;rw[e0] at h ⊢;have l0:x.kind.length≤big:=hx (.str x.kind) (by simp[GateObject.e]);have b0:IntKind.i64.wrap (n - (x.kind.length:Int))=n - x.kind.length:=bj (by omega) l0 (by omega);obtain ⟨a1,e1⟩:=aW h;rw[e1] at h ⊢;have l1:x.name.length≤big:=hx (.str x.name) (by simp[GateObject.e]);have b1:IntKind.i64.wrap (IntKind.i64.wrap (n - (x.kind.length:Int)) - (x.name.length:Int))=IntKind.i64.wrap (n - (x.kind.length:Int)) - x.name.length:=bj (by omega) l1 (by omega);obtain ⟨a2,e2⟩:=aW h;rw[e2] at h ⊢;have l2:x.team.length≤big:=hx (.str x.team) (by simp[GateObject.e]);have b2:IntKind.i64.wrap (IntKind.i64.wrap (IntKind.i64.wrap (n - (x.kind.length:Int)) - (x.name.length:Int)) - (x.team.length:Int))=IntKind.i64.wrap (IntKind.i64.wrap (n - (x.kind.length:Int)) - (x.name.length:Int)) - x.team.length:=bj (by omega) l2 (by omega);obtain ⟨a3,e3⟩:=aW h;rw[e3] at h ⊢;have b3:=iG x.values (IntKind.i64.wrap (IntKind.i64.wrap (IntKind.i64.wrap (n - (x.kind.length:Int)) - (x.name.length:Int)) - (x.team.length:Int))) (hx _ (by simp[GateObject.e])) (by omega) (by omega) a3;have q3:=cr jp x.values;obtain ⟨a4,e4⟩:=aW h;rw[e4] at h ⊢;have b4:=iG x.holds (bh x.values (IntKind.i64.wrap (IntKind.i64.wrap (IntKind.i64.wrap (n - (x.kind.length:Int)) - (x.name.length:Int)) - (x.team.length:Int)))) (hx _ (by simp[GateObject.e])) (by omega) (by omega) a4;have q4:=cr jp x.holds;omega
theorem mS (xs:List GateObject) (n:Int) (hx:(aC xs).ok) (h0:0≤n) (hn:n≤1048576) (h:0≤cg xs n):cg xs n+fm GateObject.el xs≤n:=by
 obtain ⟨hl,hr⟩:=fa hx;exact jZ (ok:=fun x:GateObject=>bP x.e) nM GateObject.el_nn xs n hl hr h0 hn h
theorem q9 (x:GateRule) (n:Int) (hx:bP x.e) (h0:0≤n) (hn:n≤1048576) (h:0≤eJ x n):eJ x n+x.el≤n:=by
 have hx:=c7 hx;unfold eJ at h ⊢;unfold GateRule.el;obtain ⟨a0,e0⟩:=aW h;rw[e0] at h ⊢;have b0:=zF x.verbs (n) (hx _ (by simp[GateRule.e])) (by omega) (by omega) a0;have q0:=cr jp x.verbs;obtain ⟨a1,e1⟩:=aW h;rw[e1] at h ⊢;have l1:x.kind.length≤big:=hx (.str x.kind) (by simp[GateRule.e]);have b1:IntKind.i64.wrap (dU x.verbs (n) - (x.kind.length:Int))=dU x.verbs (n) - x.kind.length:=bj (by omega) l1 (by omega);obtain ⟨a2,e2⟩:=aW h;rw[e2] at h ⊢;have l2:x.team.length≤big:=hx (.str x.team) (by simp[GateRule.e]);have b2:IntKind.i64.wrap (IntKind.i64.wrap (dU x.verbs (n) - (x.kind.length:Int)) - (x.team.length:Int))=IntKind.i64.wrap (dU x.verbs (n) - (x.kind.length:Int)) - x.team.length:=bj (by omega) l2 (by omega);obtain ⟨a3,e3⟩:=aW h;rw[e3] at h ⊢;have l3:x.prefix_.length≤big:=hx (.str x.prefix_) (by simp[GateRule.e]);have b3:IntKind.i64.wrap (IntKind.i64.wrap (IntKind.i64.wrap (dU x.verbs (n) - (x.kind.length:Int)) - (x.team.length:Int)) - (x.prefix_.length:Int))=IntKind.i64.wrap (IntKind.i64.wrap (dU x.verbs (n) - (x.kind.length:Int)) - (x.team.length:Int)) - x.prefix_.length:=bj (by omega) l3 (by omega);omega
theorem pG (x:GateGrant) (n:Int) (hx:bP x.e) (h0:0≤n) (hn:n≤1048576) (h:0≤cM x n):cM x n+x.el≤n:=by
 have hx:=c7 hx;unfold cM at h ⊢;unfold GateGrant.el;obtain ⟨a0,e0⟩:=aW h;rw[e0] at h ⊢;have l0:x.to_.length≤big:=hx (.str x.to_) (by simp[GateGrant.e]);have b0:IntKind.i64.wrap (n - (x.to_.length:Int))=n - x.to_.length:=bj (by omega) l0 (by omega);obtain ⟨a1,e1⟩:=aW h;rw[e1] at h ⊢;have l1:x.by_.length≤big:=hx (.str x.by_) (by simp[GateGrant.e]);have b1:IntKind.i64.wrap (IntKind.i64.wrap (n - (x.to_.length:Int)) - (x.by_.length:Int))=IntKind.i64.wrap (n - (x.to_.length:Int)) - x.by_.length:=bj (by omega) l1 (by omega);obtain ⟨a2,e2⟩:=aW h;rw[e2] at h ⊢;have b2:=q9 x.rule (IntKind.i64.wrap (IntKind.i64.wrap (n - (x.to_.length:Int)) - (x.by_.length:Int))) (Ag fun d hd=>hx d (by simp[GateGrant.e,GateRule.e] at hd ⊢;simp[hd])) (by omega) (by omega) a2;have q2:=GateRule.el_nn x.rule;unfold GateRule.el at b2 q2;omega
theorem nP (xs:List GateGrant) (n:Int) (hx:(bf xs).ok) (h0:0≤n) (hn:n≤1048576) (h:0≤cR xs n):cR xs n+fm GateGrant.el xs≤n:=by
 obtain ⟨hl,hr⟩:=fa hx;exact jZ (ok:=fun x:GateGrant=>bP x.e) pG GateGrant.el_nn xs n hl hr h0 hn h
theorem nO (x:GateLedger) (n:Int) (hx:bP x.e) (h0:0≤n) (hn:n≤1048576) (h:0≤cy x n):cy x n+x.el≤n:=by
 have hx:=c7 hx;unfold cy at h ⊢;unfold GateLedger.el;obtain ⟨a0,e0⟩:=aW h;rw[e0] at h ⊢;have l0:x.team.length≤big:=hx (.str x.team) (by simp[GateLedger.e]);have b0:IntKind.i64.wrap (n - (x.team.length:Int))=n - x.team.length:=bj (by omega) l0 (by omega);obtain ⟨a1,e1⟩:=aW h;rw[e1] at h ⊢;have l1:x.resource.length≤big:=hx (.str x.resource) (by simp[GateLedger.e]);have b1:IntKind.i64.wrap (IntKind.i64.wrap (n - (x.team.length:Int)) - (x.resource.length:Int))=IntKind.i64.wrap (n - (x.team.length:Int)) - x.resource.length:=bj (by omega) l1 (by omega);omega
theorem mT (xs:List GateLedger) (n:Int) (hx:(aL xs).ok) (h0:0≤n) (hn:n≤1048576) (h:0≤c6 xs n):c6 xs n+fm GateLedger.el xs≤n:=by
 obtain ⟨hl,hr⟩:=fa hx;exact jZ (ok:=fun x:GateLedger=>bP x.e) nO GateLedger.el_nn xs n hl hr h0 hn h
theorem pE (x:GatePurse) (n:Int) (hx:bP x.e) (h0:0≤n) (hn:n≤1048576) (h:0≤cL x n):cL x n+x.el≤n:=by
 have hx:=c7 hx;unfold cL at h ⊢;unfold GatePurse.el;obtain ⟨a0,e0⟩:=aW h;rw[e0] at h ⊢;have l0:x.door.length≤big:=hx (.str x.door) (by simp[GatePurse.e]);have b0:IntKind.i64.wrap (n - (x.door.length:Int))=n - x.door.length:=bj (by omega) l0 (by omega);obtain ⟨a1,e1⟩:=aW h;rw[e1] at h ⊢;have l1:x.team.length≤big:=hx (.str x.team) (by simp[GatePurse.e]);have b1:IntKind.i64.wrap (IntKind.i64.wrap (n - (x.door.length:Int)) - (x.team.length:Int))=IntKind.i64.wrap (n - (x.door.length:Int)) - x.team.length:=bj (by omega) l1 (by omega);obtain ⟨a2,e2⟩:=aW h;rw[e2] at h ⊢;have l2:x.resource.length≤big:=hx (.str x.resource) (by simp[GatePurse.e]);have b2:IntKind.i64.wrap (IntKind.i64.wrap (IntKind.i64.wrap (n - (x.door.length:Int)) - (x.team.length:Int)) - (x.resource.length:Int))=IntKind.i64.wrap (IntKind.i64.wrap (n - (x.door.length:Int)) - (x.team.length:Int)) - x.resource.length:=bj (by omega) l2 (by omega);omega
theorem nL (xs:List GatePurse) (n:Int) (hx:(be xs).ok) (h0:0≤n) (hn:n≤1048576) (h:0≤eg xs n):eg xs n+fm GatePurse.el xs≤n:=by
 obtain ⟨hl,hr⟩:=fa hx;exact jZ (ok:=fun x:GatePurse=>bP x.e) pE GatePurse.el_nn xs n hl hr h0 hn h
theorem rc (x:GateBook) (n:Int) (hx:bP x.e) (h0:0≤n) (hn:n≤1048576) (h:0≤fM x n):fM x n+x.el≤n:=by
 have hx:=c7 hx;unfold fM at h ⊢;unfold GateBook.el;obtain ⟨a0,e0⟩:=aW h;rw[e0] at h ⊢;have b0:=mS x.objects (n) (hx _ (by simp[GateBook.e])) (by omega) (by omega) a0;have q0:=cr GateObject.el_nn x.objects;obtain ⟨a1,e1⟩:=aW h;rw[e1] at h ⊢;have b1:=nP x.grants (cg x.objects (n)) (hx _ (by simp[GateBook.e])) (by omega) (by omega) a1;have q1:=cr GateGrant.el_nn x.grants;obtain ⟨a2,e2⟩:=aW h;rw[e2] at h ⊢;have b2:=mT x.ledgers (cR x.grants (cg x.objects (n))) (hx _ (by simp[GateBook.e])) (by omega) (by omega) a2;have q2:=cr GateLedger.el_nn x.ledgers;obtain ⟨a3,e3⟩:=aW h;rw[e3] at h ⊢;have b3:=nL x.purses (c6 x.ledgers (cR x.grants (cg x.objects (n)))) (hx _ (by simp[GateBook.e])) (by omega) (by omega) a3;have q3:=cr GatePurse.el_nn x.purses;omega
end Go.Vc
end
section
namespace Go.Vc
open Go.Proofs
theorem GateLaw.marks_le (x:GateLaw) (k:Int) (h0:0≤k) (hB:k+x.lv≤1099511627776):k≤(GateLaw.marks x k).2∧(GateLaw.marks x k).2≤k+x.lv:=by
 have p0:=aQ GateShape.lv_nn x.shapes;have p1:=aQ GateMend.lv_nn x.mends;have p2:=aQ GateTeam.lv_nn x.teams;unfold GateLaw.lv at*;have:=GateLaw.marks_val x k h0 (by omega);omega
theorem GateBook.marks_le (x:GateBook) (k:Int) (h0:0≤k) (hB:k+x.lv≤1099511627776):k≤(GateBook.marks x k).2∧(GateBook.marks x k).2≤k+x.lv:=by
 have p0:=aQ GateObject.lv_nn x.objects;have p1:=aQ GateGrant.lv_nn x.grants;have p2:=aQ GateLedger.lv_nn x.ledgers;have p3:=aQ GatePurse.lv_nn x.purses;unfold GateBook.lv at*;have:=GateBook.marks_val x k h0 (by omega);omega
end Go.Vc
end
section
namespace Go.Vc
theorem IB {ds:List D} (h:AV.ok (st ds)):bP ds:=by
 unfold st at h;simp only[AV.ok] at h
 induction ds with
 |nil=>exact trivial
 |cons d ds ih=>exact ⟨h.1,ih h.2⟩
end Go.Vc
end
section
namespace Go.Vc
theorem jN {α:Type} {f:α→Int} (h:∀x,f x=0):∀xs:List α,fm f xs=xs.length
 |[]=>rfl
 |x::xs=>by simp only[fm,h x,jN h xs,Qah];omega
theorem Lz (b:GateBook):b.el=fm GateObject.el b.objects+fm GateGrant.el b.grants+b.ledgers.length+b.purses.length:=by
 unfold GateBook.el;rw[jN (f:=GateLedger.el) (fun _=>rfl),jN (f:=GatePurse.el) (fun _=>rfl)];omega
theorem Gt (b:GateBook):nilBk.el≤b.el:=by
 have:=b.el_nn;exact this
end Go.Vc
end
section
namespace Go.Vc
open Go.Proofs
set_option maxRecDepth 100000
section
variable {A:Type} {σ:Env} {h:Heap} {c:vK} {Q:Exit→Env→Heap→Prop}
def D1 (J:Nat→A→Prop) (f:Nat→A→List (Nat×AV)) (g:Nat→A→Heap) (m:Nat) (l:List (Nat×AV)) (h:Heap):Prop:=∃a,J m a∧l=f m a∧h=g m a
theorem LN (n:Nat) (J:Nat→A→Prop) (f:Nat→A→List (Nat×AV)) (g:Nat→A→Heap) (a:A) (j:J n a) (H:∀m a,J m a→c (Env.of (f m a)) (g m a) (sY (D1 J f g) m Q))
 (w:fZ σ h (f n a) (g n a)):mO c σ h Q:=
 ⟨D1 J f g,⟨_,_,_,⟨a,j,rfl,rfl⟩,w⟩,fun _ _ _ ⟨a,hj,el,eh⟩=>by subst el eh;exact H _ a hj⟩
theorem LK {J:Nat→A→Prop} {f:Nat→A→List (Nat×AV)} {g:Nat→A→Heap} {m m':Nat} (a:A) (ht:m'<m) (j:J m' a) (w:fZ σ h (f m' a) (g m' a)):∃k' l' h'',D1 J f g k' l' h''∧k'<m∧fZ σ h l' h'':=
 ⟨m',_,_,⟨a,j,rfl,rfl⟩,ht,w⟩
end
def pm (m:Nat):Int:=(m:Int) - 1
theorem KN (m:Nat):pm (m+1)=(m:Int):=by unfold pm;omega
def Iy:Nat→GateBook→GateBook
 |0,b=>b
 |m+1,b=>Iy m (bif (match b.purses[m]? with|some p=>decide (p.until_<b.tick)|none=>false) then IP b m else b)
def Ls (L:GateLaw) (b:GateBook):GateBook×Int:=bif eW L b then (bif b.tick==1000000 then (b,2) else (Iy b.purses.length {b with tick:=bR b.tick 1},0)) else (nilBk,1)
end Go.Vc
end
