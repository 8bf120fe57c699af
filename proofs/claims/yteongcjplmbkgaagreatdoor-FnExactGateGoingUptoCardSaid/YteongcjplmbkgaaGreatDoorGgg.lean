/- Part 7 of a proof: What the marks are, printed by genlaws.py: the marked data, how many marks. Contracts of the laws' own mark.. and held.. functions, printed by genlaws.py. What a size that is not below zero tells, printed by genlaws.py. How far marks go, printed by genlaws.py. Helpers of the laws that mark. -/
import Derived.Test.YteongcjplmbkgaaGreatDoorGga
import Derived.Test.YteongcjplmbkgaaGreatDoorGgb
import Derived.Test.YteongcjplmbkgaaGreatDoorGgc
import Derived.Test.YteongcjplmbkgaaGreatDoorGgd
import Derived.Test.YteongcjplmbkgaaGreatDoorGge
import Derived.Test.YteongcjplmbkgaaGreatDoorGgf
set_option linter.unusedVariables false
set_option linter.unusedSimpArgs false
section
namespace Go.Vc
open Go.Proofs
noncomputable def GateField.mark (x:GateField) (k:Int):GateField×Int:=(⟨(mt k),(mi (wk k)),(mi (wk (wk k))),(mi (wk (wk (wk k)))),(aK gO x.words (wk (wk (wk (wk k))))).1,(mt (aK gO x.words (wk (wk (wk (wk k))))).2),(mi (wk (aK gO x.words (wk (wk (wk (wk k))))).2)),(mb (wk (wk (aK gO x.words (wk (wk (wk (wk k))))).2))),(mb (wk (wk (wk (aK gO x.words (wk (wk (wk (wk k))))).2)))),(mt (wk (wk (wk (wk (aK gO x.words (wk (wk (wk (wk k))))).2))))),(mt (wk (wk (wk (wk (wk (aK gO x.words (wk (wk (wk (wk k))))).2))))))⟩,(wk (wk (wk (wk (wk (wk (aK gO x.words (wk (wk (wk (wk k))))).2)))))))
noncomputable def GateField.marks (x:GateField) (k:Int):GateField×Int:=(⟨x.name,x.kind,x.least,x.most,(aK gO x.words k).1,x.to_,x.role,x.must,x.fixed,x.default_,x.weighs⟩,(aK gO x.words k).2)
def GateField.lv (x:GateField):Int:=10+cC gA x.words
def GateField.el (x:GateField):Int:=0+jA AU x.words
theorem GateField.lv_nn (x:GateField):0≤x.lv:=by
 have p0:=aZ d7 x.words
 unfold GateField.lv;omega
theorem GateField.el_nn (x:GateField):0≤x.el:=by
 have p0:=bG ik x.words
 unfold GateField.el;omega
theorem GateField.lv_le (x:GateField):x.lv≤32+32*x.el:=by
 have p0:=fA vP x.words
 unfold GateField.lv GateField.el;omega
theorem GateField.mark_val (x:GateField) (k:Int) (h0:0≤k) (hB:k+(10+cC gA x.words)≤1099511627776):(GateField.mark x k).2=k+(10+cC gA x.words):=by
 have p0:=aZ d7 x.words
 have s0:(wk k)=k+1:=aQ (by omega) (by omega)
 have s1:(wk (wk k))=k+2:=by rw[s0,aQ (by omega) (by omega)];try omega
 have s2:(wk (wk (wk k)))=k+3:=by rw[s1,aQ (by omega) (by omega)];try omega
 have s3:(wk (wk (wk (wk k))))=k+4:=by rw[s2,aQ (by omega) (by omega)];try omega
 have s4:(aK gO x.words (wk (wk (wk (wk k))))).2=k+4+cC gA x.words:=by rw[s3,dj (l:=gA) vN d7 x.words _ (by omega) (by omega)];try omega
 have s5:(wk (aK gO x.words (wk (wk (wk (wk k))))).2)=k+5+cC gA x.words:=by rw[s4,aQ (by omega) (by omega)];try omega
 have s6:(wk (wk (aK gO x.words (wk (wk (wk (wk k))))).2))=k+6+cC gA x.words:=by rw[s5,aQ (by omega) (by omega)];try omega
 have s7:(wk (wk (wk (aK gO x.words (wk (wk (wk (wk k))))).2)))=k+7+cC gA x.words:=by rw[s6,aQ (by omega) (by omega)];try omega
 have s8:(wk (wk (wk (wk (aK gO x.words (wk (wk (wk (wk k))))).2))))=k+8+cC gA x.words:=by rw[s7,aQ (by omega) (by omega)];try omega
 have s9:(wk (wk (wk (wk (wk (aK gO x.words (wk (wk (wk (wk k))))).2)))))=k+9+cC gA x.words:=by rw[s8,aQ (by omega) (by omega)];try omega
 have s10:(wk (wk (wk (wk (wk (wk (aK gO x.words (wk (wk (wk (wk k))))).2))))))=k+10+cC gA x.words:=by rw[s9,aQ (by omega) (by omega)];try omega
 show (wk (wk (wk (wk (wk (wk (aK gO x.words (wk (wk (wk (wk k))))).2))))))=_
 rw[s10];try omega
noncomputable def GateShape.mark (x:GateShape) (k:Int):GateShape×Int:=(⟨(mt k),(aK GateField.mark x.fields (wk k)).1⟩,(aK GateField.mark x.fields (wk k)).2)
noncomputable def GateShape.marks (x:GateShape) (k:Int):GateShape×Int:=(⟨x.kind,(aK GateField.mark x.fields k).1⟩,(aK GateField.mark x.fields k).2)
def GateShape.lv (x:GateShape):Int:=1+cC GateField.lv x.fields
def GateShape.el (x:GateShape):Int:=0+jA GateField.el x.fields
theorem GateShape.lv_nn (x:GateShape):0≤x.lv:=by
 have p0:=aZ GateField.lv_nn x.fields
 unfold GateShape.lv;omega
theorem GateShape.el_nn (x:GateShape):0≤x.el:=by
 have p0:=bG GateField.el_nn x.fields
 unfold GateShape.el;omega
theorem GateShape.lv_le (x:GateShape):x.lv≤32+32*x.el:=by
 have p0:=fA GateField.lv_le x.fields
 unfold GateShape.lv GateShape.el;omega
theorem GateShape.mark_val (x:GateShape) (k:Int) (h0:0≤k) (hB:k+(1+cC GateField.lv x.fields)≤1099511627776):(GateShape.mark x k).2=k+(1+cC GateField.lv x.fields):=by
 have p0:=aZ GateField.lv_nn x.fields
 have s0:(wk k)=k+1:=aQ (by omega) (by omega)
 have s1:(aK GateField.mark x.fields (wk k)).2=k+1+cC GateField.lv x.fields:=by rw[s0,dj (l:=GateField.lv) GateField.mark_val GateField.lv_nn x.fields _ (by omega) (by omega)];try omega
 show (aK GateField.mark x.fields (wk k)).2=_
 rw[s1];try omega
noncomputable def GateMend.mark (x:GateMend) (k:Int):GateMend×Int:=(⟨(mt k),(mt (wk k)),(mt (wk (wk k))),(mt (wk (wk (wk k)))),(mt (wk (wk (wk (wk k))))),(mt (wk (wk (wk (wk (wk k))))))⟩,(wk (wk (wk (wk (wk (wk k)))))))
noncomputable def GateMend.marks (x:GateMend) (k:Int):GateMend×Int:=(⟨x.kind,x.field,x.when_,x.is_,x.put,x.from_⟩,k)
def GateMend.lv (x:GateMend):Int:=6
def GateMend.el (x:GateMend):Int:=0
theorem GateMend.lv_nn (x:GateMend):0≤x.lv:=by
 unfold GateMend.lv;omega
theorem GateMend.el_nn (x:GateMend):0≤x.el:=by
 unfold GateMend.el;omega
theorem GateMend.lv_le (x:GateMend):x.lv≤32+32*x.el:=by
 unfold GateMend.lv GateMend.el;omega
theorem GateMend.mark_val (x:GateMend) (k:Int) (h0:0≤k) (hB:k+(6)≤1099511627776):(GateMend.mark x k).2=k+(6):=by
 have s0:(wk k)=k+1:=aQ (by omega) (by omega)
 have s1:(wk (wk k))=k+2:=by rw[s0,aQ (by omega) (by omega)];try omega
 have s2:(wk (wk (wk k)))=k+3:=by rw[s1,aQ (by omega) (by omega)];try omega
 have s3:(wk (wk (wk (wk k))))=k+4:=by rw[s2,aQ (by omega) (by omega)];try omega
 have s4:(wk (wk (wk (wk (wk k)))))=k+5:=by rw[s3,aQ (by omega) (by omega)];try omega
 have s5:(wk (wk (wk (wk (wk (wk k))))))=k+6:=by rw[s4,aQ (by omega) (by omega)];try omega
 show (wk (wk (wk (wk (wk (wk k))))))=_
 rw[s5];try omega
noncomputable def GateTeam.mark (x:GateTeam) (k:Int):GateTeam×Int:=(⟨(mt k),(mt (wk k))⟩,(wk (wk k)))
noncomputable def GateTeam.marks (x:GateTeam) (k:Int):GateTeam×Int:=(⟨x.name,x.over⟩,k)
def GateTeam.lv (x:GateTeam):Int:=2
def GateTeam.el (x:GateTeam):Int:=0
theorem GateTeam.lv_nn (x:GateTeam):0≤x.lv:=by
 unfold GateTeam.lv;omega
theorem GateTeam.el_nn (x:GateTeam):0≤x.el:=by
 unfold GateTeam.el;omega
theorem GateTeam.lv_le (x:GateTeam):x.lv≤32+32*x.el:=by
 unfold GateTeam.lv GateTeam.el;omega
theorem GateTeam.mark_val (x:GateTeam) (k:Int) (h0:0≤k) (hB:k+(2)≤1099511627776):(GateTeam.mark x k).2=k+(2):=by
 have s0:(wk k)=k+1:=aQ (by omega) (by omega)
 have s1:(wk (wk k))=k+2:=by rw[s0,aQ (by omega) (by omega)];try omega
 show (wk (wk k))=_
 rw[s1];try omega
noncomputable def GateLaw.mark (x:GateLaw) (k:Int):GateLaw×Int:=(⟨(aK GateShape.mark x.shapes k).1,(aK GateMend.mark x.mends (aK GateShape.mark x.shapes k).2).1,(aK GateTeam.mark x.teams (aK GateMend.mark x.mends (aK GateShape.mark x.shapes k).2).2).1⟩,(aK GateTeam.mark x.teams (aK GateMend.mark x.mends (aK GateShape.mark x.shapes k).2).2).2)
noncomputable def GateLaw.marks (x:GateLaw) (k:Int):GateLaw×Int:=(⟨(aK GateShape.mark x.shapes k).1,(aK GateMend.mark x.mends (aK GateShape.mark x.shapes k).2).1,(aK GateTeam.mark x.teams (aK GateMend.mark x.mends (aK GateShape.mark x.shapes k).2).2).1⟩,(aK GateTeam.mark x.teams (aK GateMend.mark x.mends (aK GateShape.mark x.shapes k).2).2).2)
def GateLaw.lv (x:GateLaw):Int:=0+cC GateShape.lv x.shapes+cC GateMend.lv x.mends+cC GateTeam.lv x.teams
def GateLaw.el (x:GateLaw):Int:=0+jA GateShape.el x.shapes+jA GateMend.el x.mends+jA GateTeam.el x.teams
theorem GateLaw.lv_nn (x:GateLaw):0≤x.lv:=by
 have p0:=aZ GateShape.lv_nn x.shapes
 have p1:=aZ GateMend.lv_nn x.mends
 have p2:=aZ GateTeam.lv_nn x.teams
 unfold GateLaw.lv;omega
theorem GateLaw.el_nn (x:GateLaw):0≤x.el:=by
 have p0:=bG GateShape.el_nn x.shapes
 have p1:=bG GateMend.el_nn x.mends
 have p2:=bG GateTeam.el_nn x.teams
 unfold GateLaw.el;omega
theorem GateLaw.lv_le (x:GateLaw):x.lv≤32+32*x.el:=by
 have p0:=fA GateShape.lv_le x.shapes
 have p1:=fA GateMend.lv_le x.mends
 have p2:=fA GateTeam.lv_le x.teams
 unfold GateLaw.lv GateLaw.el;omega
theorem GateLaw.marks_val (x:GateLaw) (k:Int) (h0:0≤k) (hB:k+(0+cC GateShape.lv x.shapes+cC GateMend.lv x.mends+cC GateTeam.lv x.teams)≤1099511627776):(GateLaw.marks x k).2=k+(0+cC GateShape.lv x.shapes+cC GateMend.lv x.mends+cC GateTeam.lv x.teams):=by
 have p0:=aZ GateShape.lv_nn x.shapes
 have p1:=aZ GateMend.lv_nn x.mends
 have p2:=aZ GateTeam.lv_nn x.teams
 have s0:(aK GateShape.mark x.shapes k).2=k+0+cC GateShape.lv x.shapes:=by rw[dj (l:=GateShape.lv) GateShape.mark_val GateShape.lv_nn x.shapes _ (by omega) (by omega)];try omega
 have s1:(aK GateMend.mark x.mends (aK GateShape.mark x.shapes k).2).2=k+0+cC GateShape.lv x.shapes+cC GateMend.lv x.mends:=by rw[s0,dj (l:=GateMend.lv) GateMend.mark_val GateMend.lv_nn x.mends _ (by omega) (by omega)];try omega
 have s2:(aK GateTeam.mark x.teams (aK GateMend.mark x.mends (aK GateShape.mark x.shapes k).2).2).2=k+0+cC GateShape.lv x.shapes+cC GateMend.lv x.mends+cC GateTeam.lv x.teams:=by rw[s1,dj (l:=GateTeam.lv) GateTeam.mark_val GateTeam.lv_nn x.teams _ (by omega) (by omega)];try omega
 show (aK GateTeam.mark x.teams (aK GateMend.mark x.mends (aK GateShape.mark x.shapes k).2).2).2=_
 rw[s2];try omega
noncomputable def GateObject.mark (x:GateObject) (k:Int):GateObject×Int:=(⟨(mt k),(mt (wk k)),(mt (wk (wk k))),(aK gO x.values (wk (wk (wk k)))).1,(mb (aK gO x.values (wk (wk (wk k)))).2),(aK gO x.holds (wk (aK gO x.values (wk (wk (wk k)))).2)).1,(mi (aK gO x.holds (wk (aK gO x.values (wk (wk (wk k)))).2)).2)⟩,(wk (aK gO x.holds (wk (aK gO x.values (wk (wk (wk k)))).2)).2))
noncomputable def GateObject.marks (x:GateObject) (k:Int):GateObject×Int:=(⟨x.kind,x.name,x.team,(aK gO x.values k).1,x.ending,(aK gO x.holds (aK gO x.values k).2).1,x.version⟩,(aK gO x.holds (aK gO x.values k).2).2)
def GateObject.lv (x:GateObject):Int:=5+cC gA x.values+cC gA x.holds
def GateObject.el (x:GateObject):Int:=0+jA AU x.values+jA AU x.holds
theorem GateObject.lv_nn (x:GateObject):0≤x.lv:=by
 have p0:=aZ d7 x.values
 have p1:=aZ d7 x.holds
 unfold GateObject.lv;omega
theorem GateObject.el_nn (x:GateObject):0≤x.el:=by
 have p0:=bG ik x.values
 have p1:=bG ik x.holds
 unfold GateObject.el;omega
theorem GateObject.lv_le (x:GateObject):x.lv≤32+32*x.el:=by
 have p0:=fA vP x.values
 have p1:=fA vP x.holds
 unfold GateObject.lv GateObject.el;omega
theorem GateObject.mark_val (x:GateObject) (k:Int) (h0:0≤k) (hB:k+(5+cC gA x.values+cC gA x.holds)≤1099511627776):(GateObject.mark x k).2=k+(5+cC gA x.values+cC gA x.holds):=by
 have p0:=aZ d7 x.values
 have p1:=aZ d7 x.holds
 have s0:(wk k)=k+1:=aQ (by omega) (by omega)
 have s1:(wk (wk k))=k+2:=by rw[s0,aQ (by omega) (by omega)];try omega
 have s2:(wk (wk (wk k)))=k+3:=by rw[s1,aQ (by omega) (by omega)];try omega
 have s3:(aK gO x.values (wk (wk (wk k)))).2=k+3+cC gA x.values:=by rw[s2,dj (l:=gA) vN d7 x.values _ (by omega) (by omega)];try omega
 have s4:(wk (aK gO x.values (wk (wk (wk k)))).2)=k+4+cC gA x.values:=by rw[s3,aQ (by omega) (by omega)];try omega
 have s5:(aK gO x.holds (wk (aK gO x.values (wk (wk (wk k)))).2)).2=k+4+cC gA x.values+cC gA x.holds:=by rw[s4,dj (l:=gA) vN d7 x.holds _ (by omega) (by omega)];try omega
 have s6:(wk (aK gO x.holds (wk (aK gO x.values (wk (wk (wk k)))).2)).2)=k+5+cC gA x.values+cC gA x.holds:=by rw[s5,aQ (by omega) (by omega)];try omega
 show (wk (aK gO x.holds (wk (aK gO x.values (wk (wk (wk k)))).2)).2)=_
 rw[s6];try omega
noncomputable def GateRule.mark (x:GateRule) (k:Int):GateRule×Int:=(⟨(aK jz x.verbs k).1,(mt (aK jz x.verbs k).2),(mt (wk (aK jz x.verbs k).2)),(mt (wk (wk (aK jz x.verbs k).2)))⟩,(wk (wk (wk (aK jz x.verbs k).2))))
noncomputable def GateRule.marks (x:GateRule) (k:Int):GateRule×Int:=(⟨(aK jz x.verbs k).1,x.kind,x.team,x.prefix_⟩,(aK jz x.verbs k).2)
def GateRule.lv (x:GateRule):Int:=3+cC gA x.verbs
def GateRule.el (x:GateRule):Int:=0+jA AU x.verbs
theorem GateRule.lv_nn (x:GateRule):0≤x.lv:=by
 have p0:=aZ d7 x.verbs
 unfold GateRule.lv;omega
theorem GateRule.el_nn (x:GateRule):0≤x.el:=by
 have p0:=bG ik x.verbs
 unfold GateRule.el;omega
noncomputable def GateGrant.mark (x:GateGrant) (k:Int):GateGrant×Int:=(⟨(mi k),(mt (wk k)),(mt (wk (wk k))),⟨(aK jz x.rule.verbs (wk (wk (wk k)))).1,(mt (aK jz x.rule.verbs (wk (wk (wk k)))).2),(mt (wk (aK jz x.rule.verbs (wk (wk (wk k)))).2)),(mt (wk (wk (aK jz x.rule.verbs (wk (wk (wk k)))).2)))⟩⟩,(wk (wk (wk (aK jz x.rule.verbs (wk (wk (wk k)))).2))))
noncomputable def GateGrant.marks (x:GateGrant) (k:Int):GateGrant×Int:=(⟨x.number,x.to_,x.by_,⟨(aK jz x.rule.verbs k).1,x.rule.kind,x.rule.team,x.rule.prefix_⟩⟩,(aK jz x.rule.verbs k).2)
def GateGrant.lv (x:GateGrant):Int:=6+cC gA x.rule.verbs
def GateGrant.el (x:GateGrant):Int:=0+jA AU x.rule.verbs
theorem GateGrant.lv_nn (x:GateGrant):0≤x.lv:=by
 have p0:=aZ d7 x.rule.verbs
 unfold GateGrant.lv;omega
theorem GateGrant.el_nn (x:GateGrant):0≤x.el:=by
 have p0:=bG ik x.rule.verbs
 unfold GateGrant.el;omega
theorem GateGrant.lv_le (x:GateGrant):x.lv≤32+32*x.el:=by
 have p0:=fA vP x.rule.verbs
 unfold GateGrant.lv GateGrant.el;omega
theorem GateGrant.mark_val (x:GateGrant) (k:Int) (h0:0≤k) (hB:k+(6+cC gA x.rule.verbs)≤1099511627776):(GateGrant.mark x k).2=k+(6+cC gA x.rule.verbs):=by
 have p0:=aZ d7 x.rule.verbs
 have s0:(wk k)=k+1:=aQ (by omega) (by omega)
 have s1:(wk (wk k))=k+2:=by rw[s0,aQ (by omega) (by omega)];try omega
 have s2:(wk (wk (wk k)))=k+3:=by rw[s1,aQ (by omega) (by omega)];try omega
 have s3:(aK jz x.rule.verbs (wk (wk (wk k)))).2=k+3+cC gA x.rule.verbs:=by rw[s2,dj (l:=gA) vM d7 x.rule.verbs _ (by omega) (by omega)];try omega
 have s4:(wk (aK jz x.rule.verbs (wk (wk (wk k)))).2)=k+4+cC gA x.rule.verbs:=by rw[s3,aQ (by omega) (by omega)];try omega
 have s5:(wk (wk (aK jz x.rule.verbs (wk (wk (wk k)))).2))=k+5+cC gA x.rule.verbs:=by rw[s4,aQ (by omega) (by omega)];try omega
 have s6:(wk (wk (wk (aK jz x.rule.verbs (wk (wk (wk k)))).2)))=k+6+cC gA x.rule.verbs:=by rw[s5,aQ (by omega) (by omega)];try omega
 show (wk (wk (wk (aK jz x.rule.verbs (wk (wk (wk k)))).2)))=_
 rw[s6];try omega
noncomputable def GateLedger.mark (x:GateLedger) (k:Int):GateLedger×Int:=(⟨(mt k),(mt (wk k)),(mi (wk (wk k))),(mi (wk (wk (wk k))))⟩,(wk (wk (wk (wk k)))))
noncomputable def GateLedger.marks (x:GateLedger) (k:Int):GateLedger×Int:=(⟨x.team,x.resource,x.most,x.free⟩,k)
def GateLedger.lv (x:GateLedger):Int:=4
def GateLedger.el (x:GateLedger):Int:=0
theorem GateLedger.lv_nn (x:GateLedger):0≤x.lv:=by
 unfold GateLedger.lv;omega
theorem GateLedger.el_nn (x:GateLedger):0≤x.el:=by
 unfold GateLedger.el;omega
theorem GateLedger.lv_le (x:GateLedger):x.lv≤32+32*x.el:=by
 unfold GateLedger.lv GateLedger.el;omega
theorem GateLedger.mark_val (x:GateLedger) (k:Int) (h0:0≤k) (hB:k+(4)≤1099511627776):(GateLedger.mark x k).2=k+(4):=by
 have s0:(wk k)=k+1:=aQ (by omega) (by omega)
 have s1:(wk (wk k))=k+2:=by rw[s0,aQ (by omega) (by omega)];try omega
 have s2:(wk (wk (wk k)))=k+3:=by rw[s1,aQ (by omega) (by omega)];try omega
 have s3:(wk (wk (wk (wk k))))=k+4:=by rw[s2,aQ (by omega) (by omega)];try omega
 show (wk (wk (wk (wk k))))=_
 rw[s3];try omega
noncomputable def GatePurse.mark (x:GatePurse) (k:Int):GatePurse×Int:=(⟨(mt k),(mt (wk k)),(mt (wk (wk k))),(mi (wk (wk (wk k)))),(mi (wk (wk (wk (wk k)))))⟩,(wk (wk (wk (wk (wk k))))))
noncomputable def GatePurse.marks (x:GatePurse) (k:Int):GatePurse×Int:=(⟨x.door,x.team,x.resource,x.amount,x.until_⟩,k)
def GatePurse.lv (x:GatePurse):Int:=5
def GatePurse.el (x:GatePurse):Int:=0
theorem GatePurse.lv_nn (x:GatePurse):0≤x.lv:=by
 unfold GatePurse.lv;omega
theorem GatePurse.el_nn (x:GatePurse):0≤x.el:=by
 unfold GatePurse.el;omega
theorem GatePurse.lv_le (x:GatePurse):x.lv≤32+32*x.el:=by
 unfold GatePurse.lv GatePurse.el;omega
theorem GatePurse.mark_val (x:GatePurse) (k:Int) (h0:0≤k) (hB:k+(5)≤1099511627776):(GatePurse.mark x k).2=k+(5):=by
 have s0:(wk k)=k+1:=aQ (by omega) (by omega)
 have s1:(wk (wk k))=k+2:=by rw[s0,aQ (by omega) (by omega)];try omega
 have s2:(wk (wk (wk k)))=k+3:=by rw[s1,aQ (by omega) (by omega)];try omega
 have s3:(wk (wk (wk (wk k))))=k+4:=by rw[s2,aQ (by omega) (by omega)];try omega
 have s4:(wk (wk (wk (wk (wk k)))))=k+5:=by rw[s3,aQ (by omega) (by omega)];try omega
 show (wk (wk (wk (wk (wk k)))))=_
 rw[s4];try omega
noncomputable def GateBook.mark (x:GateBook) (k:Int):GateBook×Int:=(⟨(mi k),(mi (wk k)),(mi (wk (wk k))),(aK GateObject.mark x.objects (wk (wk (wk k)))).1,(aK GateGrant.mark x.grants (aK GateObject.mark x.objects (wk (wk (wk k)))).2).1,(aK GateLedger.mark x.ledgers (aK GateGrant.mark x.grants (aK GateObject.mark x.objects (wk (wk (wk k)))).2).2).1,(aK GatePurse.mark x.purses (aK GateLedger.mark x.ledgers (aK GateGrant.mark x.grants (aK GateObject.mark x.objects (wk (wk (wk k)))).2).2).2).1⟩,(aK GatePurse.mark x.purses (aK GateLedger.mark x.ledgers (aK GateGrant.mark x.grants (aK GateObject.mark x.objects (wk (wk (wk k)))).2).2).2).2)
noncomputable def GateBook.marks (x:GateBook) (k:Int):GateBook×Int:=(⟨x.now,x.tick,x.given,(aK GateObject.mark x.objects k).1,(aK GateGrant.mark x.grants (aK GateObject.mark x.objects k).2).1,(aK GateLedger.mark x.ledgers (aK GateGrant.mark x.grants (aK GateObject.mark x.objects k).2).2).1,(aK GatePurse.mark x.purses (aK GateLedger.mark x.ledgers (aK GateGrant.mark x.grants (aK GateObject.mark x.objects k).2).2).2).1⟩,(aK GatePurse.mark x.purses (aK GateLedger.mark x.ledgers (aK GateGrant.mark x.grants (aK GateObject.mark x.objects k).2).2).2).2)
def GateBook.lv (x:GateBook):Int:=3+cC GateObject.lv x.objects+cC GateGrant.lv x.grants+cC GateLedger.lv x.ledgers+cC GatePurse.lv x.purses
def GateBook.el (x:GateBook):Int:=0+jA GateObject.el x.objects+jA GateGrant.el x.grants+jA GateLedger.el x.ledgers+jA GatePurse.el x.purses
theorem GateBook.lv_nn (x:GateBook):0≤x.lv:=by
 have p0:=aZ GateObject.lv_nn x.objects
 have p1:=aZ GateGrant.lv_nn x.grants
 have p2:=aZ GateLedger.lv_nn x.ledgers
 have p3:=aZ GatePurse.lv_nn x.purses
 unfold GateBook.lv;omega
theorem GateBook.el_nn (x:GateBook):0≤x.el:=by
 have p0:=bG GateObject.el_nn x.objects
 have p1:=bG GateGrant.el_nn x.grants
 have p2:=bG GateLedger.el_nn x.ledgers
 have p3:=bG GatePurse.el_nn x.purses
 unfold GateBook.el;omega
theorem GateBook.lv_le (x:GateBook):x.lv≤32+32*x.el:=by
 have p0:=fA GateObject.lv_le x.objects
 have p1:=fA GateGrant.lv_le x.grants
 have p2:=fA GateLedger.lv_le x.ledgers
 have p3:=fA GatePurse.lv_le x.purses
 unfold GateBook.lv GateBook.el;omega
theorem GateBook.marks_val (x:GateBook) (k:Int) (h0:0≤k) (hB:k+(0+cC GateObject.lv x.objects+cC GateGrant.lv x.grants+cC GateLedger.lv x.ledgers+cC GatePurse.lv x.purses)≤1099511627776):(GateBook.marks x k).2=k+(0+cC GateObject.lv x.objects+cC GateGrant.lv x.grants+cC GateLedger.lv x.ledgers+cC GatePurse.lv x.purses):=by
 have p0:=aZ GateObject.lv_nn x.objects
 have p1:=aZ GateGrant.lv_nn x.grants
 have p2:=aZ GateLedger.lv_nn x.ledgers
 have p3:=aZ GatePurse.lv_nn x.purses
 have s0:(aK GateObject.mark x.objects k).2=k+0+cC GateObject.lv x.objects:=by rw[dj (l:=GateObject.lv) GateObject.mark_val GateObject.lv_nn x.objects _ (by omega) (by omega)];try omega
 have s1:(aK GateGrant.mark x.grants (aK GateObject.mark x.objects k).2).2=k+0+cC GateObject.lv x.objects+cC GateGrant.lv x.grants:=by rw[s0,dj (l:=GateGrant.lv) GateGrant.mark_val GateGrant.lv_nn x.grants _ (by omega) (by omega)];try omega
 have s2:(aK GateLedger.mark x.ledgers (aK GateGrant.mark x.grants (aK GateObject.mark x.objects k).2).2).2=k+0+cC GateObject.lv x.objects+cC GateGrant.lv x.grants+cC GateLedger.lv x.ledgers:=by rw[s1,dj (l:=GateLedger.lv) GateLedger.mark_val GateLedger.lv_nn x.ledgers _ (by omega) (by omega)];try omega
 have s3:(aK GatePurse.mark x.purses (aK GateLedger.mark x.ledgers (aK GateGrant.mark x.grants (aK GateObject.mark x.objects k).2).2).2).2=k+0+cC GateObject.lv x.objects+cC GateGrant.lv x.grants+cC GateLedger.lv x.ledgers+cC GatePurse.lv x.purses:=by rw[s2,dj (l:=GatePurse.lv) GatePurse.mark_val GatePurse.lv_nn x.purses _ (by omega) (by omega)];try omega
 show (aK GatePurse.mark x.purses (aK GateLedger.mark x.ledgers (aK GateGrant.mark x.grants (aK GateObject.mark x.objects k).2).2).2).2=_
 rw[s3];try omega
end Go.Vc
end
section
namespace Go.Vc
open Go.Proofs
set_option maxRecDepth 100000
set_option maxHeartbeats 8000000 in
theorem i7 (xs:List Bs) (k:Int):FSpec P 138 [.own 0,.d (.int .i64 k)] ⟨[(0,.tree 9 1 [.leaf] (xs.map eB))],1,1⟩ (.d (.int .i64 (aK gO xs k).2)) ⟨[(0,.tree 9 1 [.leaf] ((aK gO xs k).1.map eB))],1,1⟩:=by
 refine FSpec.of_vc dm aw [.tmp 4] Tryz.func138 rfl rfl rfl rfl rfl (fun hok hob=>?_)
 have hs:xs.length≤big:=by have:=(hob 0 _ rfl).1;rwa [List.length_map] at this
 repeat refine ai ?_
 refine ⟨fun m l h=>∃i:Nat,m=xs.length - i∧i≤xs.length∧l=[(0,.own 0),(1,.d (.int .i64 (mU gO xs k i))),(5,.d (.int .i64 i))]∧h=⟨[(0,.tree 9 1 [.leaf] (tN gO eB xs k i))],1,1⟩,
  ⟨_,_,_,⟨0,rfl,Nat.zero_le _,rfl,rfl⟩,rfl,rfl,⟨rfl,rfl,rfl,trivial⟩,⟨rfl,trivial⟩,⟨rfl,trivial⟩⟩,?_⟩
 rintro m l h1 ⟨i,rfl,hi,rfl,rfl⟩
 refine aj ?_ ?_<;>intro h1
 ·have hlt:i<xs.length:=by
   have:=of_decide_eq_true h1
   rw[bW _ hi] at this;omega
  repeat' first
   |refine ai ?_
   |refine aj (Int.natCast_nonneg _) (aj (Int.ofNat_lt.2 (by (try simp only[List.length_set]);exact bf hlt)) ?_)
   |refine Exists.intro _ (aj (aP hlt) (aj (Nat.le_of_ble_eq_true rfl) ?_))
   |refine Exists.intro _ (aj (gm (by (try simp only[List.length_set]);exact bf hlt)) (aj (Nat.le_of_ble_eq_true rfl) ?_))
   |refine Exists.intro _ (aj (aP hlt) (aj rfl ?_))
   |refine aj (show (3:Int)≠0 by decide) ?_
   |refine Or.inl (Exists.intro _ (aj (qx _) ?_))
   |refine Exists.intro _ (aj (aP hlt) ?_)
   |refine Exists.intro _ (aj (gm (by (try simp only[List.length_set]);exact bf hlt)) ?_)
  refine ⟨_,_,_,⟨i+1,rfl,hlt,rfl,rfl⟩,by omega,rfl,rfl,⟨rfl,nd (dN (f:=gO) hlt k),nd (Y hlt hs),trivial⟩,⟨rfl,trivial⟩,⟨?_,trivial⟩⟩
  refine congrArg some (congrArg (AO.tree _ _ _) ?_)
  try simp only[List.set_set]
  exact er hlt rfl
 ·have hge:xs.length≤i:=by
   have:=of_decide_eq_false h1
   rw[bW _ hi] at this;omega
  refine aj (nd (fc hge)) (aj rfl (aj rfl (aj rfl (aj trivial (aj ⟨rfl,trivial⟩ ⟨?_,trivial⟩)))))
  exact congrArg some (congrArg (AO.tree _ _ _) (fK hge))
set_option maxHeartbeats 8000000 in
theorem vI (xs:List Int) (k:Int):FSpec P 22 [.own 0,.d (.int .i64 k)] ⟨[(0,.tree 3 1 [.leaf] (xs.map eN))],1,1⟩ (.d (.int .i64 (aK jz xs k).2)) ⟨[(0,.tree 3 1 [.leaf] ((aK jz xs k).1.map eN))],1,1⟩:=by
 refine FSpec.of_vc dm aw [.tmp 4] Tryz.func22 rfl rfl rfl rfl rfl (fun hok hob=>?_)
 have hs:xs.length≤big:=by have:=(hob 0 _ rfl).1;rwa [List.length_map] at this
 repeat refine ai ?_
 refine ⟨fun m l h=>∃i:Nat,m=xs.length - i∧i≤xs.length∧l=[(0,.own 0),(1,.d (.int .i64 (mU jz xs k i))),(5,.d (.int .i64 i))]∧h=⟨[(0,.tree 3 1 [.leaf] (tN jz eN xs k i))],1,1⟩,
  ⟨_,_,_,⟨0,rfl,Nat.zero_le _,rfl,rfl⟩,rfl,rfl,⟨rfl,rfl,rfl,trivial⟩,⟨rfl,trivial⟩,⟨rfl,trivial⟩⟩,?_⟩
 rintro m l h1 ⟨i,rfl,hi,rfl,rfl⟩
 refine aj ?_ ?_<;>intro h1
 ·have hlt:i<xs.length:=by
   have:=of_decide_eq_true h1
   rw[bW _ hi] at this;omega
  repeat' first
   |refine ai ?_
   |refine aj (Int.natCast_nonneg _) (aj (Int.ofNat_lt.2 (by (try simp only[List.length_set]);exact bf hlt)) ?_)
   |refine Exists.intro _ (aj (aP hlt) (aj (Nat.le_of_ble_eq_true rfl) ?_))
   |refine Exists.intro _ (aj (gm (by (try simp only[List.length_set]);exact bf hlt)) (aj (Nat.le_of_ble_eq_true rfl) ?_))
   |refine Exists.intro _ (aj (aP hlt) (aj rfl ?_))
   |refine aj (show (3:Int)≠0 by decide) ?_
   |refine Or.inl (Exists.intro _ (aj (qx _) ?_))
   |refine Exists.intro _ (aj (aP hlt) ?_)
   |refine Exists.intro _ (aj (gm (by (try simp only[List.length_set]);exact bf hlt)) ?_)
  refine ⟨_,_,_,⟨i+1,rfl,hlt,rfl,rfl⟩,by omega,rfl,rfl,⟨rfl,nd (dN (f:=jz) hlt k),nd (Y hlt hs),trivial⟩,⟨rfl,trivial⟩,⟨?_,trivial⟩⟩
  refine congrArg some (congrArg (AO.tree _ _ _) ?_)
  try simp only[List.set_set]
  exact er hlt rfl
 ·have hge:xs.length≤i:=by
   have:=of_decide_eq_false h1
   rw[bW _ hi] at this;omega
  refine aj (nd (fc hge)) (aj rfl (aj rfl (aj rfl (aj trivial (aj ⟨rfl,trivial⟩ ⟨?_,trivial⟩)))))
  exact congrArg some (congrArg (AO.tree _ _ _) (fK hge))
set_option maxHeartbeats 8000000 in
theorem kR (xs:List GateField) (k:Int):FSpec P 137 [.own 0,.d (.int .i64 k)] ⟨[(0,.tree 138 11 GateField.n (xs.map GateField.e))],1,1⟩ (.d (.int .i64 (aK GateField.mark xs k).2)) ⟨[(0,.tree 138 11 GateField.n ((aK GateField.mark xs k).1.map GateField.e))],1,1⟩:=by
 refine FSpec.of_vc dm aw [.tmp 4] Tryz.func137 rfl rfl rfl rfl rfl (fun hok hob=>?_)
 have hs:xs.length≤big:=by have:=(hob 0 _ rfl).1;rwa [List.length_map] at this
 repeat refine ai ?_
 refine ⟨fun m l h=>∃i:Nat,m=xs.length - i∧i≤xs.length∧l=[(0,.own 0),(1,.d (.int .i64 (mU GateField.mark xs k i))),(5,.d (.int .i64 i))]∧h=⟨[(0,.tree 138 11 GateField.n (tN GateField.mark GateField.e xs k i))],1,1⟩,
  ⟨_,_,_,⟨0,rfl,Nat.zero_le _,rfl,rfl⟩,rfl,rfl,⟨rfl,rfl,rfl,trivial⟩,⟨rfl,trivial⟩,⟨rfl,trivial⟩⟩,?_⟩
 rintro m l h1 ⟨i,rfl,hi,rfl,rfl⟩
 refine aj ?_ ?_<;>intro h1
 ·have hlt:i<xs.length:=by
   have:=of_decide_eq_true h1
   rw[bW _ hi] at this;omega
  repeat' first
   |refine ai ?_
   |refine aj (Int.natCast_nonneg _) (aj (Int.ofNat_lt.2 (by (try simp only[List.length_set]);exact bf hlt)) ?_)
   |refine Exists.intro _ (aj (aP hlt) (aj (Nat.le_of_ble_eq_true rfl) ?_))
   |refine Exists.intro _ (aj (gm (by (try simp only[List.length_set]);exact bf hlt)) (aj (Nat.le_of_ble_eq_true rfl) ?_))
   |refine Exists.intro _ (aj (aP hlt) (aj rfl ?_))
   |refine aj (show (3:Int)≠0 by decide) ?_
   |refine Or.inl (Exists.intro _ (aj (qx _) ?_))
   |refine Or.inr (Or.inr (Or.inr (Or.inr (Or.inr (Or.inr (Or.inr (Or.inr (aj rfl (Exists.intro _ (Exists.intro _ (aj (gm (by (try simp only[List.length_set]);exact bf hlt)) (aj rfl (Exists.intro _ (Exists.intro _ (aj rfl (aj (i7 _ _) (Exists.intro _ (aj rfl ?_))))))))))))))))))
   |refine Or.inr (Or.inr (Or.inr (Or.inr (Or.inr (Or.inr (Or.inr (Or.inr (aj rfl (Exists.intro _ (Exists.intro _ (aj (aP hlt) (aj rfl (Exists.intro _ (Exists.intro _ (aj rfl (aj (i7 _ _) (Exists.intro _ (aj rfl ?_))))))))))))))))))
   |refine Exists.intro _ (aj (aP hlt) ?_)
   |refine Exists.intro _ (aj (gm (by (try simp only[List.length_set]);exact bf hlt)) ?_)
  refine ⟨_,_,_,⟨i+1,rfl,hlt,rfl,rfl⟩,by omega,rfl,rfl,⟨rfl,nd (dN (f:=GateField.mark) hlt k),nd (Y hlt hs),trivial⟩,⟨rfl,trivial⟩,⟨?_,trivial⟩⟩
  refine congrArg some (congrArg (AO.tree _ _ _) ?_)
  try simp only[List.set_set]
  exact er hlt rfl
 ·have hge:xs.length≤i:=by
   have:=of_decide_eq_false h1
   rw[bW _ hi] at this;omega
  refine aj (nd (fc hge)) (aj rfl (aj rfl (aj rfl (aj trivial (aj ⟨rfl,trivial⟩ ⟨?_,trivial⟩)))))
  exact congrArg some (congrArg (AO.tree _ _ _) (fK hge))
set_option maxHeartbeats 8000000 in
theorem sK (xs:List GateShape) (k:Int):FSpec P 64 [.own 0,.d (.int .i64 k)] ⟨[(0,.tree 164 2 GateShape.n (xs.map GateShape.e))],1,1⟩ (.d (.int .i64 (aK GateShape.mark xs k).2)) ⟨[(0,.tree 164 2 GateShape.n ((aK GateShape.mark xs k).1.map GateShape.e))],1,1⟩:=by
 refine FSpec.of_vc dm aw [.tmp 4] Tryz.func64 rfl rfl rfl rfl rfl (fun hok hob=>?_)
 have hs:xs.length≤big:=by have:=(hob 0 _ rfl).1;rwa [List.length_map] at this
 repeat refine ai ?_
 refine ⟨fun m l h=>∃i:Nat,m=xs.length - i∧i≤xs.length∧l=[(0,.own 0),(1,.d (.int .i64 (mU GateShape.mark xs k i))),(5,.d (.int .i64 i))]∧h=⟨[(0,.tree 164 2 GateShape.n (tN GateShape.mark GateShape.e xs k i))],1,1⟩,
  ⟨_,_,_,⟨0,rfl,Nat.zero_le _,rfl,rfl⟩,rfl,rfl,⟨rfl,rfl,rfl,trivial⟩,⟨rfl,trivial⟩,⟨rfl,trivial⟩⟩,?_⟩
 rintro m l h1 ⟨i,rfl,hi,rfl,rfl⟩
 refine aj ?_ ?_<;>intro h1
 ·have hlt:i<xs.length:=by
   have:=of_decide_eq_true h1
   rw[bW _ hi] at this;omega
  repeat' first
   |refine ai ?_
   |refine aj (Int.natCast_nonneg _) (aj (Int.ofNat_lt.2 (by (try simp only[List.length_set]);exact bf hlt)) ?_)
   |refine Exists.intro _ (aj (aP hlt) (aj (Nat.le_of_ble_eq_true rfl) ?_))
   |refine Exists.intro _ (aj (gm (by (try simp only[List.length_set]);exact bf hlt)) (aj (Nat.le_of_ble_eq_true rfl) ?_))
   |refine Exists.intro _ (aj (aP hlt) (aj rfl ?_))
   |refine aj (show (3:Int)≠0 by decide) ?_
   |refine Or.inl (Exists.intro _ (aj (qx _) ?_))
   |refine Or.inr (Or.inr (Or.inr (Or.inr (Or.inr (Or.inr (Or.inr (Or.inr (aj rfl (Exists.intro _ (Exists.intro _ (aj (gm (by (try simp only[List.length_set]);exact bf hlt)) (aj rfl (Exists.intro _ (Exists.intro _ (aj rfl (aj (kR _ _) (Exists.intro _ (aj rfl ?_))))))))))))))))))
   |refine Or.inr (Or.inr (Or.inr (Or.inr (Or.inr (Or.inr (Or.inr (Or.inr (aj rfl (Exists.intro _ (Exists.intro _ (aj (aP hlt) (aj rfl (Exists.intro _ (Exists.intro _ (aj rfl (aj (kR _ _) (Exists.intro _ (aj rfl ?_))))))))))))))))))
   |refine Exists.intro _ (aj (aP hlt) ?_)
   |refine Exists.intro _ (aj (gm (by (try simp only[List.length_set]);exact bf hlt)) ?_)
  refine ⟨_,_,_,⟨i+1,rfl,hlt,rfl,rfl⟩,by omega,rfl,rfl,⟨rfl,nd (dN (f:=GateShape.mark) hlt k),nd (Y hlt hs),trivial⟩,⟨rfl,trivial⟩,⟨?_,trivial⟩⟩
  refine congrArg some (congrArg (AO.tree _ _ _) ?_)
  try simp only[List.set_set]
  exact er hlt rfl
 ·have hge:xs.length≤i:=by
   have:=of_decide_eq_false h1
   rw[bW _ hi] at this;omega
  refine aj (nd (fc hge)) (aj rfl (aj rfl (aj rfl (aj trivial (aj ⟨rfl,trivial⟩ ⟨?_,trivial⟩)))))
  exact congrArg some (congrArg (AO.tree _ _ _) (fK hge))
set_option maxHeartbeats 8000000 in
theorem vK (xs:List GateMend) (k:Int):FSpec P 65 [.own 0,.d (.int .i64 k)] ⟨[(0,.tree 166 6 GateMend.n (xs.map GateMend.e))],1,1⟩ (.d (.int .i64 (aK GateMend.mark xs k).2)) ⟨[(0,.tree 166 6 GateMend.n ((aK GateMend.mark xs k).1.map GateMend.e))],1,1⟩:=by
 refine FSpec.of_vc dm aw [.tmp 4] Tryz.func65 rfl rfl rfl rfl rfl (fun hok hob=>?_)
 have hs:xs.length≤big:=by have:=(hob 0 _ rfl).1;rwa [List.length_map] at this
 repeat refine ai ?_
 refine ⟨fun m l h=>∃i:Nat,m=xs.length - i∧i≤xs.length∧l=[(0,.own 0),(1,.d (.int .i64 (mU GateMend.mark xs k i))),(5,.d (.int .i64 i))]∧h=⟨[(0,.tree 166 6 GateMend.n (tN GateMend.mark GateMend.e xs k i))],1,1⟩,
  ⟨_,_,_,⟨0,rfl,Nat.zero_le _,rfl,rfl⟩,rfl,rfl,⟨rfl,rfl,rfl,trivial⟩,⟨rfl,trivial⟩,⟨rfl,trivial⟩⟩,?_⟩
 rintro m l h1 ⟨i,rfl,hi,rfl,rfl⟩
 refine aj ?_ ?_<;>intro h1
 ·have hlt:i<xs.length:=by
   have:=of_decide_eq_true h1
   rw[bW _ hi] at this;omega
  repeat' first
   |refine ai ?_
   |refine aj (Int.natCast_nonneg _) (aj (Int.ofNat_lt.2 (by (try simp only[List.length_set]);exact bf hlt)) ?_)
   |refine Exists.intro _ (aj (aP hlt) (aj (Nat.le_of_ble_eq_true rfl) ?_))
   |refine Exists.intro _ (aj (gm (by (try simp only[List.length_set]);exact bf hlt)) (aj (Nat.le_of_ble_eq_true rfl) ?_))
   |refine Exists.intro _ (aj (aP hlt) (aj rfl ?_))
   |refine aj (show (3:Int)≠0 by decide) ?_
   |refine Or.inl (Exists.intro _ (aj (qx _) ?_))
   |refine Exists.intro _ (aj (aP hlt) ?_)
   |refine Exists.intro _ (aj (gm (by (try simp only[List.length_set]);exact bf hlt)) ?_)
  refine ⟨_,_,_,⟨i+1,rfl,hlt,rfl,rfl⟩,by omega,rfl,rfl,⟨rfl,nd (dN (f:=GateMend.mark) hlt k),nd (Y hlt hs),trivial⟩,⟨rfl,trivial⟩,⟨?_,trivial⟩⟩
  refine congrArg some (congrArg (AO.tree _ _ _) ?_)
  try simp only[List.set_set]
  exact er hlt rfl
 ·have hge:xs.length≤i:=by
   have:=of_decide_eq_false h1
   rw[bW _ hi] at this;omega
  refine aj (nd (fc hge)) (aj rfl (aj rfl (aj rfl (aj trivial (aj ⟨rfl,trivial⟩ ⟨?_,trivial⟩)))))
  exact congrArg some (congrArg (AO.tree _ _ _) (fK hge))
set_option maxHeartbeats 8000000 in
theorem vJ (xs:List GateTeam) (k:Int):FSpec P 66 [.own 0,.d (.int .i64 k)] ⟨[(0,.tree 168 2 GateTeam.n (xs.map GateTeam.e))],1,1⟩ (.d (.int .i64 (aK GateTeam.mark xs k).2)) ⟨[(0,.tree 168 2 GateTeam.n ((aK GateTeam.mark xs k).1.map GateTeam.e))],1,1⟩:=by
 refine FSpec.of_vc dm aw [.tmp 4] Tryz.func66 rfl rfl rfl rfl rfl (fun hok hob=>?_)
 have hs:xs.length≤big:=by have:=(hob 0 _ rfl).1;rwa [List.length_map] at this
 repeat refine ai ?_
 refine ⟨fun m l h=>∃i:Nat,m=xs.length - i∧i≤xs.length∧l=[(0,.own 0),(1,.d (.int .i64 (mU GateTeam.mark xs k i))),(5,.d (.int .i64 i))]∧h=⟨[(0,.tree 168 2 GateTeam.n (tN GateTeam.mark GateTeam.e xs k i))],1,1⟩,
  ⟨_,_,_,⟨0,rfl,Nat.zero_le _,rfl,rfl⟩,rfl,rfl,⟨rfl,rfl,rfl,trivial⟩,⟨rfl,trivial⟩,⟨rfl,trivial⟩⟩,?_⟩
 rintro m l h1 ⟨i,rfl,hi,rfl,rfl⟩
 refine aj ?_ ?_<;>intro h1
 ·have hlt:i<xs.length:=by
   have:=of_decide_eq_true h1
   rw[bW _ hi] at this;omega
  repeat' first
   |refine ai ?_
   |refine aj (Int.natCast_nonneg _) (aj (Int.ofNat_lt.2 (by (try simp only[List.length_set]);exact bf hlt)) ?_)
   |refine Exists.intro _ (aj (aP hlt) (aj (Nat.le_of_ble_eq_true rfl) ?_))
   |refine Exists.intro _ (aj (gm (by (try simp only[List.length_set]);exact bf hlt)) (aj (Nat.le_of_ble_eq_true rfl) ?_))
   |refine Exists.intro _ (aj (aP hlt) (aj rfl ?_))
   |refine aj (show (3:Int)≠0 by decide) ?_
   |refine Or.inl (Exists.intro _ (aj (qx _) ?_))
   |refine Exists.intro _ (aj (aP hlt) ?_)
   |refine Exists.intro _ (aj (gm (by (try simp only[List.length_set]);exact bf hlt)) ?_)
  refine ⟨_,_,_,⟨i+1,rfl,hlt,rfl,rfl⟩,by omega,rfl,rfl,⟨rfl,nd (dN (f:=GateTeam.mark) hlt k),nd (Y hlt hs),trivial⟩,⟨rfl,trivial⟩,⟨?_,trivial⟩⟩
  refine congrArg some (congrArg (AO.tree _ _ _) ?_)
  try simp only[List.set_set]
  exact er hlt rfl
 ·have hge:xs.length≤i:=by
   have:=of_decide_eq_false h1
   rw[bW _ hi] at this;omega
  refine aj (nd (fc hge)) (aj rfl (aj rfl (aj rfl (aj trivial (aj ⟨rfl,trivial⟩ ⟨?_,trivial⟩)))))
  exact congrArg some (congrArg (AO.tree _ _ _) (fK hge))
set_option maxHeartbeats 8000000 in
theorem zi (x:GateLaw) (k:Int):FSpec P 20 [.agg x.a,.d (.int .i64 k)] ⟨x.o,3,3⟩ (.d (.int .i64 (GateLaw.marks x k).2)) ⟨(GateLaw.marks x k).1.o,3,3⟩:=by
 refine FSpec.of_vc dm aw [.tmp 4] Tryz.func20 rfl rfl rfl rfl rfl (fun hok hob=>?_)
 repeat refine ai ?_
 refine om [0] none (sK _ _) ?_
 repeat refine ai ?_
 refine om [1] none (vK _ _) ?_
 repeat refine ai ?_
 refine om [2] none (vJ _ _) ?_
 repeat refine ai ?_
 repeat' first|exact rfl|exact trivial|refine aj ?_ ?_
set_option maxHeartbeats 8000000 in
theorem qV (xs:List GateObject) (k:Int):FSpec P 67 [.own 0,.d (.int .i64 k)] ⟨[(0,.tree 103 7 GateObject.n (xs.map GateObject.e))],1,1⟩ (.d (.int .i64 (aK GateObject.mark xs k).2)) ⟨[(0,.tree 103 7 GateObject.n ((aK GateObject.mark xs k).1.map GateObject.e))],1,1⟩:=by
 refine FSpec.of_vc dm aw [.tmp 4] Tryz.func67 rfl rfl rfl rfl rfl (fun hok hob=>?_)
 have hs:xs.length≤big:=by have:=(hob 0 _ rfl).1;rwa [List.length_map] at this
 repeat refine ai ?_
 refine ⟨fun m l h=>∃i:Nat,m=xs.length - i∧i≤xs.length∧l=[(0,.own 0),(1,.d (.int .i64 (mU GateObject.mark xs k i))),(5,.d (.int .i64 i))]∧h=⟨[(0,.tree 103 7 GateObject.n (tN GateObject.mark GateObject.e xs k i))],1,1⟩,
  ⟨_,_,_,⟨0,rfl,Nat.zero_le _,rfl,rfl⟩,rfl,rfl,⟨rfl,rfl,rfl,trivial⟩,⟨rfl,trivial⟩,⟨rfl,trivial⟩⟩,?_⟩
 rintro m l h1 ⟨i,rfl,hi,rfl,rfl⟩
 refine aj ?_ ?_<;>intro h1
 ·have hlt:i<xs.length:=by
   have:=of_decide_eq_true h1
   rw[bW _ hi] at this;omega
  repeat' first
   |refine ai ?_
   |refine aj (Int.natCast_nonneg _) (aj (Int.ofNat_lt.2 (by (try simp only[List.length_set]);exact bf hlt)) ?_)
   |refine Exists.intro _ (aj (aP hlt) (aj (Nat.le_of_ble_eq_true rfl) ?_))
   |refine Exists.intro _ (aj (gm (by (try simp only[List.length_set]);exact bf hlt)) (aj (Nat.le_of_ble_eq_true rfl) ?_))
   |refine Exists.intro _ (aj (aP hlt) (aj rfl ?_))
   |refine aj (show (3:Int)≠0 by decide) ?_
   |refine Or.inl (Exists.intro _ (aj (qx _) ?_))
   |refine Or.inr (Or.inr (Or.inr (Or.inr (Or.inr (Or.inr (Or.inr (Or.inr (aj rfl (Exists.intro _ (Exists.intro _ (aj (gm (by (try simp only[List.length_set]);exact bf hlt)) (aj rfl (Exists.intro _ (Exists.intro _ (aj rfl (aj (i7 _ _) (Exists.intro _ (aj rfl ?_))))))))))))))))))
   |refine Or.inr (Or.inr (Or.inr (Or.inr (Or.inr (Or.inr (Or.inr (Or.inr (aj rfl (Exists.intro _ (Exists.intro _ (aj (aP hlt) (aj rfl (Exists.intro _ (Exists.intro _ (aj rfl (aj (i7 _ _) (Exists.intro _ (aj rfl ?_))))))))))))))))))
   |refine Exists.intro _ (aj (aP hlt) ?_)
   |refine Exists.intro _ (aj (gm (by (try simp only[List.length_set]);exact bf hlt)) ?_)
  refine ⟨_,_,_,⟨i+1,rfl,hlt,rfl,rfl⟩,by omega,rfl,rfl,⟨rfl,nd (dN (f:=GateObject.mark) hlt k),nd (Y hlt hs),trivial⟩,⟨rfl,trivial⟩,⟨?_,trivial⟩⟩
  refine congrArg some (congrArg (AO.tree _ _ _) ?_)
  try simp only[List.set_set]
  exact er hlt rfl
 ·have hge:xs.length≤i:=by
   have:=of_decide_eq_false h1
   rw[bW _ hi] at this;omega
  refine aj (nd (fc hge)) (aj rfl (aj rfl (aj rfl (aj trivial (aj ⟨rfl,trivial⟩ ⟨?_,trivial⟩)))))
  exact congrArg some (congrArg (AO.tree _ _ _) (fK hge))
set_option maxHeartbeats 8000000 in
theorem sM (xs:List GateGrant) (k:Int):FSpec P 68 [.own 0,.d (.int .i64 k)] ⟨[(0,.tree 173 7 GateGrant.n (xs.map GateGrant.e))],1,1⟩ (.d (.int .i64 (aK GateGrant.mark xs k).2)) ⟨[(0,.tree 173 7 GateGrant.n ((aK GateGrant.mark xs k).1.map GateGrant.e))],1,1⟩:=by
 refine FSpec.of_vc dm aw [.tmp 4] Tryz.func68 rfl rfl rfl rfl rfl (fun hok hob=>?_)
 have hs:xs.length≤big:=by have:=(hob 0 _ rfl).1;rwa [List.length_map] at this
 repeat refine ai ?_
 refine ⟨fun m l h=>∃i:Nat,m=xs.length - i∧i≤xs.length∧l=[(0,.own 0),(1,.d (.int .i64 (mU GateGrant.mark xs k i))),(5,.d (.int .i64 i))]∧h=⟨[(0,.tree 173 7 GateGrant.n (tN GateGrant.mark GateGrant.e xs k i))],1,1⟩,
  ⟨_,_,_,⟨0,rfl,Nat.zero_le _,rfl,rfl⟩,rfl,rfl,⟨rfl,rfl,rfl,trivial⟩,⟨rfl,trivial⟩,⟨rfl,trivial⟩⟩,?_⟩
 rintro m l h1 ⟨i,rfl,hi,rfl,rfl⟩
 refine aj ?_ ?_<;>intro h1
 ·have hlt:i<xs.length:=by
   have:=of_decide_eq_true h1
   rw[bW _ hi] at this;omega
  repeat' first
   |refine ai ?_
   |refine aj (Int.natCast_nonneg _) (aj (Int.ofNat_lt.2 (by (try simp only[List.length_set]);exact bf hlt)) ?_)
   |refine Exists.intro _ (aj (aP hlt) (aj (Nat.le_of_ble_eq_true rfl) ?_))
   |refine Exists.intro _ (aj (gm (by (try simp only[List.length_set]);exact bf hlt)) (aj (Nat.le_of_ble_eq_true rfl) ?_))
   |refine Exists.intro _ (aj (aP hlt) (aj rfl ?_))
   |refine aj (show (3:Int)≠0 by decide) ?_
   |refine Or.inl (Exists.intro _ (aj (qx _) ?_))
   |refine Or.inr (Or.inr (Or.inr (Or.inr (Or.inr (Or.inr (Or.inr (Or.inr (aj rfl (Exists.intro _ (Exists.intro _ (aj (gm (by (try simp only[List.length_set]);exact bf hlt)) (aj rfl (Exists.intro _ (Exists.intro _ (aj rfl (aj (vI _ _) (Exists.intro _ (aj rfl ?_))))))))))))))))))
   |refine Or.inr (Or.inr (Or.inr (Or.inr (Or.inr (Or.inr (Or.inr (Or.inr (aj rfl (Exists.intro _ (Exists.intro _ (aj (aP hlt) (aj rfl (Exists.intro _ (Exists.intro _ (aj rfl (aj (vI _ _) (Exists.intro _ (aj rfl ?_))))))))))))))))))
   |refine Exists.intro _ (aj (aP hlt) ?_)
   |refine Exists.intro _ (aj (gm (by (try simp only[List.length_set]);exact bf hlt)) ?_)
  refine ⟨_,_,_,⟨i+1,rfl,hlt,rfl,rfl⟩,by omega,rfl,rfl,⟨rfl,nd (dN (f:=GateGrant.mark) hlt k),nd (Y hlt hs),trivial⟩,⟨rfl,trivial⟩,⟨?_,trivial⟩⟩
  refine congrArg some (congrArg (AO.tree _ _ _) ?_)
  try simp only[List.set_set]
  exact er hlt rfl
 ·have hge:xs.length≤i:=by
   have:=of_decide_eq_false h1
   rw[bW _ hi] at this;omega
  refine aj (nd (fc hge)) (aj rfl (aj rfl (aj rfl (aj trivial (aj ⟨rfl,trivial⟩ ⟨?_,trivial⟩)))))
  exact congrArg some (congrArg (AO.tree _ _ _) (fK hge))
set_option maxHeartbeats 8000000 in
theorem qW (xs:List GateLedger) (k:Int):FSpec P 69 [.own 0,.d (.int .i64 k)] ⟨[(0,.tree 119 4 GateLedger.n (xs.map GateLedger.e))],1,1⟩ (.d (.int .i64 (aK GateLedger.mark xs k).2)) ⟨[(0,.tree 119 4 GateLedger.n ((aK GateLedger.mark xs k).1.map GateLedger.e))],1,1⟩:=by
 refine FSpec.of_vc dm aw [.tmp 4] Tryz.func69 rfl rfl rfl rfl rfl (fun hok hob=>?_)
 have hs:xs.length≤big:=by have:=(hob 0 _ rfl).1;rwa [List.length_map] at this
 repeat refine ai ?_
 refine ⟨fun m l h=>∃i:Nat,m=xs.length - i∧i≤xs.length∧l=[(0,.own 0),(1,.d (.int .i64 (mU GateLedger.mark xs k i))),(5,.d (.int .i64 i))]∧h=⟨[(0,.tree 119 4 GateLedger.n (tN GateLedger.mark GateLedger.e xs k i))],1,1⟩,
  ⟨_,_,_,⟨0,rfl,Nat.zero_le _,rfl,rfl⟩,rfl,rfl,⟨rfl,rfl,rfl,trivial⟩,⟨rfl,trivial⟩,⟨rfl,trivial⟩⟩,?_⟩
 rintro m l h1 ⟨i,rfl,hi,rfl,rfl⟩
 refine aj ?_ ?_<;>intro h1
 ·have hlt:i<xs.length:=by
   have:=of_decide_eq_true h1
   rw[bW _ hi] at this;omega
  repeat' first
   |refine ai ?_
   |refine aj (Int.natCast_nonneg _) (aj (Int.ofNat_lt.2 (by (try simp only[List.length_set]);exact bf hlt)) ?_)
   |refine Exists.intro _ (aj (aP hlt) (aj (Nat.le_of_ble_eq_true rfl) ?_))
   |refine Exists.intro _ (aj (gm (by (try simp only[List.length_set]);exact bf hlt)) (aj (Nat.le_of_ble_eq_true rfl) ?_))
   |refine Exists.intro _ (aj (aP hlt) (aj rfl ?_))
   |refine aj (show (3:Int)≠0 by decide) ?_
   |refine Or.inl (Exists.intro _ (aj (qx _) ?_))
   |refine Exists.intro _ (aj (aP hlt) ?_)
   |refine Exists.intro _ (aj (gm (by (try simp only[List.length_set]);exact bf hlt)) ?_)
  refine ⟨_,_,_,⟨i+1,rfl,hlt,rfl,rfl⟩,by omega,rfl,rfl,⟨rfl,nd (dN (f:=GateLedger.mark) hlt k),nd (Y hlt hs),trivial⟩,⟨rfl,trivial⟩,⟨?_,trivial⟩⟩
  refine congrArg some (congrArg (AO.tree _ _ _) ?_)
  try simp only[List.set_set]
  exact er hlt rfl
 ·have hge:xs.length≤i:=by
   have:=of_decide_eq_false h1
   rw[bW _ hi] at this;omega
  refine aj (nd (fc hge)) (aj rfl (aj rfl (aj rfl (aj trivial (aj ⟨rfl,trivial⟩ ⟨?_,trivial⟩)))))
  exact congrArg some (congrArg (AO.tree _ _ _) (fK hge))
set_option maxHeartbeats 8000000 in
theorem sL (xs:List GatePurse) (k:Int):FSpec P 70 [.own 0,.d (.int .i64 k)] ⟨[(0,.tree 109 5 GatePurse.n (xs.map GatePurse.e))],1,1⟩ (.d (.int .i64 (aK GatePurse.mark xs k).2)) ⟨[(0,.tree 109 5 GatePurse.n ((aK GatePurse.mark xs k).1.map GatePurse.e))],1,1⟩:=by
 refine FSpec.of_vc dm aw [.tmp 4] Tryz.func70 rfl rfl rfl rfl rfl (fun hok hob=>?_)
 have hs:xs.length≤big:=by have:=(hob 0 _ rfl).1;rwa [List.length_map] at this
 repeat refine ai ?_
 refine ⟨fun m l h=>∃i:Nat,m=xs.length - i∧i≤xs.length∧l=[(0,.own 0),(1,.d (.int .i64 (mU GatePurse.mark xs k i))),(5,.d (.int .i64 i))]∧h=⟨[(0,.tree 109 5 GatePurse.n (tN GatePurse.mark GatePurse.e xs k i))],1,1⟩,
  ⟨_,_,_,⟨0,rfl,Nat.zero_le _,rfl,rfl⟩,rfl,rfl,⟨rfl,rfl,rfl,trivial⟩,⟨rfl,trivial⟩,⟨rfl,trivial⟩⟩,?_⟩
 rintro m l h1 ⟨i,rfl,hi,rfl,rfl⟩
 refine aj ?_ ?_<;>intro h1
 ·have hlt:i<xs.length:=by
   have:=of_decide_eq_true h1
   rw[bW _ hi] at this;omega
  repeat' first
   |refine ai ?_
   |refine aj (Int.natCast_nonneg _) (aj (Int.ofNat_lt.2 (by (try simp only[List.length_set]);exact bf hlt)) ?_)
   |refine Exists.intro _ (aj (aP hlt) (aj (Nat.le_of_ble_eq_true rfl) ?_))
   |refine Exists.intro _ (aj (gm (by (try simp only[List.length_set]);exact bf hlt)) (aj (Nat.le_of_ble_eq_true rfl) ?_))
   |refine Exists.intro _ (aj (aP hlt) (aj rfl ?_))
   |refine aj (show (3:Int)≠0 by decide) ?_
   |refine Or.inl (Exists.intro _ (aj (qx _) ?_))
   |refine Exists.intro _ (aj (aP hlt) ?_)
   |refine Exists.intro _ (aj (gm (by (try simp only[List.length_set]);exact bf hlt)) ?_)
  refine ⟨_,_,_,⟨i+1,rfl,hlt,rfl,rfl⟩,by omega,rfl,rfl,⟨rfl,nd (dN (f:=GatePurse.mark) hlt k),nd (Y hlt hs),trivial⟩,⟨rfl,trivial⟩,⟨?_,trivial⟩⟩
  refine congrArg some (congrArg (AO.tree _ _ _) ?_)
  try simp only[List.set_set]
  exact er hlt rfl
 ·have hge:xs.length≤i:=by
   have:=of_decide_eq_false h1
   rw[bW _ hi] at this;omega
  refine aj (nd (fc hge)) (aj rfl (aj rfl (aj rfl (aj trivial (aj ⟨rfl,trivial⟩ ⟨?_,trivial⟩)))))
  exact congrArg some (congrArg (AO.tree _ _ _) (fK hge))
set_option maxHeartbeats 8000000 in
theorem xx (x:GateBook) (k:Int):FSpec P 21 [.agg x.a,.d (.int .i64 k)] ⟨x.o,4,4⟩ (.d (.int .i64 (GateBook.marks x k).2)) ⟨(GateBook.marks x k).1.o,4,4⟩:=by
 refine FSpec.of_vc dm aw [.tmp 4] Tryz.func21 rfl rfl rfl rfl rfl (fun hok hob=>?_)
 repeat refine ai ?_
 refine om [0] none (qV _ _) ?_
 repeat refine ai ?_
 refine om [1] none (sM _ _) ?_
 repeat refine ai ?_
 refine om [2] none (qW _ _) ?_
 repeat refine ai ?_
 refine om [3] none (sL _ _) ?_
 repeat refine ai ?_
 repeat' first|exact rfl|exact trivial|refine aj ?_ ?_
set_option maxHeartbeats 8000000 in
theorem AJ (xs:List Int) (k:Int) (h0:0≤k) (hB:k+cC gA xs≤1099511627776):Spec P 23 [.d (lI (aK jz xs k).1),.d (.int .i64 k)] (.d (.int .i64 (aK jz xs k).2)):=by
 refine Spec.of_vc aI aw [.tmp 4] Tryz.func23 rfl rfl rfl rfl (fun hok=>?_)
 have hs:xs.length≤big:=by have:=hok.1.1;rwa [List.length_map,fL] at this
 repeat refine ai ?_
 refine ⟨fun m l h=>∃i:Nat,m=xs.length - i∧i≤xs.length∧l=[(0,.d (lI (aK jz xs k).1)),(1,.d (.int .i64 (mU jz xs k i))),(5,.d (.int .i64 i))]∧h=hp0,
  ⟨_,_,_,⟨0,rfl,Nat.zero_le _,rfl,rfl⟩,rfl,rfl,⟨rfl,rfl,rfl,trivial⟩,trivial,trivial⟩,?_⟩
 rintro m l h1 ⟨i,rfl,hi,rfl,rfl⟩
 refine aj ?_ ?_<;>intro h1
 ·have hlt:i<xs.length:=by
   have:=of_decide_eq_true h1
   rw[List.length_map,fL] at this;omega
  have hK:=E0 (l:=gA) vM d7 h0 hB hlt
  have hstep:=dN (f:=jz) hlt k
  have hix:∀{sz:Nat} {Kp:List D→Prop},(eN (jz xs[i] (mU jz xs k i)).1).length=sz→Kp (eN (jz xs[i] (mU jz xs k i)).1)→(0:Int)≤(i:Int)∧∃b,(((aK jz xs k).1).map eN)[(i:Int).toNat]? =some b∧b.length=sz∧Kp b:=fun hs h=>FP hlt hs h
  generalize mU jz xs k i=K at*
  simp only[gA] at hK
  have s0:(wk K)=K+1:=aQ (by omega) (by omega)
  repeat' first
   |refine ai ?_
   |refine hix rfl ?_
   |refine aj (show (3:Int)≠0 by decide) ?_
   |refine Or.inl (Exists.intro _ (aj (qx _) ?_))
   |skip;fail
   |refine aj (fun h=>absurd h (by simp[jz,mi,mb,wk])) (fun _=>?_)
   |refine ak ?_
  exact ⟨_,_,_,⟨i+1,rfl,hlt,rfl,rfl⟩,by omega,rfl,rfl,⟨rfl,nd hstep,nd (Y hlt hs),trivial⟩,trivial,trivial⟩
 ·have hge:xs.length≤i:=by
   have:=of_decide_eq_false h1
   rw[List.length_map,fL] at this;omega
  exact nd (fc hge)
end Go.Vc
end
section
namespace Go.Vc
open Go.Proofs
theorem aR {a:Int} {k:Int→Int} (h:0≤aG a k):0≤a∧aG a k=k a:=by
 unfold aG at h ⊢
 cases hd:decide (a<0) with
 |true=>rw[hd] at h;simp at h
 |false=>have:=of_decide_eq_false hd;exact ⟨by omega,rfl⟩
theorem ba {n:Int} {l:Nat} (h:n≤1048576) (hl:l≤big) (h0: -1≤n):IntKind.i64.wrap (n - (l:Int))=n - l:=by
 unfold big at hl
 rw[IntKind.wrap_i64];omega
theorem Co {α:Type} {m:α→Int→Int} {el:α→Int} {ok:α→Prop} (hm:∀x n,ok x→0≤n→n≤1048576→0≤m x n→m x n+el x≤n) (he:∀x,0≤el x):∀(xs:List α) (n:Int),(∀x∈xs,ok x)→0≤n→n≤1048576→0≤gN m xs n→gN m xs n+jA el xs≤n+xs.length
 |[],n,_,_,_,_=>by simp[gN,jA]
 |x::xs,n,hx,h0,hn,h=>by
  simp only[gN] at h
  obtain ⟨h1,h2⟩:=aR h
  have h3:=hm x n (hx x (List.mem_cons_self ..)) h0 hn h1
  have h4:=he x
  rw[h2] at h
  have:=Co hm he xs (m x n) (fun y hy=>hx y (List.mem_cons_of_mem _ hy)) h1 (by omega) h
  simp only[gN,jA,List.length_cons]
  rw[h2];omega
theorem iT {α:Type} {e:α→List D} {m:α→Int→Int} {el:α→Int} {ok:α→Prop} (hm:∀x n,ok x→0≤n→n≤1048576→0≤m x n→m x n+el x≤n) (he:∀x,0≤el x) (xs:List α) (n:Int) (hl:xs.length≤big) (hx:∀x∈xs,ok x) (h0:0≤n) (hn:n≤1048576)
 (h:0≤aG (IntKind.i64.wrap (n - ((xs.map e).length:Int))) fun n=>gN m xs n):(aG (IntKind.i64.wrap (n - ((xs.map e).length:Int))) fun n=>gN m xs n)+jA el xs≤n:=by
 obtain ⟨h1,h2⟩:=aR h
 rw[h2] at h ⊢
 rw[List.length_map] at*
 rw[ba hn hl (by omega)] at*
 have:=Co hm he xs _ hx h1 (by omega) h
 omega
theorem eg {α:Type} {e:α→List D} {xs:List α} (h:(D.list (xs.map e)).ok):xs.length≤big∧∀x∈xs,bA (e x):=by
 simp only[D.ok] at h
 refine ⟨by have:=h.1;rwa [List.length_map] at this,fun x hx=>okRows_iff.1 h.2 _ (List.mem_map.2 ⟨x,hx,rfl⟩)⟩
theorem AT:∀xs:List Int,jA AU xs=xs.length
 |[]=>rfl
 |x::xs=>by simp only[jA,AT xs,AU,List.length_cons];omega
theorem cE:∀{ds:List D},bA ds→∀d∈ds,d.ok
 |[],_,d,hd=>by cases hd
 |x::ds,h,d,hd=>by
  rcases List.mem_cons.1 hd with rfl|hd
  ·exact h.1
  ·exact cE h.2 d hd
theorem xp:∀{ds:List D},(∀d∈ds,d.ok)→bA ds
 |[],_=>trivial
 |x::ds,h=>⟨h x (List.mem_cons_self ..),xp fun d hd=>h d (List.mem_cons_of_mem _ hd)⟩
theorem gI (xs:List Bs) (n:Int) (hx:(lS xs).ok) (h0:0≤n) (hn:n≤1048576) (h:0≤aY xs n):aY xs n+jA AU xs≤n:=by
 obtain ⟨hl,hr⟩:=eg hx
 refine iT (ok:=fun s:Bs=>bA (eB s)) (fun s n hs h0 hn h=>?_) ik xs n hl hr h0 hn h
 have hs:s.length≤big:=by simpa [eB,bA,D.ok] using hs
 rw[ba hn hs (by omega)] at*
 simp only[AU];omega
theorem wX (xs:List Int) (n:Int) (hx:(lI xs).ok) (h0:0≤n) (hn:n≤1048576) (h:0≤dq xs n):dq xs n+jA AU xs≤n:=by
 obtain ⟨hl,_⟩:=eg hx
 unfold dq at h ⊢
 obtain ⟨h1,h2⟩:=aR h
 rw[h2] at h ⊢
 rw[List.length_map] at*
 rw[ba hn hl (by omega)] at*
 rw[AT];omega
theorem nC (x:GateField) (n:Int) (hx:bA x.e) (h0:0≤n) (hn:n≤1048576) (h:0≤cq x n):cq x n+x.el≤n:=by
 have hx:=cE hx
 unfold cq at h ⊢
 unfold GateField.el
 obtain ⟨a0,e0⟩:=aR h
 rw[e0] at h ⊢
 have l0:x.name.length≤big:=hx (.str x.name) (by simp[GateField.e])
 have b0:IntKind.i64.wrap (n - (x.name.length:Int))=n - x.name.length:=ba (by omega) l0 (by omega)
 obtain ⟨a1,e1⟩:=aR h
 rw[e1] at h ⊢
 have b1:=gI x.words (IntKind.i64.wrap (n - (x.name.length:Int))) (hx _ (by simp[GateField.e])) (by omega) (by omega) a1
 have q1:=bG ik x.words
 obtain ⟨a2,e2⟩:=aR h
 rw[e2] at h ⊢
 have l2:x.to_.length≤big:=hx (.str x.to_) (by simp[GateField.e])
 have b2:IntKind.i64.wrap (aY x.words (IntKind.i64.wrap (n - (x.name.length:Int))) - (x.to_.length:Int))=aY x.words (IntKind.i64.wrap (n - (x.name.length:Int))) - x.to_.length:=ba (by omega) l2 (by omega)
 obtain ⟨a3,e3⟩:=aR h
 rw[e3] at h ⊢
 have l3:x.default_.length≤big:=hx (.str x.default_) (by simp[GateField.e])
 have b3:IntKind.i64.wrap (IntKind.i64.wrap (aY x.words (IntKind.i64.wrap (n - (x.name.length:Int))) - (x.to_.length:Int)) - (x.default_.length:Int))=IntKind.i64.wrap (aY x.words (IntKind.i64.wrap (n - (x.name.length:Int))) - (x.to_.length:Int)) - x.default_.length:=ba (by omega) l3 (by omega)
 obtain ⟨a4,e4⟩:=aR h
 rw[e4] at h ⊢
 have l4:x.weighs.length≤big:=hx (.str x.weighs) (by simp[GateField.e])
 have b4:IntKind.i64.wrap (IntKind.i64.wrap (IntKind.i64.wrap (aY x.words (IntKind.i64.wrap (n - (x.name.length:Int))) - (x.to_.length:Int)) - (x.default_.length:Int)) - (x.weighs.length:Int))=IntKind.i64.wrap (IntKind.i64.wrap (aY x.words (IntKind.i64.wrap (n - (x.name.length:Int))) - (x.to_.length:Int)) - (x.default_.length:Int)) - x.weighs.length:=ba (by omega) l4 (by omega)
 omega
theorem mf (xs:List GateField) (n:Int) (hx:(ab xs).ok) (h0:0≤n) (hn:n≤1048576) (h:0≤dK xs n):dK xs n+jA GateField.el xs≤n:=by
 obtain ⟨hl,hr⟩:=eg hx
 exact iT (ok:=fun x:GateField=>bA x.e) nC GateField.el_nn xs n hl hr h0 hn h
theorem ny (x:GateShape) (n:Int) (hx:bA x.e) (h0:0≤n) (hn:n≤1048576) (h:0≤cm x n):cm x n+x.el≤n:=by
 have hx:=cE hx
 unfold cm at h ⊢
 unfold GateShape.el
 obtain ⟨a0,e0⟩:=aR h
 rw[e0] at h ⊢
 have l0:x.kind.length≤big:=hx (.str x.kind) (by simp[GateShape.e])
 have b0:IntKind.i64.wrap (n - (x.kind.length:Int))=n - x.kind.length:=ba (by omega) l0 (by omega)
 obtain ⟨a1,e1⟩:=aR h
 rw[e1] at h ⊢
 have b1:=mf x.fields (IntKind.i64.wrap (n - (x.kind.length:Int))) (hx _ (by simp[GateShape.e])) (by omega) (by omega) a1
 have q1:=bG GateField.el_nn x.fields
 omega
theorem l9 (xs:List GateShape) (n:Int) (hx:(aa xs).ok) (h0:0≤n) (hn:n≤1048576) (h:0≤cu xs n):cu xs n+jA GateShape.el xs≤n:=by
 obtain ⟨hl,hr⟩:=eg hx
 exact iT (ok:=fun x:GateShape=>bA x.e) ny GateShape.el_nn xs n hl hr h0 hn h
theorem pe (x:GateMend) (n:Int) (hx:bA x.e) (h0:0≤n) (hn:n≤1048576) (h:0≤cG x n):cG x n+x.el≤n:=by
 have hx:=cE hx
 unfold cG at h ⊢
 unfold GateMend.el
 obtain ⟨a0,e0⟩:=aR h
 rw[e0] at h ⊢
 have l0:x.kind.length≤big:=hx (.str x.kind) (by simp[GateMend.e])
 have b0:IntKind.i64.wrap (n - (x.kind.length:Int))=n - x.kind.length:=ba (by omega) l0 (by omega)
 obtain ⟨a1,e1⟩:=aR h
 rw[e1] at h ⊢
 have l1:x.field.length≤big:=hx (.str x.field) (by simp[GateMend.e])
 have b1:IntKind.i64.wrap (IntKind.i64.wrap (n - (x.kind.length:Int)) - (x.field.length:Int))=IntKind.i64.wrap (n - (x.kind.length:Int)) - x.field.length:=ba (by omega) l1 (by omega)
 obtain ⟨a2,e2⟩:=aR h
 rw[e2] at h ⊢
 have l2:x.when_.length≤big:=hx (.str x.when_) (by simp[GateMend.e])
 have b2:IntKind.i64.wrap (IntKind.i64.wrap (IntKind.i64.wrap (n - (x.kind.length:Int)) - (x.field.length:Int)) - (x.when_.length:Int))=IntKind.i64.wrap (IntKind.i64.wrap (n - (x.kind.length:Int)) - (x.field.length:Int)) - x.when_.length:=ba (by omega) l2 (by omega)
 obtain ⟨a3,e3⟩:=aR h
 rw[e3] at h ⊢
 have l3:x.is_.length≤big:=hx (.str x.is_) (by simp[GateMend.e])
 have b3:IntKind.i64.wrap (IntKind.i64.wrap (IntKind.i64.wrap (IntKind.i64.wrap (n - (x.kind.length:Int)) - (x.field.length:Int)) - (x.when_.length:Int)) - (x.is_.length:Int))=IntKind.i64.wrap (IntKind.i64.wrap (IntKind.i64.wrap (n - (x.kind.length:Int)) - (x.field.length:Int)) - (x.when_.length:Int)) - x.is_.length:=ba (by omega) l3 (by omega)
 obtain ⟨a4,e4⟩:=aR h
 rw[e4] at h ⊢
 have l4:x.put.length≤big:=hx (.str x.put) (by simp[GateMend.e])
 have b4:IntKind.i64.wrap (IntKind.i64.wrap (IntKind.i64.wrap (IntKind.i64.wrap (IntKind.i64.wrap (n - (x.kind.length:Int)) - (x.field.length:Int)) - (x.when_.length:Int)) - (x.is_.length:Int)) - (x.put.length:Int))=IntKind.i64.wrap (IntKind.i64.wrap (IntKind.i64.wrap (IntKind.i64.wrap (n - (x.kind.length:Int)) - (x.field.length:Int)) - (x.when_.length:Int)) - (x.is_.length:Int)) - x.put.length:=ba (by omega) l4 (by omega)
 obtain ⟨a5,e5⟩:=aR h
 rw[e5] at h ⊢
 have l5:x.from_.length≤big:=hx (.str x.from_) (by simp[GateMend.e])
 have b5:IntKind.i64.wrap (IntKind.i64.wrap (IntKind.i64.wrap (IntKind.i64.wrap (IntKind.i64.wrap (IntKind.i64.wrap (n - (x.kind.length:Int)) - (x.field.length:Int)) - (x.when_.length:Int)) - (x.is_.length:Int)) - (x.put.length:Int)) - (x.from_.length:Int))=IntKind.i64.wrap (IntKind.i64.wrap (IntKind.i64.wrap (IntKind.i64.wrap (IntKind.i64.wrap (n - (x.kind.length:Int)) - (x.field.length:Int)) - (x.when_.length:Int)) - (x.is_.length:Int)) - (x.put.length:Int)) - x.from_.length:=ba (by omega) l5 (by omega)
 omega
theorem nA (xs:List GateMend) (n:Int) (hx:(af xs).ok) (h0:0≤n) (hn:n≤1048576) (h:0≤du xs n):du xs n+jA GateMend.el xs≤n:=by
 obtain ⟨hl,hr⟩:=eg hx
 exact iT (ok:=fun x:GateMend=>bA x.e) pe GateMend.el_nn xs n hl hr h0 hn h
theorem pa (x:GateTeam) (n:Int) (hx:bA x.e) (h0:0≤n) (hn:n≤1048576) (h:0≤cF x n):cF x n+x.el≤n:=by
 have hx:=cE hx
 unfold cF at h ⊢
 unfold GateTeam.el
 obtain ⟨a0,e0⟩:=aR h
 rw[e0] at h ⊢
 have l0:x.name.length≤big:=hx (.str x.name) (by simp[GateTeam.e])
 have b0:IntKind.i64.wrap (n - (x.name.length:Int))=n - x.name.length:=ba (by omega) l0 (by omega)
 obtain ⟨a1,e1⟩:=aR h
 rw[e1] at h ⊢
 have l1:x.over.length≤big:=hx (.str x.over) (by simp[GateTeam.e])
 have b1:IntKind.i64.wrap (IntKind.i64.wrap (n - (x.name.length:Int)) - (x.over.length:Int))=IntKind.i64.wrap (n - (x.name.length:Int)) - x.over.length:=ba (by omega) l1 (by omega)
 omega
theorem nw (xs:List GateTeam) (n:Int) (hx:(am xs).ok) (h0:0≤n) (hn:n≤1048576) (h:0≤ec xs n):ec xs n+jA GateTeam.el xs≤n:=by
 obtain ⟨hl,hr⟩:=eg hx
 exact iT (ok:=fun x:GateTeam=>bA x.e) pa GateTeam.el_nn xs n hl hr h0 hn h
theorem qt (x:GateLaw) (n:Int) (hx:bA x.e) (h0:0≤n) (hn:n≤1048576) (h:0≤eQ x n):eQ x n+x.el≤n:=by
 have hx:=cE hx
 unfold eQ at h ⊢
 unfold GateLaw.el
 obtain ⟨a0,e0⟩:=aR h
 rw[e0] at h ⊢
 have b0:=l9 x.shapes (n) (hx _ (by simp[GateLaw.e])) (by omega) (by omega) a0
 have q0:=bG GateShape.el_nn x.shapes
 obtain ⟨a1,e1⟩:=aR h
 rw[e1] at h ⊢
 have b1:=nA x.mends (cu x.shapes (n)) (hx _ (by simp[GateLaw.e])) (by omega) (by omega) a1
 have q1:=bG GateMend.el_nn x.mends
 obtain ⟨a2,e2⟩:=aR h
 rw[e2] at h ⊢
 have b2:=nw x.teams (du x.mends (cu x.shapes (n))) (hx _ (by simp[GateLaw.e])) (by omega) (by omega) a2
 have q2:=bG GateTeam.el_nn x.teams
 omega
theorem mc (x:GateObject) (n:Int) (hx:bA x.e) (h0:0≤n) (hn:n≤1048576) (h:0≤bY x n):bY x n+x.el≤n:=by
 have hx:=cE hx
 unfold bY at h ⊢
 unfold GateObject.el
 obtain ⟨a0,e0⟩:=aR h
 rw[e0] at h ⊢
 have l0:x.kind.length≤big:=hx (.str x.kind) (by simp[GateObject.e])
 have b0:IntKind.i64.wrap (n - (x.kind.length:Int))=n - x.kind.length:=ba (by omega) l0 (by omega)
 obtain ⟨a1,e1⟩:=aR h
 rw[e1] at h ⊢
 have l1:x.name.length≤big:=hx (.str x.name) (by simp[GateObject.e])
 have b1:IntKind.i64.wrap (IntKind.i64.wrap (n - (x.kind.length:Int)) - (x.name.length:Int))=IntKind.i64.wrap (n - (x.kind.length:Int)) - x.name.length:=ba (by omega) l1 (by omega)
 obtain ⟨a2,e2⟩:=aR h
 rw[e2] at h ⊢
 have l2:x.team.length≤big:=hx (.str x.team) (by simp[GateObject.e])
 have b2:IntKind.i64.wrap (IntKind.i64.wrap (IntKind.i64.wrap (n - (x.kind.length:Int)) - (x.name.length:Int)) - (x.team.length:Int))=IntKind.i64.wrap (IntKind.i64.wrap (n - (x.kind.length:Int)) - (x.name.length:Int)) - x.team.length:=ba (by omega) l2 (by omega)
 obtain ⟨a3,e3⟩:=aR h
 rw[e3] at h ⊢
 have b3:=gI x.values (IntKind.i64.wrap (IntKind.i64.wrap (IntKind.i64.wrap (n - (x.kind.length:Int)) - (x.name.length:Int)) - (x.team.length:Int))) (hx _ (by simp[GateObject.e])) (by omega) (by omega) a3
 have q3:=bG ik x.values
 obtain ⟨a4,e4⟩:=aR h
 rw[e4] at h ⊢
 have b4:=gI x.holds (aY x.values (IntKind.i64.wrap (IntKind.i64.wrap (IntKind.i64.wrap (n - (x.kind.length:Int)) - (x.name.length:Int)) - (x.team.length:Int)))) (hx _ (by simp[GateObject.e])) (by omega) (by omega) a4
 have q4:=bG ik x.holds
 omega
theorem le (xs:List GateObject) (n:Int) (hx:(aM xs).ok) (h0:0≤n) (hn:n≤1048576) (h:0≤bK xs n):bK xs n+jA GateObject.el xs≤n:=by
 obtain ⟨hl,hr⟩:=eg hx
 exact iT (ok:=fun x:GateObject=>bA x.e) mc GateObject.el_nn xs n hl hr h0 hn h
theorem pc (x:GateRule) (n:Int) (hx:bA x.e) (h0:0≤n) (hn:n≤1048576) (h:0≤dT x n):dT x n+x.el≤n:=by
 have hx:=cE hx
 unfold dT at h ⊢
 unfold GateRule.el
 obtain ⟨a0,e0⟩:=aR h
 rw[e0] at h ⊢
 have b0:=wX x.verbs (n) (hx _ (by simp[GateRule.e])) (by omega) (by omega) a0
 have q0:=bG ik x.verbs
 obtain ⟨a1,e1⟩:=aR h
 rw[e1] at h ⊢
 have l1:x.kind.length≤big:=hx (.str x.kind) (by simp[GateRule.e])
 have b1:IntKind.i64.wrap (dq x.verbs (n) - (x.kind.length:Int))=dq x.verbs (n) - x.kind.length:=ba (by omega) l1 (by omega)
 obtain ⟨a2,e2⟩:=aR h
 rw[e2] at h ⊢
 have l2:x.team.length≤big:=hx (.str x.team) (by simp[GateRule.e])
 have b2:IntKind.i64.wrap (IntKind.i64.wrap (dq x.verbs (n) - (x.kind.length:Int)) - (x.team.length:Int))=IntKind.i64.wrap (dq x.verbs (n) - (x.kind.length:Int)) - x.team.length:=ba (by omega) l2 (by omega)
 obtain ⟨a3,e3⟩:=aR h
 rw[e3] at h ⊢
 have l3:x.prefix_.length≤big:=hx (.str x.prefix_) (by simp[GateRule.e])
 have b3:IntKind.i64.wrap (IntKind.i64.wrap (IntKind.i64.wrap (dq x.verbs (n) - (x.kind.length:Int)) - (x.team.length:Int)) - (x.prefix_.length:Int))=IntKind.i64.wrap (IntKind.i64.wrap (dq x.verbs (n) - (x.kind.length:Int)) - (x.team.length:Int)) - x.prefix_.length:=ba (by omega) l3 (by omega)
 omega
theorem nB (x:GateGrant) (n:Int) (hx:bA x.e) (h0:0≤n) (hn:n≤1048576) (h:0≤co x n):co x n+x.el≤n:=by
 have hx:=cE hx
 unfold co at h ⊢
 unfold GateGrant.el
 obtain ⟨a0,e0⟩:=aR h
 rw[e0] at h ⊢
 have l0:x.to_.length≤big:=hx (.str x.to_) (by simp[GateGrant.e])
 have b0:IntKind.i64.wrap (n - (x.to_.length:Int))=n - x.to_.length:=ba (by omega) l0 (by omega)
 obtain ⟨a1,e1⟩:=aR h
 rw[e1] at h ⊢
 have l1:x.by_.length≤big:=hx (.str x.by_) (by simp[GateGrant.e])
 have b1:IntKind.i64.wrap (IntKind.i64.wrap (n - (x.to_.length:Int)) - (x.by_.length:Int))=IntKind.i64.wrap (n - (x.to_.length:Int)) - x.by_.length:=ba (by omega) l1 (by omega)
 obtain ⟨a2,e2⟩:=aR h
 rw[e2] at h ⊢
 have b2:=pc x.rule (IntKind.i64.wrap (IntKind.i64.wrap (n - (x.to_.length:Int)) - (x.by_.length:Int))) (xp fun d hd=>hx d (by simp[GateGrant.e,GateRule.e] at hd ⊢;simp[hd])) (by omega) (by omega) a2
 have q2:=GateRule.el_nn x.rule
 unfold GateRule.el at b2 q2
 omega
theorem me (xs:List GateGrant) (n:Int) (hx:(bp xs).ok) (h0:0≤n) (hn:n≤1048576) (h:0≤cv xs n):cv xs n+jA GateGrant.el xs≤n:=by
 obtain ⟨hl,hr⟩:=eg hx
 exact iT (ok:=fun x:GateGrant=>bA x.e) nB GateGrant.el_nn xs n hl hr h0 hn h
theorem md (x:GateLedger) (n:Int) (hx:bA x.e) (h0:0≤n) (hn:n≤1048576) (h:0≤bZ x n):bZ x n+x.el≤n:=by
 have hx:=cE hx
 unfold bZ at h ⊢
 unfold GateLedger.el
 obtain ⟨a0,e0⟩:=aR h
 rw[e0] at h ⊢
 have l0:x.team.length≤big:=hx (.str x.team) (by simp[GateLedger.e])
 have b0:IntKind.i64.wrap (n - (x.team.length:Int))=n - x.team.length:=ba (by omega) l0 (by omega)
 obtain ⟨a1,e1⟩:=aR h
 rw[e1] at h ⊢
 have l1:x.resource.length≤big:=hx (.str x.resource) (by simp[GateLedger.e])
 have b1:IntKind.i64.wrap (IntKind.i64.wrap (n - (x.team.length:Int)) - (x.resource.length:Int))=IntKind.i64.wrap (n - (x.team.length:Int)) - x.resource.length:=ba (by omega) l1 (by omega)
 omega
theorem lh (xs:List GateLedger) (n:Int) (hx:(aW xs).ok) (h0:0≤n) (hn:n≤1048576) (h:0≤cD xs n):cD xs n+jA GateLedger.el xs≤n:=by
 obtain ⟨hl,hr⟩:=eg hx
 exact iT (ok:=fun x:GateLedger=>bA x.e) md GateLedger.el_nn xs n hl hr h0 hn h
theorem nz (x:GatePurse) (n:Int) (hx:bA x.e) (h0:0≤n) (hn:n≤1048576) (h:0≤cn x n):cn x n+x.el≤n:=by
 have hx:=cE hx
 unfold cn at h ⊢
 unfold GatePurse.el
 obtain ⟨a0,e0⟩:=aR h
 rw[e0] at h ⊢
 have l0:x.door.length≤big:=hx (.str x.door) (by simp[GatePurse.e])
 have b0:IntKind.i64.wrap (n - (x.door.length:Int))=n - x.door.length:=ba (by omega) l0 (by omega)
 obtain ⟨a1,e1⟩:=aR h
 rw[e1] at h ⊢
 have l1:x.team.length≤big:=hx (.str x.team) (by simp[GatePurse.e])
 have b1:IntKind.i64.wrap (IntKind.i64.wrap (n - (x.door.length:Int)) - (x.team.length:Int))=IntKind.i64.wrap (n - (x.door.length:Int)) - x.team.length:=ba (by omega) l1 (by omega)
 obtain ⟨a2,e2⟩:=aR h
 rw[e2] at h ⊢
 have l2:x.resource.length≤big:=hx (.str x.resource) (by simp[GatePurse.e])
 have b2:IntKind.i64.wrap (IntKind.i64.wrap (IntKind.i64.wrap (n - (x.door.length:Int)) - (x.team.length:Int)) - (x.resource.length:Int))=IntKind.i64.wrap (IntKind.i64.wrap (n - (x.door.length:Int)) - (x.team.length:Int)) - x.resource.length:=ba (by omega) l2 (by omega)
 omega
theorem ma (xs:List GatePurse) (n:Int) (hx:(bo xs).ok) (h0:0≤n) (hn:n≤1048576) (h:0≤dJ xs n):dJ xs n+jA GatePurse.el xs≤n:=by
 obtain ⟨hl,hr⟩:=eg hx
 exact iT (ok:=fun x:GatePurse=>bA x.e) nz GatePurse.el_nn xs n hl hr h0 hn h
theorem pf (x:GateBook) (n:Int) (hx:bA x.e) (h0:0≤n) (hn:n≤1048576) (h:0≤e6 x n):e6 x n+x.el≤n:=by
 have hx:=cE hx
 unfold e6 at h ⊢
 unfold GateBook.el
 obtain ⟨a0,e0⟩:=aR h
 rw[e0] at h ⊢
 have b0:=le x.objects (n) (hx _ (by simp[GateBook.e])) (by omega) (by omega) a0
 have q0:=bG GateObject.el_nn x.objects
 obtain ⟨a1,e1⟩:=aR h
 rw[e1] at h ⊢
 have b1:=me x.grants (bK x.objects (n)) (hx _ (by simp[GateBook.e])) (by omega) (by omega) a1
 have q1:=bG GateGrant.el_nn x.grants
 obtain ⟨a2,e2⟩:=aR h
 rw[e2] at h ⊢
 have b2:=lh x.ledgers (cv x.grants (bK x.objects (n))) (hx _ (by simp[GateBook.e])) (by omega) (by omega) a2
 have q2:=bG GateLedger.el_nn x.ledgers
 obtain ⟨a3,e3⟩:=aR h
 rw[e3] at h ⊢
 have b3:=ma x.purses (cD x.ledgers (cv x.grants (bK x.objects (n)))) (hx _ (by simp[GateBook.e])) (by omega) (by omega) a3
 have q3:=bG GatePurse.el_nn x.purses
 omega
end Go.Vc
end
section
namespace Go.Vc
open Go.Proofs
theorem GateLaw.marks_le (x:GateLaw) (k:Int) (h0:0≤k) (hB:k+x.lv≤1099511627776):k≤(GateLaw.marks x k).2∧(GateLaw.marks x k).2≤k+x.lv:=by
 have p0:=aZ GateShape.lv_nn x.shapes
 have p1:=aZ GateMend.lv_nn x.mends
 have p2:=aZ GateTeam.lv_nn x.teams
 unfold GateLaw.lv at*
 have:=GateLaw.marks_val x k h0 (by omega)
 omega
theorem GateBook.marks_le (x:GateBook) (k:Int) (h0:0≤k) (hB:k+x.lv≤1099511627776):k≤(GateBook.marks x k).2∧(GateBook.marks x k).2≤k+x.lv:=by
 have p0:=aZ GateObject.lv_nn x.objects
 have p1:=aZ GateGrant.lv_nn x.grants
 have p2:=aZ GateLedger.lv_nn x.ledgers
 have p3:=aZ GatePurse.lv_nn x.purses
 unfold GateBook.lv at*
 have:=GateBook.marks_val x k h0 (by omega)
 omega
end Go.Vc
end
section
namespace Go.Vc
theorem Ew {ds:List D} (h:AV.ok (st ds)):bA ds:=by
 unfold st at h
 simp only[AV.ok] at h
 induction ds with
 |nil=>exact trivial
 |cons d ds ih=>exact ⟨h.1,ih h.2⟩
theorem Dt {α:Type} {f:α→Int} (h:∀x,0≤f x):∀xs:List α,(xs.length:Int)≤jA f xs
 |[]=>Int.le_refl _
 |x::xs=>by
  have:=h x
  have:=Dt h xs
  simp only[jA,List.length_cons];omega
theorem AB {α:Type}:∀xs:List α,cC gA xs=xs.length
 |[]=>rfl
 |x::xs=>by simp only[cC,AB xs,gA,List.length_cons];omega
end Go.Vc
end
