/- FnExactGateSweep, where what it reads is of bulk at most 1048576: it returns true, and its arguments read as they did. -/
import Derived.Test.YteongcjplmbkgaaGreatDoorSwa
import Derived.Test.YteongcjplmbkgaaGreatDoorSwb
import Derived.Test.YteongcjplmbkgaaGreatDoorSwc
import Derived.Test.YteongcjplmbkgaaGreatDoorSwd
import Derived.Test.YteongcjplmbkgaaGreatDoorSwe
import Derived.Test.YteongcjplmbkgaaGreatDoorSwf
import Derived.Test.YteongcjplmbkgaaGreatDoorSwg
import Derived.Test.YteongcjplmbkgaaGreatDoorSwh
import Derived.SevenTiedAt
set_option linter.unusedVariables false
set_option linter.unusedSimpArgs false
section
namespace Go.Vc
open Go.Proofs Go.Proofs.YteongcjplmbkgaaGreatDoor Go.ChangeShapes Go.WideShapes Go.RowKit
set_option maxRecDepth 100000
set_option maxHeartbeats 20000000 in
theorem Kt (L:GateLaw) (b:GateBook):Spec P 10 [st L.e,st b.e] (.d (.bool true)):=by
 refine Bt cd aA [.tmp 4] Tryz.func10 rfl rfl rfl rfl (fun hok=>?_)
 repeat first|refine ai ?_|refine sg ?_
 refine oc (zC L _) ?_
 repeat first|refine ai ?_|refine sg ?_
 refine aj ?_ ?_<;>intro g0
 ·repeat first|refine ai ?_|refine sg ?_
  rfl
 repeat first|refine ai ?_|refine sg ?_
 refine oc (xK b _) ?_
 repeat first|refine ai ?_|refine sg ?_
 refine aj ?_ ?_<;>intro g1
 ·repeat first|refine ai ?_|refine sg ?_
  rfl
 have k0:bP L.e:=IB hok.1
 have z0:0≤fB L 1048576:=by have:=of_decide_eq_false g0;omega
 have y0:=sL L _ k0 (by decide) (by decide) z0
 have x0:=L.el_nn
 have w0:=L.lv_le
 have l0:=L.lv_nn
 have k1:bP b.e:=IB hok.2.1
 have z1:0≤fM b (fB L 1048576):=by have:=of_decide_eq_false g1;omega
 have y1:=rc b _ k1 z0 (by omega) z1
 have x1:=b.el_nn
 have w1:=b.lv_le
 have l1:=b.lv_nn
 have u0:=GateLaw.marks_le L 1 (by omega) (by omega)
 have u1:=GateBook.marks_le b (GateLaw.marks L 1).2 (by omega) (by omega)
 have hB:(1:Int)+(0+bQ GateObject.lv (bx L b).1.objects+bQ GateGrant.lv (bx L b).1.grants+bQ GateLedger.lv (bx L b).1.ledgers+bQ GatePurse.lv (bx L b).1.purses)≤1099511627776:=by
  have q1:=GateBook.lv_le (bx L b).1
  have q2:=Ej L b
  have q3:=GateBook.el_nn b
  unfold GateBook.lv at q1
  omega
 have hv:=GateBook.marks_val (bx L b).1 1 (by decide) hB
 have hnobjects:=aQ GateObject.lv_nn (bx L b).1.objects
 have hngrants:=aQ GateGrant.lv_nn (bx L b).1.grants
 have hnledgers:=aQ GateLedger.lv_nn (bx L b).1.ledgers
 have hnpurses:=aQ GatePurse.lv_nn (bx L b).1.purses
 generalize hR:bx L b=R at*
 have cs:=zL L b
 have ci:=AT L b
 rw[hR] at cs ci
 repeat first|refine ai ?_|refine sg ?_
 refine akp 10 (.one [0,1,2,3,4,5,6,7] [] 8 (.one [] [0,1,2,3,4,5,6,7] 9 (.fin [] [7]))) ?_
 repeat first|refine ai ?_|refine sg ?_
 repeat first|refine ai ?_|refine sg ?_
 refine oc (iF L) ?_
 repeat first|refine ai ?_|refine sg ?_
 refine oc (gR b) ?_
 repeat first|refine ai ?_|refine sg ?_
 refine oc (cs) ?_
 repeat first|refine ai ?_|refine sg ?_
 refine oc (iF L) ?_
 repeat first|refine ai ?_|refine sg ?_
 refine oc (gR b) ?_
 repeat first|refine ai ?_|refine sg ?_
 refine oc (cs) ?_
 repeat first|refine ai ?_|refine sg ?_
 refine ow (zA L) ?_
 repeat first|refine ai ?_|refine sg ?_
 refine ow (xF b) ?_
 repeat first|refine ai ?_|refine sg ?_
 refine ov (ci) ?_
 repeat first|refine ai ?_|refine sg ?_
 refine ol (gX R.1) ?_
 repeat first|refine ai ?_|refine sg ?_
 refine ay ?_
 repeat first|refine ai ?_|refine sg ?_
 refine an ?_
 repeat first|refine ai ?_|refine sg ?_
 refine ak ?_
 repeat first|refine ai ?_|refine sg ?_
 repeat first|refine ai ?_|refine sg ?_
 refine oc (iF L) ?_
 repeat first|refine ai ?_|refine sg ?_
 refine ol (CK L) ?_
 repeat first|refine ai ?_|refine sg ?_
 refine an ?_
 repeat first|refine ai ?_|refine sg ?_
 refine ak ?_
 repeat first|refine ai ?_|refine sg ?_
 repeat first|refine ai ?_|refine sg ?_
 refine oc (gR b) ?_
 repeat first|refine ai ?_|refine sg ?_
 refine ol (gX b) ?_
 repeat first|refine ai ?_|refine sg ?_
 refine an ?_
 repeat first|refine ai ?_|refine sg ?_
 refine om [3,4,5] none (Cd L _) ?_
 repeat first|refine ai ?_|refine sg ?_
 refine om [7,8,9,10] none (qD b _) ?_
 repeat first|refine ai ?_|refine sg ?_
 refine aj (fun _=>?_) (fun h=>absurd (of_decide_eq_true h) (by omega))
 repeat first|refine ai ?_|refine sg ?_
 refine ol (gX R.1) ?_
 repeat first|refine ai ?_|refine sg ?_
 refine ay ?_
 repeat first|refine ai ?_|refine sg ?_
 refine an ?_
 repeat first|refine ai ?_|refine sg ?_
 refine om [12,13,14,15] none (qD R.1 1) ?_
 repeat first|refine ai ?_|refine sg ?_
 refine ol (lF R.1 1 (by decide) hB) ?_
 repeat first|refine ai ?_|refine sg ?_
 refine aj (fun h=>absurd (of_decide_eq_true h) (by rw[hv];omega)) (fun _=>?_)
 repeat first|refine ai ?_|refine sg ?_
 refine an ?_
 refine LI [2,3,6,7,10,13] [0,1,2,12,13,14,15,16] (aj (by repeat' first|exact rfl|exact trivial|refine aj ?_ ?_) ?_)
 repeat first|refine ai ?_|refine sg ?_
 refine akp 10 (.two [0,1,2,3] [] 4 (.one [5,6,7] [] 8 (.one [] [5,6,7] 9 (.fin [] [7]))) 8 (.one [] [0,1,2,3] 4 (.one [5,6,7] [] 9 (.fin [] [7])))) ?_
 repeat first|refine ai ?_|refine sg ?_
 repeat first|refine ai ?_|refine sg ?_
 refine oc (iF L) ?_
 repeat first|refine ai ?_|refine sg ?_
 refine oc (gR b) ?_
 repeat first|refine ai ?_|refine sg ?_
 refine aj ?_ ?_
 ·repeat first|refine ai ?_|refine sg ?_
  refine ow (ci) ?_
  repeat first|refine ai ?_|refine sg ?_
  refine ol (gX R.1) ?_
  repeat first|refine ai ?_|refine sg ?_
  refine ay ?_
  repeat first|refine ai ?_|refine sg ?_
  refine an ?_
  repeat first|refine ai ?_|refine sg ?_
  refine ol (lF R.1 1 (by decide) hB) ?_
  repeat first|refine ai ?_|refine sg ?_
  refine aj (fun h=>absurd (of_decide_eq_true h) (by rw[hv];omega)) (fun _=>?_)
  repeat first|refine ai ?_|refine sg ?_
  refine an ?_
  repeat first|refine ai ?_|refine sg ?_
  rfl
 ·repeat first|refine ai ?_|refine sg ?_
  refine oc (iF L) ?_
  repeat first|refine ai ?_|refine sg ?_
  refine oc (gR b) ?_
  repeat first|refine ai ?_|refine sg ?_
  refine ow (ci) ?_
  repeat first|refine ai ?_|refine sg ?_
  refine ol (gX R.1) ?_
  repeat first|refine ai ?_|refine sg ?_
  refine ay ?_
  repeat first|refine ai ?_|refine sg ?_
  refine an ?_
  repeat first|refine ai ?_|refine sg ?_
  refine ol (lF R.1 1 (by decide) hB) ?_
  repeat first|refine ai ?_|refine sg ?_
  refine aj (fun h=>absurd (of_decide_eq_true h) (by rw[hv];omega)) (fun _=>?_)
  repeat first|refine ai ?_|refine sg ?_
  refine an ?_
  repeat first|refine ai ?_|refine sg ?_
  rfl
theorem Ha (H:Type) (enc:TypeId×Value→H) (W:World) (base:Nat) (args:Array Value) (ds gs:List (DataW H)) (before:List MemPlace)
 (hval:∀(j:Nat) t v,Tryz.f10.params[j]? =some t→args[j]? =some v→Value.okWide Tryz.prog W .any base t v)
 (hW:DataW.Whole enc Tryz.prog Tryz.f10.params.toList Rows.fnExactGateSweepSpec.vars false W args.toList ds gs before) (hk:Rows.uptoSmall H (ds++gs)=true) (hL:laidMetH Tryz.prog Dz W):
 Calls Tryz.prog 10 args W fun e W'=>∃v,e= .returned v∧Rows.fnExactGateSweepSpec.post enc Tryz.prog Tryz.f10 false true false false W args v W':=by
 have hW':=hW
 obtain ⟨p,q,hA0,hV,rfl,hfz,hnd⟩:=hW
 obtain ⟨rfl,rfl⟩:=trodVars_none hV
 have hA:DataW.TrodAll enc Tryz.prog W 0 (fun _=>true) true [26,32] args.toList ds p:=hA0
 have hp:Tryz.f10.params= #[26,32]:=rfl
 rw[hp] at hval
 obtain ⟨v0,vs0,d0,ds0,p0,q0,hargs,rfl,rfl,h0,r0⟩:=trodAll_cons hA
 obtain ⟨v1,vs1,d1,ds1,p1,q1,rfl,rfl,rfl,h1,r1⟩:=trodAll_cons r0
 obtain ⟨rfl,rfl,rfl⟩:=trodAll_nil r1
 obtain rfl:args= #[v0,v1]:=by cases args;simp_all
 have hsmall:Rows.uptoBulk d0+(Rows.uptoBulk d1+0)≤1048576:=by
  have:=of_decide_eq_true hk
  simpa only[List.append_nil,Rows.uptoBulkAll] using this
 obtain ⟨n0,t0⟩:=h0
 obtain ⟨n1,t1⟩:=h1
 obtain ⟨e0,g0,s0⟩:=rE (P:=P) (n:=12) (by kernel_rfl) t0 (by unfold big;omega)
 obtain ⟨e1,g1,s1⟩:=rE (P:=P) (n:=12) (by kernel_rfl) t1 (by unfold big;omega)
 have lg:=Cj hL
 replace g0:=wZ lg.ifc g0 (nV s0)
 replace g1:=wZ lg.ifc g1 (nV s1)
 obtain ⟨L,rfl⟩:=BC s0
 obtain ⟨b,rfl⟩:=zw s1
 have k0:=hval 0 26 v0 rfl rfl
 have k1:=hval 1 32 v1 rfl rfl
 obtain ⟨f0,hu0⟩:∃fs,P.underlying 26=some (.struct fs):=sN (by kernel_rfl)
 obtain ⟨c0,rfl⟩:=Hr hu0 k0
 obtain ⟨f1,hu1⟩:∃fs,P.underlying 32=some (.struct fs):=sN (by kernel_rfl)
 obtain ⟨c1,rfl⟩:=Hr hu1 k1
 have hr:Rv W IH (fun _=>undef) [st L.e,st b.e] [.agg c0,.agg c1]:=by
  have g0:Rd W IH L.e c0.toList:=g0
  have g1:Rd W IH b.e c1.toList:=g1
  have a0:=y7 (ν:=fun _=>undef) g0
  have a1:=y7 (ν:=fun _=>undef) g1
  have:=Rv.agg _ a0 (Rv.agg _ a1 .nil)
  show Rv W IH (fun _=>undef) [.agg (L.e.map .d),.agg (b.e.map .d)] [.agg c0,.agg c1]
  simpa using this
 refine ((Kt L b).2 IH W [.agg c0,.agg c1] lg.bnd lg.lw hr).mono fun e W' ⟨v,he,hkp,hv⟩=>?_
 obtain rfl:=bU hv
 subst he
 exact ⟨_,rfl,EK (by kernel_rfl) (by kernel_rfl) (by kernel_rfl) (by decide) rfl rfl (show P.underlying 4=some .bool from by kernel_rfl) hW' hkp rfl⟩
theorem J9 (os:Os) {H:Type} (enc:TypeId×Value→H):∃places,DataW.whole enc Tryz.prog ((qb os).forCall (fun _ _=>0) ⟨#[],#[.agg #[.slice none 0 0,.slice none 0 0,.slice none 0 0],.agg #[.int .i64 0,.int .i64 0,.int .i64 0,.slice none 0 0,.slice none 0 0,.slice none 0 0,.slice none 0 0]],[]⟩).memory Tryz.f10.params.toList Rows.fnExactGateSweepSpec.vars false (#[.agg #[.slice none 0 0,.slice none 0 0,.slice none 0 0],.agg #[.int .i64 0,.int .i64 0,.int .i64 0,.slice none 0 0,.slice none 0 0,.slice none 0 0,.slice none 0 0]]:Array Value).toList 12=some ([.agg [.nil,.nil,.nil],.agg [.lit (.int .i64 0),.lit (.int .i64 0),.lit (.int .i64 0),.nil,.nil,.nil,.nil]],[],places):=
 ⟨[],by kernel_rfl⟩
theorem Jk (os:Os) (started:os.Started) (H:Type) (enc:TypeId×Value→H) (F:Stop.Interp):
 ReturnsInHanded {} Tryz.checked os 10 .any ((Rows.OpenSpec.upto Rows.fnExactGateSweepSpec).preRow enc Tryz.prog Tryz.f10 Rows.fnExactGateSweepUptoRow.domain false Rows.fnExactGateSweepUptoRow.laid) (((Rows.OpenSpec.upto Rows.fnExactGateSweepSpec).at F).post enc Tryz.prog Tryz.f10 false true false false):=by
 obtain ⟨places,hx⟩:=J9 os enc
 refine returnsInHanded_of_row (C:=Tryz.checked) (s:=Rows.OpenSpec.upto Rows.fnExactGateSweepSpec) own started (by kernel_rfl) Tryz.func10
  (witness_row_at (enc:=enc) (C:=Tryz.checked) false (qb os) #[.agg #[.slice none 0 0,.slice none 0 0,.slice none 0 0],.agg #[.int .i64 0,.int .i64 0,.int .i64 0,.slice none 0 0,.slice none 0 0,.slice none 0 0,.slice none 0 0]] rfl (by kernel_rfl) (by kernel_rfl) (by kernel_rfl)
    (OpenSpec.preRow_of_cond 12 hx (by kernel_rfl) (fun k hk=>by cases hk;kernel_rfl) (by kernel_rfl) (GF os _))) ?_
 intro W base args ds gs before hval hW _ hcond _ hL _ _
 exact Ha H enc W base args ds gs before hval hW (hcond _ rfl) hL
theorem Ky:(Rows.fnExactGateSweepUptoRow.inPlace==Tryz.pinned.checked.prog.inPlace 10)=true:=by kernel_rfl
theorem Kx:(Rows.fnExactGateSweepUptoRow.unfollowed==Tryz.pinned.checked.prog.unfollowed 10)=true:=by kernel_rfl
theorem Kw:(Rows.fnExactGateSweepUptoRow.recurses==Tryz.pinned.checked.prog.recurses 10)=true:=by kernel_rfl
theorem Kv:(Rows.fnExactGateSweepUptoRow.named==Tryz.pinned.checked.prog.varsNamed 10)=true:=by kernel_rfl
theorem Ku:joinedFacts Tryz.pinned.checked.prog 10 Tryz.f10 (Rows.OpenSpec.upto Rows.fnExactGateSweepSpec).bare Rows.fnExactGateSweepUptoRow=true:=by
 unfold joinedFacts
 rw[Ky,Kx,Kw,Kv]
 kernel_rfl
theorem JY:Tryz.f10.isWrapper Tryz.pinned.checked.prog Rows.fnExactGateSweepUptoRow.wrapper Rows.fnExactGateSweepUptoRow.mainSum:=by
 unfold Func.isWrapper
 first|(rw[if_pos (by decide+kernel)];kernel_rfl)|(rw[if_neg (by decide+kernel)];exact ⟨rfl,rfl⟩)
theorem GE:Rows.fnExactGateSweepUptoRow.holds Tryz.pinned (Rows.OpenSpec.upto Rows.fnExactGateSweepSpec):=
 OpenClaim.holds_of_cond 10 Tryz.f10 rfl rfl rfl rfl rfl rfl rfl ⟨rfl,rfl,rfl,rfl,rfl⟩ rfl rfl rfl rfl rfl (by kernel_rfl) Tryz.func10 Ku
  (of_decide_eq_true (by kernel_rfl)) JY
  (fun os started H enc _ F=>by rw[OpenClaim.pre_eq_preRow];exact Jk os started H enc F)
theorem ER:∀t∈Tryz.f10.params.toList,Tryz.prog.wantsStandIn t=false:=by
 have h:Tryz.f10.params.toList.all (fun t=> !Tryz.prog.wantsStandIn t)=true:=by kernel_rfl
 intro t ht
 have:=List.all_eq_true.1 h t ht
 simpa using this
theorem B2 (f:FuncId) (fn:Func) (hf:Tryz.pinned.checked.prog.funcNamed "loop.example/wharfhall/laws.FnExactGateSweep" =some f) (hfn:Tryz.pinned.checked.prog.funcs[f]? =some fn):
 true=Tryz.pinned.checked.prog.looks []∧∀(j:Nat) t,fn.params[j]? =some t→Tryz.pinned.checked.prog.wantsStandIn t=false:=by
 obtain rfl:f=10:=Option.some.inj ((show Tryz.prog.funcNamed "loop.example/wharfhall/laws.FnExactGateSweep" =some 10 by kernel_rfl).symm.trans hf) |>.symm
 obtain rfl:fn=Tryz.f10:=(Option.some.inj (Tryz.func10.symm.trans hfn)).symm
 exact ⟨by kernel_rfl,fun j t ht=>ER t (by simpa using Array.mem_of_getElem? ht)⟩
theorem cardHolds:Rows.FnExactGateSweepUptoCardSaid:=
 Claim7.holds_tied_plain_at .later [] _ _ _ _ GE (fun _ h=>by cases h) (by kernel_rfl) (fun _ h=>by cases h) fnExactGateSweepUpto_row_tie rfl ⟨rfl,rfl⟩ (by kernel_rfl) rfl B2 (by kernel_rfl)
end Go.Vc
namespace Go.Proofs.YteongcjplmbkgaaGreatDoor
theorem exactGateSweep:Rows.FnExactGateSweepUptoCardSaid:=Go.Vc.cardHolds
end Go.Proofs.YteongcjplmbkgaaGreatDoor
end
