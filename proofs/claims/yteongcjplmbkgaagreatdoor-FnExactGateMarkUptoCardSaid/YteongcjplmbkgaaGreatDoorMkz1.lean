/- FnExactGateMark, where what it reads is of bulk at most 1048576: it returns true, and its arguments read as they did. -/
import Derived.Test.YteongcjplmbkgaaGreatDoorMka
import Derived.Test.YteongcjplmbkgaaGreatDoorMkb
import Derived.Test.YteongcjplmbkgaaGreatDoorMkc
import Derived.Test.YteongcjplmbkgaaGreatDoorMkd
import Derived.Test.YteongcjplmbkgaaGreatDoorMke
import Derived.Test.YteongcjplmbkgaaGreatDoorMkf
import Derived.SevenTiedAt
set_option linter.unusedVariables false
set_option linter.unusedSimpArgs false
section
namespace Go.Vc
open Go.Proofs Go.Proofs.YteongcjplmbkgaaGreatDoor Go.ChangeShapes Go.WideShapes Go.RowKit
set_option maxRecDepth 100000
theorem DO (L:GateLaw) (b:GateBook):Spec P 3 [st L.e,st b.e] (.d (.bool true)):=by
 refine Spec.of_vc dY au [.tmp 4] Tryz.func3 rfl rfl rfl rfl (fun hok=>?_)
 repeat refine ai ?_
 refine oc (vR L _) ?_
 repeat refine ai ?_
 refine aj ?_ ?_<;>intro g0
 ·rfl
 repeat refine ai ?_
 refine oc (ub b _) ?_
 repeat refine ai ?_
 refine aj ?_ ?_<;>intro g1
 ·rfl
 have k0:bz L.e:=CK hok.1
 have z0:0≤eG L 1048576:=by have:=of_decide_eq_false g0;omega
 have y0:=pH L _ k0 (by decide) (by decide) z0
 have x0:=L.el_nn
 have w0:=L.lv_le
 have l0:=L.lv_nn
 have k1:bz b.e:=CK hok.2.1
 have z1:0≤eQ b (eG L 1048576):=by have:=of_decide_eq_false g1;omega
 have y1:=oo b _ k1 z0 (by omega) z1
 have x1:=b.el_nn
 have w1:=b.lv_le
 have l1:=b.lv_nn
 have u0:=GateLaw.marks_le L 1 (by omega) (by omega)
 have u1:=GateBook.marks_le b (GateLaw.marks L 1).2 (by omega) (by omega)
 have hB:(1:Int)+cy gk (gv L b)≤1099511627776:=by
  have h1:=Ag L b
  have h2:=BU GateObject.el_nn b.objects
  have h3:=bF GateGrant.el_nn b.grants
  have h4:=bF GateLedger.el_nn b.ledgers
  have h5:=bF GatePurse.el_nn b.purses
  unfold GateBook.el at*
  rw[y6];omega
 have hv:=df uG dW (gv L b) 1 (by decide) hB
 have hn:=aY dW (gv L b)
 repeat refine ai ?_
 refine ak ?_
 repeat refine ai ?_
 refine oc (kJ L) ?_
 repeat refine ai ?_
 refine oc (jq b) ?_
 repeat refine ai ?_
 refine oc (xD L b) ?_
 repeat refine ai ?_
 refine ow (vQ L) ?_
 repeat refine ai ?_
 refine ow (tY b) ?_
 repeat refine ai ?_
 refine ov (qy L b) ?_
 repeat refine ai ?_
 refine ol (o3 _) ?_
 repeat refine ai ?_
 refine an ?_
 repeat refine ai ?_
 refine ak ?_
 repeat refine ai ?_
 refine oc (kJ L) ?_
 repeat refine ai ?_
 refine ol (yr L) ?_
 repeat refine ai ?_
 refine an ?_
 repeat refine ai ?_
 refine ak ?_
 repeat refine ai ?_
 refine oc (jq b) ?_
 repeat refine ai ?_
 refine ol (w6 b) ?_
 repeat refine ai ?_
 refine an ?_
 repeat refine ai ?_
 refine om [2,3,4] (xW L _) ?_
 repeat refine ai ?_
 refine om [6,7,8,9] (wu b _) ?_
 repeat refine ai ?_
 refine aj (fun _=>?_) (fun h=>absurd (of_decide_eq_true h) (by omega))
 repeat refine ai ?_
 refine ol (o3 _) ?_
 repeat refine ai ?_
 refine an ?_
 repeat refine ai ?_
 refine om [11] (uC _ 1) ?_
 repeat refine ai ?_
 refine ol (zf _ 1 (by decide) hB) ?_
 repeat refine ai ?_
 refine aj (fun h=>absurd (of_decide_eq_true h) (by rw[hv];omega)) (fun _=>?_)
 repeat refine ai ?_
 refine an ?_
 repeat refine ai ?_
 refine ak ?_
 repeat refine ai ?_
 refine oc (kJ L) ?_
 repeat refine ai ?_
 refine oc (jq b) ?_
 repeat refine ai ?_
 refine ow (qy L b) ?_
 repeat refine ai ?_
 refine ol (o3 _) ?_
 repeat refine ai ?_
 refine an ?_
 repeat refine ai ?_
 refine ol (zf _ 1 (by decide) hB) ?_
 repeat refine ai ?_
 refine aj (fun h=>absurd (of_decide_eq_true h) (by rw[hv];omega)) (fun _=>?_)
 repeat refine ai ?_
 refine an ?_
 repeat refine ai ?_
 rfl
theorem BY (H:Type) (enc:TypeId×Value→H) (W:World) (base:Nat) (args:Array Value) (ds gs:List (DataW H)) (before:List MemPlace)
 (hval:∀(j:Nat) t v,Tryz.f3.params[j]? =some t→args[j]? =some v→Value.okWide Tryz.prog W .any base t v)
 (hW:DataW.Whole enc Tryz.prog Tryz.f3.params.toList Rows.fnExactGateMarkSpec.vars false W args.toList ds gs before) (hk:Rows.uptoSmall H (ds++gs)=true) (hL:laidMetH Tryz.prog y9 W):
 Calls Tryz.prog 3 args W fun e W'=>∃v,e= .returned v∧Rows.fnExactGateMarkSpec.post enc Tryz.prog Tryz.f3 false true false false W args v W':=by
 have hW':=hW
 obtain ⟨p,q,hA0,hV,rfl,hfz,hnd⟩:=hW
 obtain ⟨rfl,rfl⟩:=trodVars_none hV
 have hA:DataW.TrodAll enc Tryz.prog W 0 (fun _=>true) true [26,32] args.toList ds p:=hA0
 have hp:Tryz.f3.params= #[26,32]:=rfl
 rw[hp] at hval
 obtain ⟨v0,vs0,d0,ds0,p0,q0,hargs,rfl,rfl,h0,r0⟩:=trodAll_cons hA
 obtain ⟨v1,vs1,d1,ds1,p1,q1,rfl,rfl,rfl,h1,r1⟩:=trodAll_cons r0
 obtain ⟨rfl,rfl,rfl⟩:=trodAll_nil r1
 obtain rfl:args= #[v0,v1]:=by cases args;simp_all
 have hsmall:Rows.uptoBulk d0+(Rows.uptoBulk d1+0)≤1048576:=by
  have:=of_decide_eq_true hk
  simpa only[List.append_nil,Rows.uptoBulkAll] using this
 obtain ⟨n0,t0⟩:=h0
 obtain ⟨n1,t1⟩:=h1
 obtain ⟨e0,g0,s0⟩:=oK (P:=P) (n:=12) (by kernel_rfl) t0 (by unfold ap;omega)
 obtain ⟨e1,g1,s1⟩:=oK (P:=P) (n:=12) (by kernel_rfl) t1 (by unfold ap;omega)
 have lg:=ya hL
 replace g0:=tt lg.ifc g0 (lL s0)
 replace g1:=tt lg.ifc g1 (lL s1)
 obtain ⟨L,rfl⟩:=xm s0
 obtain ⟨b,rfl⟩:=vL s1
 have k0:=hval 0 26 v0 rfl rfl
 have k1:=hval 1 32 v1 rfl rfl
 obtain ⟨f0,hu0⟩:∃fs,P.underlying 26=some (.struct fs):=pI (by kernel_rfl)
 obtain ⟨c0,rfl⟩:=B8 hu0 k0
 obtain ⟨f1,hu1⟩:∃fs,P.underlying 32=some (.struct fs):=pI (by kernel_rfl)
 obtain ⟨c1,rfl⟩:=B8 hu1 k1
 have hr:Rv W CL (fun _=>undef) [st L.e,st b.e] [.agg c0,.agg c1]:=by
  have g0:Rd W CL L.e c0.toList:=g0
  have g1:Rd W CL b.e c1.toList:=g1
  have a0:=vq (ν:=fun _=>undef) g0
  have a1:=vq (ν:=fun _=>undef) g1
  have:=Rv.agg _ a0 (Rv.agg _ a1 .nil)
  show Rv W CL (fun _=>undef) [.agg (L.e.map .d),.agg (b.e.map .d)] [.agg c0,.agg c1]
  simpa using this
 refine ((DO L b).2 CL W [.agg c0,.agg c1] lg.bnd lg.lw hr).mono fun e W' ⟨v,he,hkp,hv⟩=>?_
 obtain rfl:=cf hv
 subst he
 exact ⟨_,rfl,zU (by kernel_rfl) (by kernel_rfl) (by kernel_rfl) (by decide) rfl rfl (show P.underlying 4=some .bool from by kernel_rfl) hW' hkp rfl⟩
theorem DC (os:Os) {H:Type} (enc:TypeId×Value→H):∃places,DataW.whole enc Tryz.prog ((nf os).forCall (fun _ _=>0) ⟨#[],#[.agg #[.slice none 0 0,.slice none 0 0,.slice none 0 0],.agg #[.int .i64 0,.int .i64 0,.int .i64 0,.slice none 0 0,.slice none 0 0,.slice none 0 0,.slice none 0 0]],[]⟩).memory Tryz.f3.params.toList Rows.fnExactGateMarkSpec.vars false (#[.agg #[.slice none 0 0,.slice none 0 0,.slice none 0 0],.agg #[.int .i64 0,.int .i64 0,.int .i64 0,.slice none 0 0,.slice none 0 0,.slice none 0 0,.slice none 0 0]]:Array Value).toList 12=some ([.agg [.nil,.nil,.nil],.agg [.lit (.int .i64 0),.lit (.int .i64 0),.lit (.int .i64 0),.nil,.nil,.nil,.nil]],[],places):=
 ⟨[],by kernel_rfl⟩
theorem C8 (os:Os) (started:os.Started) (H:Type) (enc:TypeId×Value→H) (F:Stop.Interp):
 ReturnsInHanded {} Tryz.checked os 3 .any ((Rows.OpenSpec.upto Rows.fnExactGateMarkSpec).preRow enc Tryz.prog Tryz.f3 Rows.fnExactGateMarkUptoRow.domain false Rows.fnExactGateMarkUptoRow.laid) (((Rows.OpenSpec.upto Rows.fnExactGateMarkSpec).at F).post enc Tryz.prog Tryz.f3 false true false false):=by
 obtain ⟨places,hx⟩:=DC os enc
 refine returnsInHanded_of_row (C:=Tryz.checked) (s:=Rows.OpenSpec.upto Rows.fnExactGateMarkSpec) own started (by kernel_rfl) Tryz.func3
  (witness_row_at (enc:=enc) (C:=Tryz.checked) false (nf os) #[.agg #[.slice none 0 0,.slice none 0 0,.slice none 0 0],.agg #[.int .i64 0,.int .i64 0,.int .i64 0,.slice none 0 0,.slice none 0 0,.slice none 0 0,.slice none 0 0]] rfl (by kernel_rfl) (by kernel_rfl) (by kernel_rfl)
    (OpenSpec.preRow_of_cond 12 hx (by kernel_rfl) (fun k hk=>by cases hk;kernel_rfl) (by kernel_rfl) (Bv os _))) ?_
 intro W base args ds gs before hval hW _ hcond _ hL _ _
 exact BY H enc W base args ds gs before hval hW (hcond _ rfl) hL
theorem DT:(Rows.fnExactGateMarkUptoRow.inPlace==Tryz.pinned.checked.prog.inPlace 3)=true:=by kernel_rfl
theorem DS:(Rows.fnExactGateMarkUptoRow.unfollowed==Tryz.pinned.checked.prog.unfollowed 3)=true:=by kernel_rfl
theorem DR:(Rows.fnExactGateMarkUptoRow.recurses==Tryz.pinned.checked.prog.recurses 3)=true:=by kernel_rfl
theorem DQ:(Rows.fnExactGateMarkUptoRow.named==Tryz.pinned.checked.prog.varsNamed 3)=true:=by kernel_rfl
theorem DP:joinedFacts Tryz.pinned.checked.prog 3 Tryz.f3 (Rows.OpenSpec.upto Rows.fnExactGateMarkSpec).bare Rows.fnExactGateMarkUptoRow=true:=by
 unfold joinedFacts
 rw[DT,DS,DR,DQ]
 kernel_rfl
theorem Dv:Tryz.f3.isWrapper Tryz.pinned.checked.prog Rows.fnExactGateMarkUptoRow.wrapper Rows.fnExactGateMarkUptoRow.mainSum:=by
 unfold Func.isWrapper
 first|(rw[if_pos (by decide+kernel)];kernel_rfl)|(rw[if_neg (by decide+kernel)];exact ⟨rfl,rfl⟩)
theorem Bu:Rows.fnExactGateMarkUptoRow.holds Tryz.pinned (Rows.OpenSpec.upto Rows.fnExactGateMarkSpec):=
 OpenClaim.holds_of_cond 3 Tryz.f3 rfl rfl rfl rfl rfl rfl rfl ⟨rfl,rfl,rfl,rfl,rfl⟩ rfl rfl rfl rfl rfl (by kernel_rfl) Tryz.func3 DP
  (of_decide_eq_true (by kernel_rfl)) Dv
  (fun os started H enc _ F=>by rw[OpenClaim.pre_eq_preRow];exact C8 os started H enc F)
theorem Aa:∀t∈Tryz.f3.params.toList,Tryz.prog.wantsStandIn t=false:=by
 have h:Tryz.f3.params.toList.all (fun t=> !Tryz.prog.wantsStandIn t)=true:=by kernel_rfl
 intro t ht
 have:=List.all_eq_true.1 h t ht
 simpa using this
theorem xL (f:FuncId) (fn:Func) (hf:Tryz.pinned.checked.prog.funcNamed "loop.example/wharfhall/laws.FnExactGateMark" =some f) (hfn:Tryz.pinned.checked.prog.funcs[f]? =some fn):
 true=Tryz.pinned.checked.prog.looks []∧∀(j:Nat) t,fn.params[j]? =some t→Tryz.pinned.checked.prog.wantsStandIn t=false:=by
 obtain rfl:f=3:=Option.some.inj ((show Tryz.prog.funcNamed "loop.example/wharfhall/laws.FnExactGateMark" =some 3 by kernel_rfl).symm.trans hf) |>.symm
 obtain rfl:fn=Tryz.f3:=(Option.some.inj (Tryz.func3.symm.trans hfn)).symm
 exact ⟨by kernel_rfl,fun j t ht=>Aa t (by simpa using Array.mem_of_getElem? ht)⟩
theorem cardHolds:Rows.FnExactGateMarkUptoCardSaid:=
 Claim7.holds_tied_plain_at .later [] _ _ _ _ Bu (fun _ h=>by cases h) (by kernel_rfl) (fun _ h=>by cases h) fnExactGateMarkUpto_row_tie rfl ⟨rfl,rfl⟩ (by kernel_rfl) rfl xL (by kernel_rfl)
end Go.Vc
namespace Go.Proofs.YteongcjplmbkgaaGreatDoor
theorem exactGateMark:Rows.FnExactGateMarkUptoCardSaid:=Go.Vc.cardHolds
end Go.Proofs.YteongcjplmbkgaaGreatDoor
end
