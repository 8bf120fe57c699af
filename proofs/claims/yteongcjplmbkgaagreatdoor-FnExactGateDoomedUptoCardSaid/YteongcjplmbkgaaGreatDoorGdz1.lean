/- FnExactGateDoomed, where what it reads is of bulk at most 1048576: it returns true, and its arguments read as they did. -/
import Derived.Test.YteongcjplmbkgaaGreatDoorGda
import Derived.Test.YteongcjplmbkgaaGreatDoorGdb
import Derived.Test.YteongcjplmbkgaaGreatDoorGdc
import Derived.Test.YteongcjplmbkgaaGreatDoorGdd
import Derived.Test.YteongcjplmbkgaaGreatDoorGde
import Derived.Test.YteongcjplmbkgaaGreatDoorGdf
import Derived.Test.YteongcjplmbkgaaGreatDoorGdg
import Derived.SevenTiedAt
set_option linter.unusedVariables false
set_option linter.unusedSimpArgs false
section
namespace Go.Vc
open Go.Proofs Go.Proofs.YteongcjplmbkgaaGreatDoor Go.ChangeShapes Go.WideShapes Go.RowKit
set_option maxRecDepth 100000
set_option maxHeartbeats 20000000 in
theorem GI (L:GateLaw) (b:GateBook):Spec P 5 [st L.e,st b.e] (.d (.bool true)):=by
 refine Spec.of_vc da aw [.tmp 4] Tryz.func5 rfl rfl rfl rfl (fun hok=>?_)
 repeat refine ai ?_
 refine oc (xh L _) ?_
 repeat refine ai ?_
 refine aj ?_ ?_<;>intro g0
 ·rfl
 repeat refine ai ?_
 refine oc (vq b _) ?_
 repeat refine ai ?_
 refine aj ?_ ?_<;>intro g1
 ·rfl
 have k0:bA L.e:=Fd hok.1
 have z0:0≤eQ L 1048576:=by have:=of_decide_eq_false g0;omega
 have y0:=qD L _ k0 (by decide) (by decide) z0
 have x0:=L.el_nn
 have w0:=L.lv_le
 have l0:=L.lv_nn
 have k1:bA b.e:=Fd hok.2.1
 have z1:0≤e7 b (eQ L 1048576):=by have:=of_decide_eq_false g1;omega
 have y1:=po b _ k1 z0 (by omega) z1
 have x1:=b.el_nn
 have w1:=b.lv_le
 have l1:=b.lv_nn
 have u0:=GateLaw.marks_le L 1 (by omega) (by omega)
 have u1:=GateBook.marks_le b (GateLaw.marks L 1).2 (by omega) (by omega)
 have hB:(1:Int)+cD gD (gM L b)≤1099511627776:=by
  have h1:=Cn L b
  have h2:=DZ GateObject.el_nn b.objects
  have h3:=bG GateGrant.el_nn b.grants
  have h4:=bG GateLedger.el_nn b.ledgers
  have h5:=bG GatePurse.el_nn b.purses
  unfold GateBook.el at*
  rw[AX];omega
 have hv:=dl v6 d8 (gM L b) 1 (by decide) hB
 have hn:=aZ d8 (gM L b)
 repeat refine ai ?_
 refine ak ?_
 repeat refine ai ?_
 refine oc (lh L) ?_
 repeat refine ai ?_
 refine oc (jK b) ?_
 repeat refine ai ?_
 refine oc (vE L b) ?_
 repeat refine ai ?_
 refine ow (xg L) ?_
 repeat refine ai ?_
 refine ow (vl b) ?_
 repeat refine ai ?_
 refine ov (nf L b) ?_
 repeat refine ai ?_
 refine ol (pS _) ?_
 repeat refine ai ?_
 refine an ?_
 repeat refine ai ?_
 refine ak ?_
 repeat refine ai ?_
 refine oc (lh L) ?_
 repeat refine ai ?_
 refine ol (Ag L) ?_
 repeat refine ai ?_
 refine an ?_
 repeat refine ai ?_
 refine ak ?_
 repeat refine ai ?_
 refine oc (jK b) ?_
 repeat refine ai ?_
 refine ol (yF b) ?_
 repeat refine ai ?_
 refine an ?_
 repeat refine ai ?_
 refine om [2,3,4] none (zF L _) ?_
 repeat refine ai ?_
 refine om [6,7,8,9] none (xT b _) ?_
 repeat refine ai ?_
 refine aj (fun _=>?_) (fun h=>absurd (of_decide_eq_true h) (by omega))
 repeat refine ai ?_
 refine ol (pS _) ?_
 repeat refine ai ?_
 refine an ?_
 repeat refine ai ?_
 refine om [11] none (vZ _ 1) ?_
 repeat refine ai ?_
 refine ol (A9 _ 1 (by decide) hB) ?_
 repeat refine ai ?_
 refine aj (fun h=>absurd (of_decide_eq_true h) (by rw[hv];omega)) (fun _=>?_)
 repeat refine ai ?_
 refine an ?_
 repeat refine ai ?_
 refine ak ?_
 repeat refine ai ?_
 refine oc (lh L) ?_
 repeat refine ai ?_
 refine oc (jK b) ?_
 repeat refine ai ?_
 refine ow (nf L b) ?_
 repeat refine ai ?_
 refine ol (pS _) ?_
 repeat refine ai ?_
 refine an ?_
 repeat refine ai ?_
 refine ol (A9 _ 1 (by decide) hB) ?_
 repeat refine ai ?_
 refine aj (fun h=>absurd (of_decide_eq_true h) (by rw[hv];omega)) (fun _=>?_)
 repeat refine ai ?_
 refine an ?_
 repeat refine ai ?_
 rfl
theorem D3 (H:Type) (enc:TypeId×Value→H) (W:World) (base:Nat) (args:Array Value) (ds gs:List (DataW H)) (before:List MemPlace)
 (hval:∀(j:Nat) t v,Tryz.f5.params[j]? =some t→args[j]? =some v→Value.okWide Tryz.prog W .any base t v)
 (hW:DataW.Whole enc Tryz.prog Tryz.f5.params.toList Rows.fnExactGateDoomedSpec.vars false W args.toList ds gs before) (hk:Rows.uptoSmall H (ds++gs)=true) (hL:laidMetH Tryz.prog A4 W):
 Calls Tryz.prog 5 args W fun e W'=>∃v,e= .returned v∧Rows.fnExactGateDoomedSpec.post enc Tryz.prog Tryz.f5 false true false false W args v W':=by
 have hW':=hW
 obtain ⟨p,q,hA0,hV,rfl,hfz,hnd⟩:=hW
 obtain ⟨rfl,rfl⟩:=trodVars_none hV
 have hA:DataW.TrodAll enc Tryz.prog W 0 (fun _=>true) true [26,32] args.toList ds p:=hA0
 have hp:Tryz.f5.params= #[26,32]:=rfl
 rw[hp] at hval
 obtain ⟨v0,vs0,d0,ds0,p0,q0,hargs,rfl,rfl,h0,r0⟩:=trodAll_cons hA
 obtain ⟨v1,vs1,d1,ds1,p1,q1,rfl,rfl,rfl,h1,r1⟩:=trodAll_cons r0
 obtain ⟨rfl,rfl,rfl⟩:=trodAll_nil r1
 obtain rfl:args= #[v0,v1]:=by cases args;simp_all
 have hsmall:Rows.uptoBulk d0+(Rows.uptoBulk d1+0)≤1048576:=by
  have:=of_decide_eq_true hk
  simpa only[List.append_nil,Rows.uptoBulkAll] using this
 obtain ⟨n0,t0⟩:=h0
 obtain ⟨n1,t1⟩:=h1
 obtain ⟨e0,g0,s0⟩:=pG (P:=P) (n:=12) (by kernel_rfl) t0 (by unfold big;omega)
 obtain ⟨e1,g1,s1⟩:=pG (P:=P) (n:=12) (by kernel_rfl) t1 (by unfold big;omega)
 have lg:=zJ hL
 replace g0:=uI lg.ifc g0 (mp s0)
 replace g1:=uI lg.ifc g1 (mp s1)
 obtain ⟨L,rfl⟩:=y3 s0
 obtain ⟨b,rfl⟩:=xb s1
 have k0:=hval 0 26 v0 rfl rfl
 have k1:=hval 1 32 v1 rfl rfl
 obtain ⟨f0,hu0⟩:∃fs,P.underlying 26=some (.struct fs):=qE (by kernel_rfl)
 obtain ⟨c0,rfl⟩:=Ef hu0 k0
 obtain ⟨f1,hu1⟩:∃fs,P.underlying 32=some (.struct fs):=qE (by kernel_rfl)
 obtain ⟨c1,rfl⟩:=Ef hu1 k1
 have hr:Rv W Fg (fun _=>undef) [st L.e,st b.e] [.agg c0,.agg c1]:=by
  have g0:Rd W Fg L.e c0.toList:=g0
  have g1:Rd W Fg b.e c1.toList:=g1
  have a0:=wO (ν:=fun _=>undef) g0
  have a1:=wO (ν:=fun _=>undef) g1
  have:=Rv.agg _ a0 (Rv.agg _ a1 .nil)
  show Rv W Fg (fun _=>undef) [.agg (L.e.map .d),.agg (b.e.map .d)] [.agg c0,.agg c1]
  simpa using this
 refine ((GI L b).2 Fg W [.agg c0,.agg c1] lg.bnd lg.lw hr).mono fun e W' ⟨v,he,hkp,hv⟩=>?_
 obtain rfl:=cj hv
 subst he
 exact ⟨_,rfl,BX (by kernel_rfl) (by kernel_rfl) (by kernel_rfl) (by decide) rfl rfl (show P.underlying 4=some .bool from by kernel_rfl) hW' hkp rfl⟩
theorem Gq (os:Os) {H:Type} (enc:TypeId×Value→H):∃places,DataW.whole enc Tryz.prog ((nZ os).forCall (fun _ _=>0) ⟨#[],#[.agg #[.slice none 0 0,.slice none 0 0,.slice none 0 0],.agg #[.int .i64 0,.int .i64 0,.int .i64 0,.slice none 0 0,.slice none 0 0,.slice none 0 0,.slice none 0 0]],[]⟩).memory Tryz.f5.params.toList Rows.fnExactGateDoomedSpec.vars false (#[.agg #[.slice none 0 0,.slice none 0 0,.slice none 0 0],.agg #[.int .i64 0,.int .i64 0,.int .i64 0,.slice none 0 0,.slice none 0 0,.slice none 0 0,.slice none 0 0]]:Array Value).toList 12=some ([.agg [.nil,.nil,.nil],.agg [.lit (.int .i64 0),.lit (.int .i64 0),.lit (.int .i64 0),.nil,.nil,.nil,.nil]],[],places):=
 ⟨[],by kernel_rfl⟩
theorem FL (os:Os) (started:os.Started) (H:Type) (enc:TypeId×Value→H) (F:Stop.Interp):
 ReturnsInHanded {} Tryz.checked os 5 .any ((Rows.OpenSpec.upto Rows.fnExactGateDoomedSpec).preRow enc Tryz.prog Tryz.f5 Rows.fnExactGateDoomedUptoRow.domain false Rows.fnExactGateDoomedUptoRow.laid) (((Rows.OpenSpec.upto Rows.fnExactGateDoomedSpec).at F).post enc Tryz.prog Tryz.f5 false true false false):=by
 obtain ⟨places,hx⟩:=Gq os enc
 refine returnsInHanded_of_row (C:=Tryz.checked) (s:=Rows.OpenSpec.upto Rows.fnExactGateDoomedSpec) own started (by kernel_rfl) Tryz.func5
  (witness_row_at (enc:=enc) (C:=Tryz.checked) false (nZ os) #[.agg #[.slice none 0 0,.slice none 0 0,.slice none 0 0],.agg #[.int .i64 0,.int .i64 0,.int .i64 0,.slice none 0 0,.slice none 0 0,.slice none 0 0,.slice none 0 0]] rfl (by kernel_rfl) (by kernel_rfl) (by kernel_rfl)
    (OpenSpec.preRow_of_cond 12 hx (by kernel_rfl) (fun k hk=>by cases hk;kernel_rfl) (by kernel_rfl) (Dy os _))) ?_
 intro W base args ds gs before hval hW _ hcond _ hL _ _
 exact D3 H enc W base args ds gs before hval hW (hcond _ rfl) hL
theorem GN:(Rows.fnExactGateDoomedUptoRow.inPlace==Tryz.pinned.checked.prog.inPlace 5)=true:=by kernel_rfl
theorem GM:(Rows.fnExactGateDoomedUptoRow.unfollowed==Tryz.pinned.checked.prog.unfollowed 5)=true:=by kernel_rfl
theorem GL:(Rows.fnExactGateDoomedUptoRow.recurses==Tryz.pinned.checked.prog.recurses 5)=true:=by kernel_rfl
theorem GK:(Rows.fnExactGateDoomedUptoRow.named==Tryz.pinned.checked.prog.varsNamed 5)=true:=by kernel_rfl
theorem GJ:joinedFacts Tryz.pinned.checked.prog 5 Tryz.f5 (Rows.OpenSpec.upto Rows.fnExactGateDoomedSpec).bare Rows.fnExactGateDoomedUptoRow=true:=by
 unfold joinedFacts
 rw[GN,GM,GL,GK]
 kernel_rfl
theorem Gh:Tryz.f5.isWrapper Tryz.pinned.checked.prog Rows.fnExactGateDoomedUptoRow.wrapper Rows.fnExactGateDoomedUptoRow.mainSum:=by
 unfold Func.isWrapper
 first|(rw[if_pos (by decide+kernel)];kernel_rfl)|(rw[if_neg (by decide+kernel)];exact ⟨rfl,rfl⟩)
theorem Dx:Rows.fnExactGateDoomedUptoRow.holds Tryz.pinned (Rows.OpenSpec.upto Rows.fnExactGateDoomedSpec):=
 OpenClaim.holds_of_cond 5 Tryz.f5 rfl rfl rfl rfl rfl rfl rfl ⟨rfl,rfl,rfl,rfl,rfl⟩ rfl rfl rfl rfl rfl (by kernel_rfl) Tryz.func5 GJ
  (of_decide_eq_true (by kernel_rfl)) Gh
  (fun os started H enc _ F=>by rw[OpenClaim.pre_eq_preRow];exact FL os started H enc F)
theorem B4:∀t∈Tryz.f5.params.toList,Tryz.prog.wantsStandIn t=false:=by
 have h:Tryz.f5.params.toList.all (fun t=> !Tryz.prog.wantsStandIn t)=true:=by kernel_rfl
 intro t ht
 have:=List.all_eq_true.1 h t ht
 simpa using this
theorem zt (f:FuncId) (fn:Func) (hf:Tryz.pinned.checked.prog.funcNamed "loop.example/wharfhall/laws.FnExactGateDoomed" =some f) (hfn:Tryz.pinned.checked.prog.funcs[f]? =some fn):
 true=Tryz.pinned.checked.prog.looks []∧∀(j:Nat) t,fn.params[j]? =some t→Tryz.pinned.checked.prog.wantsStandIn t=false:=by
 obtain rfl:f=5:=Option.some.inj ((show Tryz.prog.funcNamed "loop.example/wharfhall/laws.FnExactGateDoomed" =some 5 by kernel_rfl).symm.trans hf) |>.symm
 obtain rfl:fn=Tryz.f5:=(Option.some.inj (Tryz.func5.symm.trans hfn)).symm
 exact ⟨by kernel_rfl,fun j t ht=>B4 t (by simpa using Array.mem_of_getElem? ht)⟩
theorem cardHolds:Rows.FnExactGateDoomedUptoCardSaid:=
 Claim7.holds_tied_plain_at .later [] _ _ _ _ Dx (fun _ h=>by cases h) (by kernel_rfl) (fun _ h=>by cases h) fnExactGateDoomedUpto_row_tie rfl ⟨rfl,rfl⟩ (by kernel_rfl) rfl zt (by kernel_rfl)
end Go.Vc
namespace Go.Proofs.YteongcjplmbkgaaGreatDoor
theorem exactGateDoomed:Rows.FnExactGateDoomedUptoCardSaid:=Go.Vc.cardHolds
end Go.Proofs.YteongcjplmbkgaaGreatDoor
end
