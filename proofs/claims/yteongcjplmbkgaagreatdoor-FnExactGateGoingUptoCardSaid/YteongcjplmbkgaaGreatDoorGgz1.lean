/- FnExactGateGoing, where what it reads is of bulk at most 1048576: it returns true, and its arguments read as they did. -/
import Derived.Test.YteongcjplmbkgaaGreatDoorGga
import Derived.Test.YteongcjplmbkgaaGreatDoorGgb
import Derived.Test.YteongcjplmbkgaaGreatDoorGgc
import Derived.Test.YteongcjplmbkgaaGreatDoorGgd
import Derived.Test.YteongcjplmbkgaaGreatDoorGge
import Derived.Test.YteongcjplmbkgaaGreatDoorGgf
import Derived.Test.YteongcjplmbkgaaGreatDoorGgg
import Derived.SevenTiedAt
set_option linter.unusedVariables false
set_option linter.unusedSimpArgs false
section
namespace Go.Vc
open Go.Proofs Go.Proofs.YteongcjplmbkgaaGreatDoor Go.ChangeShapes Go.WideShapes Go.RowKit
set_option maxRecDepth 100000
set_option maxHeartbeats 20000000 in
theorem FV (L:GateLaw) (b:GateBook):Spec P 4 [st L.e,st b.e] (.d (.bool true)):=by
 refine Spec.of_vc dm aw [.tmp 4] Tryz.func4 rfl rfl rfl rfl (fun hok=>?_)
 repeat refine ai ?_
 refine oc (wU L _) ?_
 repeat refine ai ?_
 refine aj ?_ ?_<;>intro g0
 ·rfl
 repeat refine ai ?_
 refine oc (vd b _) ?_
 repeat refine ai ?_
 refine aj ?_ ?_<;>intro g1
 ·rfl
 have k0:bA L.e:=Ew hok.1
 have z0:0≤eQ L 1048576:=by have:=of_decide_eq_false g0;omega
 have y0:=qt L _ k0 (by decide) (by decide) z0
 have x0:=L.el_nn
 have w0:=L.lv_le
 have l0:=L.lv_nn
 have k1:bA b.e:=Ew hok.2.1
 have z1:0≤e6 b (eQ L 1048576):=by have:=of_decide_eq_false g1;omega
 have y1:=pf b _ k1 z0 (by omega) z1
 have x1:=b.el_nn
 have w1:=b.lv_le
 have l1:=b.lv_nn
 have u0:=GateLaw.marks_le L 1 (by omega) (by omega)
 have u1:=GateBook.marks_le b (GateLaw.marks L 1).2 (by omega) (by omega)
 have hB:(1:Int)+cC gA (eK L b)≤1099511627776:=by
  have h1:=zF L b
  have h2:=Dt GateObject.el_nn b.objects
  have h3:=bG GateGrant.el_nn b.grants
  have h4:=bG GateLedger.el_nn b.ledgers
  have h5:=bG GatePurse.el_nn b.purses
  unfold GateBook.el at*
  rw[AB];omega
 have hv:=dj vM d7 (eK L b) 1 (by decide) hB
 have hn:=aZ d7 (eK L b)
 repeat refine ai ?_
 refine ak ?_
 repeat refine ai ?_
 refine oc (lc L) ?_
 repeat refine ai ?_
 refine oc (jI b) ?_
 repeat refine ai ?_
 refine oc (w5 L b) ?_
 repeat refine ai ?_
 refine ow (wT L) ?_
 repeat refine ai ?_
 refine ow (uZ b) ?_
 repeat refine ai ?_
 refine ov (oQ L b) ?_
 repeat refine ai ?_
 refine ol (pK _) ?_
 repeat refine ai ?_
 refine an ?_
 repeat refine ai ?_
 refine ak ?_
 repeat refine ai ?_
 refine oc (lc L) ?_
 repeat refine ai ?_
 refine ol (zO L) ?_
 repeat refine ai ?_
 refine an ?_
 repeat refine ai ?_
 refine ak ?_
 repeat refine ai ?_
 refine oc (jI b) ?_
 repeat refine ai ?_
 refine ol (yg b) ?_
 repeat refine ai ?_
 refine an ?_
 repeat refine ai ?_
 refine om [2,3,4] none (zi L _) ?_
 repeat refine ai ?_
 refine om [6,7,8,9] none (xx b _) ?_
 repeat refine ai ?_
 refine aj (fun _=>?_) (fun h=>absurd (of_decide_eq_true h) (by omega))
 repeat refine ai ?_
 refine ol (pK _) ?_
 repeat refine ai ?_
 refine an ?_
 repeat refine ai ?_
 refine om [11] none (vI _ 1) ?_
 repeat refine ai ?_
 refine ol (AJ _ 1 (by decide) hB) ?_
 repeat refine ai ?_
 refine aj (fun h=>absurd (of_decide_eq_true h) (by rw[hv];omega)) (fun _=>?_)
 repeat refine ai ?_
 refine an ?_
 repeat refine ai ?_
 refine ak ?_
 repeat refine ai ?_
 refine oc (lc L) ?_
 repeat refine ai ?_
 refine oc (jI b) ?_
 repeat refine ai ?_
 refine ow (oQ L b) ?_
 repeat refine ai ?_
 refine ol (pK _) ?_
 repeat refine ai ?_
 refine an ?_
 repeat refine ai ?_
 refine ol (AJ _ 1 (by decide) hB) ?_
 repeat refine ai ?_
 refine aj (fun h=>absurd (of_decide_eq_true h) (by rw[hv];omega)) (fun _=>?_)
 repeat refine ai ?_
 refine an ?_
 repeat refine ai ?_
 rfl
theorem Dw (H:Type) (enc:TypeId×Value→H) (W:World) (base:Nat) (args:Array Value) (ds gs:List (DataW H)) (before:List MemPlace)
 (hval:∀(j:Nat) t v,Tryz.f4.params[j]? =some t→args[j]? =some v→Value.okWide Tryz.prog W .any base t v)
 (hW:DataW.Whole enc Tryz.prog Tryz.f4.params.toList Rows.fnExactGateGoingSpec.vars false W args.toList ds gs before) (hk:Rows.uptoSmall H (ds++gs)=true) (hL:laidMetH Tryz.prog AE W):
 Calls Tryz.prog 4 args W fun e W'=>∃v,e= .returned v∧Rows.fnExactGateGoingSpec.post enc Tryz.prog Tryz.f4 false true false false W args v W':=by
 have hW':=hW
 obtain ⟨p,q,hA0,hV,rfl,hfz,hnd⟩:=hW
 obtain ⟨rfl,rfl⟩:=trodVars_none hV
 have hA:DataW.TrodAll enc Tryz.prog W 0 (fun _=>true) true [26,32] args.toList ds p:=hA0
 have hp:Tryz.f4.params= #[26,32]:=rfl
 rw[hp] at hval
 obtain ⟨v0,vs0,d0,ds0,p0,q0,hargs,rfl,rfl,h0,r0⟩:=trodAll_cons hA
 obtain ⟨v1,vs1,d1,ds1,p1,q1,rfl,rfl,rfl,h1,r1⟩:=trodAll_cons r0
 obtain ⟨rfl,rfl,rfl⟩:=trodAll_nil r1
 obtain rfl:args= #[v0,v1]:=by cases args;simp_all
 have hsmall:Rows.uptoBulk d0+(Rows.uptoBulk d1+0)≤1048576:=by
  have:=of_decide_eq_true hk
  simpa only[List.append_nil,Rows.uptoBulkAll] using this
 obtain ⟨n0,t0⟩:=h0
 obtain ⟨n1,t1⟩:=h1
 obtain ⟨e0,g0,s0⟩:=pz (P:=P) (n:=12) (by kernel_rfl) t0 (by unfold big;omega)
 obtain ⟨e1,g1,s1⟩:=pz (P:=P) (n:=12) (by kernel_rfl) t1 (by unfold big;omega)
 have lg:=zm hL
 replace g0:=uv lg.ifc g0 (ml s0)
 replace g1:=uv lg.ifc g1 (ml s1)
 obtain ⟨L,rfl⟩:=yC s0
 obtain ⟨b,rfl⟩:=wO s1
 have k0:=hval 0 26 v0 rfl rfl
 have k1:=hval 1 32 v1 rfl rfl
 obtain ⟨f0,hu0⟩:∃fs,P.underlying 26=some (.struct fs):=qu (by kernel_rfl)
 obtain ⟨c0,rfl⟩:=DI hu0 k0
 obtain ⟨f1,hu1⟩:∃fs,P.underlying 32=some (.struct fs):=qu (by kernel_rfl)
 obtain ⟨c1,rfl⟩:=DI hu1 k1
 have hr:Rv W EA (fun _=>undef) [st L.e,st b.e] [.agg c0,.agg c1]:=by
  have g0:Rd W EA L.e c0.toList:=g0
  have g1:Rd W EA b.e c1.toList:=g1
  have a0:=wu (ν:=fun _=>undef) g0
  have a1:=wu (ν:=fun _=>undef) g1
  have:=Rv.agg _ a0 (Rv.agg _ a1 .nil)
  show Rv W EA (fun _=>undef) [.agg (L.e.map .d),.agg (b.e.map .d)] [.agg c0,.agg c1]
  simpa using this
 refine ((FV L b).2 EA W [.agg c0,.agg c1] lg.bnd lg.lw hr).mono fun e W' ⟨v,he,hkp,hv⟩=>?_
 obtain rfl:=ci hv
 subst he
 exact ⟨_,rfl,Bx (by kernel_rfl) (by kernel_rfl) (by kernel_rfl) (by decide) rfl rfl (show P.underlying 4=some .bool from by kernel_rfl) hW' hkp rfl⟩
theorem FE (os:Os) {H:Type} (enc:TypeId×Value→H):∃places,DataW.whole enc Tryz.prog ((nR os).forCall (fun _ _=>0) ⟨#[],#[.agg #[.slice none 0 0,.slice none 0 0,.slice none 0 0],.agg #[.int .i64 0,.int .i64 0,.int .i64 0,.slice none 0 0,.slice none 0 0,.slice none 0 0,.slice none 0 0]],[]⟩).memory Tryz.f4.params.toList Rows.fnExactGateGoingSpec.vars false (#[.agg #[.slice none 0 0,.slice none 0 0,.slice none 0 0],.agg #[.int .i64 0,.int .i64 0,.int .i64 0,.slice none 0 0,.slice none 0 0,.slice none 0 0,.slice none 0 0]]:Array Value).toList 12=some ([.agg [.nil,.nil,.nil],.agg [.lit (.int .i64 0),.lit (.int .i64 0),.lit (.int .i64 0),.nil,.nil,.nil,.nil]],[],places):=
 ⟨[],by kernel_rfl⟩
theorem E5 (os:Os) (started:os.Started) (H:Type) (enc:TypeId×Value→H) (F:Stop.Interp):
 ReturnsInHanded {} Tryz.checked os 4 .any ((Rows.OpenSpec.upto Rows.fnExactGateGoingSpec).preRow enc Tryz.prog Tryz.f4 Rows.fnExactGateGoingUptoRow.domain false Rows.fnExactGateGoingUptoRow.laid) (((Rows.OpenSpec.upto Rows.fnExactGateGoingSpec).at F).post enc Tryz.prog Tryz.f4 false true false false):=by
 obtain ⟨places,hx⟩:=FE os enc
 refine returnsInHanded_of_row (C:=Tryz.checked) (s:=Rows.OpenSpec.upto Rows.fnExactGateGoingSpec) own started (by kernel_rfl) Tryz.func4
  (witness_row_at (enc:=enc) (C:=Tryz.checked) false (nR os) #[.agg #[.slice none 0 0,.slice none 0 0,.slice none 0 0],.agg #[.int .i64 0,.int .i64 0,.int .i64 0,.slice none 0 0,.slice none 0 0,.slice none 0 0,.slice none 0 0]] rfl (by kernel_rfl) (by kernel_rfl) (by kernel_rfl)
    (OpenSpec.preRow_of_cond 12 hx (by kernel_rfl) (fun k hk=>by cases hk;kernel_rfl) (by kernel_rfl) (C0 os _))) ?_
 intro W base args ds gs before hval hW _ hcond _ hL _ _
 exact Dw H enc W base args ds gs before hval hW (hcond _ rfl) hL
theorem F0:(Rows.fnExactGateGoingUptoRow.inPlace==Tryz.pinned.checked.prog.inPlace 4)=true:=by kernel_rfl
theorem FZ:(Rows.fnExactGateGoingUptoRow.unfollowed==Tryz.pinned.checked.prog.unfollowed 4)=true:=by kernel_rfl
theorem FY:(Rows.fnExactGateGoingUptoRow.recurses==Tryz.pinned.checked.prog.recurses 4)=true:=by kernel_rfl
theorem FX:(Rows.fnExactGateGoingUptoRow.named==Tryz.pinned.checked.prog.varsNamed 4)=true:=by kernel_rfl
theorem FW:joinedFacts Tryz.pinned.checked.prog 4 Tryz.f4 (Rows.OpenSpec.upto Rows.fnExactGateGoingSpec).bare Rows.fnExactGateGoingUptoRow=true:=by
 unfold joinedFacts
 rw[F0,FZ,FY,FX]
 kernel_rfl
theorem Fy:Tryz.f4.isWrapper Tryz.pinned.checked.prog Rows.fnExactGateGoingUptoRow.wrapper Rows.fnExactGateGoingUptoRow.mainSum:=by
 unfold Func.isWrapper
 first|(rw[if_pos (by decide+kernel)];kernel_rfl)|(rw[if_neg (by decide+kernel)];exact ⟨rfl,rfl⟩)
theorem CZ:Rows.fnExactGateGoingUptoRow.holds Tryz.pinned (Rows.OpenSpec.upto Rows.fnExactGateGoingSpec):=
 OpenClaim.holds_of_cond 4 Tryz.f4 rfl rfl rfl rfl rfl rfl rfl ⟨rfl,rfl,rfl,rfl,rfl⟩ rfl rfl rfl rfl rfl (by kernel_rfl) Tryz.func4 FW
  (of_decide_eq_true (by kernel_rfl)) Fy
  (fun os started H enc _ F=>by rw[OpenClaim.pre_eq_preRow];exact E5 os started H enc F)
theorem BE:∀t∈Tryz.f4.params.toList,Tryz.prog.wantsStandIn t=false:=by
 have h:Tryz.f4.params.toList.all (fun t=> !Tryz.prog.wantsStandIn t)=true:=by kernel_rfl
 intro t ht
 have:=List.all_eq_true.1 h t ht
 simpa using this
theorem y5 (f:FuncId) (fn:Func) (hf:Tryz.pinned.checked.prog.funcNamed "loop.example/wharfhall/laws.FnExactGateGoing" =some f) (hfn:Tryz.pinned.checked.prog.funcs[f]? =some fn):
 true=Tryz.pinned.checked.prog.looks []∧∀(j:Nat) t,fn.params[j]? =some t→Tryz.pinned.checked.prog.wantsStandIn t=false:=by
 obtain rfl:f=4:=Option.some.inj ((show Tryz.prog.funcNamed "loop.example/wharfhall/laws.FnExactGateGoing" =some 4 by kernel_rfl).symm.trans hf) |>.symm
 obtain rfl:fn=Tryz.f4:=(Option.some.inj (Tryz.func4.symm.trans hfn)).symm
 exact ⟨by kernel_rfl,fun j t ht=>BE t (by simpa using Array.mem_of_getElem? ht)⟩
theorem cardHolds:Rows.FnExactGateGoingUptoCardSaid:=
 Claim7.holds_tied_plain_at .later [] _ _ _ _ CZ (fun _ h=>by cases h) (by kernel_rfl) (fun _ h=>by cases h) fnExactGateGoingUpto_row_tie rfl ⟨rfl,rfl⟩ (by kernel_rfl) rfl y5 (by kernel_rfl)
end Go.Vc
namespace Go.Proofs.YteongcjplmbkgaaGreatDoor
theorem exactGateGoing:Rows.FnExactGateGoingUptoCardSaid:=Go.Vc.cardHolds
end Go.Proofs.YteongcjplmbkgaaGreatDoor
end
