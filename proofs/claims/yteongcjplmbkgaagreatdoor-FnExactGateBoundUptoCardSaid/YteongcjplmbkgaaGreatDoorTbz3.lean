/- FnExactGateBound, where what it reads is of bulk at most 1048576: it returns true, and its arguments read as they did. -/
import Derived.Test.YteongcjplmbkgaaGreatDoorTba
import Derived.Test.YteongcjplmbkgaaGreatDoorTbb
import Derived.Test.YteongcjplmbkgaaGreatDoorTbc
import Derived.Test.YteongcjplmbkgaaGreatDoorTbd
import Derived.Test.YteongcjplmbkgaaGreatDoorTbe
import Derived.Test.YteongcjplmbkgaaGreatDoorTbf
import Derived.Test.YteongcjplmbkgaaGreatDoorTbg
import Derived.SevenTiedAt
set_option linter.unusedVariables false
set_option linter.unusedSimpArgs false
section
namespace Go.Vc
open Go.Proofs Go.Proofs.YteongcjplmbkgaaGreatDoor Go.ChangeShapes Go.WideShapes Go.RowKit
set_option maxRecDepth 100000
set_option maxHeartbeats 20000000 in
theorem y5 (L:GateLaw) (b:GateBook) (t:Bs) (r:Bs) (n:Int):Spec P 8 [st L.e,st b.e,.d (.str t),.d (.str r),.d (.int .i64 n)] (.d (.bool true)):=by
 refine k6 bW av [.tmp 10] Tryz.func8 rfl rfl rfl rfl (fun hok=>?_)
 repeat first|refine ai ?_|refine sg ?_
 refine aj ?_ ?_<;>intro j2
 ·repeat first|refine ai ?_|refine sg ?_
  rfl
 repeat first|refine ai ?_|refine sg ?_
 refine aj ?_ ?_<;>intro j3
 ·repeat first|refine ai ?_|refine sg ?_
  rfl
 repeat first|refine ai ?_|refine sg ?_
 refine oc (ku L _) ?_
 repeat first|refine ai ?_|refine sg ?_
 refine aj ?_ ?_<;>intro g0
 ·repeat first|refine ai ?_|refine sg ?_
  rfl
 repeat first|refine ai ?_|refine sg ?_
 refine oc (ju b _) ?_
 repeat first|refine ai ?_|refine sg ?_
 refine aj ?_ ?_<;>intro g1
 ·repeat first|refine ai ?_|refine sg ?_
  rfl
 have k0:bq L.e:=uP hok.1
 have z0:0≤cC L 1048576:=by have:=of_decide_eq_false g0;omega
 have y0:=hZ L _ k0 (by decide) (by decide) z0
 have x0:=L.el_nn
 have w0:=L.lv_le
 have l0:=L.lv_nn
 have k1:bq b.e:=uP hok.2.1
 have z1:0≤dK b (cC L 1048576):=by have:=of_decide_eq_false g1;omega
 have y1:=gD b _ k1 z0 (by omega) z1
 have x1:=b.el_nn
 have w1:=b.lv_le
 have l1:=b.lv_nn
 have u0:=GateLaw.marks_le L 1 (by omega) (by omega)
 have u1:=GateBook.marks_le b (GateLaw.marks L 1).2 (by omega) (by omega)
 have hB:(1:Int)+(0+bv GateObject.lv (bR L b t r n).1.objects+bv GateGrant.lv (bR L b t r n).1.grants+bv GateLedger.lv (bR L b t r n).1.ledgers+bv GatePurse.lv (bR L b t r n).1.purses)≤1099511627776:=by
  have q1:=GateBook.lv_le (bR L b t r n).1
  have q2:=CI L b t r n
  have q3:=GateBook.el_nn b
  unfold GateBook.lv at q1
  omega
 have hv:=GateBook.marks_val (bR L b t r n).1 1 (by decide) hB
 have hnobjects:=aC GateObject.lv_nn (bR L b t r n).1.objects
 have hngrants:=aC GateGrant.lv_nn (bR L b t r n).1.grants
 have hnledgers:=aC GateLedger.lv_nn (bR L b t r n).1.ledgers
 have hnpurses:=aC GatePurse.lv_nn (bR L b t r n).1.purses
 generalize hR:bR L b t r n=R at*
 have cs:=xX L b t r n
 have ci:=yZ L b t r n
 rw[hR] at cs ci
 repeat first|refine ai ?_|refine sg ?_
 refine akp 13 (.one [0,1,2,3,4,5,6,7,8,9,10] [] 11 (.one [] [0,1,2,3,4,5,6,7,8,9,10] 12 (.fin [] [10]))) ?_
 repeat first|refine ai ?_|refine sg ?_
 repeat first|refine ai ?_|refine sg ?_
 refine oc (bw L) ?_
 repeat first|refine ai ?_|refine sg ?_
 refine oc (bg b) ?_
 repeat first|refine ai ?_|refine sg ?_
 refine oc (cs) ?_
 repeat first|refine ai ?_|refine sg ?_
 refine oc (bw L) ?_
 repeat first|refine ai ?_|refine sg ?_
 refine oc (bg b) ?_
 repeat first|refine ai ?_|refine sg ?_
 refine oc (cs) ?_
 repeat first|refine ai ?_|refine sg ?_
 refine ow (kq L) ?_
 repeat first|refine ai ?_|refine sg ?_
 refine ow (js b) ?_
 repeat first|refine ai ?_|refine sg ?_
 refine ov (ci) ?_
 repeat first|refine ai ?_|refine sg ?_
 refine ol (bh R.1) ?_
 repeat first|refine ai ?_|refine sg ?_
 refine ay ?_
 repeat first|refine ai ?_|refine sg ?_
 refine an ?_
 repeat first|refine ai ?_|refine sg ?_
 refine ak ?_
 repeat first|refine ai ?_|refine sg ?_
 repeat first|refine ai ?_|refine sg ?_
 refine oc (bw L) ?_
 repeat first|refine ai ?_|refine sg ?_
 refine ol (mL L) ?_
 repeat first|refine ai ?_|refine sg ?_
 refine an ?_
 repeat first|refine ai ?_|refine sg ?_
 refine ak ?_
 repeat first|refine ai ?_|refine sg ?_
 repeat first|refine ai ?_|refine sg ?_
 refine oc (bg b) ?_
 repeat first|refine ai ?_|refine sg ?_
 refine ol (bh b) ?_
 repeat first|refine ai ?_|refine sg ?_
 refine an ?_
 repeat first|refine ai ?_|refine sg ?_
 refine om [3,4,5] none (my L _) ?_
 repeat first|refine ai ?_|refine sg ?_
 refine om [7,8,9,10] none (fp b _) ?_
 repeat first|refine ai ?_|refine sg ?_
 refine aj (fun _=>?_) (fun h=>absurd (of_decide_eq_true h) (by omega))
 repeat first|refine ai ?_|refine sg ?_
 refine ol (bh R.1) ?_
 repeat first|refine ai ?_|refine sg ?_
 refine ay ?_
 repeat first|refine ai ?_|refine sg ?_
 refine an ?_
 repeat first|refine ai ?_|refine sg ?_
 refine om [12,13,14,15] none (fp R.1 1) ?_
 repeat first|refine ai ?_|refine sg ?_
 refine ol (da R.1 1 (by decide) hB) ?_
 repeat first|refine ai ?_|refine sg ?_
 refine aj (fun h=>absurd (of_decide_eq_true h) (by rw[hv];omega)) (fun _=>?_)
 repeat first|refine ai ?_|refine sg ?_
 refine an ?_
 refine GT [2,3,4,5,6,12,13,16,19] [0,1,2,12,13,14,15,16] (aj (by repeat' first|exact rfl|exact trivial|refine aj ?_ ?_) ?_)
 repeat first|refine ai ?_|refine sg ?_
 refine akp 13 (.two [0,1,2,3,4,5,6] [] 7 (.one [8,9,10] [] 11 (.one [] [8,9,10] 12 (.fin [] [10]))) 11 (.one [] [0,1,2,3,4,5,6] 7 (.one [8,9,10] [] 12 (.fin [] [10])))) ?_
 repeat first|refine ai ?_|refine sg ?_
 repeat first|refine ai ?_|refine sg ?_
 refine oc (bw L) ?_
 repeat first|refine ai ?_|refine sg ?_
 refine oc (bg b) ?_
 repeat first|refine ai ?_|refine sg ?_
 refine aj ?_ ?_
 ·repeat first|refine ai ?_|refine sg ?_
  refine ow (ci) ?_
  repeat first|refine ai ?_|refine sg ?_
  refine ol (bh R.1) ?_
  repeat first|refine ai ?_|refine sg ?_
  refine ay ?_
  repeat first|refine ai ?_|refine sg ?_
  refine an ?_
  repeat first|refine ai ?_|refine sg ?_
  refine ol (da R.1 1 (by decide) hB) ?_
  repeat first|refine ai ?_|refine sg ?_
  refine aj (fun h=>absurd (of_decide_eq_true h) (by rw[hv];omega)) (fun _=>?_)
  repeat first|refine ai ?_|refine sg ?_
  refine an ?_
  repeat first|refine ai ?_|refine sg ?_
  rfl
 ·repeat first|refine ai ?_|refine sg ?_
  refine oc (bw L) ?_
  repeat first|refine ai ?_|refine sg ?_
  refine oc (bg b) ?_
  repeat first|refine ai ?_|refine sg ?_
  refine ow (ci) ?_
  repeat first|refine ai ?_|refine sg ?_
  refine ol (bh R.1) ?_
  repeat first|refine ai ?_|refine sg ?_
  refine ay ?_
  repeat first|refine ai ?_|refine sg ?_
  refine an ?_
  repeat first|refine ai ?_|refine sg ?_
  refine ol (da R.1 1 (by decide) hB) ?_
  repeat first|refine ai ?_|refine sg ?_
  refine aj (fun h=>absurd (of_decide_eq_true h) (by rw[hv];omega)) (fun _=>?_)
  repeat first|refine ai ?_|refine sg ?_
  refine an ?_
  repeat first|refine ai ?_|refine sg ?_
  rfl
theorem kW (H:Type) (enc:TypeId×Value→H) (W:World) (base:Nat) (args:Array Value) (ds gs:List (DataW H)) (before:List MemPlace)
 (hval:∀(j:Nat) t v,Tryz.f8.params[j]? =some t→args[j]? =some v→Value.okWide Tryz.prog W .any base t v)
 (hW:DataW.Whole enc Tryz.prog Tryz.f8.params.toList Rows.fnExactGateBoundSpec.vars false W args.toList ds gs before) (hk:Rows.uptoSmall H (ds++gs)=true) (hL:laidMetH Tryz.prog va W):
 Calls Tryz.prog 8 args W fun e W'=>∃v,e= .returned v∧Rows.fnExactGateBoundSpec.post enc Tryz.prog Tryz.f8 false true false false W args v W':=by
 have hW':=hW
 obtain ⟨p,q,hA0,hV,rfl,hfz,hnd⟩:=hW
 obtain ⟨rfl,rfl⟩:=trodVars_none hV
 have hA:DataW.TrodAll enc Tryz.prog W 0 (fun _=>true) true [26,32,9,9,3] args.toList ds p:=hA0
 have hp:Tryz.f8.params= #[26,32,9,9,3]:=rfl
 rw[hp] at hval
 obtain ⟨v0,vs0,d0,ds0,p0,q0,hargs,rfl,rfl,h0,r0⟩:=trodAll_cons hA
 obtain ⟨v1,vs1,d1,ds1,p1,q1,rfl,rfl,rfl,h1,r1⟩:=trodAll_cons r0
 obtain ⟨v2,vs2,d2,ds2,p2,q2,rfl,rfl,rfl,h2,r2⟩:=trodAll_cons r1
 obtain ⟨v3,vs3,d3,ds3,p3,q3,rfl,rfl,rfl,h3,r3⟩:=trodAll_cons r2
 obtain ⟨v4,vs4,d4,ds4,p4,q4,rfl,rfl,rfl,h4,r4⟩:=trodAll_cons r3
 obtain ⟨rfl,rfl,rfl⟩:=trodAll_nil r4
 obtain rfl:args= #[v0,v1,v2,v3,v4]:=by cases args;simp_all
 have hsmall:Rows.uptoBulk d0+(Rows.uptoBulk d1+(Rows.uptoBulk d2+(Rows.uptoBulk d3+(Rows.uptoBulk d4+0))))≤1048576:=by
  have:=of_decide_eq_true hk
  simpa only[List.append_nil,Rows.uptoBulkAll] using this
 obtain ⟨n0,t0⟩:=h0
 obtain ⟨n1,t1⟩:=h1
 obtain ⟨n2,t2⟩:=h2
 obtain ⟨n3,t3⟩:=h3
 obtain ⟨n4,t4⟩:=h4
 obtain ⟨e0,g0,s0⟩:=d7 (P:=P) (n:=12) (by kernel_rfl) t0 (by unfold al;omega)
 obtain ⟨e1,g1,s1⟩:=d7 (P:=P) (n:=12) (by kernel_rfl) t1 (by unfold al;omega)
 obtain ⟨e2,g2,s2⟩:=d7 (P:=P) (n:=12) (by kernel_rfl) t2 (by unfold al;omega)
 obtain ⟨e3,g3,s3⟩:=d7 (P:=P) (n:=12) (by kernel_rfl) t3 (by unfold al;omega)
 obtain ⟨e4,g4,s4⟩:=d7 (P:=P) (n:=12) (by kernel_rfl) t4 (by unfold al;omega)
 have lg:=mD hL
 replace g0:=cW lg.ifc g0 (c6 s0)
 replace g1:=cW lg.ifc g1 (c6 s1)
 replace g2:=cW lg.ifc g2 (c6 s2)
 replace g3:=cW lg.ifc g3 (c6 s3)
 replace g4:=cW lg.ifc g4 (c6 s4)
 obtain ⟨L,rfl⟩:=l7 s0
 obtain ⟨b,rfl⟩:=km s1
 obtain ⟨t,rfl⟩:=aw s2
 obtain ⟨r,rfl⟩:=aw s3
 obtain ⟨n,rfl⟩:=e7 s4
 have k0:=hval 0 26 v0 rfl rfl
 have k1:=hval 1 32 v1 rfl rfl
 have k2:=hval 2 9 v2 rfl rfl
 have k3:=hval 3 9 v3 rfl rfl
 have k4:=hval 4 3 v4 rfl rfl
 obtain ⟨f0,hu0⟩:∃fs,P.underlying 26=some (.struct fs):=fP (by kernel_rfl)
 obtain ⟨c0,rfl⟩:=pu hu0 k0
 obtain ⟨f1,hu1⟩:∃fs,P.underlying 32=some (.struct fs):=fP (by kernel_rfl)
 obtain ⟨c1,rfl⟩:=pu hu1 k1
 obtain ⟨c2,rfl⟩:=nb (show P.underlying 9=some .string from by kernel_rfl) k2
 obtain ⟨c3,rfl⟩:=nb (show P.underlying 9=some .string from by kernel_rfl) k3
 obtain ⟨c4,rfl⟩:=E3 (show P.underlying 3=some (.int .i64) from by kernel_rfl) k4
 have hr:Rv W qy (fun _=>undef) [st L.e,st b.e,.d (.str t),.d (.str r),.d (.int .i64 n)] [.agg c0,.agg c1,.string c2,.string c3,.int .i64 c4]:=by
  have g0:Rd W qy L.e c0.toList:=g0
  have g1:Rd W qy b.e c1.toList:=g1
  have g2:Rd W qy [.str t] [.string c2]:=g2
  have g3:Rd W qy [.str r] [.string c3]:=g3
  have g4:Rd W qy [.int .i64 n] [.int .i64 c4]:=g4
  have a0:=jV (ν:=fun _=>undef) g0
  have a1:=jV (ν:=fun _=>undef) g1
  have:=Rv.agg _ a0 (Rv.agg _ a1 (Rv.d g2 (Rv.d g3 (Rv.d g4 .nil))))
  show Rv W qy (fun _=>undef) [.agg (L.e.map .d),.agg (b.e.map .d),.d (.str t),.d (.str r),.d (.int .i64 n)] [.agg c0,.agg c1,.string c2,.string c3,.int .i64 c4]
  simpa using this
 refine ((y5 L b t r n).2 qy W [.agg c0,.agg c1,.string c2,.string c3,.int .i64 c4] lg.bnd lg.lw hr).mono fun e W' ⟨v,he,hkp,hv⟩=>?_
 obtain rfl:=bS hv
 subst he
 exact ⟨_,rfl,oX (by kernel_rfl) (by kernel_rfl) (by kernel_rfl) (by decide) rfl rfl (show P.underlying 4=some .bool from by kernel_rfl) hW' hkp rfl⟩
theorem ye (os:Os) {H:Type} (enc:TypeId×Value→H):∃places,DataW.whole enc Tryz.prog ((fW os).forCall (fun _ _=>0) ⟨#[],#[.agg #[.slice none 0 0,.slice none 0 0,.slice none 0 0],.agg #[.int .i64 0,.int .i64 0,.int .i64 0,.slice none 0 0,.slice none 0 0,.slice none 0 0,.slice none 0 0],.string ⟨#[]⟩,.string ⟨#[]⟩,.int .i64 0],[]⟩).memory Tryz.f8.params.toList Rows.fnExactGateBoundSpec.vars false (#[.agg #[.slice none 0 0,.slice none 0 0,.slice none 0 0],.agg #[.int .i64 0,.int .i64 0,.int .i64 0,.slice none 0 0,.slice none 0 0,.slice none 0 0,.slice none 0 0],.string ⟨#[]⟩,.string ⟨#[]⟩,.int .i64 0]:Array Value).toList 12=some ([.agg [.nil,.nil,.nil],.agg [.lit (.int .i64 0),.lit (.int .i64 0),.lit (.int .i64 0),.nil,.nil,.nil,.nil],.lit (.string []),.lit (.string []),.lit (.int .i64 0)],[],places):=
 ⟨[],by kernel_rfl⟩
theorem sq (os:Os) (started:os.Started) (H:Type) (enc:TypeId×Value→H) (F:Stop.Interp):
 ReturnsInHanded {} Tryz.checked os 8 .any ((Rows.OpenSpec.upto Rows.fnExactGateBoundSpec).preRow enc Tryz.prog Tryz.f8 Rows.fnExactGateBoundUptoRow.domain false Rows.fnExactGateBoundUptoRow.laid) (((Rows.OpenSpec.upto Rows.fnExactGateBoundSpec).at F).post enc Tryz.prog Tryz.f8 false true false false):=by
 obtain ⟨places,hx⟩:=ye os enc
 refine returnsInHanded_of_row (C:=Tryz.checked) (s:=Rows.OpenSpec.upto Rows.fnExactGateBoundSpec) own started (by kernel_rfl) Tryz.func8
  (witness_row_at (enc:=enc) (C:=Tryz.checked) false (fW os) #[.agg #[.slice none 0 0,.slice none 0 0,.slice none 0 0],.agg #[.int .i64 0,.int .i64 0,.int .i64 0,.slice none 0 0,.slice none 0 0,.slice none 0 0,.slice none 0 0],.string ⟨#[]⟩,.string ⟨#[]⟩,.int .i64 0] rfl (by kernel_rfl) (by kernel_rfl) (by kernel_rfl)
    (OpenSpec.preRow_of_cond 12 hx (by kernel_rfl) (fun k hk=>by cases hk;kernel_rfl) (by kernel_rfl) (sx os _))) ?_
 intro W base args ds gs before hval hW _ hcond _ hL _ _
 exact kW H enc W base args ds gs before hval hW (hcond _ rfl) hL
theorem zf:(Rows.fnExactGateBoundUptoRow.inPlace==Tryz.pinned.checked.prog.inPlace 8)=true:=by kernel_rfl
theorem zd:(Rows.fnExactGateBoundUptoRow.unfollowed==Tryz.pinned.checked.prog.unfollowed 8)=true:=by kernel_rfl
theorem zc:(Rows.fnExactGateBoundUptoRow.recurses==Tryz.pinned.checked.prog.recurses 8)=true:=by kernel_rfl
theorem zb:(Rows.fnExactGateBoundUptoRow.named==Tryz.pinned.checked.prog.varsNamed 8)=true:=by kernel_rfl
theorem za:joinedFacts Tryz.pinned.checked.prog 8 Tryz.f8 (Rows.OpenSpec.upto Rows.fnExactGateBoundSpec).bare Rows.fnExactGateBoundUptoRow=true:=by
 unfold joinedFacts
 rw[zf,zd,zc,zb]
 kernel_rfl
theorem xq:Tryz.f8.isWrapper Tryz.pinned.checked.prog Rows.fnExactGateBoundUptoRow.wrapper Rows.fnExactGateBoundUptoRow.mainSum:=by
 unfold Func.isWrapper
 first|(rw[if_pos (by decide+kernel)];kernel_rfl)|(rw[if_neg (by decide+kernel)];exact ⟨rfl,rfl⟩)
theorem kM:Rows.fnExactGateBoundUptoRow.holds Tryz.pinned (Rows.OpenSpec.upto Rows.fnExactGateBoundSpec):=
 OpenClaim.holds_of_cond 8 Tryz.f8 rfl rfl rfl rfl rfl rfl rfl ⟨rfl,rfl,rfl,rfl,rfl⟩ rfl rfl rfl rfl rfl (by kernel_rfl) Tryz.func8 za
  (of_decide_eq_true (by kernel_rfl)) xq
  (fun os started H enc _ F=>by rw[OpenClaim.pre_eq_preRow];exact sq os started H enc F)
theorem i4:∀t∈Tryz.f8.params.toList,Tryz.prog.wantsStandIn t=false:=by
 have h:Tryz.f8.params.toList.all (fun t=> !Tryz.prog.wantsStandIn t)=true:=by kernel_rfl
 intro t ht
 have:=List.all_eq_true.1 h t ht
 simpa using this
theorem ib (f:FuncId) (fn:Func) (hf:Tryz.pinned.checked.prog.funcNamed "loop.example/wharfhall/laws.FnExactGateBound" =some f) (hfn:Tryz.pinned.checked.prog.funcs[f]? =some fn):
 true=Tryz.pinned.checked.prog.looks []∧∀(j:Nat) t,fn.params[j]? =some t→Tryz.pinned.checked.prog.wantsStandIn t=false:=by
 obtain rfl:f=8:=Option.some.inj ((show Tryz.prog.funcNamed "loop.example/wharfhall/laws.FnExactGateBound" =some 8 by kernel_rfl).symm.trans hf) |>.symm
 obtain rfl:fn=Tryz.f8:=(Option.some.inj (Tryz.func8.symm.trans hfn)).symm
 exact ⟨by kernel_rfl,fun j t ht=>i4 t (by simpa using Array.mem_of_getElem? ht)⟩
theorem cardHolds:Rows.FnExactGateBoundUptoCardSaid:=
 Claim7.holds_tied_plain_at .later [] _ _ _ _ kM (fun _ h=>by cases h) (by kernel_rfl) (fun _ h=>by cases h) fnExactGateBoundUpto_row_tie rfl ⟨rfl,rfl⟩ (by kernel_rfl) rfl ib (by kernel_rfl)
end Go.Vc
namespace Go.Proofs.YteongcjplmbkgaaGreatDoor
theorem exactGateBound:Rows.FnExactGateBoundUptoCardSaid:=Go.Vc.cardHolds
end Go.Proofs.YteongcjplmbkgaaGreatDoor
end
