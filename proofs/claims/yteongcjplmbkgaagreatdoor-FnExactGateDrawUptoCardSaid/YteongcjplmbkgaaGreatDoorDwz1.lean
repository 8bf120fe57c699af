/- FnExactGateDraw, where what it reads is of bulk at most 1048576: it returns true, and its arguments read as they did. -/
import Derived.Test.YteongcjplmbkgaaGreatDoorDwa
import Derived.Test.YteongcjplmbkgaaGreatDoorDwb
import Derived.Test.YteongcjplmbkgaaGreatDoorDwc
import Derived.Test.YteongcjplmbkgaaGreatDoorDwd
import Derived.Test.YteongcjplmbkgaaGreatDoorDwe
import Derived.Test.YteongcjplmbkgaaGreatDoorDwf
import Derived.Test.YteongcjplmbkgaaGreatDoorDwg
import Derived.SevenTiedAt
set_option linter.unusedVariables false
set_option linter.unusedSimpArgs false
section
namespace Go.Vc
open Go.Proofs Go.Proofs.YteongcjplmbkgaaGreatDoor Go.ChangeShapes Go.WideShapes Go.RowKit
set_option maxRecDepth 100000
set_option maxHeartbeats 20000000 in
theorem Gv (L:GateLaw) (b:GateBook) (d:Bs) (t:Bs) (r:Bs) (n:Int):Spec P 9 [st L.e,st b.e,.d (.str d),.d (.str t),.d (.str r),.d (.int .i64 n)] (.d (.bool true)):=by
 refine y7 cA az [.tmp 12] Tryz.func9 rfl rfl rfl rfl (fun hok=>?_)
 repeat first|refine ai ?_|refine sg ?_
 refine aj ?_ ?_<;>intro j2
 ·repeat first|refine ai ?_|refine sg ?_
  rfl
 repeat first|refine ai ?_|refine sg ?_
 refine aj ?_ ?_<;>intro j3
 ·repeat first|refine ai ?_|refine sg ?_
  rfl
 repeat first|refine ai ?_|refine sg ?_
 refine aj ?_ ?_<;>intro j4
 ·repeat first|refine ai ?_|refine sg ?_
  rfl
 repeat first|refine ai ?_|refine sg ?_
 refine oc (xB L _) ?_
 repeat first|refine ai ?_|refine sg ?_
 refine aj ?_ ?_<;>intro g0
 ·repeat first|refine ai ?_|refine sg ?_
  rfl
 repeat first|refine ai ?_|refine sg ?_
 refine oc (vR b _) ?_
 repeat first|refine ai ?_|refine sg ?_
 refine aj ?_ ?_<;>intro g1
 ·repeat first|refine ai ?_|refine sg ?_
  rfl
 have k0:bE L.e:=Fg hok.1
 have z0:0≤eZ L 1048576:=by have:=of_decide_eq_false g0;omega
 have y0:=qZ L _ k0 (by decide) (by decide) z0
 have x0:=L.el_nn
 have w0:=L.lv_le
 have l0:=L.lv_nn
 have k1:bE b.e:=Fg hok.2.1
 have z1:0≤fi b (eZ L 1048576):=by have:=of_decide_eq_false g1;omega
 have y1:=pP b _ k1 z0 (by omega) z1
 have x1:=b.el_nn
 have w1:=b.lv_le
 have l1:=b.lv_nn
 have u0:=GateLaw.marks_le L 1 (by omega) (by omega)
 have u1:=GateBook.marks_le b (GateLaw.marks L 1).2 (by omega) (by omega)
 have hB:(1:Int)+(0+bF GateObject.lv (dR L b d t r n).1.objects+bF GateGrant.lv (dR L b d t r n).1.grants+bF GateLedger.lv (dR L b d t r n).1.ledgers+bF GatePurse.lv (dR L b d t r n).1.purses)≤1099511627776:=by
  have q1:=GateBook.lv_le (dR L b d t r n).1
  have q2:=Ea L b d t r n
  have q3:=GateBook.el_nn b
  unfold GateBook.lv at q1
  omega
 have hv:=GateBook.marks_val (dR L b d t r n).1 1 (by decide) hB
 have hnobjects:=aO GateObject.lv_nn (dR L b d t r n).1.objects
 have hngrants:=aO GateGrant.lv_nn (dR L b d t r n).1.grants
 have hnledgers:=aO GateLedger.lv_nn (dR L b d t r n).1.ledgers
 have hnpurses:=aO GatePurse.lv_nn (dR L b d t r n).1.purses
 generalize hR:dR L b d t r n=R at*
 have cs:=zw L b d t r n
 have ci:=Ah L b d t r n
 rw[hR] at cs ci
 repeat first|refine ai ?_|refine sg ?_
 refine akp 14 (.one [0,1,2,3,4,5,6,7,8,9,10,11] [] 12 (.one [] [0,1,2,3,4,5,6,7,8,9,10,11] 13 (.fin [] [11]))) ?_
 repeat first|refine ai ?_|refine sg ?_
 repeat first|refine ai ?_|refine sg ?_
 refine oc (gY L) ?_
 repeat first|refine ai ?_|refine sg ?_
 refine oc (ge b) ?_
 repeat first|refine ai ?_|refine sg ?_
 refine oc (cs) ?_
 repeat first|refine ai ?_|refine sg ?_
 refine oc (gY L) ?_
 repeat first|refine ai ?_|refine sg ?_
 refine oc (ge b) ?_
 repeat first|refine ai ?_|refine sg ?_
 refine oc (cs) ?_
 repeat first|refine ai ?_|refine sg ?_
 refine ow (xA L) ?_
 repeat first|refine ai ?_|refine sg ?_
 refine ow (vM b) ?_
 repeat first|refine ai ?_|refine sg ?_
 refine ov (ci) ?_
 repeat first|refine ai ?_|refine sg ?_
 refine ol (gt R.1) ?_
 repeat first|refine ai ?_|refine sg ?_
 refine ay ?_
 repeat first|refine ai ?_|refine sg ?_
 refine an ?_
 repeat first|refine ai ?_|refine sg ?_
 refine ak ?_
 repeat first|refine ai ?_|refine sg ?_
 repeat first|refine ai ?_|refine sg ?_
 refine oc (gY L) ?_
 repeat first|refine ai ?_|refine sg ?_
 refine ol (At L) ?_
 repeat first|refine ai ?_|refine sg ?_
 refine an ?_
 repeat first|refine ai ?_|refine sg ?_
 refine ak ?_
 repeat first|refine ai ?_|refine sg ?_
 repeat first|refine ai ?_|refine sg ?_
 refine oc (ge b) ?_
 repeat first|refine ai ?_|refine sg ?_
 refine ol (gt b) ?_
 repeat first|refine ai ?_|refine sg ?_
 refine an ?_
 repeat first|refine ai ?_|refine sg ?_
 refine om [3,4,5] none (zP L _) ?_
 repeat first|refine ai ?_|refine sg ?_
 refine om [7,8,9,10] none (pv b _) ?_
 repeat first|refine ai ?_|refine sg ?_
 refine aj (fun _=>?_) (fun h=>absurd (of_decide_eq_true h) (by omega))
 repeat first|refine ai ?_|refine sg ?_
 refine ol (gt R.1) ?_
 repeat first|refine ai ?_|refine sg ?_
 refine ay ?_
 repeat first|refine ai ?_|refine sg ?_
 refine an ?_
 repeat first|refine ai ?_|refine sg ?_
 refine om [12,13,14,15] none (pv R.1 1) ?_
 repeat first|refine ai ?_|refine sg ?_
 refine ol (kz R.1 1 (by decide) hB) ?_
 repeat first|refine ai ?_|refine sg ?_
 refine aj (fun h=>absurd (of_decide_eq_true h) (by rw[hv];omega)) (fun _=>?_)
 repeat first|refine ai ?_|refine sg ?_
 refine an ?_
 refine Hm [2,3,4,5,6,7,14,15,18,21] [0,1,2,12,13,14,15,16] (aj (by repeat' first|exact rfl|exact trivial|refine aj ?_ ?_) ?_)
 repeat first|refine ai ?_|refine sg ?_
 refine akp 14 (.two [0,1,2,3,4,5,6,7] [] 8 (.one [9,10,11] [] 12 (.one [] [9,10,11] 13 (.fin [] [11]))) 12 (.one [] [0,1,2,3,4,5,6,7] 8 (.one [9,10,11] [] 13 (.fin [] [11])))) ?_
 repeat first|refine ai ?_|refine sg ?_
 repeat first|refine ai ?_|refine sg ?_
 refine oc (gY L) ?_
 repeat first|refine ai ?_|refine sg ?_
 refine oc (ge b) ?_
 repeat first|refine ai ?_|refine sg ?_
 refine aj ?_ ?_
 ·repeat first|refine ai ?_|refine sg ?_
  refine ow (ci) ?_
  repeat first|refine ai ?_|refine sg ?_
  refine ol (gt R.1) ?_
  repeat first|refine ai ?_|refine sg ?_
  refine ay ?_
  repeat first|refine ai ?_|refine sg ?_
  refine an ?_
  repeat first|refine ai ?_|refine sg ?_
  refine ol (kz R.1 1 (by decide) hB) ?_
  repeat first|refine ai ?_|refine sg ?_
  refine aj (fun h=>absurd (of_decide_eq_true h) (by rw[hv];omega)) (fun _=>?_)
  repeat first|refine ai ?_|refine sg ?_
  refine an ?_
  repeat first|refine ai ?_|refine sg ?_
  rfl
 ·repeat first|refine ai ?_|refine sg ?_
  refine oc (gY L) ?_
  repeat first|refine ai ?_|refine sg ?_
  refine oc (ge b) ?_
  repeat first|refine ai ?_|refine sg ?_
  refine ow (ci) ?_
  repeat first|refine ai ?_|refine sg ?_
  refine ol (gt R.1) ?_
  repeat first|refine ai ?_|refine sg ?_
  refine ay ?_
  repeat first|refine ai ?_|refine sg ?_
  refine an ?_
  repeat first|refine ai ?_|refine sg ?_
  refine ol (kz R.1 1 (by decide) hB) ?_
  repeat first|refine ai ?_|refine sg ?_
  refine aj (fun h=>absurd (of_decide_eq_true h) (by rw[hv];omega)) (fun _=>?_)
  repeat first|refine ai ?_|refine sg ?_
  refine an ?_
  repeat first|refine ai ?_|refine sg ?_
  rfl
theorem Ee (H:Type) (enc:TypeId×Value→H) (W:World) (base:Nat) (args:Array Value) (ds gs:List (DataW H)) (before:List MemPlace)
 (hval:∀(j:Nat) t v,Tryz.f9.params[j]? =some t→args[j]? =some v→Value.okWide Tryz.prog W .any base t v)
 (hW:DataW.Whole enc Tryz.prog Tryz.f9.params.toList Rows.fnExactGateDrawSpec.vars false W args.toList ds gs before) (hk:Rows.uptoSmall H (ds++gs)=true) (hL:laidMetH Tryz.prog Bg W):
 Calls Tryz.prog 9 args W fun e W'=>∃v,e= .returned v∧Rows.fnExactGateDrawSpec.post enc Tryz.prog Tryz.f9 false true false false W args v W':=by
 have hW':=hW
 obtain ⟨p,q,hA0,hV,rfl,hfz,hnd⟩:=hW
 obtain ⟨rfl,rfl⟩:=trodVars_none hV
 have hA:DataW.TrodAll enc Tryz.prog W 0 (fun _=>true) true [26,32,9,9,9,3] args.toList ds p:=hA0
 have hp:Tryz.f9.params= #[26,32,9,9,9,3]:=rfl
 rw[hp] at hval
 obtain ⟨v0,vs0,d0,ds0,p0,q0,hargs,rfl,rfl,h0,r0⟩:=trodAll_cons hA
 obtain ⟨v1,vs1,d1,ds1,p1,q1,rfl,rfl,rfl,h1,r1⟩:=trodAll_cons r0
 obtain ⟨v2,vs2,d2,ds2,p2,q2,rfl,rfl,rfl,h2,r2⟩:=trodAll_cons r1
 obtain ⟨v3,vs3,d3,ds3,p3,q3,rfl,rfl,rfl,h3,r3⟩:=trodAll_cons r2
 obtain ⟨v4,vs4,d4,ds4,p4,q4,rfl,rfl,rfl,h4,r4⟩:=trodAll_cons r3
 obtain ⟨v5,vs5,d5,ds5,p5,q5,rfl,rfl,rfl,h5,r5⟩:=trodAll_cons r4
 obtain ⟨rfl,rfl,rfl⟩:=trodAll_nil r5
 obtain rfl:args= #[v0,v1,v2,v3,v4,v5]:=by cases args;simp_all
 have hsmall:Rows.uptoBulk d0+(Rows.uptoBulk d1+(Rows.uptoBulk d2+(Rows.uptoBulk d3+(Rows.uptoBulk d4+(Rows.uptoBulk d5+0)))))≤1048576:=by
  have:=of_decide_eq_true hk
  simpa only[List.append_nil,Rows.uptoBulkAll] using this
 obtain ⟨n0,t0⟩:=h0
 obtain ⟨n1,t1⟩:=h1
 obtain ⟨n2,t2⟩:=h2
 obtain ⟨n3,t3⟩:=h3
 obtain ⟨n4,t4⟩:=h4
 obtain ⟨n5,t5⟩:=h5
 obtain ⟨e0,g0,s0⟩:=ij (P:=P) (n:=12) (by kernel_rfl) t0 (by unfold ap;omega)
 obtain ⟨e1,g1,s1⟩:=ij (P:=P) (n:=12) (by kernel_rfl) t1 (by unfold ap;omega)
 obtain ⟨e2,g2,s2⟩:=ij (P:=P) (n:=12) (by kernel_rfl) t2 (by unfold ap;omega)
 obtain ⟨e3,g3,s3⟩:=ij (P:=P) (n:=12) (by kernel_rfl) t3 (by unfold ap;omega)
 obtain ⟨e4,g4,s4⟩:=ij (P:=P) (n:=12) (by kernel_rfl) t4 (by unfold ap;omega)
 obtain ⟨e5,g5,s5⟩:=ij (P:=P) (n:=12) (by kernel_rfl) t5 (by unfold ap;omega)
 have lg:=zT hL
 replace g0:=gS lg.ifc g0 (gf s0)
 replace g1:=gS lg.ifc g1 (gf s1)
 replace g2:=gS lg.ifc g2 (gf s2)
 replace g3:=gS lg.ifc g3 (gf s3)
 replace g4:=gS lg.ifc g4 (gf s4)
 replace g5:=gS lg.ifc g5 (gf s5)
 obtain ⟨L,rfl⟩:=zf s0
 obtain ⟨b,rfl⟩:=xv s1
 obtain ⟨d,rfl⟩:=aA s2
 obtain ⟨t,rfl⟩:=aA s3
 obtain ⟨r,rfl⟩:=aA s4
 obtain ⟨n,rfl⟩:=eO s5
 have k0:=hval 0 26 v0 rfl rfl
 have k1:=hval 1 32 v1 rfl rfl
 have k2:=hval 2 9 v2 rfl rfl
 have k3:=hval 3 9 v3 rfl rfl
 have k4:=hval 4 9 v4 rfl rfl
 have k5:=hval 5 3 v5 rfl rfl
 obtain ⟨f0,hu0⟩:∃fs,P.underlying 26=some (.struct fs):=q9 (by kernel_rfl)
 obtain ⟨c0,rfl⟩:=Er hu0 k0
 obtain ⟨f1,hu1⟩:∃fs,P.underlying 32=some (.struct fs):=q9 (by kernel_rfl)
 obtain ⟨c1,rfl⟩:=Er hu1 k1
 obtain ⟨c2,rfl⟩:=vW (show P.underlying 9=some .string from by kernel_rfl) k2
 obtain ⟨c3,rfl⟩:=vW (show P.underlying 9=some .string from by kernel_rfl) k3
 obtain ⟨c4,rfl⟩:=vW (show P.underlying 9=some .string from by kernel_rfl) k4
 obtain ⟨c5,rfl⟩:=EU (show P.underlying 3=some (.int .i64) from by kernel_rfl) k5
 have hr:Rv W CM (fun _=>undef) [st L.e,st b.e,.d (.str d),.d (.str t),.d (.str r),.d (.int .i64 n)] [.agg c0,.agg c1,.string c2,.string c3,.string c4,.int .i64 c5]:=by
  have g0:Rd W CM L.e c0.toList:=g0
  have g1:Rd W CM b.e c1.toList:=g1
  have g2:Rd W CM [.str d] [.string c2]:=g2
  have g3:Rd W CM [.str t] [.string c3]:=g3
  have g4:Rd W CM [.str r] [.string c4]:=g4
  have g5:Rd W CM [.int .i64 n] [.int .i64 c5]:=g5
  have a0:=w8 (ν:=fun _=>undef) g0
  have a1:=w8 (ν:=fun _=>undef) g1
  have:=Rv.agg _ a0 (Rv.agg _ a1 (Rv.d g2 (Rv.d g3 (Rv.d g4 (Rv.d g5 .nil)))))
  show Rv W CM (fun _=>undef) [.agg (L.e.map .d),.agg (b.e.map .d),.d (.str d),.d (.str t),.d (.str r),.d (.int .i64 n)] [.agg c0,.agg c1,.string c2,.string c3,.string c4,.int .i64 c5]
  simpa using this
 refine ((Gv L b d t r n).2 CM W [.agg c0,.agg c1,.string c2,.string c3,.string c4,.int .i64 c5] lg.bnd lg.lw hr).mono fun e W' ⟨v,he,hkp,hv⟩=>?_
 obtain rfl:=cj hv
 subst he
 exact ⟨_,rfl,Cc (by kernel_rfl) (by kernel_rfl) (by kernel_rfl) (by decide) rfl rfl (show P.underlying 4=some .bool from by kernel_rfl) hW' hkp rfl⟩
theorem Gg (os:Os) {H:Type} (enc:TypeId×Value→H):∃places,DataW.whole enc Tryz.prog ((oK os).forCall (fun _ _=>0) ⟨#[],#[.agg #[.slice none 0 0,.slice none 0 0,.slice none 0 0],.agg #[.int .i64 0,.int .i64 0,.int .i64 0,.slice none 0 0,.slice none 0 0,.slice none 0 0,.slice none 0 0],.string ⟨#[]⟩,.string ⟨#[]⟩,.string ⟨#[]⟩,.int .i64 0],[]⟩).memory Tryz.f9.params.toList Rows.fnExactGateDrawSpec.vars false (#[.agg #[.slice none 0 0,.slice none 0 0,.slice none 0 0],.agg #[.int .i64 0,.int .i64 0,.int .i64 0,.slice none 0 0,.slice none 0 0,.slice none 0 0,.slice none 0 0],.string ⟨#[]⟩,.string ⟨#[]⟩,.string ⟨#[]⟩,.int .i64 0]:Array Value).toList 12=some ([.agg [.nil,.nil,.nil],.agg [.lit (.int .i64 0),.lit (.int .i64 0),.lit (.int .i64 0),.nil,.nil,.nil,.nil],.lit (.string []),.lit (.string []),.lit (.string []),.lit (.int .i64 0)],[],places):=
 ⟨[],by kernel_rfl⟩
theorem FH (os:Os) (started:os.Started) (H:Type) (enc:TypeId×Value→H) (F:Stop.Interp):
 ReturnsInHanded {} Tryz.checked os 9 .any ((Rows.OpenSpec.upto Rows.fnExactGateDrawSpec).preRow enc Tryz.prog Tryz.f9 Rows.fnExactGateDrawUptoRow.domain false Rows.fnExactGateDrawUptoRow.laid) (((Rows.OpenSpec.upto Rows.fnExactGateDrawSpec).at F).post enc Tryz.prog Tryz.f9 false true false false):=by
 obtain ⟨places,hx⟩:=Gg os enc
 refine returnsInHanded_of_row (C:=Tryz.checked) (s:=Rows.OpenSpec.upto Rows.fnExactGateDrawSpec) own started (by kernel_rfl) Tryz.func9
  (witness_row_at (enc:=enc) (C:=Tryz.checked) false (oK os) #[.agg #[.slice none 0 0,.slice none 0 0,.slice none 0 0],.agg #[.int .i64 0,.int .i64 0,.int .i64 0,.slice none 0 0,.slice none 0 0,.slice none 0 0,.slice none 0 0],.string ⟨#[]⟩,.string ⟨#[]⟩,.string ⟨#[]⟩,.int .i64 0] rfl (by kernel_rfl) (by kernel_rfl) (by kernel_rfl)
    (OpenSpec.preRow_of_cond 12 hx (by kernel_rfl) (fun k hk=>by cases hk;kernel_rfl) (by kernel_rfl) (DI os _))) ?_
 intro W base args ds gs before hval hW _ hcond _ hL _ _
 exact Ee H enc W base args ds gs before hval hW (hcond _ rfl) hL
theorem GA:(Rows.fnExactGateDrawUptoRow.inPlace==Tryz.pinned.checked.prog.inPlace 9)=true:=by kernel_rfl
theorem Gz:(Rows.fnExactGateDrawUptoRow.unfollowed==Tryz.pinned.checked.prog.unfollowed 9)=true:=by kernel_rfl
theorem Gy:(Rows.fnExactGateDrawUptoRow.recurses==Tryz.pinned.checked.prog.recurses 9)=true:=by kernel_rfl
theorem Gx:(Rows.fnExactGateDrawUptoRow.named==Tryz.pinned.checked.prog.varsNamed 9)=true:=by kernel_rfl
theorem Gw:joinedFacts Tryz.pinned.checked.prog 9 Tryz.f9 (Rows.OpenSpec.upto Rows.fnExactGateDrawSpec).bare Rows.fnExactGateDrawUptoRow=true:=by
 unfold joinedFacts
 rw[GA,Gz,Gy,Gx]
 kernel_rfl
theorem F8:Tryz.f9.isWrapper Tryz.pinned.checked.prog Rows.fnExactGateDrawUptoRow.wrapper Rows.fnExactGateDrawUptoRow.mainSum:=by
 unfold Func.isWrapper
 first|(rw[if_pos (by decide+kernel)];kernel_rfl)|(rw[if_neg (by decide+kernel)];exact ⟨rfl,rfl⟩)
theorem DH:Rows.fnExactGateDrawUptoRow.holds Tryz.pinned (Rows.OpenSpec.upto Rows.fnExactGateDrawSpec):=
 OpenClaim.holds_of_cond 9 Tryz.f9 rfl rfl rfl rfl rfl rfl rfl ⟨rfl,rfl,rfl,rfl,rfl⟩ rfl rfl rfl rfl rfl (by kernel_rfl) Tryz.func9 Gw
  (of_decide_eq_true (by kernel_rfl)) F8
  (fun os started H enc _ F=>by rw[OpenClaim.pre_eq_preRow];exact FH os started H enc F)
theorem Ci:∀t∈Tryz.f9.params.toList,Tryz.prog.wantsStandIn t=false:=by
 have h:Tryz.f9.params.toList.all (fun t=> !Tryz.prog.wantsStandIn t)=true:=by kernel_rfl
 intro t ht
 have:=List.all_eq_true.1 h t ht
 simpa using this
theorem zE (f:FuncId) (fn:Func) (hf:Tryz.pinned.checked.prog.funcNamed "loop.example/wharfhall/laws.FnExactGateDraw" =some f) (hfn:Tryz.pinned.checked.prog.funcs[f]? =some fn):
 true=Tryz.pinned.checked.prog.looks []∧∀(j:Nat) t,fn.params[j]? =some t→Tryz.pinned.checked.prog.wantsStandIn t=false:=by
 obtain rfl:f=9:=Option.some.inj ((show Tryz.prog.funcNamed "loop.example/wharfhall/laws.FnExactGateDraw" =some 9 by kernel_rfl).symm.trans hf) |>.symm
 obtain rfl:fn=Tryz.f9:=(Option.some.inj (Tryz.func9.symm.trans hfn)).symm
 exact ⟨by kernel_rfl,fun j t ht=>Ci t (by simpa using Array.mem_of_getElem? ht)⟩
theorem cardHolds:Rows.FnExactGateDrawUptoCardSaid:=
 Claim7.holds_tied_plain_at .later [] _ _ _ _ DH (fun _ h=>by cases h) (by kernel_rfl) (fun _ h=>by cases h) fnExactGateDrawUpto_row_tie rfl ⟨rfl,rfl⟩ (by kernel_rfl) rfl zE (by kernel_rfl)
end Go.Vc
namespace Go.Proofs.YteongcjplmbkgaaGreatDoor
theorem exactGateDraw:Rows.FnExactGateDrawUptoCardSaid:=Go.Vc.cardHolds
end Go.Proofs.YteongcjplmbkgaaGreatDoor
end
