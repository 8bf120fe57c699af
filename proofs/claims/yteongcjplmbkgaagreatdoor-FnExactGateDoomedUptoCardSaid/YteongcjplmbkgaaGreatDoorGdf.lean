/- Part 6 of a proof: Contracts: the sums of a book. Contracts: the sums of a book, by the specification; a book. Contracts: laws. Contracts: books. Contracts: who names whom; what is marked. The greatest part of a set that nobody outside names. Contracts of the functions that the laws bring with them, printed by genlaws.py. Helpers of the contracts' proofs: trees. Pure data of the laws as trees of the call's own, printed by genlaws.py. Contracts of the laws' own functions that make trees, printed by genlaws.py. Purses and ledgers, as pure data; helpers for trees that are read and written in place. Contracts: what  -/
import Derived.Test.YteongcjplmbkgaaGreatDoorGda
import Derived.Test.YteongcjplmbkgaaGreatDoorGdb
import Derived.Test.YteongcjplmbkgaaGreatDoorGdc
import Derived.Test.YteongcjplmbkgaaGreatDoorGdd
import Derived.Test.YteongcjplmbkgaaGreatDoorGde
set_option linter.unusedVariables false
set_option linter.unusedSimpArgs false
section
namespace Go.Vc
open Go.Proofs
set_option maxRecDepth 100000
def gm (L:GateLaw) (p:Option GateLedger) (g:GateLedger):Bool:=mH p g&&(L.teams.any (·.name==g.team)&&(aU g.resource&&(!decide (g.free<0)&&(!decide (g.free>g.most)&& !decide (g.most>1000000)))))
def xC (p:Option GatePurse) (x:GatePurse):Bool:=match p with|some q=>mG q x|none=>true
def kK (b:GateBook) (p:Option GatePurse) (x:GatePurse):Bool:=xC p x&&(b.ledgers.any (fun g=>g.team==x.team&&g.resource==x.resource)&&(aU x.door&&(fj x.amount 1 1000000&&fj x.until_ b.tick (dA b.tick 10))))
def sN (L:GateLaw) (b:GateBook) (g:GateLedger):Bool:=dA (dA (tL L b g.team g.resource) (EG b g.team g.resource)) g.free==g.most
def jN (L:GateLaw) (b:GateBook):Bool:= !decide ((b.ledgers.length:Int)>10)&&(!decide ((b.purses.length:Int)>24)&&(ar (gm L) none b.ledgers&&(ar (kK b) none b.purses&&b.ledgers.all (sN L b))))
def w7 (L:GateLaw) (b:GateBook) (g:GateLedger):Int:=dA g.free (tL L b g.team g.resource)
theorem uh {L:GateLaw}:∀(p:Option GateLedger) (g:GateLedger),gm L p g=true→mH p g=true:=fun p g h=>by
 simp only[gm,Bool.and_eq_true] at h;exact h.1
theorem CU {L:GateLaw} {b:GateBook} (h:ar (gm L) none b.ledgers=true) {g:GateLedger} (hg:g∈b.ledgers):∃v,cJ (El (E1 (w7 L b) b.ledgers) b.purses) (pC g)=some v∧(v==g.most)=sN L b g:=by
 have h1:=rY (w7 L b) [] (jo uh h) g hg
 refine ⟨_,by rw[rB];unfold E1;rw[h1];rfl,?_⟩
 unfold sN w7 EG
 simp only[pC]
 rw[B1]
theorem DX {E:List (f9×Int)} {k:f9} (h:(cJ E k).isSome) (ps:List GatePurse):∃v,cJ (El E ps) k=some v:=by
 obtain ⟨v,e⟩:=Option.isSome_iff_exists.1 h
 exact ⟨_,by rw[rB,e];rfl⟩
theorem FJ {t:Nat} {tk:TK} {E:List (f9×Int)} {a c:Bs} {v:Int}:some (AO.map t tk (bn (E.map jl) [.str a,.str c] (.d (.int .i64 v))))=some (AO.map t tk ((pv E (a,c) v).map jl)):=by
 rw[show ([D.str a,D.str c]:List D)=tc (a,c) from rfl,yd]
theorem yi (a b c d:Bs):gl a b c d= !(!(Op.bytesLess a c||a==c)||(a==c&& !Op.bytesLess b d)):=by rw[uf,Bool.not_not]
theorem AZ {E:List (f9×Int)} {a c:Bs} {v:Int} (h:cJ E (a,c)=some v):aq (E.map jl) [.str a,.str c]=some (.d (.int .i64 v)):=by
 rw[show ([D.str a,D.str c]:List D)=tc (a,c) from rfl,ue,h];rfl
theorem DT {E:List (f9×Int)} {a c:Bs} {v:Int} (h:cJ E (a,c)=some v):∃j,∃k':f9,eu (E.map jl) [.str a,.str c] 0=some (j,.d (.int .i64 v))∧(E.map jl)[(((j:Nat):Int)).toNat]? =some (tc k',.d (.int .i64 v))∧
 ∀t tk x,some (AO.map t tk ((E.map jl).set (((j:Nat):Int)).toNat (tc k',.d (.int .i64 (IntKind.i64.wrap (v+x))))))=some (AO.map t tk ((se E (a,c) x).map jl)):=by
 obtain ⟨j,k',h1,h2,h3⟩:=AW (i:=0) h
 rw[Nat.zero_add] at h1
 refine ⟨j,k',h1,?_,fun t tk x=>?_⟩
 ·rw[Int.toNat_natCast,List.getElem?_map,h2];rfl
 ·rw[h3,List.map_set,Int.toNat_natCast];rfl
theorem Da {L:GateLaw} {b:GateBook} (h:ar (gm L) none b.ledgers=true) {p:Option GatePurse} {x:GatePurse} (hx:kK b p x=true) (ps:List GatePurse):∃v,cJ (El (E1 (w7 L b) b.ledgers) ps) (x.team,x.resource)=some v:=by
 simp only[kK,Bool.and_eq_true] at hx
 obtain ⟨g,hg,hk⟩:=List.any_eq_true.1 hx.2.1
 simp only[Bool.and_eq_true,beq_iff_eq] at hk
 have h1:=rY (w7 L b) [] (jo uh h) g hg
 refine DX ?_ ps
 rw[←hk.1,←hk.2]
 show (cJ (E1 (w7 L b) b.ledgers) (pC g)).isSome
 unfold E1;rw[h1];rfl
set_option maxHeartbeats 4000000 in
theorem DF (L:GateLaw) (b:GateBook):Spec P 128 [st b.e,st L.e] (.d (.bool (jN L b))):=by
 refine Spec.of_vc aJ aw [.tmp 4] Tryz.func128 rfl rfl rfl rfl (fun hok=>?_)
 have hsl:=(bP (dx hok)).2.2.1
 have hsp:=(bP (dx hok)).2.2.2
 repeat refine ai ?_
 refine aj ?_ ?_<;>intro h0
 ·have h0':decide ((b.ledgers.length:Int)>10)=false:=by rw[List.length_map] at h0;exact h0
  repeat refine ai ?_
  refine aj ?_ ?_<;>intro h00
  ·have h00:decide ((b.purses.length:Int)>24)=true:=by simp only[cond_false,List.length_map] at h00;exact h00
   refine bd ?_
   rw[jN,h0',h00];rfl
  have h00:decide ((b.purses.length:Int)>24)=false:=by simp only[cond_false,List.length_map] at h00;exact h00
  have hob:jN L b=(ar (gm L) none b.ledgers&&(ar (kK b) none b.purses&&b.ledgers.all (sN L b))):=by rw[jN,h0',h00];rfl
  rw[hob]
  repeat refine ai ?_
  refine m4 (b.ledgers) (fun i (E:List (f9×Int))=>E=E1 (w7 L b) (b.ledgers.take i)∧ar (gm L) none b.ledgers=ar (gm L) (cB b.ledgers i) (b.ledgers.drop i)) (fun i (E:List (f9×Int))=>[(2,.ptr 0 0),(3,.ptr 1 0),(5,.mapr 2),(26,.d (aW b.ledgers)),(27,.d (.int .i64 (b.ledgers.map GateLedger.e).length)),(28,.d (.int .i64 i))]) (fun i (E:List (f9×Int))=>⟨[(2,.map 224 .pair (E.map jl)),(1,.cells 41 (L.e.map .d)),(0,.cells 48 (b.e.map .d))],3,0⟩) (⟨rfl,rfl⟩) ?_ ⟨rfl,rfl,⟨rfl,rfl,rfl,rfl,rfl,rfl,trivial⟩,(by repeat' first|exact rfl|exact trivial|exact ru _ _|refine aj ?_ ?_),(by repeat' first|exact rfl|exact trivial|refine aj ?_ ?_)⟩
  intro i E hi hr
  obtain ⟨hE,hr⟩:=hr
  repeat refine ai ?_
  refine aj ?_ ?_<;>intro h1
  ·have hlt:i<b.ledgers.length:=V h1
   rw[dS hlt] at hr
   repeat refine ai ?_
   refine O (e:=GateLedger.e) (xs:=b.ledgers) (hlt) rfl ?_
   repeat refine ai ?_
   repeat' first
    |refine ai ?_
    |(refine n1 ?_;intro h)
    |(refine n2 ?_;intro h)
    |(refine n3 ?_;intro h)
    |(refine n4 ?_;intro h)
    |(refine aj ?_ ?_<;>intro h)
    |refine oc (fW _ _) ?_
    |refine oc (c8 _) ?_
    |refine aC (e:=GateLedger.e) (xs:=b.ledgers) (k:=i - 1) (by omega) (aX (lJ (by assumption)) hlt hsl) rfl ?_
   all_goals (simp only[cond_false,cond_true,Bool.not_eq_true',Bool.not_eq_false',reduceCtorEq,idx_lt] at*)
   all_goals first
    |(refine bd ?_
      rw[hr]
      clear hr hE hob h0 h0' h00
      first|rw[cg (lJ (by assumption)) hlt]|rw[ci (px (by assumption))]
      simp_all only[gm,mH,yi,Bool.true_and,Bool.and_true,Bool.false_and,Bool.and_false,Bool.true_or,Bool.or_true,Bool.false_or,Bool.or_false,Bool.not_true,Bool.not_false]
      done)
    |(refine (fun hq:gm L (cB b.ledgers i) b.ledgers[i]=true=>?_) ?_
      rotate_left
      ·clear hr hE hob h0 h0' h00
       first|rw[cg (lJ (by assumption)) hlt]|rw[ci (px (by assumption))]
       simp_all only[gm,mH,yi,Bool.true_and,Bool.and_true,Bool.false_and,Bool.and_false,Bool.true_or,Bool.or_true,Bool.false_or,Bool.or_false,Bool.not_true,Bool.not_false]
       done
      ·rw[hq,Bool.true_and] at hr
       repeat refine ai ?_
       refine Hk ?_
       repeat refine ai ?_
       refine oc (zS _ _ _ _) ?_
       repeat refine ai ?_
       exact cQ (pv E (pC b.ledgers[i]) (w7 L b b.ledgers[i])) hlt hsl ⟨by rw[hE,List.take_succ_eq_append_getElem hlt,DY],hr⟩ fun hw=>by repeat' first|exact rfl|exact trivial|exact nd hw|exact FJ|exact ru _ _|refine aj ?_ ?_
     )
  ·rw[eV (Y h1)] at hr
   rw[List.take_of_length_le (Y h1)] at hE
   rw[hr,Bool.true_and]
   have hC:=hr
   clear hr
   repeat refine ai ?_
   refine m4 (b.purses) (fun i (F:List (f9×Int))=>F=El E (b.purses.take i)∧ar (kK b) none b.purses=ar (kK b) (cB b.purses i) (b.purses.drop i)) (fun i (F:List (f9×Int))=>[(2,.ptr 0 0),(5,.mapr 2),(107,.d (bo b.purses)),(108,.d (.int .i64 (b.purses.map GatePurse.e).length)),(109,.d (.int .i64 i))]) (fun i (F:List (f9×Int))=>⟨[(2,.map 224 .pair (F.map jl)),(0,.cells 48 (b.e.map .d))],3,0⟩) (⟨rfl,rfl⟩) ?_ ⟨rfl,rfl,⟨rfl,rfl,rfl,rfl,rfl,trivial⟩,(by repeat' first|exact rfl|exact trivial|exact ru _ _|refine aj ?_ ?_),(by repeat' first|exact rfl|exact trivial|refine aj ?_ ?_)⟩
   intro i F hi hr
   obtain ⟨hF,hr⟩:=hr
   repeat refine ai ?_
   refine aj ?_ ?_<;>intro h2
   ·have hlt:i<b.purses.length:=V h2
    rw[dS hlt] at hr
    repeat refine ai ?_
    refine O (e:=GatePurse.e) (xs:=b.purses) (hlt) rfl ?_
    repeat refine ai ?_
    repeat' first
      |refine ai ?_
      |(refine n1 ?_;intro h)
      |(refine n2 ?_;intro h)
      |(refine n3 ?_;intro h)
      |(refine n4 ?_;intro h)
      |(refine aj ?_ ?_<;>intro h)
      |refine oc (tg _ _) ?_
      |refine oc (DK _ _ _) ?_
      |refine oc (c8 _) ?_
      |refine ak ?_
      |refine aC (e:=GatePurse.e) (xs:=b.purses) (k:=i - 1) (by omega) (aX (lJ (by assumption)) hlt hsp) rfl ?_
    all_goals (simp only[cond_false,cond_true,Bool.not_eq_true',Bool.not_eq_false',reduceCtorEq,idx_lt] at*)
    all_goals first
      |(refine bd ?_
        rw[hr]
        clear hr hE hob h0 h0' h00 hF hC
        first|rw[cg (lJ (by assumption)) hlt]|rw[ci (px (by assumption))]
        simp_all only[kK,xC,m9,dA,Bool.true_and,Bool.and_true,Bool.false_and,Bool.and_false,Bool.true_or,Bool.or_true,Bool.false_or,Bool.or_false,Bool.not_true,Bool.not_false]
        done)
      |(refine (fun hq:kK b (cB b.purses i) b.purses[i]=true=>?_) ?_
        rotate_left
        ·clear hr hE hob h0 h0' h00 hF hC
         first|rw[cg (lJ (by assumption)) hlt]|rw[ci (px (by assumption))]
         simp_all only[kK,xC,m9,dA,Bool.true_and,Bool.and_true,Bool.false_and,Bool.and_false,Bool.true_or,Bool.or_true,Bool.false_or,Bool.or_false,Bool.not_true,Bool.not_false]
         done
        ·rw[hq,Bool.true_and] at hr
         obtain ⟨v,hv⟩:=Da hC hq (b.purses.take i)
         rw[←hE,←hF] at hv
         obtain ⟨j,k',g1,g2,g3⟩:=DT hv
         refine ⟨_,AZ hv,?_⟩
         repeat first|refine ai ?_|refine aj trivial ?_
         refine ⟨_,g1,?_⟩
         repeat first|refine ai ?_|refine aj trivial ?_
         refine ⟨Int.natCast_nonneg _,_,g2,?_⟩
         repeat refine ai ?_
         exact cQ (se F (b.purses[i].team,b.purses[i].resource) b.purses[i].amount) hlt hsp ⟨by rw[hF,List.take_succ_eq_append_getElem hlt,DW];rfl,hr⟩ fun hw=>by repeat' first|exact rfl|exact trivial|exact nd hw|exact g3 _ _ _|exact ru _ _|refine aj ?_ ?_
       )
   ·rw[eV (Y h2)] at hr
    rw[List.take_of_length_le (Y h2)] at hF
    rw[hr,Bool.true_and]
    clear hr
    repeat refine ai ?_
    refine d9 (b.ledgers) (fun i=>b.ledgers.all (sN L b)=(b.ledgers.drop i).all (sN L b)) (fun i=>[(5,.mapr 2),(180,.d (aW b.ledgers)),(181,.d (.int .i64 (b.ledgers.map GateLedger.e).length)),(182,.d (.int .i64 i))]) (fun i=>⟨[(2,.map 224 .pair (F.map jl))],3,0⟩) (rfl) ?_ ⟨rfl,rfl,⟨rfl,rfl,rfl,rfl,trivial⟩,(by repeat' first|exact rfl|exact trivial|exact ru _ _|refine aj ?_ ?_),(by repeat' first|exact rfl|exact trivial|refine aj ?_ ?_)⟩
    intro i hi hr
    repeat refine ai ?_
    refine aj ?_ ?_<;>intro h3
    ·have hlt:i<b.ledgers.length:=V h3
     rw[aF hlt] at hr
     obtain ⟨v,hv,hs⟩:=CU hC (List.getElem_mem hlt)
     rw[←hE,←hF] at hv
     repeat refine ai ?_
     refine O (e:=GateLedger.e) (xs:=b.ledgers) (hlt) rfl ?_
     repeat refine ai ?_
     refine ak ?_
     repeat refine ai ?_
     refine ⟨_,AZ hv,?_⟩
     repeat refine ai ?_
     refine aj ?_ ?_<;>intro h4
     ·refine bd ?_
      rw[hr,←hs,re h4];rfl
     ·rw[←hs,nz h4,Bool.true_and] at hr
      repeat refine ai ?_
      exact bL hlt hsl hr fun hw=>⟨rfl,rfl,⟨rfl,rfl,rfl,nd hw,trivial⟩,(by repeat' first|exact rfl|exact trivial|exact ru _ _|refine aj ?_ ?_),(by repeat' first|exact rfl|exact trivial|refine aj ?_ ?_)⟩
    ·refine bd ?_
     rw[hr,cm (Y h3)]
 ·refine bd ?_
  rw[List.length_map] at h0
  rw[jN,h0];rfl
end Go.Vc
end
section
namespace Go.Vc
open Go.Proofs
set_option maxRecDepth 100000
def rI (L:GateLaw) (b:GateBook) (p:Option GateLedger) (g:GateLedger):Bool:=gm L p g&&sN L b g
set_option maxHeartbeats 4000000 in
theorem zf (L:GateLaw) (b:GateBook):Spec P 117 [st L.e,st b.e] (.d (.bool (jN L b))):=by
 refine Spec.of_vc aJ aw [.tmp 4] Tryz.func117 rfl rfl rfl rfl (fun hok=>?_)
 have hsl:=(bP hok.2).2.2.1
 have hsp:=(bP hok.2).2.2.2
 repeat refine ai ?_
 refine aj ?_ ?_<;>intro h0
 ·have h0':decide ((b.ledgers.length:Int)>10)=false:=by rw[List.length_map] at h0;exact h0
  repeat refine ai ?_
  refine aj ?_ ?_<;>intro h00
  ·have h00:decide ((b.purses.length:Int)>24)=true:=by simp only[cond_false,List.length_map] at h00;exact h00
   refine bd ?_
   rw[jN,h0',h00];rfl
  have h00:decide ((b.purses.length:Int)>24)=false:=by simp only[cond_false,List.length_map] at h00;exact h00
  have hob:jN L b=(ar (kK b) none b.purses&&ar (rI L b) none b.ledgers):=by
   rw[jN,h0',h00]
   rw[show ar (rI L b) none b.ledgers=(ar (gm L) none b.ledgers&&b.ledgers.all (sN L b)) from uD]
   cases ar (gm L) none b.ledgers<;>cases ar (kK b) none b.purses<;>rfl
  rw[hob]
  repeat refine ai ?_
  refine d9 (b.purses) (fun i=>ar (kK b) none b.purses=ar (kK b) (cB b.purses i) (b.purses.drop i)) (fun i=>[(2,.ptr 0 0),(3,.ptr 1 0),(5,.d (.int .i64 i))]) (fun i=>⟨[(1,.cells 48 (b.e.map .d)),(0,.cells 41 (L.e.map .d))],2,0⟩) (rfl) ?_
  intro i hi hr
  repeat refine ai ?_
  refine aj ?_ ?_<;>intro h1
  ·have hlt:i<b.purses.length:=V h1
   rw[dS hlt] at hr
   repeat refine ai ?_
   refine O (e:=GatePurse.e) (xs:=b.purses) (hlt) rfl ?_
   repeat refine ai ?_
   refine ak ?_
   repeat refine ai ?_
   repeat' first
    |refine ai ?_
    |(refine n1 ?_;intro h)
    |(refine n2 ?_;intro h)
    |(refine n3 ?_;intro h)
    |(refine n4 ?_;intro h)
    |(refine aj ?_ ?_<;>intro h)
    |refine oc (bC _) ?_
    |refine oc (zg _ _ _) ?_
    |refine oc (d7 _ _ _) ?_
    |refine oc (vA _ _) ?_
    |refine ak ?_
    |refine aC (e:=GatePurse.e) (xs:=b.purses) (k:=i - 1) (by omega) (aX (lJ (by assumption)) hlt hsp) rfl ?_
   all_goals (simp only[cond_false,cond_true,Bool.not_eq_true',Bool.not_eq_false',reduceCtorEq,idx_lt,BW] at*)
   all_goals first
    |(refine bd ?_
      rw[hr]
      clear hr hob h0 h0' h00
      first|rw[cg (lJ (by assumption)) hlt]|rw[ci (px (by assumption))]|skip
      simp_all only[kK,xC,dA,Bool.true_and,Bool.and_true,Bool.false_and,Bool.and_false,Bool.true_or,Bool.or_true,Bool.false_or,Bool.or_false,Bool.not_true,Bool.not_false]
      done)
    |(refine (fun hq:kK b (cB b.purses i) b.purses[i]=true=>?_) ?_
      rotate_left
      ·clear hr hob h0 h0' h00
       first|rw[cg (lJ (by assumption)) hlt]|rw[ci (px (by assumption))]
       simp_all only[kK,xC,dA,Bool.true_and,Bool.and_true,Bool.false_and,Bool.and_false,Bool.true_or,Bool.or_true,Bool.false_or,Bool.or_false,Bool.not_true,Bool.not_false]
       done
      ·rw[hq,Bool.true_and] at hr
       repeat first|refine ai ?_|refine aj trivial ?_
       exact ⟨_,_,_,⟨i+1,rfl,hlt,hr,rfl,rfl⟩,by omega,rfl,rfl,⟨rfl,rfl,nd (Z hlt hsp),trivial⟩,(by repeat' first|exact rfl|exact trivial|refine aj ?_ ?_),(by repeat' first|exact rfl|exact trivial|refine aj ?_ ?_)⟩
     )
  ·rw[eV (Y h1)] at hr
   rw[hr,Bool.true_and]
   clear hr
   repeat refine ai ?_
   refine d9 (b.ledgers) (fun i=>ar (rI L b) none b.ledgers=ar (rI L b) (cB b.ledgers i) (b.ledgers.drop i)) (fun i=>[(2,.ptr 0 0),(3,.ptr 1 0),(7,.d (.int .i64 i))]) (fun i=>⟨[(1,.cells 48 (b.e.map .d)),(0,.cells 41 (L.e.map .d))],2,0⟩) (rfl) ?_
   intro i hi hr
   repeat refine ai ?_
   refine aj ?_ ?_<;>intro h2
   ·have hlt:i<b.ledgers.length:=V h2
    rw[dS hlt] at hr
    repeat refine ai ?_
    refine O (e:=GateLedger.e) (xs:=b.ledgers) (hlt) rfl ?_
    repeat refine ai ?_
    repeat' first
      |refine ai ?_
      |(refine n1 ?_;intro h)
      |(refine n2 ?_;intro h)
      |(refine n3 ?_;intro h)
      |(refine n4 ?_;intro h)
      |(refine aj ?_ ?_<;>intro h)
      |refine oc (bC _) ?_
      |refine oc (mr _ _) ?_
      |refine oc (vz _ _ _ _) ?_
      |refine oc (zk _ _ _ _) ?_
      |refine oc (Ew _ _ _) ?_
      |refine ak ?_
      |refine aC (e:=GateLedger.e) (xs:=b.ledgers) (k:=i - 1) (by omega) (aX (lJ (by assumption)) hlt hsl) rfl ?_
    all_goals (simp only[cond_false,cond_true,Bool.not_eq_true',Bool.not_eq_false',reduceCtorEq,idx_lt,pF] at*)
    all_goals (try simp only[bne,Bool.not_eq_true',Bool.not_eq_false'] at*)
    all_goals first
      |(refine bd ?_
        rw[hr]
        clear hr hob h0 h0' h00
        first|rw[cg (lJ (by assumption)) hlt]|rw[ci (px (by assumption))]|skip
        simp_all only[rI,gm,sN,mH,dA,Bool.true_and,Bool.and_true,Bool.false_and,Bool.and_false,Bool.true_or,Bool.or_true,Bool.false_or,Bool.or_false,Bool.not_true,Bool.not_false]
        done)
      |(refine (fun hq:rI L b (cB b.ledgers i) b.ledgers[i]=true=>?_) ?_
        rotate_left
        ·clear hr hob h0 h0' h00
         first|rw[cg (lJ (by assumption)) hlt]|rw[ci (px (by assumption))]
         simp_all only[rI,gm,sN,mH,dA,Bool.true_and,Bool.and_true,Bool.false_and,Bool.and_false,Bool.true_or,Bool.or_true,Bool.false_or,Bool.or_false,Bool.not_true,Bool.not_false]
         done
        ·rw[hq,Bool.true_and] at hr
         repeat first|refine ai ?_|refine aj trivial ?_
         exact ⟨_,_,_,⟨i+1,rfl,hlt,hr,rfl,rfl⟩,by omega,rfl,rfl,⟨rfl,rfl,nd (Z hlt hsl),trivial⟩,(by repeat' first|exact rfl|exact trivial|refine aj ?_ ?_),(by repeat' first|exact rfl|exact trivial|refine aj ?_ ?_)⟩
       )
   ·refine bd ?_
    rw[hr,eV (Y h2)]
 ·refine bd ?_
  rw[List.length_map] at h0
  rw[jN,h0];rfl
end Go.Vc
end
section
namespace Go.Vc
open Go.Proofs
set_option maxRecDepth 100000
def m8 (l:GateLaw):Bool:=bw l.shapes l.mends&&fJ l.teams
theorem xq (l:GateLaw):Spec P 114 [st l.e] (.d (.bool (m8 l))):=by
 refine Spec.of_vc aJ aw [.tmp 2] Tryz.func114 rfl rfl rfl rfl (fun hok=>?_)
 repeat refine ai ?_
 refine oc (sT _ _) ?_
 repeat refine ai ?_
 refine aj ?_ ?_<;>intro h
 ·repeat refine ai ?_
  refine oc (sS _) ?_
  refine bd ?_
  simp only[m8,h,Bool.true_and]
 ·refine bd ?_
  simp only[m8,h,Bool.false_and]
theorem yr (l:GateLaw):Spec P 125 [st l.e] (.d (.bool (m8 l))):=by
 refine Spec.of_vc aJ aw [.tmp 2] Tryz.func125 rfl rfl rfl rfl (fun hok=>?_)
 repeat refine ai ?_
 refine oc (fP _ _) ?_
 repeat refine ai ?_
 refine aj ?_ ?_<;>intro h
 ·repeat refine ai ?_
  refine oc (tn _) ?_
  refine bd ?_
  simp only[m8,h,Bool.true_and]
 ·refine bd ?_
  simp only[m8,h,Bool.false_and]
end Go.Vc
end
section
namespace Go.Vc
open Go.Proofs
set_option maxRecDepth 100000
def ge (L:GateLaw) (b:GateBook):Bool:=m8 L&&(fj b.now 0 1000000&&(fj b.tick 0 1000000&&(fj b.given 0 b.now&&(mR L b&&(gv b&&jN L b)))))
theorem ui {L:GateLaw} (h:m8 L=true):bw L.shapes L.mends=true:=by
 unfold m8 at h;rw[Bool.and_eq_true] at h;exact h.1
theorem ng (L:GateLaw) (b:GateBook):Spec P 55 [st L.e,st b.e] (.d (.bool (ge L b))):=by
 refine Spec.of_vc aJ aw [.tmp 4] Tryz.func55 rfl rfl rfl rfl (fun hok=>?_)
 repeat refine ai ?_
 refine oc (yr _) ?_
 repeat' first
  |refine ai ?_
  |(refine n1 ?_;intro h)
  |(refine n2 ?_;intro h)
  |(refine n3 ?_;intro h)
  |(refine n4 ?_;intro h)
  |(refine aj ?_ ?_<;>intro h)
  |refine oc (yo L b (ui (nz (by assumption)))) ?_
  |refine oc (zQ b) ?_
  |refine oc (DF L b) ?_
 all_goals (refine bd ?_;simp only[cond_false,cond_true,Bool.not_eq_true',Bool.not_eq_false',reduceCtorEq] at*;simp only[ge,m9, *,bl])
theorem mu (L:GateLaw) (b:GateBook):Spec P 46 [st L.e,st b.e] (.d (.bool (ge L b))):=by
 refine Spec.of_vc aJ aw [.tmp 4] Tryz.func46 rfl rfl rfl rfl (fun hok=>?_)
 repeat refine ai ?_
 refine oc (xq _) ?_
 repeat' first
  |refine ai ?_
  |(refine n1 ?_;intro h)
  |(refine n2 ?_;intro h)
  |(refine n3 ?_;intro h)
  |(refine n4 ?_;intro h)
  |(refine aj ?_ ?_<;>intro h)
  |refine oc (d7 _ _ _) ?_
  |refine oc (sR L b (ui (nz (by assumption)))) ?_
  |refine oc (vB b) ?_
  |refine oc (zf L b) ?_
 all_goals (refine bd ?_;simp only[cond_false,cond_true,Bool.not_eq_true',Bool.not_eq_false',reduceCtorEq] at*;simp only[ge, *,bl])
end Go.Vc
end
section
namespace Go.Vc
open Go.Proofs
set_option maxRecDepth 100000
def bO {α:Type} (p:α→Bool):List α→Nat→List Int
 |[],_=>[]
 |x::xs,i=>bif p x then (i:Int)::bO p xs (i+1) else bO p xs (i+1)
section
variable {α:Type} {p:α→Bool} {xs:List α} {i:Nat}
theorem mL (h:i<xs.length):bO p (xs.drop i) i=bif p xs[i] then (i:Int)::bO p (xs.drop (i+1)) (i+1) else bO p (xs.drop (i+1)) (i+1):=by
 rw[List.drop_eq_getElem_cons h];rfl
theorem oQ (h:xs.length≤i):bO p (xs.drop i) i=[]:=by
 rw[List.drop_of_length_le h];rfl
theorem oO:∀(xs:List α) (i:Nat),(bO p xs i).length≤xs.length
 |[],_=>Nat.le_refl _
 |x::xs,i=>by
  have:=oO xs (i+1)
  unfold bO
  cases p x<;>simp only[cond_true,cond_false,List.length_cons]<;>omega
end
def ii (o to:GateObject) (role:Int) (p:Nat×GateField):Bool:=p.2.role==role&&(p.2.to_==to.kind&&u7 o.values p.1==to.name)
def fe (xs:List GateShape) (o to:GateObject) (role:Int):Bool:=(cl xs o).any (ii o to role)
def Gw (L:GateLaw) (b:GateBook) (o:GateObject):Bool:= !o.ending&&b.objects.any (fun x=>x.ending&&fe L.shapes o x 3)
def Ht (L:GateLaw) (b:GateBook):List Int:=bif ge L b then bO (Gw L b) b.objects 0 else []
theorem zC {fs:List GateField} {vs:List Bs} {i:Nat} {q:Nat×GateField→Bool} (h:i<fs.length) (h2:i<vs.length):
 (ca (fs.drop i) (vs.drop i) i).any q=((fs[i].kind==4&& !(vs[i]==[])&&q (i,fs[i]))||(ca (fs.drop (i+1)) (vs.drop (i+1)) (i+1)).any q):=by
 rw[hM h h2]
 cases fs[i].kind==4&& !(vs[i]==[])<;>rfl
theorem B7 {fs:List GateField} {vs:List Bs} {i:Nat} {q:Nat×GateField→Bool} (h:fs.length≤i):(ca (fs.drop i) (vs.drop i) i).any q=false:=by
 rw[List.drop_of_length_le h];rfl
theorem nP (L:GateLaw) (b:GateBook) (p q:Nat) (hp:p<b.objects.length) (hq:q<b.objects.length) (role:Int):Spec P 75 [st L.e,st b.e,.d (.int .i64 (p:Int)),.d (.int .i64 (q:Int)),.d (.int .i64 role)] (.d (.bool (fe L.shapes b.objects[p] b.objects[q] role))):=by
 refine Spec.of_vc aJ aw [.tmp 10] Tryz.func75 rfl rfl rfl rfl (fun hok=>?_)
 have hvb:=(AR ⟨hok.2.1,trivial⟩ (List.getElem_mem hp)).1
 repeat refine ai ?_
 refine O (e:=GateObject.e) (xs:=b.objects) (hp) rfl ?_
 repeat refine ai ?_
 generalize ho:b.objects[p]=o at*
 repeat refine ai ?_
 refine oc (eD _ _) ?_
 have hl:=(ct (xs:=L.shapes) (k:=o.kind) (n:=o.values.length)).1
 rw[show fe L.shapes o b.objects[q] role=(ca (ah L.shapes o.kind o.values.length).1 o.values 0).any (ii o b.objects[q] role) from rfl]
 generalize (ah L.shapes o.kind o.values.length).1=fs at*
 repeat refine ai ?_
 refine d9 (fs) (fun i=>(ca fs o.values 0).any (ii o b.objects[q] role)=(ca (fs.drop i) (o.values.drop i) i).any (ii o b.objects[q] role)) (fun i=>[(3,.d (.int .i64 q)),(4,.d (.int .i64 role)),(5,.ptr 0 0),(6,.ptr 1 0),(11,.ptr 2 0),(12,.d (ab fs)),(14,.d (.int .i64 i))]) (fun i=>⟨[(2,.cells 103 (o.e.map .d)),(1,.cells 48 (b.e.map .d)),(0,.cells 41 (L.e.map .d))],3,0⟩) (rfl) ?_
 intro i hi hr
 have hs:fs.length≤big:=by omega
 repeat refine ai ?_
 refine aj ?_ ?_<;>intro h1
 ·have hlt:i<fs.length:=V h1
  have hlt2:i<o.values.length:=by omega
  rw[zC hlt hlt2,show ii o b.objects[q] role (i,fs[i])=(fs[i].role==role&&(fs[i].to_==b.objects[q].kind&&o.values[i]==b.objects[q].name)) from by simp only[ii,ga hlt2]] at hr
  repeat refine ai ?_
  refine O (e:=GateField.e) (xs:=fs) (hlt) rfl ?_
  repeat refine ai ?_
  refine ak ?_
  repeat refine ai ?_
  refine aj ?_ ?_<;>intro c1
  ·repeat refine ai ?_
   refine aj ?_ ?_<;>intro c2
   ·repeat refine ai ?_
    refine O (e:=eB) (xs:=o.values) (hlt2) rfl ?_
    repeat refine ai ?_
    refine aj ?_ ?_<;>intro c3
    ·repeat refine ai ?_
     refine O (e:=GateObject.e) (xs:=b.objects) (hq) rfl ?_
     repeat refine ai ?_
     refine aj ?_ ?_<;>intro c4
     ·repeat refine ai ?_
      refine O (e:=eB) (xs:=o.values) (hlt2) rfl ?_
      repeat refine ai ?_
      refine O (e:=GateObject.e) (xs:=b.objects) (hq) rfl ?_
      repeat refine ai ?_
      refine aj ?_ ?_<;>intro c5
      ·repeat refine ai ?_
       refine bd ?_
       rw[hr]
       simp only[cond_true] at c2 c3 c4 c5
       simp only[c1,c2,c3,c4,c5,Bool.and_self,Bool.true_or]
      ·try simp only[cond_true] at*
       repeat' first
        |refine ai ?_
        |refine aj (fun h=>nomatch (show false=true from h)) (fun _=>?_)
       exact bL hlt hs (by rw[hr];simp only[c5,bl])
     ·try simp only[cond_true] at*
      repeat' first
       |refine ai ?_
       |refine aj (fun h=>nomatch (show false=true from h)) (fun _=>?_)
      exact bL hlt hs (by rw[hr];simp only[c4,bl])
    ·try simp only[cond_true] at*
     repeat' first
      |refine ai ?_
      |refine aj (fun h=>nomatch (show false=true from h)) (fun _=>?_)
     exact bL hlt hs (by rw[hr];simp only[c3,bl])
   ·try simp only[cond_true] at*
    repeat' first
     |refine ai ?_
     |refine aj (fun h=>nomatch (show false=true from h)) (fun _=>?_)
    exact bL hlt hs (by rw[hr];simp only[c2,bl])
  ·try simp only[cond_true] at*
   repeat' first
    |refine ai ?_
    |refine aj (fun h=>nomatch (show false=true from h)) (fun _=>?_)
   exact bL hlt hs (by rw[hr];simp only[c1,bl])
 ·repeat refine ai ?_
  refine bd ?_
  rw[hr,B7 (Y h1)]
end Go.Vc
end
section
namespace Go.Vc
section
variable {n:Nat} {nm:Nat→Nat→Bool}
def At (n:Nat) (nm:Nat→Nat→Bool) (C:Nat→Bool):Prop:=∀x,x<n→C x=true→∀y,y<n→C y=false→nm y x=false
open Classical in
noncomputable def lK (n:Nat) (nm:Nat→Nat→Bool) (I:Nat→Bool) (x:Nat):Bool:=decide (∃C,At n nm C∧(∀z,z<n→C z=true→I z=true)∧C x=true)
theorem gst_iff {I:Nat→Bool} {x:Nat}:lK n nm I x=true↔∃C,At n nm C∧(∀z,z<n→C z=true→I z=true)∧C x=true:=by
 unfold lK
 exact @decide_eq_true_iff _ (Classical.propDecidable _)
theorem zV {I:Nat→Bool} {x:Nat} (hx:x<n) (h:lK n nm I x=true):I x=true:=by
 obtain ⟨C,_,h2,h3⟩:=gst_iff.1 h
 exact h2 x hx h3
theorem yv {I:Nat→Bool}:At n nm (lK n nm I):=by
 intro x hx h y hy hn
 obtain ⟨C,h1,h2,h3⟩:=gst_iff.1 h
 refine h1 x hx h3 y hy ?_
 cases hc:C y with
 |false=>rfl
 |true=>rw[gst_iff.2 ⟨C,h1,h2,hc⟩] at hn;cases hn
structure Gi (n:Nat) (nm:Nat→Nat→Bool) (I S:Nat→Bool):Prop where
 sub:∀x,x<n→S x=true→I x=true
 big:∀x,x<n→lK n nm I x=true→S x=true
theorem Gi.done {I S:Nat→Bool} (g:Gi n nm I S) (hs:At n nm S) {x:Nat} (hx:x<n):S x=lK n nm I x:=by
 cases h:S x with
 |false=>
  cases h2:lK n nm I x with
  |false=>rfl
  |true=>rw[g.big x hx h2] at h;cases h
 |true=>exact (gst_iff.2 ⟨S,hs,g.sub,h⟩).symm
theorem Gi.out {I S:Nat→Bool} (g:Gi n nm I S) {x y:Nat} (hx:x<n) (hy:y<n) (hn:S y=false) (h:nm y x=true):lK n nm I x=false:=by
 cases hg:lK n nm I x with
 |false=>rfl
 |true=>
  have:lK n nm I y=false:=by
   cases h2:lK n nm I y with
   |false=>rfl
   |true=>rw[g.big y hy h2] at hn;cases hn
  rw[yv x hx hg y hy this] at h
  cases h
theorem Gi.start {I:Nat→Bool}:Gi n nm I I:=⟨fun _ _ h=>h,fun _ hx h=>zV hx h⟩
theorem Gi.drop {I S S':Nat→Bool} (g:Gi n nm I S) {x:Nat} (hg:x<n→lK n nm I x=false) (h:∀z,S' z=(S z&& !(z==x))):Gi n nm I S':=by
 refine ⟨fun z hz hs=>?_,fun z hz hs=>?_⟩
 ·rw[h,Bool.and_eq_true] at hs
  exact g.sub z hz hs.1
 ·rw[h,g.big z hz hs,Bool.true_and]
  cases e:z==x with
  |false=>rfl
  |true=>rw[beq_iff_eq] at e;subst e;rw[hg hz] at hs;cases hs
theorem Cf {I J:Nat→Bool} (h:∀x,x<n→I x=J x) {x:Nat}:lK n nm I x=lK n nm J x:=by
 have key:∀{I J:Nat→Bool},(∀x,x<n→I x=J x)→lK n nm I x=true→lK n nm J x=true:=fun h hg=>by
  obtain ⟨C,h1,h2,h3⟩:=gst_iff.1 hg
  exact gst_iff.2 ⟨C,h1,fun z hz hc=>by rw[←h z hz];exact h2 z hz hc,h3⟩
 cases e:lK n nm I x with
 |true=>exact (key h e).symm
 |false=>
  cases e2:lK n nm J x with
  |false=>rfl
  |true=>rw[key (fun x hx=>(h x hx).symm) e2] at e;cases e
end
def eW (s:List Bool) (i:Nat):Bool:=match s[i]? with|some v=>v|none=>false
theorem gf {s:List Bool} {i:Nat} (h:i<s.length):eW s i=s[i]:=by unfold eW;rw[List.getElem?_eq_getElem h]
theorem E5 {s:List Bool} {i j:Nat} (h:i<s.length):eW (s.set i false) j=(eW s j&& !(j==i)):=by
 unfold eW
 rw[List.getElem?_set]
 by_cases e:i=j
 ·subst e
  rw[if_pos rfl,if_pos h]
  simp
 ·rw[if_neg e]
  have:(j==i)=false:=by rw[beq_eq_false_iff_ne];exact fun h=>e h.symm
  rw[this,Bool.not_false,Bool.and_true]
theorem uz:∀{s:List Bool} {i:Nat} (h:i<s.length),s[i]=true→(s.set i false).count true+1=s.count true
 |[],i,h,_=>by simp at h
 |b::s,0,h,e=>by
  simp only[List.getElem_cons_zero] at e
  subst e
  simp
 |b::s,i+1,h,e=>by
  have:=uz (s:=s) (i:=i) (by simpa using h) (by simpa using e)
  rw[List.set_cons_succ,List.count_cons,List.count_cons,←this];omega
theorem uA (s:List Bool):s.count true≤s.length:=List.count_le_length
theorem ni {l0:List Nat} (hn:l0.Nodup) {p:Nat→Bool} {x:Nat}:(l0.filter p).erase x=l0.filter (fun z=>p z&& !(z==x)):=by
 rw[List.Nodup.erase_eq_filter (hn.filter p),List.filter_filter]
 congr 1
 funext z
 rw[Bool.and_comm]
 rfl
theorem Cm {l:List Nat} {x:Nat} (h:x∈l):(l.erase x).length+1=l.length:=by
 have:=List.length_erase_of_mem h
 have:=List.length_pos_of_mem h
 omega
end Go.Vc
end
section
namespace Go.Vc
open Go.Proofs
set_option maxRecDepth 100000
def aY (xs:List Bs) (n:Int):Int:=aH (IntKind.i64.wrap (n - ((xs.map eB).length:Int))) fun n=>gP (fun (s:Bs) n=>IntKind.i64.wrap (n - (s.length:Int))) xs n
theorem xi (xs:List Bs) (n:Int):Spec P 168 [.d (lS xs),.d (.int .i64 n)] (.d (.int .i64 (aH (IntKind.i64.wrap (n - ((xs.map eB).length:Int))) fun n=>gP (fun (s:Bs) n=>IntKind.i64.wrap (n - (s.length:Int))) xs n))):=by
 refine Spec.of_vc aJ aw [.tmp 4] Tryz.func168 rfl rfl rfl rfl (fun hok=>?_)
 have hs:xs.length≤big:=by have:=hok.1.1;rwa [List.length_map] at this
 refine aj (fun h=>nd (by simp only[aH,h,cond_true,cond_false])) (fun h=>?_)
 simp only[aH,h,cond_true,cond_false]
 refine ⟨fun k l h=>∃(i:Nat) (v:Int),k=xs.length - i∧i≤xs.length∧gP (fun (s:Bs) n=>IntKind.i64.wrap (n - (s.length:Int))) xs (IntKind.i64.wrap (n - ((xs.map eB).length:Int)))=gP (fun (s:Bs) n=>IntKind.i64.wrap (n - (s.length:Int))) (xs.drop i) v∧l=[(0,.d (lS xs)),(1,.d (.int .i64 v)),(5,.d (.int .i64 i))]∧h=hp0,
  ⟨_,_,_,⟨0,_,rfl,Nat.zero_le _,rfl,rfl,rfl⟩,rfl,rfl,⟨rfl,rfl,rfl,trivial⟩,trivial,trivial⟩,?_⟩
 rintro k l h1 ⟨i,v,rfl,hi,hr,rfl,rfl⟩
 refine aj ?_ ?_<;>intro h1
 ·have hlt:i<xs.length:=V h1
  repeat refine ai ?_
  refine O (e:=eB) (xs:=xs) (hlt) rfl ?_
  repeat refine ai ?_
  refine aj ?_ ?_<;>intro h2
  ·refine nd ?_
   rw[hr,bR hlt]
   simp only[aH,h2,cond_true]
  ·refine ⟨_,_,_,⟨i+1,_,rfl,hlt,?_,rfl,rfl⟩,by omega,rfl,rfl,⟨rfl,rfl,nd (Z hlt hs),trivial⟩,trivial,trivial⟩
   rw[hr,bR hlt]
   simp only[aH,h2,cond_false]
 ·refine nd ?_
  rw[hr,List.drop_of_length_le (Y h1)];rfl
theorem jM (xs:List Bs) (n:Int):Spec P 168 [.d (lS xs),.d (.int .i64 n)] (.d (.int .i64 (aY xs n))):=xi xs n
def dr (x:List Int) (n:Int):Int:=aH (IntKind.i64.wrap (n - ((x.map eN).length:Int))) fun n=>n
theorem CS (x:List Int) (n:Int):Spec P 200 [.d (lI x),.d (.int .i64 n)] (.d (.int .i64 (aH (IntKind.i64.wrap (n - ((x.map eN).length:Int))) fun n=>n))):=by
 refine Spec.of_vc aJ aw [.tmp 4] Tryz.func200 rfl rfl rfl rfl (fun hok=>?_)
 refine aj (fun h=>nd (by simp only[aH,h,cond_true,cond_false])) (fun h=>nd (by simp only[aH,h,cond_true,cond_false]))
theorem CR (x:List Int) (n:Int):Spec P 200 [.d (lI x),.d (.int .i64 n)] (.d (.int .i64 (dr x n))):=CS x n
def cr (x:GateField) (n:Int):Int:=aH (IntKind.i64.wrap (n - (x.name.length:Int))) fun n=>aH (aY x.words n) fun n=>aH (IntKind.i64.wrap (n - (x.to_.length:Int))) fun n=>aH (IntKind.i64.wrap (n - (x.default_.length:Int))) fun n=>aH (IntKind.i64.wrap (n - (x.weighs.length:Int))) fun n=>n
theorem sM (x:GateField) (n:Int):Spec P 199 [st x.e,.d (.int .i64 n)] (.d (.int .i64 (aH (IntKind.i64.wrap (n - (x.name.length:Int))) fun n=>aH (aY x.words n) fun n=>aH (IntKind.i64.wrap (n - (x.to_.length:Int))) fun n=>aH (IntKind.i64.wrap (n - (x.default_.length:Int))) fun n=>aH (IntKind.i64.wrap (n - (x.weighs.length:Int))) fun n=>n))):=by
 refine Spec.of_vc aJ aw [.tmp 4] Tryz.func199 rfl rfl rfl rfl (fun hok=>?_)
 refine aj (fun h=>nd (by simp only[aH,h, *,cond_true,cond_false])) (fun h0=>?_)
 repeat refine ai ?_
 refine oc (jM _ _) ?_
 refine aj (fun h=>nd (by simp only[aH,h, *,cond_true,cond_false])) (fun h1=>?_)
 refine aj (fun h=>nd (by simp only[aH,h, *,cond_true,cond_false])) (fun h2=>?_)
 refine aj (fun h=>nd (by simp only[aH,h, *,cond_true,cond_false])) (fun h3=>?_)
 refine aj (fun h=>nd (by simp only[aH,h, *,cond_true,cond_false])) (fun h4=>?_)
 exact nd (by simp only[aH, *,cond_true,cond_false])
theorem sG (x:GateField) (n:Int):Spec P 199 [st x.e,.d (.int .i64 n)] (.d (.int .i64 (cr x n))):=sM x n
def dL (xs:List GateField) (n:Int):Int:=aH (IntKind.i64.wrap (n - ((xs.map GateField.e).length:Int))) fun n=>gP cr xs n
theorem qC (xs:List GateField) (n:Int):Spec P 167 [.d (ab xs),.d (.int .i64 n)] (.d (.int .i64 (aH (IntKind.i64.wrap (n - ((xs.map GateField.e).length:Int))) fun n=>gP cr xs n))):=by
 refine Spec.of_vc aJ aw [.tmp 4] Tryz.func167 rfl rfl rfl rfl (fun hok=>?_)
 have hs:xs.length≤big:=by have:=hok.1.1;rwa [List.length_map] at this
 refine aj (fun h=>nd (by simp only[aH,h,cond_true,cond_false])) (fun h=>?_)
 simp only[aH,h,cond_true,cond_false]
 refine ⟨fun k l h=>∃(i:Nat) (v:Int),k=xs.length - i∧i≤xs.length∧gP cr xs (IntKind.i64.wrap (n - ((xs.map GateField.e).length:Int)))=gP cr (xs.drop i) v∧l=[(0,.d (ab xs)),(1,.d (.int .i64 v)),(5,.d (.int .i64 i))]∧h=hp0,
  ⟨_,_,_,⟨0,_,rfl,Nat.zero_le _,rfl,rfl,rfl⟩,rfl,rfl,⟨rfl,rfl,rfl,trivial⟩,trivial,trivial⟩,?_⟩
 rintro k l h1 ⟨i,v,rfl,hi,hr,rfl,rfl⟩
 refine aj ?_ ?_<;>intro h1
 ·have hlt:i<xs.length:=V h1
  repeat refine ai ?_
  refine O (e:=GateField.e) (xs:=xs) (hlt) rfl ?_
  repeat refine ai ?_
  refine oc (sG _ _) ?_
  refine aj ?_ ?_<;>intro h2
  ·refine nd ?_
   rw[hr,bR hlt]
   simp only[aH,h2,cond_true]
  ·refine ⟨_,_,_,⟨i+1,_,rfl,hlt,?_,rfl,rfl⟩,by omega,rfl,rfl,⟨rfl,rfl,nd (Z hlt hs),trivial⟩,trivial,trivial⟩
   rw[hr,bR hlt]
   simp only[aH,h2,cond_false]
 ·refine nd ?_
  rw[hr,List.drop_of_length_le (Y h1)];rfl
theorem qv (xs:List GateField) (n:Int):Spec P 167 [.d (ab xs),.d (.int .i64 n)] (.d (.int .i64 (dL xs n))):=qC xs n
def cn (x:GateShape) (n:Int):Int:=aH (IntKind.i64.wrap (n - (x.kind.length:Int))) fun n=>aH (dL x.fields n) fun n=>n
theorem sI (x:GateShape) (n:Int):Spec P 107 [st x.e,.d (.int .i64 n)] (.d (.int .i64 (aH (IntKind.i64.wrap (n - (x.kind.length:Int))) fun n=>aH (dL x.fields n) fun n=>n))):=by
 refine Spec.of_vc aJ aw [.tmp 4] Tryz.func107 rfl rfl rfl rfl (fun hok=>?_)
 refine aj (fun h=>nd (by simp only[aH,h, *,cond_true,cond_false])) (fun h0=>?_)
 repeat refine ai ?_
 refine oc (qv _ _) ?_
 refine aj (fun h=>nd (by simp only[aH,h, *,cond_true,cond_false])) (fun h1=>?_)
 exact nd (by simp only[aH, *,cond_true,cond_false])
theorem sC (x:GateShape) (n:Int):Spec P 107 [st x.e,.d (.int .i64 n)] (.d (.int .i64 (cn x n))):=sI x n
def cv (xs:List GateShape) (n:Int):Int:=aH (IntKind.i64.wrap (n - ((xs.map GateShape.e).length:Int))) fun n=>gP cn xs n
theorem qw (xs:List GateShape) (n:Int):Spec P 39 [.d (aa xs),.d (.int .i64 n)] (.d (.int .i64 (aH (IntKind.i64.wrap (n - ((xs.map GateShape.e).length:Int))) fun n=>gP cn xs n))):=by
 refine Spec.of_vc aJ aw [.tmp 4] Tryz.func39 rfl rfl rfl rfl (fun hok=>?_)
 have hs:xs.length≤big:=by have:=hok.1.1;rwa [List.length_map] at this
 refine aj (fun h=>nd (by simp only[aH,h,cond_true,cond_false])) (fun h=>?_)
 simp only[aH,h,cond_true,cond_false]
 refine ⟨fun k l h=>∃(i:Nat) (v:Int),k=xs.length - i∧i≤xs.length∧gP cn xs (IntKind.i64.wrap (n - ((xs.map GateShape.e).length:Int)))=gP cn (xs.drop i) v∧l=[(0,.d (aa xs)),(1,.d (.int .i64 v)),(5,.d (.int .i64 i))]∧h=hp0,
  ⟨_,_,_,⟨0,_,rfl,Nat.zero_le _,rfl,rfl,rfl⟩,rfl,rfl,⟨rfl,rfl,rfl,trivial⟩,trivial,trivial⟩,?_⟩
 rintro k l h1 ⟨i,v,rfl,hi,hr,rfl,rfl⟩
 refine aj ?_ ?_<;>intro h1
 ·have hlt:i<xs.length:=V h1
  repeat refine ai ?_
  refine O (e:=GateShape.e) (xs:=xs) (hlt) rfl ?_
  repeat refine ai ?_
  refine oc (sC _ _) ?_
  refine aj ?_ ?_<;>intro h2
  ·refine nd ?_
   rw[hr,bR hlt]
   simp only[aH,h2,cond_true]
  ·refine ⟨_,_,_,⟨i+1,_,rfl,hlt,?_,rfl,rfl⟩,by omega,rfl,rfl,⟨rfl,rfl,nd (Z hlt hs),trivial⟩,trivial,trivial⟩
   rw[hr,bR hlt]
   simp only[aH,h2,cond_false]
 ·refine nd ?_
  rw[hr,List.drop_of_length_le (Y h1)];rfl
theorem qq (xs:List GateShape) (n:Int):Spec P 39 [.d (aa xs),.d (.int .i64 n)] (.d (.int .i64 (cv xs n))):=qw xs n
def cH (x:GateMend) (n:Int):Int:=aH (IntKind.i64.wrap (n - (x.kind.length:Int))) fun n=>aH (IntKind.i64.wrap (n - (x.field.length:Int))) fun n=>aH (IntKind.i64.wrap (n - (x.when_.length:Int))) fun n=>aH (IntKind.i64.wrap (n - (x.is_.length:Int))) fun n=>aH (IntKind.i64.wrap (n - (x.put.length:Int))) fun n=>aH (IntKind.i64.wrap (n - (x.from_.length:Int))) fun n=>n
theorem vw (x:GateMend) (n:Int):Spec P 108 [st x.e,.d (.int .i64 n)] (.d (.int .i64 (aH (IntKind.i64.wrap (n - (x.kind.length:Int))) fun n=>aH (IntKind.i64.wrap (n - (x.field.length:Int))) fun n=>aH (IntKind.i64.wrap (n - (x.when_.length:Int))) fun n=>aH (IntKind.i64.wrap (n - (x.is_.length:Int))) fun n=>aH (IntKind.i64.wrap (n - (x.put.length:Int))) fun n=>aH (IntKind.i64.wrap (n - (x.from_.length:Int))) fun n=>n))):=by
 refine Spec.of_vc aJ aw [.tmp 4] Tryz.func108 rfl rfl rfl rfl (fun hok=>?_)
 refine aj (fun h=>nd (by simp only[aH,h, *,cond_true,cond_false])) (fun h0=>?_)
 refine aj (fun h=>nd (by simp only[aH,h, *,cond_true,cond_false])) (fun h1=>?_)
 refine aj (fun h=>nd (by simp only[aH,h, *,cond_true,cond_false])) (fun h2=>?_)
 refine aj (fun h=>nd (by simp only[aH,h, *,cond_true,cond_false])) (fun h3=>?_)
 refine aj (fun h=>nd (by simp only[aH,h, *,cond_true,cond_false])) (fun h4=>?_)
 refine aj (fun h=>nd (by simp only[aH,h, *,cond_true,cond_false])) (fun h5=>?_)
 exact nd (by simp only[aH, *,cond_true,cond_false])
theorem vp (x:GateMend) (n:Int):Spec P 108 [st x.e,.d (.int .i64 n)] (.d (.int .i64 (cH x n))):=vw x n
def dv (xs:List GateMend) (n:Int):Int:=aH (IntKind.i64.wrap (n - ((xs.map GateMend.e).length:Int))) fun n=>gP cH xs n
theorem sK (xs:List GateMend) (n:Int):Spec P 40 [.d (af xs),.d (.int .i64 n)] (.d (.int .i64 (aH (IntKind.i64.wrap (n - ((xs.map GateMend.e).length:Int))) fun n=>gP cH xs n))):=by
 refine Spec.of_vc aJ aw [.tmp 4] Tryz.func40 rfl rfl rfl rfl (fun hok=>?_)
 have hs:xs.length≤big:=by have:=hok.1.1;rwa [List.length_map] at this
 refine aj (fun h=>nd (by simp only[aH,h,cond_true,cond_false])) (fun h=>?_)
 simp only[aH,h,cond_true,cond_false]
 refine ⟨fun k l h=>∃(i:Nat) (v:Int),k=xs.length - i∧i≤xs.length∧gP cH xs (IntKind.i64.wrap (n - ((xs.map GateMend.e).length:Int)))=gP cH (xs.drop i) v∧l=[(0,.d (af xs)),(1,.d (.int .i64 v)),(5,.d (.int .i64 i))]∧h=hp0,
  ⟨_,_,_,⟨0,_,rfl,Nat.zero_le _,rfl,rfl,rfl⟩,rfl,rfl,⟨rfl,rfl,rfl,trivial⟩,trivial,trivial⟩,?_⟩
 rintro k l h1 ⟨i,v,rfl,hi,hr,rfl,rfl⟩
 refine aj ?_ ?_<;>intro h1
 ·have hlt:i<xs.length:=V h1
  repeat refine ai ?_
  refine O (e:=GateMend.e) (xs:=xs) (hlt) rfl ?_
  repeat refine ai ?_
  refine oc (vp _ _) ?_
  refine aj ?_ ?_<;>intro h2
  ·refine nd ?_
   rw[hr,bR hlt]
   simp only[aH,h2,cond_true]
  ·refine ⟨_,_,_,⟨i+1,_,rfl,hlt,?_,rfl,rfl⟩,by omega,rfl,rfl,⟨rfl,rfl,nd (Z hlt hs),trivial⟩,trivial,trivial⟩
   rw[hr,bR hlt]
   simp only[aH,h2,cond_false]
 ·refine nd ?_
  rw[hr,List.drop_of_length_le (Y h1)];rfl
theorem sE (xs:List GateMend) (n:Int):Spec P 40 [.d (af xs),.d (.int .i64 n)] (.d (.int .i64 (dv xs n))):=sK xs n
def cG (x:GateTeam) (n:Int):Int:=aH (IntKind.i64.wrap (n - (x.name.length:Int))) fun n=>aH (IntKind.i64.wrap (n - (x.over.length:Int))) fun n=>n
theorem vu (x:GateTeam) (n:Int):Spec P 109 [st x.e,.d (.int .i64 n)] (.d (.int .i64 (aH (IntKind.i64.wrap (n - (x.name.length:Int))) fun n=>aH (IntKind.i64.wrap (n - (x.over.length:Int))) fun n=>n))):=by
 refine Spec.of_vc aJ aw [.tmp 4] Tryz.func109 rfl rfl rfl rfl (fun hok=>?_)
 refine aj (fun h=>nd (by simp only[aH,h, *,cond_true,cond_false])) (fun h0=>?_)
 refine aj (fun h=>nd (by simp only[aH,h, *,cond_true,cond_false])) (fun h1=>?_)
 exact nd (by simp only[aH, *,cond_true,cond_false])
theorem vn (x:GateTeam) (n:Int):Spec P 109 [st x.e,.d (.int .i64 n)] (.d (.int .i64 (cG x n))):=vu x n
def ec (xs:List GateTeam) (n:Int):Int:=aH (IntKind.i64.wrap (n - ((xs.map GateTeam.e).length:Int))) fun n=>gP cG xs n
theorem sH (xs:List GateTeam) (n:Int):Spec P 41 [.d (am xs),.d (.int .i64 n)] (.d (.int .i64 (aH (IntKind.i64.wrap (n - ((xs.map GateTeam.e).length:Int))) fun n=>gP cG xs n))):=by
 refine Spec.of_vc aJ aw [.tmp 4] Tryz.func41 rfl rfl rfl rfl (fun hok=>?_)
 have hs:xs.length≤big:=by have:=hok.1.1;rwa [List.length_map] at this
 refine aj (fun h=>nd (by simp only[aH,h,cond_true,cond_false])) (fun h=>?_)
 simp only[aH,h,cond_true,cond_false]
 refine ⟨fun k l h=>∃(i:Nat) (v:Int),k=xs.length - i∧i≤xs.length∧gP cG xs (IntKind.i64.wrap (n - ((xs.map GateTeam.e).length:Int)))=gP cG (xs.drop i) v∧l=[(0,.d (am xs)),(1,.d (.int .i64 v)),(5,.d (.int .i64 i))]∧h=hp0,
  ⟨_,_,_,⟨0,_,rfl,Nat.zero_le _,rfl,rfl,rfl⟩,rfl,rfl,⟨rfl,rfl,rfl,trivial⟩,trivial,trivial⟩,?_⟩
 rintro k l h1 ⟨i,v,rfl,hi,hr,rfl,rfl⟩
 refine aj ?_ ?_<;>intro h1
 ·have hlt:i<xs.length:=V h1
  repeat refine ai ?_
  refine O (e:=GateTeam.e) (xs:=xs) (hlt) rfl ?_
  repeat refine ai ?_
  refine oc (vn _ _) ?_
  refine aj ?_ ?_<;>intro h2
  ·refine nd ?_
   rw[hr,bR hlt]
   simp only[aH,h2,cond_true]
  ·refine ⟨_,_,_,⟨i+1,_,rfl,hlt,?_,rfl,rfl⟩,by omega,rfl,rfl,⟨rfl,rfl,nd (Z hlt hs),trivial⟩,trivial,trivial⟩
   rw[hr,bR hlt]
   simp only[aH,h2,cond_false]
 ·refine nd ?_
  rw[hr,List.drop_of_length_le (Y h1)];rfl
theorem sB (xs:List GateTeam) (n:Int):Spec P 41 [.d (am xs),.d (.int .i64 n)] (.d (.int .i64 (ec xs n))):=sH xs n
def eQ (x:GateLaw) (n:Int):Int:=aH (cv x.shapes n) fun n=>aH (dv x.mends n) fun n=>aH (ec x.teams n) fun n=>n
theorem xj (x:GateLaw) (n:Int):Spec P 11 [st x.e,.d (.int .i64 n)] (.d (.int .i64 (aH (cv x.shapes n) fun n=>aH (dv x.mends n) fun n=>aH (ec x.teams n) fun n=>n))):=by
 refine Spec.of_vc aJ aw [.tmp 4] Tryz.func11 rfl rfl rfl rfl (fun hok=>?_)
 repeat refine ai ?_
 refine oc (qq _ _) ?_
 refine aj (fun h=>nd (by simp only[aH,h, *,cond_true,cond_false])) (fun h0=>?_)
 repeat refine ai ?_
 refine oc (sE _ _) ?_
 refine aj (fun h=>nd (by simp only[aH,h, *,cond_true,cond_false])) (fun h1=>?_)
 repeat refine ai ?_
 refine oc (sB _ _) ?_
 refine aj (fun h=>nd (by simp only[aH,h, *,cond_true,cond_false])) (fun h2=>?_)
 exact nd (by simp only[aH, *,cond_true,cond_false])
theorem xh (x:GateLaw) (n:Int):Spec P 11 [st x.e,.d (.int .i64 n)] (.d (.int .i64 (eQ x n))):=xj x n
def bY (x:GateObject) (n:Int):Int:=aH (IntKind.i64.wrap (n - (x.kind.length:Int))) fun n=>aH (IntKind.i64.wrap (n - (x.name.length:Int))) fun n=>aH (IntKind.i64.wrap (n - (x.team.length:Int))) fun n=>aH (aY x.values n) fun n=>aH (aY x.holds n) fun n=>n
theorem qy (x:GateObject) (n:Int):Spec P 110 [st x.e,.d (.int .i64 n)] (.d (.int .i64 (aH (IntKind.i64.wrap (n - (x.kind.length:Int))) fun n=>aH (IntKind.i64.wrap (n - (x.name.length:Int))) fun n=>aH (IntKind.i64.wrap (n - (x.team.length:Int))) fun n=>aH (aY x.values n) fun n=>aH (aY x.holds n) fun n=>n))):=by
 refine Spec.of_vc aJ aw [.tmp 4] Tryz.func110 rfl rfl rfl rfl (fun hok=>?_)
 refine aj (fun h=>nd (by simp only[aH,h, *,cond_true,cond_false])) (fun h0=>?_)
 refine aj (fun h=>nd (by simp only[aH,h, *,cond_true,cond_false])) (fun h1=>?_)
 refine aj (fun h=>nd (by simp only[aH,h, *,cond_true,cond_false])) (fun h2=>?_)
 repeat refine ai ?_
 refine oc (jM _ _) ?_
 refine aj (fun h=>nd (by simp only[aH,h, *,cond_true,cond_false])) (fun h3=>?_)
 repeat refine ai ?_
 refine oc (jM _ _) ?_
 refine aj (fun h=>nd (by simp only[aH,h, *,cond_true,cond_false])) (fun h4=>?_)
 exact nd (by simp only[aH, *,cond_true,cond_false])
theorem qs (x:GateObject) (n:Int):Spec P 110 [st x.e,.d (.int .i64 n)] (.d (.int .i64 (bY x n))):=qy x n
def bK (xs:List GateObject) (n:Int):Int:=aH (IntKind.i64.wrap (n - ((xs.map GateObject.e).length:Int))) fun n=>gP bY xs n
theorem ph (xs:List GateObject) (n:Int):Spec P 42 [.d (aE xs),.d (.int .i64 n)] (.d (.int .i64 (aH (IntKind.i64.wrap (n - ((xs.map GateObject.e).length:Int))) fun n=>gP bY xs n))):=by
 refine Spec.of_vc aJ aw [.tmp 4] Tryz.func42 rfl rfl rfl rfl (fun hok=>?_)
 have hs:xs.length≤big:=by have:=hok.1.1;rwa [List.length_map] at this
 refine aj (fun h=>nd (by simp only[aH,h,cond_true,cond_false])) (fun h=>?_)
 simp only[aH,h,cond_true,cond_false]
 refine ⟨fun k l h=>∃(i:Nat) (v:Int),k=xs.length - i∧i≤xs.length∧gP bY xs (IntKind.i64.wrap (n - ((xs.map GateObject.e).length:Int)))=gP bY (xs.drop i) v∧l=[(0,.d (aE xs)),(1,.d (.int .i64 v)),(5,.d (.int .i64 i))]∧h=hp0,
  ⟨_,_,_,⟨0,_,rfl,Nat.zero_le _,rfl,rfl,rfl⟩,rfl,rfl,⟨rfl,rfl,rfl,trivial⟩,trivial,trivial⟩,?_⟩
 rintro k l h1 ⟨i,v,rfl,hi,hr,rfl,rfl⟩
 refine aj ?_ ?_<;>intro h1
 ·have hlt:i<xs.length:=V h1
  repeat refine ai ?_
  refine O (e:=GateObject.e) (xs:=xs) (hlt) rfl ?_
  repeat refine ai ?_
  refine oc (qs _ _) ?_
  refine aj ?_ ?_<;>intro h2
  ·refine nd ?_
   rw[hr,bR hlt]
   simp only[aH,h2,cond_true]
  ·refine ⟨_,_,_,⟨i+1,_,rfl,hlt,?_,rfl,rfl⟩,by omega,rfl,rfl,⟨rfl,rfl,nd (Z hlt hs),trivial⟩,trivial,trivial⟩
   rw[hr,bR hlt]
   simp only[aH,h2,cond_false]
 ·refine nd ?_
  rw[hr,List.drop_of_length_le (Y h1)];rfl
theorem pf (xs:List GateObject) (n:Int):Spec P 42 [.d (aE xs),.d (.int .i64 n)] (.d (.int .i64 (bK xs n))):=ph xs n
def dU (x:GateRule) (n:Int):Int:=aH (dr x.verbs n) fun n=>aH (IntKind.i64.wrap (n - (x.kind.length:Int))) fun n=>aH (IntKind.i64.wrap (n - (x.team.length:Int))) fun n=>aH (IntKind.i64.wrap (n - (x.prefix_.length:Int))) fun n=>n
theorem vv (x:GateRule) (n:Int):Spec P 169 [st x.e,.d (.int .i64 n)] (.d (.int .i64 (aH (dr x.verbs n) fun n=>aH (IntKind.i64.wrap (n - (x.kind.length:Int))) fun n=>aH (IntKind.i64.wrap (n - (x.team.length:Int))) fun n=>aH (IntKind.i64.wrap (n - (x.prefix_.length:Int))) fun n=>n))):=by
 refine Spec.of_vc aJ aw [.tmp 4] Tryz.func169 rfl rfl rfl rfl (fun hok=>?_)
 repeat refine ai ?_
 refine oc (CR _ _) ?_
 refine aj (fun h=>nd (by simp only[aH,h, *,cond_true,cond_false])) (fun h0=>?_)
 refine aj (fun h=>nd (by simp only[aH,h, *,cond_true,cond_false])) (fun h1=>?_)
 refine aj (fun h=>nd (by simp only[aH,h, *,cond_true,cond_false])) (fun h2=>?_)
 refine aj (fun h=>nd (by simp only[aH,h, *,cond_true,cond_false])) (fun h3=>?_)
 exact nd (by simp only[aH, *,cond_true,cond_false])
theorem vo (x:GateRule) (n:Int):Spec P 169 [st x.e,.d (.int .i64 n)] (.d (.int .i64 (dU x n))):=vv x n
def cq (x:GateGrant) (n:Int):Int:=aH (IntKind.i64.wrap (n - (x.to_.length:Int))) fun n=>aH (IntKind.i64.wrap (n - (x.by_.length:Int))) fun n=>aH (dU x.rule n) fun n=>n
theorem sL (x:GateGrant) (n:Int):Spec P 111 [st x.e,.d (.int .i64 n)] (.d (.int .i64 (aH (IntKind.i64.wrap (n - (x.to_.length:Int))) fun n=>aH (IntKind.i64.wrap (n - (x.by_.length:Int))) fun n=>aH (dU x.rule n) fun n=>n))):=by
 refine Spec.of_vc aJ aw [.tmp 4] Tryz.func111 rfl rfl rfl rfl (fun hok=>?_)
 refine aj (fun h=>nd (by simp only[aH,h, *,cond_true,cond_false])) (fun h0=>?_)
 refine aj (fun h=>nd (by simp only[aH,h, *,cond_true,cond_false])) (fun h1=>?_)
 repeat refine ai ?_
 refine oc (vo _ _) ?_
 refine aj (fun h=>nd (by simp only[aH,h, *,cond_true,cond_false])) (fun h2=>?_)
 exact nd (by simp only[aH, *,cond_true,cond_false])
theorem sF (x:GateGrant) (n:Int):Spec P 111 [st x.e,.d (.int .i64 n)] (.d (.int .i64 (cq x n))):=sL x n
def cw (xs:List GateGrant) (n:Int):Int:=aH (IntKind.i64.wrap (n - ((xs.map GateGrant.e).length:Int))) fun n=>gP cq xs n
theorem qB (xs:List GateGrant) (n:Int):Spec P 43 [.d (bp xs),.d (.int .i64 n)] (.d (.int .i64 (aH (IntKind.i64.wrap (n - ((xs.map GateGrant.e).length:Int))) fun n=>gP cq xs n))):=by
 refine Spec.of_vc aJ aw [.tmp 4] Tryz.func43 rfl rfl rfl rfl (fun hok=>?_)
 have hs:xs.length≤big:=by have:=hok.1.1;rwa [List.length_map] at this
 refine aj (fun h=>nd (by simp only[aH,h,cond_true,cond_false])) (fun h=>?_)
 simp only[aH,h,cond_true,cond_false]
 refine ⟨fun k l h=>∃(i:Nat) (v:Int),k=xs.length - i∧i≤xs.length∧gP cq xs (IntKind.i64.wrap (n - ((xs.map GateGrant.e).length:Int)))=gP cq (xs.drop i) v∧l=[(0,.d (bp xs)),(1,.d (.int .i64 v)),(5,.d (.int .i64 i))]∧h=hp0,
  ⟨_,_,_,⟨0,_,rfl,Nat.zero_le _,rfl,rfl,rfl⟩,rfl,rfl,⟨rfl,rfl,rfl,trivial⟩,trivial,trivial⟩,?_⟩
 rintro k l h1 ⟨i,v,rfl,hi,hr,rfl,rfl⟩
 refine aj ?_ ?_<;>intro h1
 ·have hlt:i<xs.length:=V h1
  repeat refine ai ?_
  refine O (e:=GateGrant.e) (xs:=xs) (hlt) rfl ?_
  repeat refine ai ?_
  refine oc (sF _ _) ?_
  refine aj ?_ ?_<;>intro h2
  ·refine nd ?_
   rw[hr,bR hlt]
   simp only[aH,h2,cond_true]
  ·refine ⟨_,_,_,⟨i+1,_,rfl,hlt,?_,rfl,rfl⟩,by omega,rfl,rfl,⟨rfl,rfl,nd (Z hlt hs),trivial⟩,trivial,trivial⟩
   rw[hr,bR hlt]
   simp only[aH,h2,cond_false]
 ·refine nd ?_
  rw[hr,List.drop_of_length_le (Y h1)];rfl
theorem qu (xs:List GateGrant) (n:Int):Spec P 43 [.d (bp xs),.d (.int .i64 n)] (.d (.int .i64 (cw xs n))):=qB xs n
def bZ (x:GateLedger) (n:Int):Int:=aH (IntKind.i64.wrap (n - (x.team.length:Int))) fun n=>aH (IntKind.i64.wrap (n - (x.resource.length:Int))) fun n=>n
theorem qz (x:GateLedger) (n:Int):Spec P 112 [st x.e,.d (.int .i64 n)] (.d (.int .i64 (aH (IntKind.i64.wrap (n - (x.team.length:Int))) fun n=>aH (IntKind.i64.wrap (n - (x.resource.length:Int))) fun n=>n))):=by
 refine Spec.of_vc aJ aw [.tmp 4] Tryz.func112 rfl rfl rfl rfl (fun hok=>?_)
 refine aj (fun h=>nd (by simp only[aH,h, *,cond_true,cond_false])) (fun h0=>?_)
 refine aj (fun h=>nd (by simp only[aH,h, *,cond_true,cond_false])) (fun h1=>?_)
 exact nd (by simp only[aH, *,cond_true,cond_false])
theorem qt (x:GateLedger) (n:Int):Spec P 112 [st x.e,.d (.int .i64 n)] (.d (.int .i64 (bZ x n))):=qz x n
def cE (xs:List GateLedger) (n:Int):Int:=aH (IntKind.i64.wrap (n - ((xs.map GateLedger.e).length:Int))) fun n=>gP bZ xs n
theorem pi (xs:List GateLedger) (n:Int):Spec P 44 [.d (aW xs),.d (.int .i64 n)] (.d (.int .i64 (aH (IntKind.i64.wrap (n - ((xs.map GateLedger.e).length:Int))) fun n=>gP bZ xs n))):=by
 refine Spec.of_vc aJ aw [.tmp 4] Tryz.func44 rfl rfl rfl rfl (fun hok=>?_)
 have hs:xs.length≤big:=by have:=hok.1.1;rwa [List.length_map] at this
 refine aj (fun h=>nd (by simp only[aH,h,cond_true,cond_false])) (fun h=>?_)
 simp only[aH,h,cond_true,cond_false]
 refine ⟨fun k l h=>∃(i:Nat) (v:Int),k=xs.length - i∧i≤xs.length∧gP bZ xs (IntKind.i64.wrap (n - ((xs.map GateLedger.e).length:Int)))=gP bZ (xs.drop i) v∧l=[(0,.d (aW xs)),(1,.d (.int .i64 v)),(5,.d (.int .i64 i))]∧h=hp0,
  ⟨_,_,_,⟨0,_,rfl,Nat.zero_le _,rfl,rfl,rfl⟩,rfl,rfl,⟨rfl,rfl,rfl,trivial⟩,trivial,trivial⟩,?_⟩
 rintro k l h1 ⟨i,v,rfl,hi,hr,rfl,rfl⟩
 refine aj ?_ ?_<;>intro h1
 ·have hlt:i<xs.length:=V h1
  repeat refine ai ?_
  refine O (e:=GateLedger.e) (xs:=xs) (hlt) rfl ?_
  repeat refine ai ?_
  refine oc (qt _ _) ?_
  refine aj ?_ ?_<;>intro h2
  ·refine nd ?_
   rw[hr,bR hlt]
   simp only[aH,h2,cond_true]
  ·refine ⟨_,_,_,⟨i+1,_,rfl,hlt,?_,rfl,rfl⟩,by omega,rfl,rfl,⟨rfl,rfl,nd (Z hlt hs),trivial⟩,trivial,trivial⟩
   rw[hr,bR hlt]
   simp only[aH,h2,cond_false]
 ·refine nd ?_
  rw[hr,List.drop_of_length_le (Y h1)];rfl
theorem pg (xs:List GateLedger) (n:Int):Spec P 44 [.d (aW xs),.d (.int .i64 n)] (.d (.int .i64 (cE xs n))):=pi xs n
def co (x:GatePurse) (n:Int):Int:=aH (IntKind.i64.wrap (n - (x.door.length:Int))) fun n=>aH (IntKind.i64.wrap (n - (x.team.length:Int))) fun n=>aH (IntKind.i64.wrap (n - (x.resource.length:Int))) fun n=>n
theorem sJ (x:GatePurse) (n:Int):Spec P 113 [st x.e,.d (.int .i64 n)] (.d (.int .i64 (aH (IntKind.i64.wrap (n - (x.door.length:Int))) fun n=>aH (IntKind.i64.wrap (n - (x.team.length:Int))) fun n=>aH (IntKind.i64.wrap (n - (x.resource.length:Int))) fun n=>n))):=by
 refine Spec.of_vc aJ aw [.tmp 4] Tryz.func113 rfl rfl rfl rfl (fun hok=>?_)
 refine aj (fun h=>nd (by simp only[aH,h, *,cond_true,cond_false])) (fun h0=>?_)
 refine aj (fun h=>nd (by simp only[aH,h, *,cond_true,cond_false])) (fun h1=>?_)
 refine aj (fun h=>nd (by simp only[aH,h, *,cond_true,cond_false])) (fun h2=>?_)
 exact nd (by simp only[aH, *,cond_true,cond_false])
theorem sD (x:GatePurse) (n:Int):Spec P 113 [st x.e,.d (.int .i64 n)] (.d (.int .i64 (co x n))):=sJ x n
def dK (xs:List GatePurse) (n:Int):Int:=aH (IntKind.i64.wrap (n - ((xs.map GatePurse.e).length:Int))) fun n=>gP co xs n
theorem qx (xs:List GatePurse) (n:Int):Spec P 45 [.d (bo xs),.d (.int .i64 n)] (.d (.int .i64 (aH (IntKind.i64.wrap (n - ((xs.map GatePurse.e).length:Int))) fun n=>gP co xs n))):=by
 refine Spec.of_vc aJ aw [.tmp 4] Tryz.func45 rfl rfl rfl rfl (fun hok=>?_)
 have hs:xs.length≤big:=by have:=hok.1.1;rwa [List.length_map] at this
 refine aj (fun h=>nd (by simp only[aH,h,cond_true,cond_false])) (fun h=>?_)
 simp only[aH,h,cond_true,cond_false]
 refine ⟨fun k l h=>∃(i:Nat) (v:Int),k=xs.length - i∧i≤xs.length∧gP co xs (IntKind.i64.wrap (n - ((xs.map GatePurse.e).length:Int)))=gP co (xs.drop i) v∧l=[(0,.d (bo xs)),(1,.d (.int .i64 v)),(5,.d (.int .i64 i))]∧h=hp0,
  ⟨_,_,_,⟨0,_,rfl,Nat.zero_le _,rfl,rfl,rfl⟩,rfl,rfl,⟨rfl,rfl,rfl,trivial⟩,trivial,trivial⟩,?_⟩
 rintro k l h1 ⟨i,v,rfl,hi,hr,rfl,rfl⟩
 refine aj ?_ ?_<;>intro h1
 ·have hlt:i<xs.length:=V h1
  repeat refine ai ?_
  refine O (e:=GatePurse.e) (xs:=xs) (hlt) rfl ?_
  repeat refine ai ?_
  refine oc (sD _ _) ?_
  refine aj ?_ ?_<;>intro h2
  ·refine nd ?_
   rw[hr,bR hlt]
   simp only[aH,h2,cond_true]
  ·refine ⟨_,_,_,⟨i+1,_,rfl,hlt,?_,rfl,rfl⟩,by omega,rfl,rfl,⟨rfl,rfl,nd (Z hlt hs),trivial⟩,trivial,trivial⟩
   rw[hr,bR hlt]
   simp only[aH,h2,cond_false]
 ·refine nd ?_
  rw[hr,List.drop_of_length_le (Y h1)];rfl
theorem qr (xs:List GatePurse) (n:Int):Spec P 45 [.d (bo xs),.d (.int .i64 n)] (.d (.int .i64 (dK xs n))):=qx xs n
def e7 (x:GateBook) (n:Int):Int:=aH (bK x.objects n) fun n=>aH (cw x.grants n) fun n=>aH (cE x.ledgers n) fun n=>aH (dK x.purses n) fun n=>n
theorem vx (x:GateBook) (n:Int):Spec P 12 [st x.e,.d (.int .i64 n)] (.d (.int .i64 (aH (bK x.objects n) fun n=>aH (cw x.grants n) fun n=>aH (cE x.ledgers n) fun n=>aH (dK x.purses n) fun n=>n))):=by
 refine Spec.of_vc aJ aw [.tmp 4] Tryz.func12 rfl rfl rfl rfl (fun hok=>?_)
 repeat refine ai ?_
 refine oc (pf _ _) ?_
 refine aj (fun h=>nd (by simp only[aH,h, *,cond_true,cond_false])) (fun h0=>?_)
 repeat refine ai ?_
 refine oc (qu _ _) ?_
 refine aj (fun h=>nd (by simp only[aH,h, *,cond_true,cond_false])) (fun h1=>?_)
 repeat refine ai ?_
 refine oc (pg _ _) ?_
 refine aj (fun h=>nd (by simp only[aH,h, *,cond_true,cond_false])) (fun h2=>?_)
 repeat refine ai ?_
 refine oc (qr _ _) ?_
 refine aj (fun h=>nd (by simp only[aH,h, *,cond_true,cond_false])) (fun h3=>?_)
 exact nd (by simp only[aH, *,cond_true,cond_false])
theorem vq (x:GateBook) (n:Int):Spec P 12 [st x.e,.d (.int .i64 n)] (.d (.int .i64 (e7 x n))):=vx x n
theorem le (xs:List Bs):Spec P 179 [.d (lS xs)] (.d (lS xs)):=by
 refine Spec.of_vc aJ aw [.tmp 2] Tryz.func179 rfl rfl rfl rfl (fun hok=>?_)
 have hs:xs.length≤big:=by have:=hok.1.1;rwa [List.length_map] at this
 repeat refine ai ?_
 refine aj (Int.natCast_nonneg _) (aj (Int.le_refl _) (aj (dN hs) ?_))
 refine ⟨fun k l h=>∃i:Nat,k=xs.length - i∧i≤xs.length∧l=[(0,.d (lS xs)),(3,.own 0),(4,.d (.int .i64 i))]∧h=⟨[(0,.row 9 [D.str []].length (bc eB xs [D.str []] i))],1,0⟩,
  ⟨_,_,_,⟨0,rfl,Nat.zero_le _,rfl,rfl⟩,rfl,rfl,⟨rfl,rfl,rfl,trivial⟩,⟨rfl,trivial⟩,⟨bV,trivial⟩⟩,?_⟩
 rintro k l h1 ⟨i,rfl,hi,rfl,rfl⟩
 refine aj ?_ ?_<;>intro h1
 ·have hlt:i<xs.length:=V h1
  repeat refine ai ?_
  refine O (e:=eB) (xs:=xs) (hlt) rfl ?_
  repeat refine ai ?_
  refine aj (Int.natCast_nonneg _) (aj (by rw[aS hi];omega) ?_)
  repeat refine ai ?_
  refine ⟨_,aT hlt,Nat.le_refl _,?_⟩
  exact ⟨_,_,_,⟨i+1,rfl,hlt,rfl,rfl⟩,by omega,rfl,rfl,⟨rfl,rfl,nd (Z hlt hs),trivial⟩,⟨rfl,trivial⟩,⟨cx hlt rfl,trivial⟩⟩
 ·exact ld (cy (Y h1) hi)
theorem Er (xs:List Int):Spec P 209 [.d (lI xs)] (.d (lI xs)):=by
 refine Spec.of_vc aJ aw [.tmp 2] Tryz.func209 rfl rfl rfl rfl (fun hok=>?_)
 have hs:xs.length≤big:=by have:=hok.1.1;rwa [List.length_map] at this
 repeat refine ai ?_
 refine aj (Int.natCast_nonneg _) (aj (Int.le_refl _) (aj (dN hs) ?_))
 refine ⟨fun k l h=>∃i:Nat,k=xs.length - i∧i≤xs.length∧l=[(0,.d (lI xs)),(3,.own 0),(4,.d (.int .i64 i))]∧h=⟨[(0,.row 3 [D.int .i64 0].length (bc eN xs [D.int .i64 0] i))],1,0⟩,
  ⟨_,_,_,⟨0,rfl,Nat.zero_le _,rfl,rfl⟩,rfl,rfl,⟨rfl,rfl,rfl,trivial⟩,⟨rfl,trivial⟩,⟨bV,trivial⟩⟩,?_⟩
 rintro k l h1 ⟨i,rfl,hi,rfl,rfl⟩
 refine aj ?_ ?_<;>intro h1
 ·have hlt:i<xs.length:=V h1
  repeat refine ai ?_
  refine O (e:=eN) (xs:=xs) (hlt) rfl ?_
  repeat refine ai ?_
  refine aj (Int.natCast_nonneg _) (aj (by rw[aS hi];omega) ?_)
  repeat refine ai ?_
  refine ⟨_,aT hlt,Nat.le_refl _,?_⟩
  exact ⟨_,_,_,⟨i+1,rfl,hlt,rfl,rfl⟩,by omega,rfl,rfl,⟨rfl,rfl,nd (Z hlt hs),trivial⟩,⟨rfl,trivial⟩,⟨cx hlt rfl,trivial⟩⟩
 ·exact ld (cy (Y h1) hi)
def GateField.z:List D:=[.str [],.int .i64 0,.int .i64 0,.int .i64 0,.list [],.str [],.int .i64 0,.bool false,.bool false,.str [],.str []]
theorem vj (x:GateField):Spec P 208 [st x.e] (st x.e):=by
 refine Spec.of_vc aJ aw [.cell 2 138] Tryz.func208 rfl rfl rfl rfl (fun hok=>?_)
 repeat refine ai ?_
 refine oc (le _) ?_
 repeat refine ai ?_
 rfl
theorem su (xs:List GateField):Spec P 178 [.d (ab xs)] (.d (ab xs)):=by
 refine Spec.of_vc aJ aw [.tmp 2] Tryz.func178 rfl rfl rfl rfl (fun hok=>?_)
 have hs:xs.length≤big:=by have:=hok.1.1;rwa [List.length_map] at this
 repeat refine ai ?_
 refine aj (Int.natCast_nonneg _) (aj (Int.le_refl _) (aj (dN hs) ?_))
 refine ⟨fun k l h=>∃i:Nat,k=xs.length - i∧i≤xs.length∧l=[(0,.d (ab xs)),(3,.own 0),(4,.d (.int .i64 i))]∧h=⟨[(0,.row 138 GateField.z.length (bc GateField.e xs GateField.z i))],1,0⟩,
  ⟨_,_,_,⟨0,rfl,Nat.zero_le _,rfl,rfl⟩,rfl,rfl,⟨rfl,rfl,rfl,trivial⟩,⟨rfl,trivial⟩,⟨bV,trivial⟩⟩,?_⟩
 rintro k l h1 ⟨i,rfl,hi,rfl,rfl⟩
 refine aj ?_ ?_<;>intro h1
 ·have hlt:i<xs.length:=V h1
  repeat refine ai ?_
  refine O (e:=GateField.e) (xs:=xs) (hlt) rfl ?_
  repeat refine ai ?_
  refine oc (vj _) ?_
  repeat refine ai ?_
  refine aj (Int.natCast_nonneg _) (aj (by rw[aS hi];omega) ?_)
  repeat refine ai ?_
  refine ⟨_,aT hlt,Nat.le_refl _,?_⟩
  exact ⟨_,_,_,⟨i+1,rfl,hlt,rfl,rfl⟩,by omega,rfl,rfl,⟨rfl,rfl,nd (Z hlt hs),trivial⟩,⟨rfl,trivial⟩,⟨cx hlt rfl,trivial⟩⟩
 ·exact ld (cy (Y h1) hi)
def GateShape.z:List D:=[.str [],.list []]
theorem vg (x:GateShape):Spec P 118 [st x.e] (st x.e):=by
 refine Spec.of_vc aJ aw [.cell 2 164] Tryz.func118 rfl rfl rfl rfl (fun hok=>?_)
 repeat refine ai ?_
 refine oc (su _) ?_
 repeat refine ai ?_
 rfl
theorem so (xs:List GateShape):Spec P 48 [.d (aa xs)] (.d (aa xs)):=by
 refine Spec.of_vc aJ aw [.tmp 2] Tryz.func48 rfl rfl rfl rfl (fun hok=>?_)
 have hs:xs.length≤big:=by have:=hok.1.1;rwa [List.length_map] at this
 repeat refine ai ?_
 refine aj (Int.natCast_nonneg _) (aj (Int.le_refl _) (aj (dN hs) ?_))
 refine ⟨fun k l h=>∃i:Nat,k=xs.length - i∧i≤xs.length∧l=[(0,.d (aa xs)),(3,.own 0),(4,.d (.int .i64 i))]∧h=⟨[(0,.row 164 GateShape.z.length (bc GateShape.e xs GateShape.z i))],1,0⟩,
  ⟨_,_,_,⟨0,rfl,Nat.zero_le _,rfl,rfl⟩,rfl,rfl,⟨rfl,rfl,rfl,trivial⟩,⟨rfl,trivial⟩,⟨bV,trivial⟩⟩,?_⟩
 rintro k l h1 ⟨i,rfl,hi,rfl,rfl⟩
 refine aj ?_ ?_<;>intro h1
 ·have hlt:i<xs.length:=V h1
  repeat refine ai ?_
  refine O (e:=GateShape.e) (xs:=xs) (hlt) rfl ?_
  repeat refine ai ?_
  refine oc (vg _) ?_
  repeat refine ai ?_
  refine aj (Int.natCast_nonneg _) (aj (by rw[aS hi];omega) ?_)
  repeat refine ai ?_
  refine ⟨_,aT hlt,Nat.le_refl _,?_⟩
  exact ⟨_,_,_,⟨i+1,rfl,hlt,rfl,rfl⟩,by omega,rfl,rfl,⟨rfl,rfl,nd (Z hlt hs),trivial⟩,⟨rfl,trivial⟩,⟨cx hlt rfl,trivial⟩⟩
 ·exact ld (cy (Y h1) hi)
def GateMend.z:List D:=[.str [],.str [],.str [],.str [],.str [],.str []]
theorem oI (x:GateMend):Spec P 119 [st x.e] (st x.e):=by
 refine Spec.of_vc aJ aw [.cell 2 166] Tryz.func119 rfl rfl rfl rfl (fun hok=>?_)
 repeat refine ai ?_
 rfl
theorem vh (xs:List GateMend):Spec P 49 [.d (af xs)] (.d (af xs)):=by
 refine Spec.of_vc aJ aw [.tmp 2] Tryz.func49 rfl rfl rfl rfl (fun hok=>?_)
 have hs:xs.length≤big:=by have:=hok.1.1;rwa [List.length_map] at this
 repeat refine ai ?_
 refine aj (Int.natCast_nonneg _) (aj (Int.le_refl _) (aj (dN hs) ?_))
 refine ⟨fun k l h=>∃i:Nat,k=xs.length - i∧i≤xs.length∧l=[(0,.d (af xs)),(3,.own 0),(4,.d (.int .i64 i))]∧h=⟨[(0,.row 166 GateMend.z.length (bc GateMend.e xs GateMend.z i))],1,0⟩,
  ⟨_,_,_,⟨0,rfl,Nat.zero_le _,rfl,rfl⟩,rfl,rfl,⟨rfl,rfl,rfl,trivial⟩,⟨rfl,trivial⟩,⟨bV,trivial⟩⟩,?_⟩
 rintro k l h1 ⟨i,rfl,hi,rfl,rfl⟩
 refine aj ?_ ?_<;>intro h1
 ·have hlt:i<xs.length:=V h1
  repeat refine ai ?_
  refine O (e:=GateMend.e) (xs:=xs) (hlt) rfl ?_
  repeat refine ai ?_
  refine oc (oI _) ?_
  repeat refine ai ?_
  refine aj (Int.natCast_nonneg _) (aj (by rw[aS hi];omega) ?_)
  repeat refine ai ?_
  refine ⟨_,aT hlt,Nat.le_refl _,?_⟩
  exact ⟨_,_,_,⟨i+1,rfl,hlt,rfl,rfl⟩,by omega,rfl,rfl,⟨rfl,rfl,nd (Z hlt hs),trivial⟩,⟨rfl,trivial⟩,⟨cx hlt rfl,trivial⟩⟩
 ·exact ld (cy (Y h1) hi)
def GateTeam.z:List D:=[.str [],.str []]
theorem oH (x:GateTeam):Spec P 120 [st x.e] (st x.e):=by
 refine Spec.of_vc aJ aw [.cell 2 168] Tryz.func120 rfl rfl rfl rfl (fun hok=>?_)
 repeat refine ai ?_
 rfl
theorem vf (xs:List GateTeam):Spec P 50 [.d (am xs)] (.d (am xs)):=by
 refine Spec.of_vc aJ aw [.tmp 2] Tryz.func50 rfl rfl rfl rfl (fun hok=>?_)
 have hs:xs.length≤big:=by have:=hok.1.1;rwa [List.length_map] at this
 repeat refine ai ?_
 refine aj (Int.natCast_nonneg _) (aj (Int.le_refl _) (aj (dN hs) ?_))
 refine ⟨fun k l h=>∃i:Nat,k=xs.length - i∧i≤xs.length∧l=[(0,.d (am xs)),(3,.own 0),(4,.d (.int .i64 i))]∧h=⟨[(0,.row 168 GateTeam.z.length (bc GateTeam.e xs GateTeam.z i))],1,0⟩,
  ⟨_,_,_,⟨0,rfl,Nat.zero_le _,rfl,rfl⟩,rfl,rfl,⟨rfl,rfl,rfl,trivial⟩,⟨rfl,trivial⟩,⟨bV,trivial⟩⟩,?_⟩
 rintro k l h1 ⟨i,rfl,hi,rfl,rfl⟩
 refine aj ?_ ?_<;>intro h1
 ·have hlt:i<xs.length:=V h1
  repeat refine ai ?_
  refine O (e:=GateTeam.e) (xs:=xs) (hlt) rfl ?_
  repeat refine ai ?_
  refine oc (oH _) ?_
  repeat refine ai ?_
  refine aj (Int.natCast_nonneg _) (aj (by rw[aS hi];omega) ?_)
  repeat refine ai ?_
  refine ⟨_,aT hlt,Nat.le_refl _,?_⟩
  exact ⟨_,_,_,⟨i+1,rfl,hlt,rfl,rfl⟩,by omega,rfl,rfl,⟨rfl,rfl,nd (Z hlt hs),trivial⟩,⟨rfl,trivial⟩,⟨cx hlt rfl,trivial⟩⟩
 ·exact ld (cy (Y h1) hi)
def GateLaw.z:List D:=[.list [],.list [],.list []]
theorem lh (x:GateLaw):Spec P 14 [st x.e] (st x.e):=by
 refine Spec.of_vc aJ aw [.cell 2 41] Tryz.func14 rfl rfl rfl rfl (fun hok=>?_)
 repeat refine ai ?_
 refine oc (so _) ?_
 repeat refine ai ?_
 refine oc (vh _) ?_
 repeat refine ai ?_
 refine oc (vf _) ?_
 repeat refine ai ?_
 rfl
def GateObject.z:List D:=[.str [],.str [],.str [],.list [],.bool false,.list [],.int .i64 0]
theorem sr (x:GateObject):Spec P 121 [st x.e] (st x.e):=by
 refine Spec.of_vc aJ aw [.cell 2 103] Tryz.func121 rfl rfl rfl rfl (fun hok=>?_)
 repeat refine ai ?_
 refine oc (le _) ?_
 repeat refine ai ?_
 refine oc (le _) ?_
 repeat refine ai ?_
 rfl
theorem qi (xs:List GateObject):Spec P 51 [.d (aE xs)] (.d (aE xs)):=by
 refine Spec.of_vc aJ aw [.tmp 2] Tryz.func51 rfl rfl rfl rfl (fun hok=>?_)
 have hs:xs.length≤big:=by have:=hok.1.1;rwa [List.length_map] at this
 repeat refine ai ?_
 refine aj (Int.natCast_nonneg _) (aj (Int.le_refl _) (aj (dN hs) ?_))
 refine ⟨fun k l h=>∃i:Nat,k=xs.length - i∧i≤xs.length∧l=[(0,.d (aE xs)),(3,.own 0),(4,.d (.int .i64 i))]∧h=⟨[(0,.row 103 GateObject.z.length (bc GateObject.e xs GateObject.z i))],1,0⟩,
  ⟨_,_,_,⟨0,rfl,Nat.zero_le _,rfl,rfl⟩,rfl,rfl,⟨rfl,rfl,rfl,trivial⟩,⟨rfl,trivial⟩,⟨bV,trivial⟩⟩,?_⟩
 rintro k l h1 ⟨i,rfl,hi,rfl,rfl⟩
 refine aj ?_ ?_<;>intro h1
 ·have hlt:i<xs.length:=V h1
  repeat refine ai ?_
  refine O (e:=GateObject.e) (xs:=xs) (hlt) rfl ?_
  repeat refine ai ?_
  refine oc (sr _) ?_
  repeat refine ai ?_
  refine aj (Int.natCast_nonneg _) (aj (by rw[aS hi];omega) ?_)
  repeat refine ai ?_
  refine ⟨_,aT hlt,Nat.le_refl _,?_⟩
  exact ⟨_,_,_,⟨i+1,rfl,hlt,rfl,rfl⟩,by omega,rfl,rfl,⟨rfl,rfl,nd (Z hlt hs),trivial⟩,⟨rfl,trivial⟩,⟨cx hlt rfl,trivial⟩⟩
 ·exact ld (cy (Y h1) hi)
def GateRule.z:List D:=[.list [],.str [],.str [],.str []]
theorem xf (x:GateRule):Spec P 180 [st x.e] (st x.e):=by
 refine Spec.of_vc aJ aw [.cell 2 171] Tryz.func180 rfl rfl rfl rfl (fun hok=>?_)
 repeat refine ai ?_
 refine oc (Er _) ?_
 repeat refine ai ?_
 rfl
def GateGrant.z:List D:=[.int .i64 0,.str [],.str [],.list [],.str [],.str [],.str []]
theorem vi (x:GateGrant):Spec P 122 [st x.e] (st x.e):=by
 refine Spec.of_vc aJ aw [.cell 2 173] Tryz.func122 rfl rfl rfl rfl (fun hok=>?_)
 repeat refine ai ?_
 refine oc (xf _) ?_
 repeat refine ai ?_
 rfl
theorem ss (xs:List GateGrant):Spec P 52 [.d (bp xs)] (.d (bp xs)):=by
 refine Spec.of_vc aJ aw [.tmp 2] Tryz.func52 rfl rfl rfl rfl (fun hok=>?_)
 have hs:xs.length≤big:=by have:=hok.1.1;rwa [List.length_map] at this
 repeat refine ai ?_
 refine aj (Int.natCast_nonneg _) (aj (Int.le_refl _) (aj (dN hs) ?_))
 refine ⟨fun k l h=>∃i:Nat,k=xs.length - i∧i≤xs.length∧l=[(0,.d (bp xs)),(3,.own 0),(4,.d (.int .i64 i))]∧h=⟨[(0,.row 173 GateGrant.z.length (bc GateGrant.e xs GateGrant.z i))],1,0⟩,
  ⟨_,_,_,⟨0,rfl,Nat.zero_le _,rfl,rfl⟩,rfl,rfl,⟨rfl,rfl,rfl,trivial⟩,⟨rfl,trivial⟩,⟨bV,trivial⟩⟩,?_⟩
 rintro k l h1 ⟨i,rfl,hi,rfl,rfl⟩
 refine aj ?_ ?_<;>intro h1
 ·have hlt:i<xs.length:=V h1
  repeat refine ai ?_
  refine O (e:=GateGrant.e) (xs:=xs) (hlt) rfl ?_
  repeat refine ai ?_
  refine oc (vi _) ?_
  repeat refine ai ?_
  refine aj (Int.natCast_nonneg _) (aj (by rw[aS hi];omega) ?_)
  repeat refine ai ?_
  refine ⟨_,aT hlt,Nat.le_refl _,?_⟩
  exact ⟨_,_,_,⟨i+1,rfl,hlt,rfl,rfl⟩,by omega,rfl,rfl,⟨rfl,rfl,nd (Z hlt hs),trivial⟩,⟨rfl,trivial⟩,⟨cx hlt rfl,trivial⟩⟩
 ·exact ld (cy (Y h1) hi)
def GateLedger.z:List D:=[.str [],.str [],.int .i64 0,.int .i64 0]
theorem kQ (x:GateLedger):Spec P 123 [st x.e] (st x.e):=by
 refine Spec.of_vc aJ aw [.cell 2 119] Tryz.func123 rfl rfl rfl rfl (fun hok=>?_)
 repeat refine ai ?_
 rfl
theorem qj (xs:List GateLedger):Spec P 53 [.d (aW xs)] (.d (aW xs)):=by
 refine Spec.of_vc aJ aw [.tmp 2] Tryz.func53 rfl rfl rfl rfl (fun hok=>?_)
 have hs:xs.length≤big:=by have:=hok.1.1;rwa [List.length_map] at this
 repeat refine ai ?_
 refine aj (Int.natCast_nonneg _) (aj (Int.le_refl _) (aj (dN hs) ?_))
 refine ⟨fun k l h=>∃i:Nat,k=xs.length - i∧i≤xs.length∧l=[(0,.d (aW xs)),(3,.own 0),(4,.d (.int .i64 i))]∧h=⟨[(0,.row 119 GateLedger.z.length (bc GateLedger.e xs GateLedger.z i))],1,0⟩,
  ⟨_,_,_,⟨0,rfl,Nat.zero_le _,rfl,rfl⟩,rfl,rfl,⟨rfl,rfl,rfl,trivial⟩,⟨rfl,trivial⟩,⟨bV,trivial⟩⟩,?_⟩
 rintro k l h1 ⟨i,rfl,hi,rfl,rfl⟩
 refine aj ?_ ?_<;>intro h1
 ·have hlt:i<xs.length:=V h1
  repeat refine ai ?_
  refine O (e:=GateLedger.e) (xs:=xs) (hlt) rfl ?_
  repeat refine ai ?_
  refine oc (kQ _) ?_
  repeat refine ai ?_
  refine aj (Int.natCast_nonneg _) (aj (by rw[aS hi];omega) ?_)
  repeat refine ai ?_
  refine ⟨_,aT hlt,Nat.le_refl _,?_⟩
  exact ⟨_,_,_,⟨i+1,rfl,hlt,rfl,rfl⟩,by omega,rfl,rfl,⟨rfl,rfl,nd (Z hlt hs),trivial⟩,⟨rfl,trivial⟩,⟨cx hlt rfl,trivial⟩⟩
 ·exact ld (cy (Y h1) hi)
def GatePurse.z:List D:=[.str [],.str [],.str [],.int .i64 0,.int .i64 0]
theorem mc (x:GatePurse):Spec P 124 [st x.e] (st x.e):=by
 refine Spec.of_vc aJ aw [.cell 2 109] Tryz.func124 rfl rfl rfl rfl (fun hok=>?_)
 repeat refine ai ?_
 rfl
theorem sq (xs:List GatePurse):Spec P 54 [.d (bo xs)] (.d (bo xs)):=by
 refine Spec.of_vc aJ aw [.tmp 2] Tryz.func54 rfl rfl rfl rfl (fun hok=>?_)
 have hs:xs.length≤big:=by have:=hok.1.1;rwa [List.length_map] at this
 repeat refine ai ?_
 refine aj (Int.natCast_nonneg _) (aj (Int.le_refl _) (aj (dN hs) ?_))
 refine ⟨fun k l h=>∃i:Nat,k=xs.length - i∧i≤xs.length∧l=[(0,.d (bo xs)),(3,.own 0),(4,.d (.int .i64 i))]∧h=⟨[(0,.row 109 GatePurse.z.length (bc GatePurse.e xs GatePurse.z i))],1,0⟩,
  ⟨_,_,_,⟨0,rfl,Nat.zero_le _,rfl,rfl⟩,rfl,rfl,⟨rfl,rfl,rfl,trivial⟩,⟨rfl,trivial⟩,⟨bV,trivial⟩⟩,?_⟩
 rintro k l h1 ⟨i,rfl,hi,rfl,rfl⟩
 refine aj ?_ ?_<;>intro h1
 ·have hlt:i<xs.length:=V h1
  repeat refine ai ?_
  refine O (e:=GatePurse.e) (xs:=xs) (hlt) rfl ?_
  repeat refine ai ?_
  refine oc (mc _) ?_
  repeat refine ai ?_
  refine aj (Int.natCast_nonneg _) (aj (by rw[aS hi];omega) ?_)
  repeat refine ai ?_
  refine ⟨_,aT hlt,Nat.le_refl _,?_⟩
  exact ⟨_,_,_,⟨i+1,rfl,hlt,rfl,rfl⟩,by omega,rfl,rfl,⟨rfl,rfl,nd (Z hlt hs),trivial⟩,⟨rfl,trivial⟩,⟨cx hlt rfl,trivial⟩⟩
 ·exact ld (cy (Y h1) hi)
def GateBook.z:List D:=[.int .i64 0,.int .i64 0,.int .i64 0,.list [],.list [],.list [],.list []]
theorem jK (x:GateBook):Spec P 15 [st x.e] (st x.e):=by
 refine Spec.of_vc aJ aw [.cell 2 48] Tryz.func15 rfl rfl rfl rfl (fun hok=>?_)
 repeat refine ai ?_
 refine oc (qi _) ?_
 repeat refine ai ?_
 refine oc (ss _) ?_
 repeat refine ai ?_
 refine oc (qj _) ?_
 repeat refine ai ?_
 refine oc (sq _) ?_
 repeat refine ai ?_
 rfl
theorem lN (xs:List Bs):Spec P 189 [.d (lS xs),.d (lS xs)] (.d (.bool true)):=by
 refine Spec.of_vc aJ aw [.tmp 4] Tryz.func189 rfl rfl rfl rfl (fun hok=>?_)
 have hs:xs.length≤big:=by have:=hok.1.1;rwa [List.length_map] at this
 repeat refine ai ?_
 refine an ?_
 refine ⟨fun k l h=>∃i:Nat,k=xs.length - i∧i≤xs.length∧l=[(0,.d (lS xs)),(1,.d (lS xs)),(5,.d (.int .i64 i))]∧h=hp0,
  ⟨_,_,_,⟨0,rfl,Nat.zero_le _,rfl,rfl⟩,rfl,rfl,⟨rfl,rfl,rfl,trivial⟩,trivial,trivial⟩,?_⟩
 rintro k l h1 ⟨i,rfl,hi,rfl,rfl⟩
 refine aj ?_ ?_<;>intro h1
 ·have hlt:i<xs.length:=V h1
  repeat refine ai ?_
  refine ak ?_
  repeat refine ai ?_
  refine O (e:=eB) (xs:=xs) (hlt) rfl ?_
  repeat refine ai ?_
  refine O (e:=eB) (xs:=xs) (hlt) rfl ?_
  repeat refine ai ?_
  refine an ?_
  exact ⟨_,_,_,⟨i+1,rfl,hlt,rfl,rfl⟩,by omega,rfl,rfl,⟨rfl,rfl,nd (Z hlt hs),trivial⟩,trivial,trivial⟩
 ·rfl
theorem pS (xs:List Int):Spec P 17 [.d (lI xs),.d (lI xs)] (.d (.bool true)):=by
 refine Spec.of_vc aJ aw [.tmp 4] Tryz.func17 rfl rfl rfl rfl (fun hok=>?_)
 have hs:xs.length≤big:=by have:=hok.1.1;rwa [List.length_map] at this
 repeat refine ai ?_
 refine an ?_
 refine ⟨fun k l h=>∃i:Nat,k=xs.length - i∧i≤xs.length∧l=[(0,.d (lI xs)),(1,.d (lI xs)),(5,.d (.int .i64 i))]∧h=hp0,
  ⟨_,_,_,⟨0,rfl,Nat.zero_le _,rfl,rfl⟩,rfl,rfl,⟨rfl,rfl,rfl,trivial⟩,trivial,trivial⟩,?_⟩
 rintro k l h1 ⟨i,rfl,hi,rfl,rfl⟩
 refine aj ?_ ?_<;>intro h1
 ·have hlt:i<xs.length:=V h1
  repeat refine ai ?_
  refine ak ?_
  repeat refine ai ?_
  refine O (e:=eN) (xs:=xs) (hlt) rfl ?_
  repeat refine ai ?_
  refine O (e:=eN) (xs:=xs) (hlt) rfl ?_
  repeat refine ai ?_
  refine an ?_
  exact ⟨_,_,_,⟨i+1,rfl,hlt,rfl,rfl⟩,by omega,rfl,rfl,⟨rfl,rfl,nd (Z hlt hs),trivial⟩,trivial,trivial⟩
 ·rfl
theorem wE (x:GateField):Spec P 218 [st x.e,st x.e] (.d (.bool true)):=by
 refine Spec.of_vc aJ aw [.tmp 4] Tryz.func218 rfl rfl rfl rfl (fun hok=>?_)
 repeat refine ai ?_
 refine an ?_
 repeat refine ai ?_
 refine an ?_
 repeat refine ai ?_
 refine an ?_
 repeat refine ai ?_
 refine an ?_
 repeat refine ai ?_
 refine oc (lN _) ?_
 repeat refine ai ?_
 refine an ?_
 repeat refine ai ?_
 refine an ?_
 repeat refine ai ?_
 refine an ?_
 repeat refine ai ?_
 refine an ?_
 repeat refine ai ?_
 refine an ?_
 repeat refine ai ?_
 refine an ?_
 repeat refine ai ?_
 refine an ?_
 repeat refine ai ?_
 rfl
theorem tz (xs:List GateField):Spec P 188 [.d (ab xs),.d (ab xs)] (.d (.bool true)):=by
 refine Spec.of_vc aJ aw [.tmp 4] Tryz.func188 rfl rfl rfl rfl (fun hok=>?_)
 have hs:xs.length≤big:=by have:=hok.1.1;rwa [List.length_map] at this
 repeat refine ai ?_
 refine an ?_
 refine ⟨fun k l h=>∃i:Nat,k=xs.length - i∧i≤xs.length∧l=[(0,.d (ab xs)),(1,.d (ab xs)),(5,.d (.int .i64 i))]∧h=hp0,
  ⟨_,_,_,⟨0,rfl,Nat.zero_le _,rfl,rfl⟩,rfl,rfl,⟨rfl,rfl,rfl,trivial⟩,trivial,trivial⟩,?_⟩
 rintro k l h1 ⟨i,rfl,hi,rfl,rfl⟩
 refine aj ?_ ?_<;>intro h1
 ·have hlt:i<xs.length:=V h1
  repeat refine ai ?_
  refine ak ?_
  repeat refine ai ?_
  refine O (e:=GateField.e) (xs:=xs) (hlt) rfl ?_
  repeat refine ai ?_
  refine O (e:=GateField.e) (xs:=xs) (hlt) rfl ?_
  repeat refine ai ?_
  refine oc (wE _) ?_
  repeat refine ai ?_
  refine an ?_
  exact ⟨_,_,_,⟨i+1,rfl,hlt,rfl,rfl⟩,by omega,rfl,rfl,⟨rfl,rfl,nd (Z hlt hs),trivial⟩,trivial,trivial⟩
 ·rfl
theorem wA (x:GateShape):Spec P 129 [st x.e,st x.e] (.d (.bool true)):=by
 refine Spec.of_vc aJ aw [.tmp 4] Tryz.func129 rfl rfl rfl rfl (fun hok=>?_)
 repeat refine ai ?_
 refine an ?_
 repeat refine ai ?_
 refine oc (tz _) ?_
 repeat refine ai ?_
 refine an ?_
 repeat refine ai ?_
 rfl
theorem tr (xs:List GateShape):Spec P 57 [.d (aa xs),.d (aa xs)] (.d (.bool true)):=by
 refine Spec.of_vc aJ aw [.tmp 4] Tryz.func57 rfl rfl rfl rfl (fun hok=>?_)
 have hs:xs.length≤big:=by have:=hok.1.1;rwa [List.length_map] at this
 repeat refine ai ?_
 refine an ?_
 refine ⟨fun k l h=>∃i:Nat,k=xs.length - i∧i≤xs.length∧l=[(0,.d (aa xs)),(1,.d (aa xs)),(5,.d (.int .i64 i))]∧h=hp0,
  ⟨_,_,_,⟨0,rfl,Nat.zero_le _,rfl,rfl⟩,rfl,rfl,⟨rfl,rfl,rfl,trivial⟩,trivial,trivial⟩,?_⟩
 rintro k l h1 ⟨i,rfl,hi,rfl,rfl⟩
 refine aj ?_ ?_<;>intro h1
 ·have hlt:i<xs.length:=V h1
  repeat refine ai ?_
  refine ak ?_
  repeat refine ai ?_
  refine O (e:=GateShape.e) (xs:=xs) (hlt) rfl ?_
  repeat refine ai ?_
  refine O (e:=GateShape.e) (xs:=xs) (hlt) rfl ?_
  repeat refine ai ?_
  refine oc (wA _) ?_
  repeat refine ai ?_
  refine an ?_
  exact ⟨_,_,_,⟨i+1,rfl,hlt,rfl,rfl⟩,by omega,rfl,rfl,⟨rfl,rfl,nd (Z hlt hs),trivial⟩,trivial,trivial⟩
 ·rfl
theorem yE (x:GateMend):Spec P 130 [st x.e,st x.e] (.d (.bool true)):=by
 refine Spec.of_vc aJ aw [.tmp 4] Tryz.func130 rfl rfl rfl rfl (fun hok=>?_)
 repeat refine ai ?_
 refine an ?_
 repeat refine ai ?_
 refine an ?_
 repeat refine ai ?_
 refine an ?_
 repeat refine ai ?_
 refine an ?_
 repeat refine ai ?_
 refine an ?_
 repeat refine ai ?_
 refine an ?_
 repeat refine ai ?_
 rfl
theorem wC (xs:List GateMend):Spec P 58 [.d (af xs),.d (af xs)] (.d (.bool true)):=by
 refine Spec.of_vc aJ aw [.tmp 4] Tryz.func58 rfl rfl rfl rfl (fun hok=>?_)
 have hs:xs.length≤big:=by have:=hok.1.1;rwa [List.length_map] at this
 repeat refine ai ?_
 refine an ?_
 refine ⟨fun k l h=>∃i:Nat,k=xs.length - i∧i≤xs.length∧l=[(0,.d (af xs)),(1,.d (af xs)),(5,.d (.int .i64 i))]∧h=hp0,
  ⟨_,_,_,⟨0,rfl,Nat.zero_le _,rfl,rfl⟩,rfl,rfl,⟨rfl,rfl,rfl,trivial⟩,trivial,trivial⟩,?_⟩
 rintro k l h1 ⟨i,rfl,hi,rfl,rfl⟩
 refine aj ?_ ?_<;>intro h1
 ·have hlt:i<xs.length:=V h1
  repeat refine ai ?_
  refine ak ?_
  repeat refine ai ?_
  refine O (e:=GateMend.e) (xs:=xs) (hlt) rfl ?_
  repeat refine ai ?_
  refine O (e:=GateMend.e) (xs:=xs) (hlt) rfl ?_
  repeat refine ai ?_
  refine oc (yE _) ?_
  repeat refine ai ?_
  refine an ?_
  exact ⟨_,_,_,⟨i+1,rfl,hlt,rfl,rfl⟩,by omega,rfl,rfl,⟨rfl,rfl,nd (Z hlt hs),trivial⟩,trivial,trivial⟩
 ·rfl
theorem yC (x:GateTeam):Spec P 131 [st x.e,st x.e] (.d (.bool true)):=by
 refine Spec.of_vc aJ aw [.tmp 4] Tryz.func131 rfl rfl rfl rfl (fun hok=>?_)
 repeat refine ai ?_
 refine an ?_
 repeat refine ai ?_
 refine an ?_
 repeat refine ai ?_
 rfl
theorem wz (xs:List GateTeam):Spec P 59 [.d (am xs),.d (am xs)] (.d (.bool true)):=by
 refine Spec.of_vc aJ aw [.tmp 4] Tryz.func59 rfl rfl rfl rfl (fun hok=>?_)
 have hs:xs.length≤big:=by have:=hok.1.1;rwa [List.length_map] at this
 repeat refine ai ?_
 refine an ?_
 refine ⟨fun k l h=>∃i:Nat,k=xs.length - i∧i≤xs.length∧l=[(0,.d (am xs)),(1,.d (am xs)),(5,.d (.int .i64 i))]∧h=hp0,
  ⟨_,_,_,⟨0,rfl,Nat.zero_le _,rfl,rfl⟩,rfl,rfl,⟨rfl,rfl,rfl,trivial⟩,trivial,trivial⟩,?_⟩
 rintro k l h1 ⟨i,rfl,hi,rfl,rfl⟩
 refine aj ?_ ?_<;>intro h1
 ·have hlt:i<xs.length:=V h1
  repeat refine ai ?_
  refine ak ?_
  repeat refine ai ?_
  refine O (e:=GateTeam.e) (xs:=xs) (hlt) rfl ?_
  repeat refine ai ?_
  refine O (e:=GateTeam.e) (xs:=xs) (hlt) rfl ?_
  repeat refine ai ?_
  refine oc (yC _) ?_
  repeat refine ai ?_
  refine an ?_
  exact ⟨_,_,_,⟨i+1,rfl,hlt,rfl,rfl⟩,by omega,rfl,rfl,⟨rfl,rfl,nd (Z hlt hs),trivial⟩,trivial,trivial⟩
 ·rfl
theorem Ag (x:GateLaw):Spec P 18 [st x.e,st x.e] (.d (.bool true)):=by
 refine Spec.of_vc aJ aw [.tmp 4] Tryz.func18 rfl rfl rfl rfl (fun hok=>?_)
 repeat refine ai ?_
 refine oc (tr _) ?_
 repeat refine ai ?_
 refine an ?_
 repeat refine ai ?_
 refine oc (wC _) ?_
 repeat refine ai ?_
 refine an ?_
 repeat refine ai ?_
 refine oc (wz _) ?_
 repeat refine ai ?_
 refine an ?_
 repeat refine ai ?_
 rfl
theorem tu (x:GateObject):Spec P 132 [st x.e,st x.e] (.d (.bool true)):=by
 refine Spec.of_vc aJ aw [.tmp 4] Tryz.func132 rfl rfl rfl rfl (fun hok=>?_)
 repeat refine ai ?_
 refine an ?_
 repeat refine ai ?_
 refine an ?_
 repeat refine ai ?_
 refine an ?_
 repeat refine ai ?_
 refine oc (lN _) ?_
 repeat refine ai ?_
 refine an ?_
 repeat refine ai ?_
 refine an ?_
 repeat refine ai ?_
 refine oc (lN _) ?_
 repeat refine ai ?_
 refine an ?_
 repeat refine ai ?_
 refine an ?_
 repeat refine ai ?_
 rfl
theorem rV (xs:List GateObject):Spec P 60 [.d (aE xs),.d (aE xs)] (.d (.bool true)):=by
 refine Spec.of_vc aJ aw [.tmp 4] Tryz.func60 rfl rfl rfl rfl (fun hok=>?_)
 have hs:xs.length≤big:=by have:=hok.1.1;rwa [List.length_map] at this
 repeat refine ai ?_
 refine an ?_
 refine ⟨fun k l h=>∃i:Nat,k=xs.length - i∧i≤xs.length∧l=[(0,.d (aE xs)),(1,.d (aE xs)),(5,.d (.int .i64 i))]∧h=hp0,
  ⟨_,_,_,⟨0,rfl,Nat.zero_le _,rfl,rfl⟩,rfl,rfl,⟨rfl,rfl,rfl,trivial⟩,trivial,trivial⟩,?_⟩
 rintro k l h1 ⟨i,rfl,hi,rfl,rfl⟩
 refine aj ?_ ?_<;>intro h1
 ·have hlt:i<xs.length:=V h1
  repeat refine ai ?_
  refine ak ?_
  repeat refine ai ?_
  refine O (e:=GateObject.e) (xs:=xs) (hlt) rfl ?_
  repeat refine ai ?_
  refine O (e:=GateObject.e) (xs:=xs) (hlt) rfl ?_
  repeat refine ai ?_
  refine oc (tu _) ?_
  repeat refine ai ?_
  refine an ?_
  exact ⟨_,_,_,⟨i+1,rfl,hlt,rfl,rfl⟩,by omega,rfl,rfl,⟨rfl,rfl,nd (Z hlt hs),trivial⟩,trivial,trivial⟩
 ·rfl
theorem yD (x:GateRule):Spec P 190 [st x.e,st x.e] (.d (.bool true)):=by
 refine Spec.of_vc aJ aw [.tmp 4] Tryz.func190 rfl rfl rfl rfl (fun hok=>?_)
 repeat refine ai ?_
 refine oc (pS _) ?_
 repeat refine ai ?_
 refine an ?_
 repeat refine ai ?_
 refine an ?_
 repeat refine ai ?_
 refine an ?_
 repeat refine ai ?_
 refine an ?_
 repeat refine ai ?_
 rfl
theorem wD (x:GateGrant):Spec P 133 [st x.e,st x.e] (.d (.bool true)):=by
 refine Spec.of_vc aJ aw [.tmp 4] Tryz.func133 rfl rfl rfl rfl (fun hok=>?_)
 repeat refine ai ?_
 refine an ?_
 repeat refine ai ?_
 refine an ?_
 repeat refine ai ?_
 refine an ?_
 repeat refine ai ?_
 refine oc (yD _) ?_
 repeat refine ai ?_
 refine an ?_
 repeat refine ai ?_
 rfl
theorem tx (xs:List GateGrant):Spec P 61 [.d (bp xs),.d (bp xs)] (.d (.bool true)):=by
 refine Spec.of_vc aJ aw [.tmp 4] Tryz.func61 rfl rfl rfl rfl (fun hok=>?_)
 have hs:xs.length≤big:=by have:=hok.1.1;rwa [List.length_map] at this
 repeat refine ai ?_
 refine an ?_
 refine ⟨fun k l h=>∃i:Nat,k=xs.length - i∧i≤xs.length∧l=[(0,.d (bp xs)),(1,.d (bp xs)),(5,.d (.int .i64 i))]∧h=hp0,
  ⟨_,_,_,⟨0,rfl,Nat.zero_le _,rfl,rfl⟩,rfl,rfl,⟨rfl,rfl,rfl,trivial⟩,trivial,trivial⟩,?_⟩
 rintro k l h1 ⟨i,rfl,hi,rfl,rfl⟩
 refine aj ?_ ?_<;>intro h1
 ·have hlt:i<xs.length:=V h1
  repeat refine ai ?_
  refine ak ?_
  repeat refine ai ?_
  refine O (e:=GateGrant.e) (xs:=xs) (hlt) rfl ?_
  repeat refine ai ?_
  refine O (e:=GateGrant.e) (xs:=xs) (hlt) rfl ?_
  repeat refine ai ?_
  refine oc (wD _) ?_
  repeat refine ai ?_
  refine an ?_
  exact ⟨_,_,_,⟨i+1,rfl,hlt,rfl,rfl⟩,by omega,rfl,rfl,⟨rfl,rfl,nd (Z hlt hs),trivial⟩,trivial,trivial⟩
 ·rfl
theorem tw (x:GateLedger):Spec P 134 [st x.e,st x.e] (.d (.bool true)):=by
 refine Spec.of_vc aJ aw [.tmp 4] Tryz.func134 rfl rfl rfl rfl (fun hok=>?_)
 repeat refine ai ?_
 refine an ?_
 repeat refine ai ?_
 refine an ?_
 repeat refine ai ?_
 refine an ?_
 repeat refine ai ?_
 refine an ?_
 repeat refine ai ?_
 rfl
theorem rW (xs:List GateLedger):Spec P 62 [.d (aW xs),.d (aW xs)] (.d (.bool true)):=by
 refine Spec.of_vc aJ aw [.tmp 4] Tryz.func62 rfl rfl rfl rfl (fun hok=>?_)
 have hs:xs.length≤big:=by have:=hok.1.1;rwa [List.length_map] at this
 repeat refine ai ?_
 refine an ?_
 refine ⟨fun k l h=>∃i:Nat,k=xs.length - i∧i≤xs.length∧l=[(0,.d (aW xs)),(1,.d (aW xs)),(5,.d (.int .i64 i))]∧h=hp0,
  ⟨_,_,_,⟨0,rfl,Nat.zero_le _,rfl,rfl⟩,rfl,rfl,⟨rfl,rfl,rfl,trivial⟩,trivial,trivial⟩,?_⟩
 rintro k l h1 ⟨i,rfl,hi,rfl,rfl⟩
 refine aj ?_ ?_<;>intro h1
 ·have hlt:i<xs.length:=V h1
  repeat refine ai ?_
  refine ak ?_
  repeat refine ai ?_
  refine O (e:=GateLedger.e) (xs:=xs) (hlt) rfl ?_
  repeat refine ai ?_
  refine O (e:=GateLedger.e) (xs:=xs) (hlt) rfl ?_
  repeat refine ai ?_
  refine oc (tw _) ?_
  repeat refine ai ?_
  refine an ?_
  exact ⟨_,_,_,⟨i+1,rfl,hlt,rfl,rfl⟩,by omega,rfl,rfl,⟨rfl,rfl,nd (Z hlt hs),trivial⟩,trivial,trivial⟩
 ·rfl
theorem wB (x:GatePurse):Spec P 135 [st x.e,st x.e] (.d (.bool true)):=by
 refine Spec.of_vc aJ aw [.tmp 4] Tryz.func135 rfl rfl rfl rfl (fun hok=>?_)
 repeat refine ai ?_
 refine an ?_
 repeat refine ai ?_
 refine an ?_
 repeat refine ai ?_
 refine an ?_
 repeat refine ai ?_
 refine an ?_
 repeat refine ai ?_
 refine an ?_
 repeat refine ai ?_
 rfl
theorem tt (xs:List GatePurse):Spec P 63 [.d (bo xs),.d (bo xs)] (.d (.bool true)):=by
 refine Spec.of_vc aJ aw [.tmp 4] Tryz.func63 rfl rfl rfl rfl (fun hok=>?_)
 have hs:xs.length≤big:=by have:=hok.1.1;rwa [List.length_map] at this
 repeat refine ai ?_
 refine an ?_
 refine ⟨fun k l h=>∃i:Nat,k=xs.length - i∧i≤xs.length∧l=[(0,.d (bo xs)),(1,.d (bo xs)),(5,.d (.int .i64 i))]∧h=hp0,
  ⟨_,_,_,⟨0,rfl,Nat.zero_le _,rfl,rfl⟩,rfl,rfl,⟨rfl,rfl,rfl,trivial⟩,trivial,trivial⟩,?_⟩
 rintro k l h1 ⟨i,rfl,hi,rfl,rfl⟩
 refine aj ?_ ?_<;>intro h1
 ·have hlt:i<xs.length:=V h1
  repeat refine ai ?_
  refine ak ?_
  repeat refine ai ?_
  refine O (e:=GatePurse.e) (xs:=xs) (hlt) rfl ?_
  repeat refine ai ?_
  refine O (e:=GatePurse.e) (xs:=xs) (hlt) rfl ?_
  repeat refine ai ?_
  refine oc (wB _) ?_
  repeat refine ai ?_
  refine an ?_
  exact ⟨_,_,_,⟨i+1,rfl,hlt,rfl,rfl⟩,by omega,rfl,rfl,⟨rfl,rfl,nd (Z hlt hs),trivial⟩,trivial,trivial⟩
 ·rfl
theorem yF (x:GateBook):Spec P 19 [st x.e,st x.e] (.d (.bool true)):=by
 refine Spec.of_vc aJ aw [.tmp 4] Tryz.func19 rfl rfl rfl rfl (fun hok=>?_)
 repeat refine ai ?_
 refine an ?_
 repeat refine ai ?_
 refine an ?_
 repeat refine ai ?_
 refine an ?_
 repeat refine ai ?_
 refine oc (rV _) ?_
 repeat refine ai ?_
 refine an ?_
 repeat refine ai ?_
 refine oc (tx _) ?_
 repeat refine ai ?_
 refine an ?_
 repeat refine ai ?_
 refine oc (rW _) ?_
 repeat refine ai ?_
 refine an ?_
 repeat refine ai ?_
 refine oc (tt _) ?_
 repeat refine ai ?_
 refine an ?_
 repeat refine ai ?_
 rfl
end Go.Vc
end
section
namespace Go.Vc
section
variable {α:Type} {e:α→List D} {xs:List α} {z:List D} {i:Nat} {fs:List NT}
theorem cM {t n:Nat}:some (AO.tree t n fs (List.replicate ((((xs.map e).length:Nat):Int)).toNat z))=some (AO.tree t n fs (bc e xs z 0)):=by
 simp[bc]
theorem ea {t n:Nat} (hi:i<xs.length) (hz:(e xs[i]).length=z.length):
 some (AO.tree t n fs ((bc e xs z i).set i (dD z 0 (e xs[i]))))=some (AO.tree t n fs (bc e xs z (i+1))):=by
 have:=cx (t:=t) (n:=n) (e:=e) hi hz
 simp only[Option.some.injEq,AO.row.injEq,true_and] at this
 rw[this]
theorem eb {t n:Nat} (h:xs.length≤i) (hi:i≤xs.length):some (AO.tree t n fs (bc e xs z i))=some (AO.tree t n fs (xs.map e)):=by
 rw[cy h hi]
end
def aL {α:Type} (f:α→Int→α×Int):List α→Int→List α×Int
 |[],k=>([],k)
 |x::xs,k=>((f x k).1::(aL f xs (f x k).2).1,(aL f xs (f x k).2).2)
def mX {α:Type} (f:α→Int→α×Int) (xs:List α) (k:Int) (i:Nat):Int:=(aL f (xs.take i) k).2
def t9 {α:Type} (f:α→Int→α×Int) (e:α→List D) (xs:List α) (k:Int) (i:Nat):List (List D):=((aL f (xs.take i) k).1++xs.drop i).map e
section
variable {α:Type} {f:α→Int→α×Int} {e:α→List D}
theorem xX:∀(xs:List α) (y:α) (k:Int),aL f (xs++[y]) k=((aL f xs k).1++[(f y (aL f xs k).2).1],(f y (aL f xs k).2).2)
 |[],y,k=>rfl
 |x::xs,y,k=>by
  simp only[List.cons_append,aL,xX xs y]
theorem fM:∀(xs:List α) (k:Int),(aL f xs k).1.length=xs.length
 |[],_=>rfl
 |x::xs,k=>by simp only[aL,List.length_cons,fM xs]
theorem xW {xs:List α} {i:Nat} (h:i<xs.length) (k:Int):aL f (xs.take (i+1)) k=((aL f (xs.take i) k).1++[(f xs[i] (mX f xs k i)).1],(f xs[i] (mX f xs k i)).2):=by
 rw[List.take_succ_eq_append_getElem h,xX];rfl
theorem dO {xs:List α} {i:Nat} (h:i<xs.length) (k:Int):(f xs[i] (mX f xs k i)).2=mX f xs k (i+1):=by
 unfold mX
 rw[xW h];rfl
theorem bW {xs:List α} {i:Nat} (k:Int) (h:i≤xs.length):(t9 f e xs k i).length=xs.length:=by
 unfold t9
 rw[List.length_map,List.length_append,fM,List.length_take,List.length_drop];omega
theorem bf {xs:List α} {i:Nat} {k:Int} (h:i<xs.length):i<(t9 f e xs k i).length:=by rw[bW k (Nat.le_of_lt h)];exact h
theorem aP {xs:List α} {i:Nat} {k:Int} (h:i<xs.length):(t9 f e xs k i)[i]? =some (e xs[i]):=by
 unfold t9
 rw[List.getElem?_map,List.getElem?_append_right (by rw[fM,List.length_take];omega),fM,List.length_take,Nat.min_eq_left (Nat.le_of_lt h),Nat.sub_self,List.getElem?_drop,Nat.add_zero,List.getElem?_eq_getElem h]
 rfl
theorem er {xs:List α} {i:Nat} {k:Int} (h:i<xs.length) {r:List D} (hr:r=e (f xs[i] (mX f xs k i)).1):(t9 f e xs k i).set i r=t9 f e xs k (i+1):=by
 subst hr
 unfold t9
 rw[xW h,List.drop_eq_getElem_cons h,←List.map_set]
 congr 1
 rw[List.set_append_right _ _ (by rw[fM,List.length_take];omega),fM,List.length_take,Nat.min_eq_left (Nat.le_of_lt h),Nat.sub_self,List.set_cons_zero,List.append_assoc]
 rfl
theorem fL {xs:List α} {i:Nat} {k:Int} (h:xs.length≤i):t9 f e xs k i=(aL f xs k).1.map e:=by
 unfold t9
 rw[List.take_of_length_le h,List.drop_of_length_le h,List.append_nil]
theorem fh {xs:List α} {i:Nat} {k:Int} (h:xs.length≤i):mX f xs k i=(aL f xs k).2:=by
 unfold mX
 rw[List.take_of_length_le h]
theorem gp {R:List (List D)} {i:Nat} {r:List D} (h:i<R.length):(R.set i r)[i]? =some r:=by
 rw[List.getElem?_set_self h]
theorem FH {xs:List α} {i:Nat} (k:Int) (h:i<xs.length) (h':i<(aL f xs k).1.length):(aL f xs k).1[i]=(f xs[i] (mX f xs k i)).1:=by
 have key:∀(xs:List α) (k:Int) (i:Nat) (h:i<xs.length),(aL f xs k).1[i]? =some (f xs[i] (mX f xs k i)).1:=by
  intro xs
  induction xs with
  |nil=>intro k i h;simp at h
  |cons x xs ih=>
   intro k i h
   cases i with
   |zero=>rfl
   |succ i=>
    simp only[aL,List.getElem?_cons_succ]
    rw[ih (f x k).2 i (by simpa using h)]
    rfl
 have:=key xs k i h
 rw[List.getElem?_eq_getElem h'] at this
 injection this
end
theorem GB {α:Type} {f:α→Int→α×Int} {e:α→List D} {xs:List α} {k:Int} {i sz:Nat} {K:List D→Prop} (hk:i<xs.length) (hs:(e (f xs[i] (mX f xs k i)).1).length=sz) (h:K (e (f xs[i] (mX f xs k i)).1)):
 (0:Int)≤(i:Int)∧∃b,(((aL f xs k).1).map e)[(i:Int).toNat]? =some b∧b.length=sz∧K b:=by
 have hk':i<(aL f xs k).1.length:=by rw[fM];exact hk
 rw[←FH k hk hk'] at hs h
 exact O hk' hs h
def wk (k:Int):Int:=IntKind.i64.wrap (k+1)
end Go.Vc
end
section
namespace Go.Vc
open Go.Proofs
def GateField.n:List NT:=[.leaf,.leaf,.leaf,.leaf,.list 9 1 [.leaf],.leaf,.leaf,.leaf,.leaf,.leaf,.leaf]
def GateField.a (x:GateField):List AV:=[.d (.str x.name),.d (.int .i64 x.kind),.d (.int .i64 x.least),.d (.int .i64 x.most),.own 0,.d (.str x.to_),.d (.int .i64 x.role),.d (.bool x.must),.d (.bool x.fixed),.d (.str x.default_),.d (.str x.weighs)]
def GateField.o (x:GateField):List (Nat×AO):=[(0,.tree 9 1 [.leaf] (x.words.map eB))]
def GateShape.n:List NT:=[.leaf,.list 138 11 [.leaf,.leaf,.leaf,.leaf,.list 9 1 [.leaf],.leaf,.leaf,.leaf,.leaf,.leaf,.leaf]]
def GateShape.a (x:GateShape):List AV:=[.d (.str x.kind),.own 0]
def GateShape.o (x:GateShape):List (Nat×AO):=[(0,.tree 138 11 GateField.n (x.fields.map GateField.e))]
def GateMend.n:List NT:=[.leaf,.leaf,.leaf,.leaf,.leaf,.leaf]
def GateMend.a (x:GateMend):List AV:=[.d (.str x.kind),.d (.str x.field),.d (.str x.when_),.d (.str x.is_),.d (.str x.put),.d (.str x.from_)]
def GateMend.o (x:GateMend):List (Nat×AO):=[]
def GateTeam.n:List NT:=[.leaf,.leaf]
def GateTeam.a (x:GateTeam):List AV:=[.d (.str x.name),.d (.str x.over)]
def GateTeam.o (x:GateTeam):List (Nat×AO):=[]
def GateLaw.n:List NT:=[.list 164 2 [.leaf,.list 138 11 [.leaf,.leaf,.leaf,.leaf,.list 9 1 [.leaf],.leaf,.leaf,.leaf,.leaf,.leaf,.leaf]],.list 166 6 [.leaf,.leaf,.leaf,.leaf,.leaf,.leaf],.list 168 2 [.leaf,.leaf]]
def GateLaw.a (x:GateLaw):List AV:=[.own 0,.own 1,.own 2]
def GateLaw.o (x:GateLaw):List (Nat×AO):=[(0,.tree 164 2 GateShape.n (x.shapes.map GateShape.e)),(1,.tree 166 6 GateMend.n (x.mends.map GateMend.e)),(2,.tree 168 2 GateTeam.n (x.teams.map GateTeam.e))]
def GateObject.n:List NT:=[.leaf,.leaf,.leaf,.list 9 1 [.leaf],.leaf,.list 9 1 [.leaf],.leaf]
def GateObject.a (x:GateObject):List AV:=[.d (.str x.kind),.d (.str x.name),.d (.str x.team),.own 0,.d (.bool x.ending),.own 1,.d (.int .i64 x.version)]
def GateObject.o (x:GateObject):List (Nat×AO):=[(0,.tree 9 1 [.leaf] (x.values.map eB)),(1,.tree 9 1 [.leaf] (x.holds.map eB))]
def GateRule.n:List NT:=[.list 3 1 [.leaf],.leaf,.leaf,.leaf]
def GateRule.a (x:GateRule):List AV:=[.own 0,.d (.str x.kind),.d (.str x.team),.d (.str x.prefix_)]
def GateRule.o (x:GateRule):List (Nat×AO):=[(0,.tree 3 1 [.leaf] (x.verbs.map eN))]
def GateGrant.n:List NT:=[.leaf,.leaf,.leaf,.list 3 1 [.leaf],.leaf,.leaf,.leaf]
def GateGrant.a (x:GateGrant):List AV:=[.d (.int .i64 x.number),.d (.str x.to_),.d (.str x.by_),.own 0,.d (.str x.rule.kind),.d (.str x.rule.team),.d (.str x.rule.prefix_)]
def GateGrant.o (x:GateGrant):List (Nat×AO):=[(0,.tree 3 1 [.leaf] (x.rule.verbs.map eN))]
def GateLedger.n:List NT:=[.leaf,.leaf,.leaf,.leaf]
def GateLedger.a (x:GateLedger):List AV:=[.d (.str x.team),.d (.str x.resource),.d (.int .i64 x.most),.d (.int .i64 x.free)]
def GateLedger.o (x:GateLedger):List (Nat×AO):=[]
def GatePurse.n:List NT:=[.leaf,.leaf,.leaf,.leaf,.leaf]
def GatePurse.a (x:GatePurse):List AV:=[.d (.str x.door),.d (.str x.team),.d (.str x.resource),.d (.int .i64 x.amount),.d (.int .i64 x.until_)]
def GatePurse.o (x:GatePurse):List (Nat×AO):=[]
def GateBook.n:List NT:=[.leaf,.leaf,.leaf,.list 103 7 [.leaf,.leaf,.leaf,.list 9 1 [.leaf],.leaf,.list 9 1 [.leaf],.leaf],.list 173 7 [.leaf,.leaf,.leaf,.list 3 1 [.leaf],.leaf,.leaf,.leaf],.list 119 4 [.leaf,.leaf,.leaf,.leaf],.list 109 5 [.leaf,.leaf,.leaf,.leaf,.leaf]]
def GateBook.a (x:GateBook):List AV:=[.d (.int .i64 x.now),.d (.int .i64 x.tick),.d (.int .i64 x.given),.own 0,.own 1,.own 2,.own 3]
def GateBook.o (x:GateBook):List (Nat×AO):=[(0,.tree 103 7 GateObject.n (x.objects.map GateObject.e)),(1,.tree 173 7 GateGrant.n (x.grants.map GateGrant.e)),(2,.tree 119 4 GateLedger.n (x.ledgers.map GateLedger.e)),(3,.tree 109 5 GatePurse.n (x.purses.map GatePurse.e))]
end Go.Vc
end
section
namespace Go.Vc
open Go.Proofs
set_option maxRecDepth 100000
theorem jL (xs:List Bs):HSpec P 179 [.d (lS xs)] hp0 (.own 0) ⟨[(0,.tree 9 1 [.leaf] (xs.map eB))],1,0⟩:=by
 refine ax da aw [.tmp 2] Tryz.func179 rfl rfl rfl rfl (fun hok=>?_)
 have hs:xs.length≤big:=by have:=hok.1.1;rwa [List.length_map] at this
 repeat refine ai ?_
 refine aj (Int.natCast_nonneg _) (aj (Int.le_refl _) (aj (dN hs) ?_))
 refine ⟨fun k l h=>∃i:Nat,k=xs.length - i∧i≤xs.length∧l=[(0,.d (lS xs)),(3,.own 0),(4,.d (.int .i64 i))]∧h=⟨[(0,.tree 9 1 [.leaf] (bc eB xs [D.str []] i))],1,0⟩,
  ⟨_,_,_,⟨0,rfl,Nat.zero_le _,rfl,rfl⟩,rfl,rfl,⟨rfl,rfl,rfl,trivial⟩,⟨rfl,trivial⟩,⟨cM,trivial⟩⟩,?_⟩
 rintro k l h1 ⟨i,rfl,hi,rfl,rfl⟩
 refine aj ?_ ?_<;>intro h1
 ·have hlt:i<xs.length:=V h1
  repeat refine ai ?_
  refine O (e:=eB) (xs:=xs) (hlt) rfl ?_
  repeat refine ai ?_
  refine aj (Int.natCast_nonneg _) (aj (by rw[aS hi];omega) ?_)
  repeat refine ai ?_
  refine ⟨_,aT hlt,Nat.le_refl _,?_⟩
  exact ⟨_,_,_,⟨i+1,rfl,hlt,rfl,rfl⟩,by omega,rfl,rfl,⟨rfl,rfl,nd (Z hlt hs),trivial⟩,⟨rfl,trivial⟩,⟨ea hlt rfl,trivial⟩⟩
 ·exact ⟨[some 0],rfl,rfl,⟨eb (Y h1) hi,rfl⟩,trivial⟩
theorem CO (xs:List Int):HSpec P 209 [.d (lI xs)] hp0 (.own 0) ⟨[(0,.tree 3 1 [.leaf] (xs.map eN))],1,0⟩:=by
 refine ax da aw [.tmp 2] Tryz.func209 rfl rfl rfl rfl (fun hok=>?_)
 have hs:xs.length≤big:=by have:=hok.1.1;rwa [List.length_map] at this
 repeat refine ai ?_
 refine aj (Int.natCast_nonneg _) (aj (Int.le_refl _) (aj (dN hs) ?_))
 refine ⟨fun k l h=>∃i:Nat,k=xs.length - i∧i≤xs.length∧l=[(0,.d (lI xs)),(3,.own 0),(4,.d (.int .i64 i))]∧h=⟨[(0,.tree 3 1 [.leaf] (bc eN xs [D.int .i64 0] i))],1,0⟩,
  ⟨_,_,_,⟨0,rfl,Nat.zero_le _,rfl,rfl⟩,rfl,rfl,⟨rfl,rfl,rfl,trivial⟩,⟨rfl,trivial⟩,⟨cM,trivial⟩⟩,?_⟩
 rintro k l h1 ⟨i,rfl,hi,rfl,rfl⟩
 refine aj ?_ ?_<;>intro h1
 ·have hlt:i<xs.length:=V h1
  repeat refine ai ?_
  refine O (e:=eN) (xs:=xs) (hlt) rfl ?_
  repeat refine ai ?_
  refine aj (Int.natCast_nonneg _) (aj (by rw[aS hi];omega) ?_)
  repeat refine ai ?_
  refine ⟨_,aT hlt,Nat.le_refl _,?_⟩
  exact ⟨_,_,_,⟨i+1,rfl,hlt,rfl,rfl⟩,by omega,rfl,rfl,⟨rfl,rfl,nd (Z hlt hs),trivial⟩,⟨rfl,trivial⟩,⟨ea hlt rfl,trivial⟩⟩
 ·exact ⟨[some 0],rfl,rfl,⟨eb (Y h1) hi,rfl⟩,trivial⟩
set_option maxHeartbeats 2000000 in
theorem sA (x:GateField):HSpec P 208 [st x.e] hp0 (.agg x.a) ⟨x.o,1,0⟩:=by
 refine ax da aw [.cell 2 138] Tryz.func208 rfl rfl rfl rfl (fun hok=>?_)
 repeat refine ai ?_
 refine ow (jL _) ?_
 repeat refine ai ?_
 exact ⟨[some 3],by (repeat' first|exact rfl|exact trivial|refine aj ?_ ?_)⟩
theorem qo (xs:List GateField):HSpec P 178 [.d (ab xs)] hp0 (.own 0) ⟨[(0,.tree 138 11 GateField.n (xs.map GateField.e))],1,0⟩:=by
 refine ax da aw [.tmp 2] Tryz.func178 rfl rfl rfl rfl (fun hok=>?_)
 have hs:xs.length≤big:=by have:=hok.1.1;rwa [List.length_map] at this
 repeat refine ai ?_
 refine aj (Int.natCast_nonneg _) (aj (Int.le_refl _) (aj (dN hs) ?_))
 refine ⟨fun k l h=>∃i:Nat,k=xs.length - i∧i≤xs.length∧l=[(0,.d (ab xs)),(3,.own 0),(4,.d (.int .i64 i))]∧h=⟨[(0,.tree 138 11 GateField.n (bc GateField.e xs GateField.z i))],1,0⟩,
  ⟨_,_,_,⟨0,rfl,Nat.zero_le _,rfl,rfl⟩,rfl,rfl,⟨rfl,rfl,rfl,trivial⟩,⟨rfl,trivial⟩,⟨cM,trivial⟩⟩,?_⟩
 rintro k l h1 ⟨i,rfl,hi,rfl,rfl⟩
 refine aj ?_ ?_<;>intro h1
 ·have hlt:i<xs.length:=V h1
  repeat refine ai ?_
  refine O (e:=GateField.e) (xs:=xs) (hlt) rfl ?_
  repeat refine ai ?_
  refine ow (sA _) ?_
  repeat refine ai ?_
  refine aj (Int.natCast_nonneg _) (aj (by rw[aS hi];omega) ?_)
  repeat refine ai ?_
  refine ⟨_,aT hlt,Nat.le_refl _,?_⟩
  exact ⟨_,_,_,⟨i+1,rfl,hlt,rfl,rfl⟩,by omega,rfl,rfl,⟨rfl,rfl,nd (Z hlt hs),trivial⟩,⟨rfl,trivial⟩,⟨ea hlt rfl,trivial⟩⟩
 ·exact ⟨[some 0],rfl,rfl,⟨eb (Y h1) hi,rfl⟩,trivial⟩
set_option maxHeartbeats 2000000 in
theorem sw (x:GateShape):HSpec P 118 [st x.e] hp0 (.agg x.a) ⟨x.o,1,0⟩:=by
 refine ax da aw [.cell 2 164] Tryz.func118 rfl rfl rfl rfl (fun hok=>?_)
 repeat refine ai ?_
 refine ow (qo _) ?_
 repeat refine ai ?_
 exact ⟨[some 3],by (repeat' first|exact rfl|exact trivial|refine aj ?_ ?_)⟩
theorem qk (xs:List GateShape):HSpec P 48 [.d (aa xs)] hp0 (.own 0) ⟨[(0,.tree 164 2 GateShape.n (xs.map GateShape.e))],1,0⟩:=by
 refine ax da aw [.tmp 2] Tryz.func48 rfl rfl rfl rfl (fun hok=>?_)
 have hs:xs.length≤big:=by have:=hok.1.1;rwa [List.length_map] at this
 repeat refine ai ?_
 refine aj (Int.natCast_nonneg _) (aj (Int.le_refl _) (aj (dN hs) ?_))
 refine ⟨fun k l h=>∃i:Nat,k=xs.length - i∧i≤xs.length∧l=[(0,.d (aa xs)),(3,.own 0),(4,.d (.int .i64 i))]∧h=⟨[(0,.tree 164 2 GateShape.n (bc GateShape.e xs GateShape.z i))],1,0⟩,
  ⟨_,_,_,⟨0,rfl,Nat.zero_le _,rfl,rfl⟩,rfl,rfl,⟨rfl,rfl,rfl,trivial⟩,⟨rfl,trivial⟩,⟨cM,trivial⟩⟩,?_⟩
 rintro k l h1 ⟨i,rfl,hi,rfl,rfl⟩
 refine aj ?_ ?_<;>intro h1
 ·have hlt:i<xs.length:=V h1
  repeat refine ai ?_
  refine O (e:=GateShape.e) (xs:=xs) (hlt) rfl ?_
  repeat refine ai ?_
  refine ow (sw _) ?_
  repeat refine ai ?_
  refine aj (Int.natCast_nonneg _) (aj (by rw[aS hi];omega) ?_)
  repeat refine ai ?_
  refine ⟨_,aT hlt,Nat.le_refl _,?_⟩
  exact ⟨_,_,_,⟨i+1,rfl,hlt,rfl,rfl⟩,by omega,rfl,rfl,⟨rfl,rfl,nd (Z hlt hs),trivial⟩,⟨rfl,trivial⟩,⟨ea hlt rfl,trivial⟩⟩
 ·exact ⟨[some 0],rfl,rfl,⟨eb (Y h1) hi,rfl⟩,trivial⟩
theorem sx (xs:List GateMend):HSpec P 49 [.d (af xs)] hp0 (.own 0) ⟨[(0,.tree 166 6 GateMend.n (xs.map GateMend.e))],1,0⟩:=by
 refine ax da aw [.tmp 2] Tryz.func49 rfl rfl rfl rfl (fun hok=>?_)
 have hs:xs.length≤big:=by have:=hok.1.1;rwa [List.length_map] at this
 repeat refine ai ?_
 refine aj (Int.natCast_nonneg _) (aj (Int.le_refl _) (aj (dN hs) ?_))
 refine ⟨fun k l h=>∃i:Nat,k=xs.length - i∧i≤xs.length∧l=[(0,.d (af xs)),(3,.own 0),(4,.d (.int .i64 i))]∧h=⟨[(0,.tree 166 6 GateMend.n (bc GateMend.e xs GateMend.z i))],1,0⟩,
  ⟨_,_,_,⟨0,rfl,Nat.zero_le _,rfl,rfl⟩,rfl,rfl,⟨rfl,rfl,rfl,trivial⟩,⟨rfl,trivial⟩,⟨cM,trivial⟩⟩,?_⟩
 rintro k l h1 ⟨i,rfl,hi,rfl,rfl⟩
 refine aj ?_ ?_<;>intro h1
 ·have hlt:i<xs.length:=V h1
  repeat refine ai ?_
  refine O (e:=GateMend.e) (xs:=xs) (hlt) rfl ?_
  repeat refine ai ?_
  refine oc (oI _) ?_
  repeat refine ai ?_
  refine aj (Int.natCast_nonneg _) (aj (by rw[aS hi];omega) ?_)
  repeat refine ai ?_
  refine ⟨_,aT hlt,Nat.le_refl _,?_⟩
  exact ⟨_,_,_,⟨i+1,rfl,hlt,rfl,rfl⟩,by omega,rfl,rfl,⟨rfl,rfl,nd (Z hlt hs),trivial⟩,⟨rfl,trivial⟩,⟨ea hlt rfl,trivial⟩⟩
 ·exact ⟨[some 0],rfl,rfl,⟨eb (Y h1) hi,rfl⟩,trivial⟩
theorem sv (xs:List GateTeam):HSpec P 50 [.d (am xs)] hp0 (.own 0) ⟨[(0,.tree 168 2 GateTeam.n (xs.map GateTeam.e))],1,0⟩:=by
 refine ax da aw [.tmp 2] Tryz.func50 rfl rfl rfl rfl (fun hok=>?_)
 have hs:xs.length≤big:=by have:=hok.1.1;rwa [List.length_map] at this
 repeat refine ai ?_
 refine aj (Int.natCast_nonneg _) (aj (Int.le_refl _) (aj (dN hs) ?_))
 refine ⟨fun k l h=>∃i:Nat,k=xs.length - i∧i≤xs.length∧l=[(0,.d (am xs)),(3,.own 0),(4,.d (.int .i64 i))]∧h=⟨[(0,.tree 168 2 GateTeam.n (bc GateTeam.e xs GateTeam.z i))],1,0⟩,
  ⟨_,_,_,⟨0,rfl,Nat.zero_le _,rfl,rfl⟩,rfl,rfl,⟨rfl,rfl,rfl,trivial⟩,⟨rfl,trivial⟩,⟨cM,trivial⟩⟩,?_⟩
 rintro k l h1 ⟨i,rfl,hi,rfl,rfl⟩
 refine aj ?_ ?_<;>intro h1
 ·have hlt:i<xs.length:=V h1
  repeat refine ai ?_
  refine O (e:=GateTeam.e) (xs:=xs) (hlt) rfl ?_
  repeat refine ai ?_
  refine oc (oH _) ?_
  repeat refine ai ?_
  refine aj (Int.natCast_nonneg _) (aj (by rw[aS hi];omega) ?_)
  repeat refine ai ?_
  refine ⟨_,aT hlt,Nat.le_refl _,?_⟩
  exact ⟨_,_,_,⟨i+1,rfl,hlt,rfl,rfl⟩,by omega,rfl,rfl,⟨rfl,rfl,nd (Z hlt hs),trivial⟩,⟨rfl,trivial⟩,⟨ea hlt rfl,trivial⟩⟩
 ·exact ⟨[some 0],rfl,rfl,⟨eb (Y h1) hi,rfl⟩,trivial⟩
set_option maxHeartbeats 2000000 in
theorem xg (x:GateLaw):HSpec P 14 [st x.e] hp0 (.agg x.a) ⟨x.o,3,0⟩:=by
 refine ax da aw [.cell 2 41] Tryz.func14 rfl rfl rfl rfl (fun hok=>?_)
 repeat refine ai ?_
 refine ow (qk _) ?_
 repeat refine ai ?_
 refine ow (sx _) ?_
 repeat refine ai ?_
 refine ow (sv _) ?_
 repeat refine ai ?_
 exact ⟨[some 3,some 4,some 5],by (repeat' first|exact rfl|exact trivial|refine aj ?_ ?_)⟩
set_option maxHeartbeats 2000000 in
theorem qm (x:GateObject):HSpec P 121 [st x.e] hp0 (.agg x.a) ⟨x.o,2,0⟩:=by
 refine ax da aw [.cell 2 103] Tryz.func121 rfl rfl rfl rfl (fun hok=>?_)
 repeat refine ai ?_
 refine ow (jL _) ?_
 repeat refine ai ?_
 refine ow (jL _) ?_
 repeat refine ai ?_
 exact ⟨[some 3,some 4],by (repeat' first|exact rfl|exact trivial|refine aj ?_ ?_)⟩
theorem pc (xs:List GateObject):HSpec P 51 [.d (aE xs)] hp0 (.own 0) ⟨[(0,.tree 103 7 GateObject.n (xs.map GateObject.e))],1,0⟩:=by
 refine ax da aw [.tmp 2] Tryz.func51 rfl rfl rfl rfl (fun hok=>?_)
 have hs:xs.length≤big:=by have:=hok.1.1;rwa [List.length_map] at this
 repeat refine ai ?_
 refine aj (Int.natCast_nonneg _) (aj (Int.le_refl _) (aj (dN hs) ?_))
 refine ⟨fun k l h=>∃i:Nat,k=xs.length - i∧i≤xs.length∧l=[(0,.d (aE xs)),(3,.own 0),(4,.d (.int .i64 i))]∧h=⟨[(0,.tree 103 7 GateObject.n (bc GateObject.e xs GateObject.z i))],1,0⟩,
  ⟨_,_,_,⟨0,rfl,Nat.zero_le _,rfl,rfl⟩,rfl,rfl,⟨rfl,rfl,rfl,trivial⟩,⟨rfl,trivial⟩,⟨cM,trivial⟩⟩,?_⟩
 rintro k l h1 ⟨i,rfl,hi,rfl,rfl⟩
 refine aj ?_ ?_<;>intro h1
 ·have hlt:i<xs.length:=V h1
  repeat refine ai ?_
  refine O (e:=GateObject.e) (xs:=xs) (hlt) rfl ?_
  repeat refine ai ?_
  refine ow (qm _) ?_
  repeat refine ai ?_
  refine aj (Int.natCast_nonneg _) (aj (by rw[aS hi];omega) ?_)
  repeat refine ai ?_
  refine ⟨_,aT hlt,Nat.le_refl _,?_⟩
  exact ⟨_,_,_,⟨i+1,rfl,hlt,rfl,rfl⟩,by omega,rfl,rfl,⟨rfl,rfl,nd (Z hlt hs),trivial⟩,⟨rfl,trivial⟩,⟨ea hlt rfl,trivial⟩⟩
 ·exact ⟨[some 0],rfl,rfl,⟨eb (Y h1) hi,rfl⟩,trivial⟩
set_option maxHeartbeats 2000000 in
theorem vk (x:GateRule):HSpec P 180 [st x.e] hp0 (.agg x.a) ⟨x.o,1,0⟩:=by
 refine ax da aw [.cell 2 171] Tryz.func180 rfl rfl rfl rfl (fun hok=>?_)
 repeat refine ai ?_
 refine ow (CO _) ?_
 repeat refine ai ?_
 exact ⟨[some 3],by (repeat' first|exact rfl|exact trivial|refine aj ?_ ?_)⟩
set_option maxHeartbeats 2000000 in
theorem sy (x:GateGrant):HSpec P 122 [st x.e] hp0 (.agg x.a) ⟨x.o,1,0⟩:=by
 refine ax da aw [.cell 2 173] Tryz.func122 rfl rfl rfl rfl (fun hok=>?_)
 repeat refine ai ?_
 refine ow (vk _) ?_
 repeat refine ai ?_
 exact ⟨[some 3],by (repeat' first|exact rfl|exact trivial|refine aj ?_ ?_)⟩
theorem qn (xs:List GateGrant):HSpec P 52 [.d (bp xs)] hp0 (.own 0) ⟨[(0,.tree 173 7 GateGrant.n (xs.map GateGrant.e))],1,0⟩:=by
 refine ax da aw [.tmp 2] Tryz.func52 rfl rfl rfl rfl (fun hok=>?_)
 have hs:xs.length≤big:=by have:=hok.1.1;rwa [List.length_map] at this
 repeat refine ai ?_
 refine aj (Int.natCast_nonneg _) (aj (Int.le_refl _) (aj (dN hs) ?_))
 refine ⟨fun k l h=>∃i:Nat,k=xs.length - i∧i≤xs.length∧l=[(0,.d (bp xs)),(3,.own 0),(4,.d (.int .i64 i))]∧h=⟨[(0,.tree 173 7 GateGrant.n (bc GateGrant.e xs GateGrant.z i))],1,0⟩,
  ⟨_,_,_,⟨0,rfl,Nat.zero_le _,rfl,rfl⟩,rfl,rfl,⟨rfl,rfl,rfl,trivial⟩,⟨rfl,trivial⟩,⟨cM,trivial⟩⟩,?_⟩
 rintro k l h1 ⟨i,rfl,hi,rfl,rfl⟩
 refine aj ?_ ?_<;>intro h1
 ·have hlt:i<xs.length:=V h1
  repeat refine ai ?_
  refine O (e:=GateGrant.e) (xs:=xs) (hlt) rfl ?_
  repeat refine ai ?_
  refine ow (sy _) ?_
  repeat refine ai ?_
  refine aj (Int.natCast_nonneg _) (aj (by rw[aS hi];omega) ?_)
  repeat refine ai ?_
  refine ⟨_,aT hlt,Nat.le_refl _,?_⟩
  exact ⟨_,_,_,⟨i+1,rfl,hlt,rfl,rfl⟩,by omega,rfl,rfl,⟨rfl,rfl,nd (Z hlt hs),trivial⟩,⟨rfl,trivial⟩,⟨ea hlt rfl,trivial⟩⟩
 ·exact ⟨[some 0],rfl,rfl,⟨eb (Y h1) hi,rfl⟩,trivial⟩
theorem pe (xs:List GateLedger):HSpec P 53 [.d (aW xs)] hp0 (.own 0) ⟨[(0,.tree 119 4 GateLedger.n (xs.map GateLedger.e))],1,0⟩:=by
 refine ax da aw [.tmp 2] Tryz.func53 rfl rfl rfl rfl (fun hok=>?_)
 have hs:xs.length≤big:=by have:=hok.1.1;rwa [List.length_map] at this
 repeat refine ai ?_
 refine aj (Int.natCast_nonneg _) (aj (Int.le_refl _) (aj (dN hs) ?_))
 refine ⟨fun k l h=>∃i:Nat,k=xs.length - i∧i≤xs.length∧l=[(0,.d (aW xs)),(3,.own 0),(4,.d (.int .i64 i))]∧h=⟨[(0,.tree 119 4 GateLedger.n (bc GateLedger.e xs GateLedger.z i))],1,0⟩,
  ⟨_,_,_,⟨0,rfl,Nat.zero_le _,rfl,rfl⟩,rfl,rfl,⟨rfl,rfl,rfl,trivial⟩,⟨rfl,trivial⟩,⟨cM,trivial⟩⟩,?_⟩
 rintro k l h1 ⟨i,rfl,hi,rfl,rfl⟩
 refine aj ?_ ?_<;>intro h1
 ·have hlt:i<xs.length:=V h1
  repeat refine ai ?_
  refine O (e:=GateLedger.e) (xs:=xs) (hlt) rfl ?_
  repeat refine ai ?_
  refine oc (kQ _) ?_
  repeat refine ai ?_
  refine aj (Int.natCast_nonneg _) (aj (by rw[aS hi];omega) ?_)
  repeat refine ai ?_
  refine ⟨_,aT hlt,Nat.le_refl _,?_⟩
  exact ⟨_,_,_,⟨i+1,rfl,hlt,rfl,rfl⟩,by omega,rfl,rfl,⟨rfl,rfl,nd (Z hlt hs),trivial⟩,⟨rfl,trivial⟩,⟨ea hlt rfl,trivial⟩⟩
 ·exact ⟨[some 0],rfl,rfl,⟨eb (Y h1) hi,rfl⟩,trivial⟩
theorem ql (xs:List GatePurse):HSpec P 54 [.d (bo xs)] hp0 (.own 0) ⟨[(0,.tree 109 5 GatePurse.n (xs.map GatePurse.e))],1,0⟩:=by
 refine ax da aw [.tmp 2] Tryz.func54 rfl rfl rfl rfl (fun hok=>?_)
 have hs:xs.length≤big:=by have:=hok.1.1;rwa [List.length_map] at this
 repeat refine ai ?_
 refine aj (Int.natCast_nonneg _) (aj (Int.le_refl _) (aj (dN hs) ?_))
 refine ⟨fun k l h=>∃i:Nat,k=xs.length - i∧i≤xs.length∧l=[(0,.d (bo xs)),(3,.own 0),(4,.d (.int .i64 i))]∧h=⟨[(0,.tree 109 5 GatePurse.n (bc GatePurse.e xs GatePurse.z i))],1,0⟩,
  ⟨_,_,_,⟨0,rfl,Nat.zero_le _,rfl,rfl⟩,rfl,rfl,⟨rfl,rfl,rfl,trivial⟩,⟨rfl,trivial⟩,⟨cM,trivial⟩⟩,?_⟩
 rintro k l h1 ⟨i,rfl,hi,rfl,rfl⟩
 refine aj ?_ ?_<;>intro h1
 ·have hlt:i<xs.length:=V h1
  repeat refine ai ?_
  refine O (e:=GatePurse.e) (xs:=xs) (hlt) rfl ?_
  repeat refine ai ?_
  refine oc (mc _) ?_
  repeat refine ai ?_
  refine aj (Int.natCast_nonneg _) (aj (by rw[aS hi];omega) ?_)
  repeat refine ai ?_
  refine ⟨_,aT hlt,Nat.le_refl _,?_⟩
  exact ⟨_,_,_,⟨i+1,rfl,hlt,rfl,rfl⟩,by omega,rfl,rfl,⟨rfl,rfl,nd (Z hlt hs),trivial⟩,⟨rfl,trivial⟩,⟨ea hlt rfl,trivial⟩⟩
 ·exact ⟨[some 0],rfl,rfl,⟨eb (Y h1) hi,rfl⟩,trivial⟩
set_option maxHeartbeats 2000000 in
theorem vl (x:GateBook):HSpec P 15 [st x.e] hp0 (.agg x.a) ⟨x.o,4,0⟩:=by
 refine ax da aw [.cell 2 48] Tryz.func15 rfl rfl rfl rfl (fun hok=>?_)
 repeat refine ai ?_
 refine ow (pc _) ?_
 repeat refine ai ?_
 refine ow (qn _) ?_
 repeat refine ai ?_
 refine ow (pe _) ?_
 repeat refine ai ?_
 refine ow (ql _) ?_
 repeat refine ai ?_
 exact ⟨[some 3,some 4,some 5,some 6],by (repeat' first|exact rfl|exact trivial|refine aj ?_ ?_)⟩
end Go.Vc
end
section
namespace Go.Vc
open Go.Proofs
set_option maxRecDepth 100000
section
variable {α:Type} {e:α→List D} {xs:List α} {k:Nat}
theorem EL (h:k<xs.length):(xs.map e)[k]? =some (e xs[k]):=by simp[h]
theorem rK {K:Prop} (h:k<xs.length) (q:K):(0:Int)≤(k:Int)∧(k:Int)<(((xs.map e).length:Nat):Int)∧K:=⟨Int.natCast_nonneg _,by rw[List.length_map];omega,q⟩
theorem Dw {K:List D→Prop} (h:k<xs.length) (q:K (e xs[k])):∃r,(xs.map e)[k]? =some r∧K r:=⟨_,EL h,q⟩
theorem vy {t sz:Nat} {fs:List NT} {r:List D} {y:α} (hr:r=e y):some (AO.tree t sz fs ((xs.map e).set k r))=some (AO.tree t sz fs ((xs.set k y).map e)):=by
 rw[hr,List.map_set]
theorem y7 {t sz:Nat} {fs:List NT} {a b:List (List D)} (h:a=b):some (AO.tree t sz fs a)=some (AO.tree t sz fs b):=by rw[h]
end
section
variable {α:Type} {xs:List α} {i q:Nat}
def F0 (xs:List α) (i q:Nat):List α:=(xs.take q).eraseIdx i
theorem GQ:F0 xs i 0=[]:=rfl
theorem G5 (h:xs.length≤q):F0 xs i q=xs.eraseIdx i:=by
 unfold F0
 rw[List.take_of_length_le h]
end
def Bo (g:GateLedger) (n:Int):GateLedger:={g with free:=dA g.free n}
def Hj (b:GateBook) (i k:Nat) (hi:i<b.purses.length) (hk:k<b.ledgers.length):GateBook:=
 {b with ledgers:=b.ledgers.set k (Bo b.ledgers[k] b.purses[i].amount),purses:=b.purses.eraseIdx i}
abbrev Gx (b:GateBook) (t r:Bs):Int:=dB (fun x=>x.team==t&&x.resource==r) b.ledgers
abbrev Gs (b:GateBook) (d t r:Bs):Int:=dB (fun x=>x.door==d&&(x.team==t&&x.resource==r)) b.purses
def Hq (b:GateBook):Prop:=∀p∈b.purses,b.ledgers.any (fun g=>g.team==p.team&&g.resource==p.resource)=true
def Fk (b:GateBook) (i:Nat):GateBook:=match b.purses[i]? with
 |none=>b
 |some p=>match b.ledgers[(Gx b p.team p.resource).toNat]? with
  |none=>b
  |some g=>{b with ledgers:=b.ledgers.set (Gx b p.team p.resource).toNat (Bo g p.amount),purses:=b.purses.eraseIdx i}
def Hw (b:GateBook) (o g l p:Nat):AO:= .cells 48 [.d (.int .i64 b.now),.d (.int .i64 b.tick),.d (.int .i64 b.given),.own o,.own g,.own l,.own p]
def Hy (b:GateBook) (o g l p:Nat):AV:= .agg [.d (.int .i64 b.now),.d (.int .i64 b.tick),.d (.int .i64 b.given),.own o,.own g,.own l,.own p]
def HM (b:GateBook):AO:= .tree 103 7 GateObject.n (b.objects.map GateObject.e)
def HO (b:GateBook):AO:= .tree 173 7 GateGrant.n (b.grants.map GateGrant.e)
def HN (b:GateBook):AO:= .tree 119 4 GateLedger.n (b.ledgers.map GateLedger.e)
def HL (b:GateBook):AO:= .tree 109 5 GatePurse.n (b.purses.map GatePurse.e)
end Go.Vc
end
section
namespace Go.Vc
open Go.Proofs
set_option maxRecDepth 100000
def eT (v:Bool):List D:=[.bool v]
abbrev lB (s:List Bool):D:= .list (s.map eT)
theorem FS (xs:List Bool):∀r∈xs.map eT,kD 1 r:=fun r hr=>by
 obtain ⟨x,_,rfl⟩:=List.mem_map.1 hr
 exact ⟨rfl,fun d hd=>by rw[List.mem_singleton.1 hd];rfl⟩
def q9 (L:GateLaw) (b:GateBook) (y x:Nat):Bool:=match b.objects[y]?,b.objects[x]? with
 |some o,some p=>fe L.shapes o p 1||fe L.shapes o p 3
 |_,_=>false
theorem vX {L:GateLaw} {b:GateBook} {x y:Nat} (hy:y<b.objects.length) (hx:x<b.objects.length):q9 L b y x=(fe L.shapes b.objects[y] b.objects[x] 1||fe L.shapes b.objects[y] b.objects[x] 3):=by
 unfold q9
 rw[List.getElem?_eq_getElem hy,List.getElem?_eq_getElem hx]
def pO (b:GateBook) (x:Nat):Bool:=match b.objects[x]? with|some o=>o.holds.length==0|none=>false
theorem wr {b:GateBook} {x:Nat} (hx:x<b.objects.length):pO b x=(b.objects[x].holds.length==0):=by
 unfold pO
 rw[List.getElem?_eq_getElem hx]
def nM (L:GateLaw) (b:GateBook) (s:List Bool) (x:Nat):Bool:=(List.range b.objects.length).any fun y=> !eW s y&&q9 L b y x
theorem zr {n i:Nat} {f:Nat→Bool} (h:i<n):((List.range n).drop i).any f=(f i||((List.range n).drop (i+1)).any f):=by
 have h':i<(List.range n).length:=by rw[List.length_range];exact h
 rw[gN h',List.getElem_range]
theorem BU {n i:Nat} {f:Nat→Bool} (h:n≤i):((List.range n).drop i).any f=false:=by
 rw[List.drop_of_length_le (by rw[List.length_range];exact h)];rfl
theorem BI (L:GateLaw) (b:GateBook) (s:List Bool) (x:Nat) (hx:x<b.objects.length) (hl:s.length=b.objects.length):Spec P 139 [st L.e,st b.e,.d (lB s),.d (.int .i64 (x:Int))] (.d (.bool (nM L b s x))):=by
 refine Spec.of_vc aJ aw [.tmp 8] Tryz.func139 rfl rfl rfl rfl (fun hok=>?_)
 have hs:b.objects.length≤big:=(bP ⟨hok.2.1,trivial⟩).1
 repeat refine ai ?_
 refine d9 (b.objects) (fun i=>nM L b s x=((List.range b.objects.length).drop i).any (fun y=> !eW s y&&q9 L b y x)) (fun i=>[(2,.d (lB s)),(3,.d (.int .i64 (x:Int))),(4,.ptr 0 0),(5,.ptr 1 0),(9,.d (.int .i64 i))]) (fun i=>⟨[(1,.cells 48 (b.e.map .d)),(0,.cells 41 (L.e.map .d))],2,0⟩) (rfl) ?_
 intro i hi hr
 repeat refine ai ?_
 refine aj ?_ ?_<;>intro h1
 ·have hlt:i<b.objects.length:=V h1
  have hlt2:i<s.length:=by omega
  rw[zr hlt,gf hlt2,vX hlt hx] at hr
  repeat refine ai ?_
  refine O (e:=eT) (xs:=s) (hlt2) rfl ?_
  repeat refine ai ?_
  refine aj ?_ ?_<;>intro c1
  ·repeat refine ai ?_
   refine oc (nP L b i x hlt hx 1) ?_
   repeat refine ai ?_
   refine aj ?_ ?_<;>intro c2
   ·repeat refine ai ?_
    refine oc (nP L b i x hlt hx 3) ?_
    repeat refine ai ?_
    refine aj ?_ ?_<;>intro c3
    ·refine bd ?_
     rw[hr,c1,c2,c3];rfl
    ·repeat refine ai ?_
     exact bL hlt hs (by rw[hr,c1,c2,c3];rfl)
   ·refine bd ?_
    rw[hr,c1,c2];rfl
  ·repeat refine ai ?_
   exact bL hlt hs (by rw[hr,c1];rfl)
 ·refine bd ?_
  rw[hr,BU (Y h1)]
theorem Av {k:Nat} (h:k≤big+1):IntKind.i64.wrap ((k:Int)+1)=((k+1:Nat):Int):=by
 unfold big at h
 rw[IntKind.wrap_i64]
 omega
section
variable {n:Nat} {nm:Nat→Nat→Bool}
structure Gj (n:Nat) (nm:Nat→Nat→Bool) (I0 I S:Nat→Bool):Prop where
 sub:∀x,x<n→S x=true→I0 x=true
 big:∀x,x<n→lK n nm I x=true→S x=true
variable {I0 I S S':Nat→Bool}
theorem Gj.out (g:Gj n nm I0 I S) {x y:Nat} (hx:x<n) (hy:y<n) (hn:S y=false) (h:nm y x=true):lK n nm I x=false:=by
 cases hg:lK n nm I x with
 |false=>rfl
 |true=>
  have:lK n nm I y=false:=by
   cases h2:lK n nm I y with
   |false=>rfl
   |true=>rw[g.big y hy h2] at hn;cases hn
  rw[yv x hx hg y hy this] at h
  cases h
theorem Gj.drop (g:Gj n nm I0 I S) {x:Nat} (hg:lK n nm I x=false) (h:∀z,S' z=(S z&& !(z==x))):Gj n nm I0 I S':=by
 refine ⟨fun z hz hs=>?_,fun z hz hs=>?_⟩
 ·rw[h,Bool.and_eq_true] at hs
  exact g.sub z hz hs.1
 ·rw[h,g.big z hz hs,Bool.true_and]
  cases e:z==x with
  |false=>rfl
  |true=>rw[beq_iff_eq] at e;subst e;rw[hg] at hs;cases hs
theorem Gj.done (g:Gj n nm I0 I S) (hs:At n nm S) (hi:∀x,x<n→S x=true→I x=true) {x:Nat} (hx:x<n):S x=lK n nm I x:=by
 cases h:S x with
 |false=>
  cases h2:lK n nm I x with
  |false=>rfl
  |true=>rw[g.big x hx h2] at h;cases h
 |true=>exact (gst_iff.2 ⟨S,hs,hi,h⟩).symm
end
noncomputable def Cg (L:GateLaw) (b:GateBook) (s:List Bool):List Bool:=(List.range b.objects.length).map (lK b.objects.length (q9 L b) fun x=>eW s x&&pO b x)
def o7 (L:GateLaw) (b:GateBook) (s:List Bool) (x:Nat):Prop:=eW s x=true→pO b x=true∧nM L b s x=false
section
variable {L:GateLaw} {b:GateBook} {s0 s:List Bool}
theorem BD {x:Nat} (h:nM L b s x=true):∃y,y<b.objects.length∧eW s y=false∧q9 L b y x=true:=by
 obtain ⟨y,hy,h⟩:=List.any_eq_true.1 h
 rw[Bool.and_eq_true,Bool.not_eq_true'] at h
 exact ⟨y,List.mem_range.1 hy,h.1,h.2⟩
theorem Cj (hl:s.length=b.objects.length) (g:Gj b.objects.length (q9 L b) (eW s0) (fun x=>eW s0 x&&pO b x) (eW s)) (hf:∀x,x<b.objects.length→o7 L b s x):s=Cg L b s0:=by
 have hs:At b.objects.length (q9 L b) (eW s):=by
  intro x hx h y hy hn
  cases e:q9 L b y x with
  |false=>rfl
  |true=>
   have:=(hf x hx h).2
   unfold nM at this
   rw[List.any_eq_false] at this
   exact absurd (by rw[hn,e];rfl) (this y (List.mem_range.2 hy))
 have hd:∀x,x<b.objects.length→eW s x=lK b.objects.length (q9 L b) (fun x=>eW s0 x&&pO b x) x:=fun x hx=>g.done hs (fun z hz h=>by rw[Bool.and_eq_true];exact ⟨g.sub z hz h,(hf z hz h).1⟩) hx
 refine List.ext_getElem (by simp[Cg,hl]) (fun i h1 h2=>?_)
 rw[←gf h1,hd i (by omega)]
 simp[Cg]
structure Rnd (L:GateLaw) (b:GateBook) (s0 s s':List Bool) (i:Nat):Prop where
 len:s'.length=b.objects.length
 gj:Gj b.objects.length (q9 L b) (eW s0) (fun x=>eW s0 x&&pO b x) (eW s')
 less:(s'=s∧∀x,x<i→o7 L b s x)∨s'.count true<s.count true
 fix:(∀x,x<b.objects.length→o7 L b s x)→s'=s
theorem Rnd.keep {s':List Bool} {i:Nat} (r:Rnd L b s0 s s' i) (hf:o7 L b s' i):Rnd L b s0 s s' (i+1):=by
 refine ⟨r.len,r.gj,?_,r.fix⟩
 rcases r.less with ⟨e,h⟩|h
 ·refine .inl ⟨e,fun x hx=>?_⟩
  rcases Nat.lt_succ_iff_lt_or_eq.1 hx with g|g
  ·exact h x g
  ·rw[g,←e];exact hf
 ·exact .inr h
theorem Rnd.drop {s':List Bool} {i:Nat} (r:Rnd L b s0 s s' i) (hi:i<b.objects.length) (hb:eW s' i=true) (hn:pO b i=false∨nM L b s' i=true):Rnd L b s0 s (s'.set i false) (i+1):=by
 have hi':i<s'.length:=by rw[r.len];exact hi
 have hg:lK b.objects.length (q9 L b) (fun x=>eW s0 x&&pO b x) i=false:=by
  rcases hn with hn|hn
  ·cases e:lK b.objects.length (q9 L b) (fun x=>eW s0 x&&pO b x) i with
   |false=>rfl
   |true=>
    have:=zV hi e
    simp only[hn,Bool.and_false] at this
    cases this
  ·obtain ⟨y,h1,h2,h3⟩:=BD hn
   exact r.gj.out hi h1 h2 h3
 have hc:=uz hi' (by rw[←gf hi'];exact hb)
 have hle:s'.count true≤s.count true:=by
  rcases r.less with ⟨e,_⟩|h
  ·rw[e];exact Nat.le_refl _
  ·omega
 refine ⟨by rw[List.length_set];exact r.len,r.gj.drop hg (fun z=>E5 hi'),.inr (by omega),fun hf=>?_⟩
 exfalso
 have e:=r.fix hf
 subst e
 obtain ⟨g1,g2⟩:=hf i hi hb
 rcases hn with hn|hn
 ·rw[g1] at hn;cases hn
 ·rw[g2] at hn;cases hn
end
noncomputable def He (L:GateLaw) (b:GateBook):List Int:=bif ge L b then bO (fun v=>v) (Cg L b (b.objects.map GateObject.ending)) 0 else []
end Go.Vc
end
section
namespace Go.Vc
open Go.Proofs
set_option maxRecDepth 100000
theorem FB {A B:Prop} (h:B):(false=true→A)∧B:=⟨fun g=>(by cases g),h⟩
theorem og (L:GateLaw) (o to:GateObject) (role:Int):Spec P 77 [st L.e,st o.e,st to.e,.d (.int .i64 role)] (.d (.bool (fe L.shapes o to role))):=by
 refine Spec.of_vc aJ aw [.cell 8 4] Tryz.func77 rfl rfl rfl rfl (fun hok=>?_)
 repeat refine ai ?_
 refine oc (pN _ _) ?_
 repeat refine ai ?_
 refine ⟨(cl L.shapes o).map fO,fun k=>∀p,(cl L.shapes o)[k]? =some p→ii o to role p=false,nc L o _,?_,?_,?_⟩
 ·intro X hX x hx
  obtain ⟨p,_,rfl⟩:=List.mem_map.1 hX
  obtain ⟨A,c,rfl⟩:=dd hx
  rfl
 ·intro k X hX x hx
  obtain ⟨p,hp,hpm,rfl⟩:=ky hX
  obtain ⟨A,c,rfl⟩:=dd hx
  have hpl:=jd hpm
  have hpn:ii o to role p=(p.2.role==role&&(p.2.to_==to.kind&&o.values[p.1]==to.name)):=by simp only[ii,ga hpl]
  repeat refine ai ?_
  refine ⟨[(5,.ptr 1 0),(6,.ptr 2 0),(7,.ptr 3 0),(8,.ptr 4 0),(9,.d (.int .i64 p.1)),(10,.at_ [.str p.2.name,.int .i64 p.2.kind,.int .i64 p.2.least,.int .i64 p.2.most,.raw (.slice A (p.2.words.map eB).length c),.str p.2.to_,.int .i64 p.2.role,.bool p.2.must,.bool p.2.fixed,.str p.2.default_,.str p.2.weighs])],⟨rfl,rfl,⟨rfl,rfl,rfl,rfl,rfl,.inr ⟨_,_,_,_,rfl,Nat.le_of_ble_eq_true rfl,rfl,rfl,rfl⟩,trivial⟩,?_,?_⟩,?_⟩
  ·repeat' first|exact rfl|exact trivial|refine aj ?_ ?_
  ·repeat' first|exact rfl|exact trivial|refine aj ?_ ?_
  repeat refine ai ?_
  refine ak ?_
  repeat refine ai ?_
  refine aj ?_ ?_<;>intro d1
  ·repeat refine ai ?_
   refine aj ?_ ?_<;>intro d2
   ·repeat refine ai ?_
    refine O (e:=eB) (xs:=o.values) (hpl) rfl ?_
    repeat refine ai ?_
    refine aj ?_ ?_<;>intro d3
    ·repeat refine ai ?_
     refine bd ?_
     simp only[cond_true] at d2 d3
     exact (List.any_eq_true.2 ⟨p,hpm,show ii o to role p=true by rw[hpn];simp only[d1,d2,d3,Bool.and_self]⟩).symm
    ·try simp only[cond_true] at*
     repeat' first
      |refine ai ?_
      |refine FB (fun _=>?_)
     refine ⟨fun p' hp'=>?_,rfl,rfl,trivial,?_,?_⟩
     ·rw[hp] at hp'
      cases hp'
      rw[hpn]
      simp only[d3,bl]
     ·repeat' first|exact rfl|exact trivial|refine aj ?_ ?_
     ·repeat' first|exact rfl|exact trivial|refine aj ?_ ?_
   ·try simp only[cond_true] at*
    repeat' first
     |refine ai ?_
     |refine FB (fun _=>?_)
    refine ⟨fun p' hp'=>?_,rfl,rfl,trivial,?_,?_⟩
    ·rw[hp] at hp'
     cases hp'
     rw[hpn]
     simp only[d2,bl]
    ·repeat' first|exact rfl|exact trivial|refine aj ?_ ?_
    ·repeat' first|exact rfl|exact trivial|refine aj ?_ ?_
  ·try simp only[cond_true] at*
   repeat' first
    |refine ai ?_
    |refine FB (fun _=>?_)
   refine ⟨fun p' hp'=>?_,rfl,rfl,trivial,?_,?_⟩
   ·rw[hp] at hp'
    cases hp'
    rw[hpn]
    simp only[d1,bl]
   ·repeat' first|exact rfl|exact trivial|refine aj ?_ ?_
   ·repeat' first|exact rfl|exact trivial|refine aj ?_ ?_
 ·intro hall
  have hal:fe L.shapes o to role=false:=by
   unfold fe
   rw[List.any_eq_false]
   intro p hp
   obtain ⟨k,hk,rfl⟩:=List.getElem_of_mem hp
   rw[hall k (by rw[List.length_map];exact hk) _ (List.getElem?_eq_getElem hk)]
   simp
  rw[hal]
  repeat refine ai ?_
  exact rfl
end Go.Vc
end
section
namespace Go.Vc
open Go.Proofs
set_option maxRecDepth 100000
end Go.Vc
end
section
namespace Go.Vc
open Go.Proofs
set_option maxRecDepth 100000
end Go.Vc
end
section
namespace Go.Vc
open Go.Proofs
set_option maxRecDepth 100000
end Go.Vc
end
section
namespace Go.Vc
open Go.Proofs
set_option maxRecDepth 100000
def Fe:GateBook:=⟨0,0,0,[],[],[],[]⟩
def Hx (L:GateLaw) (b:GateBook) (d t r:Bs):GateBook×Int:=bif ge L b then (bif decide (Gs b d t r≥0) then (Fk b (Gs b d t r).toNat,0) else (b,2)) else (Fe,1)
end Go.Vc
end
section
namespace Go.Vc
open Go.Proofs
set_option maxRecDepth 100000
section
variable {A:Type} {σ:Env} {h:Heap} {c:En} {Q:Exit→Env→Heap→Prop}
def D1 (J:Nat→A→Prop) (f:Nat→A→List (Nat×AV)) (g:Nat→A→Heap) (m:Nat) (l:List (Nat×AV)) (h:Heap):Prop:=∃a,J m a∧l=f m a∧h=g m a
theorem HD (n:Nat) (J:Nat→A→Prop) (f:Nat→A→List (Nat×AV)) (g:Nat→A→Heap) (a:A) (j:J n a) (H:∀m a,J m a→c (Env.of (f m a)) (g m a) (vH (D1 J f g) m Q))
 (w:iJ σ h (f n a) (g n a)):uU c σ h Q:=
 ⟨D1 J f g,⟨_,_,_,⟨a,j,rfl,rfl⟩,w⟩,fun _ _ _ ⟨a,hj,el,eh⟩=>by subst el eh;exact H _ a hj⟩
theorem HB {J:Nat→A→Prop} {f:Nat→A→List (Nat×AV)} {g:Nat→A→Heap} {m m':Nat} (a:A) (ht:m'<m) (j:J m' a) (w:iJ σ h (f m' a) (g m' a)):∃k' l' h'',D1 J f g k' l' h''∧k'<m∧iJ σ h l' h'':=
 ⟨m',_,_,⟨a,j,rfl,rfl⟩,ht,w⟩
end
def pm (m:Nat):Int:=(m:Int) - 1
theorem GY (m:Nat):pm (m+1)=(m:Int):=by unfold pm;omega
def Fc:Nat→GateBook→GateBook
 |0,b=>b
 |m+1,b=>Fc m (bif (match b.purses[m]? with|some p=>decide (p.until_<b.tick)|none=>false) then Fk b m else b)
def Hr (L:GateLaw) (b:GateBook):GateBook×Int:=bif ge L b then (bif b.tick==1000000 then (b,2) else (Fc b.purses.length {b with tick:=dA b.tick 1},0)) else (Fe,1)
end Go.Vc
end
section
namespace Go.Vc
open Go.Proofs
set_option maxRecDepth 100000
def cb (x:Nat):List D×AV:=([.int .i64 (x:Int)],.d (.int .i64 1))
theorem FO (x y:Nat):cL [.int .i64 (x:Int)] [.int .i64 (y:Int)]=(x==y):=by
 show (eI .i64 .i64&&((x:Int)==(y:Int)))=(x==y)
 rw[show eI .i64 .i64=true from rfl,Bool.true_and,Bool.eq_iff_iff,beq_iff_eq,beq_iff_eq]
 omega
theorem A3:∀(l:List Nat) (x:Nat),aq (l.map cb) [.int .i64 (x:Int)]=if x∈l then some (.d (.int .i64 1)) else none
 |[],x=>rfl
 |y::l,x=>by
  simp only[List.map_cons,cb,aq,FO]
  by_cases e:x=y
  ·subst e;simp
  ·rw[show (x==y)=false from by rw[beq_eq_false_iff_ne];exact e]
   have:=A3 l x
   rw[this]
   simp[e]
theorem GP:∀(l:List Nat) (x:Nat),eG (l.map cb) [.int .i64 (x:Int)]=(l.erase x).map cb
 |[],x=>rfl
 |y::l,x=>by
  simp only[List.map_cons,cb,eG,FO]
  by_cases e:x=y
  ·subst e;simp
  ·rw[show (x==y)=false from by rw[beq_eq_false_iff_ne];exact e]
   have:=GP l x
   simp only[this]
   rw[List.erase_cons_tail (by rw[beq_iff_eq];exact fun h=>e h.symm)]
   rfl
theorem Gr:∀(l:List Nat) (x:Nat),x ∉ l→bn (l.map cb) [.int .i64 (x:Int)] (.d (.int .i64 1))=(l++[x]).map cb
 |[],x,_=>rfl
 |y::l,x,h=>by
  simp only[List.map_cons,cb,bn,FO,List.cons_append]
  rw[show (x==y)=false from by rw[beq_eq_false_iff_ne];rintro rfl;exact h List.mem_cons_self]
  have:=Gr l x (fun g=>h (List.mem_cons_of_mem _ g))
  simp only[this]
theorem nA:∀(m:Nat) (l:List Nat),Ek m (l.map cb)
 |_,[]=>trivial
 |m,x::l=>⟨rfl,nA m l⟩
theorem yf (f:Nat→Option Nat):∀l:List Nat,mY f (l.map cb)=l.map cb
 |[]=>rfl
 |x::l=>by
  have:=yf f l
  simp only[List.map_cons,cb,mY,AV.map] at this ⊢
  rw[this]
theorem Ff (f g:Nat→Option Nat) (l:List Nat):mY f (mY g (l.map cb))=l.map cb:=by rw[yf,yf]
structure Ordn (n:Nat) (o:List Nat):Prop where
 nd:o.Nodup
 all:∀x,x∈o↔x<n
theorem Ordn.range (n:Nat):Ordn n (List.range n):=⟨List.nodup_range,fun _=>List.mem_range⟩
def fl (o:List Nat) (p:Nat→Bool):List Nat:=o.filter p
section
variable {n:Nat} {o:List Nat} (on:Ordn n o)
include on
theorem Aa {x:Nat} {p:Nat→Bool} (h:x<n):x∈fl o p↔p x=true:=by
 simp[fl,(on.all x).2 h]
theorem Be {x:Nat} {p:Nat→Bool} (h:x<n):aq ((fl o p).map cb) [.int .i64 (x:Int)]=bif p x then some (.d (.int .i64 1)) else none:=by
 rw[A3]
 cases e:p x with
 |true=>rw[if_pos ((Aa on h).2 e)];rfl
 |false=>rw[if_neg (fun g=>by rw[(Aa on h).1 g] at e;cases e)];rfl
omit on
def nj (p:Nat→Bool) (x:Nat):Nat→Bool:=fun z=>p z&& !(z==x)
include on
theorem Ab {x:Nat} {p:Nat→Bool}:eG ((fl o p).map cb) [.int .i64 (x:Int)]=(fl o (nj p x)).map cb:=by
 rw[GP]
 unfold fl
 rw[ni on.nd]
 rfl
theorem Bf {x:Nat} {p:Nat→Bool} (h:x<n) (hp:p x=true):(fl o (nj p x)).length+1=(fl o p).length:=by
 have:=Cm (l:=fl o p) (x:=x) ((Aa on h).2 hp)
 unfold fl at this ⊢
 rw[ni on.nd] at this
 exact this
theorem rx {x:Nat} {p:Nat→Bool} {K:Option AV→Prop} (h:x<n) (hp:p x=true) (k:K (some (.d (.int .i64 1)))):∃r,aq ((fl o p).map cb) [.int .i64 (x:Int)]=r∧K r:=⟨_,by rw[Be on h,hp];rfl,k⟩
theorem wd {x:Nat} {p:Nat→Bool} {K:Option AV→Prop} (h:x<n) (hp:p x=false) (k:K none):∃r,aq ((fl o p).map cb) [.int .i64 (x:Int)]=r∧K r:=⟨_,by rw[Be on h,hp];rfl,k⟩
end
section
variable {L:GateLaw} {b:GateBook} {I:Nat→Bool} {o:List Nat}
noncomputable abbrev GH (L:GateLaw) (b:GateBook) (I:Nat→Bool):Nat→Bool:=lK b.objects.length (q9 L b) I
def G0 (L:GateLaw) (b:GateBook) (p:Nat→Bool) (x:Nat):Prop:=p x=true→∀y,y<b.objects.length→p y=false→q9 L b y x=false
structure Rnk (L:GateLaw) (b:GateBook) (o:List Nat) (I p0 p:Nat→Bool) (ag:Bool) (q:Nat):Prop where
 gi:Gi b.objects.length (q9 L b) I p
 no:ag=false→p=p0∧∀z,z<q→G0 L b p z
 yes:ag=true→(fl o p).length<(fl o p0).length
theorem Rnk.keep {p0 p:Nat→Bool} {ag:Bool} {q:Nat} (r:Rnk L b o I p0 p ag q) (h:G0 L b p q):Rnk L b o I p0 p ag (q+1):=
 ⟨r.gi,fun e=>⟨(r.no e).1,fun z hz=>by
   rcases Nat.lt_succ_iff_lt_or_eq.1 hz with g|g
   ·exact (r.no e).2 z g
   ·rw[g];exact h⟩,r.yes⟩
theorem Rnk.drop (on:Ordn b.objects.length o) {p0 p:Nat→Bool} {ag:Bool} {q y:Nat} (r:Rnk L b o I p0 p ag q) (hq:q<b.objects.length) (hp:p q=true) (hy:y<b.objects.length) (hn:p y=false) (h:q9 L b y q=true):Rnk L b o I p0 (nj p q) true (q+1):=by
 have hl:=Bf on hq hp
 refine ⟨r.gi.drop (fun _=>r.gi.out hq hy hn h) (fun z=>rfl),fun e=>(by cases e),fun _=>?_⟩
 cases ag with
 |true=>have:=r.yes rfl;omega
 |false=>rw[←(r.no rfl).1];omega
theorem Dn (on:Ordn b.objects.length o) {p:Nat→Bool} (g:Gi b.objects.length (q9 L b) I p) (h:∀z,z<b.objects.length→G0 L b p z):fl o p=fl o (GH L b I):=by
 have hs:At b.objects.length (q9 L b) p:=fun x hx hp y hy hn=>h x hx hp y hy hn
 unfold fl
 refine List.filter_congr (fun x hx=>?_)
 exact g.done hs ((on.all x).1 hx)
end
def Hb (ag:Bool):Nat:=bif ag then 1 else 0
set_option maxHeartbeats 2000000 in
theorem EU (L:GateLaw) (b:GateBook) (o:List Nat) (on:Ordn b.objects.length o) (I:Nat→Bool) (tk:TK) (htk:tk.base= .int .i64):FSpec P 79 [st L.e,st b.e,.mapr 0] ⟨[(0,.map 99 tk ((fl o I).map cb))],1,1⟩ (.mapr 0) ⟨[(0,.map 99 (.del (.int .i64)) ((fl o (GH L b I)).map cb))],1,1⟩:=by
 refine FSpec.of_vc da aw [.tmp 6] Tryz.func79 rfl rfl rfl rfl rfl (fun hok hob=>?_)
 have hs:b.objects.length≤big:=(bP ⟨hok.2.1,trivial⟩).1
 repeat refine ai ?_
 refine HD (2*(fl o I).length+1) (fun m (a:(Nat→Bool)×Bool)=>m=2*(fl o a.1).length+Hb a.2∧Gi b.objects.length (q9 L b) I a.1∧(a.2=false→∀z,z<b.objects.length→G0 L b a.1 z)) (fun m a=>[(2,.mapr 0),(3,.ptr 1 0),(4,.ptr 2 0),(7,.d (.bool a.2))]) (fun m a=>⟨[(0,.map 99 (.del (.int .i64)) ((fl o a.1).map cb)),(2,.cells 48 (b.e.map .d)),(1,.cells 41 (L.e.map .d))],3,1⟩)
  (I,true) ⟨rfl,Gi.start,fun e=>by cases e⟩ ?_ (by repeat' first|exact rfl|exact trivial|exact htk|exact nA _ _|refine aj ?_ ?_)
 intro m a hJ
 obtain ⟨p0,ag0⟩:=a
 obtain ⟨hm,hg,hc⟩:=hJ
 dsimp only at hm hg hc ⊢
 cases ag0 with
 |false=>
  rw[←Dn on hg (hc rfl)]
  repeat refine ai ?_
  refine an ?_
  repeat refine ai ?_
  all_goals (repeat' first|exact rfl|exact trivial|exact nA _ _|refine aj ?_ ?_)
 |true=>
  repeat refine ai ?_
  refine ay ?_
  refine ⟨I2 b.objects (fun q p ag=>Rnk L b o I p0 p ag q) (fun q p ag=>[(2,.mapr 0),(3,.ptr 1 0),(4,.ptr 2 0),(7,.d (.bool ag)),(14,.d (.int .i64 (b.objects.map GateObject.e).length)),(15,.d (.int .i64 q))]) (fun q p ag=>⟨[(0,.map 99 (.del (.int .i64)) ((fl o p).map cb)),(2,.cells 48 (b.e.map .d)),(1,.cells 41 (L.e.map .d))],3,1⟩),⟨_,_,_,⟨0,p0,false,rfl,Nat.zero_le _,(show Rnk L b o I p0 p0 false 0 from ⟨hg,fun _=>⟨rfl,fun z hz=>absurd hz (Nat.not_lt_zero _)⟩,fun e=>by cases e⟩),rfl,rfl⟩,by repeat' first|exact rfl|exact trivial|exact nA _ _|refine aj ?_ ?_⟩,?_⟩
  rintro m' l' hh ⟨q,p,ag,rfl,hq,hr,rfl,rfl⟩
  have hR:=hr
  repeat refine ai ?_
  refine aj ?_ ?_<;>intro h1
  ·have hlq:q<b.objects.length:=V h1
   cases hp:p q with
   |false=>
    repeat refine ai ?_
    refine wd on hlq hp ?_
    repeat refine ai ?_
    refine ay ?_
    repeat refine ai ?_
    exact G1 p ag hlq hs (hR.keep (fun h=>by rw[hp] at h;cases h)) fun hw=>by repeat' first|exact rfl|exact trivial|exact nd hw|exact nA _ _|refine aj ?_ ?_
   |true=>
    repeat refine ai ?_
    refine rx on hlq hp ?_
    repeat refine ai ?_
    refine an ?_
    repeat refine ai ?_
    refine ⟨I0 b.objects (fun i=>∀z,z<i→p z=false→q9 L b z q=false) (fun i=>[(2,.mapr 0),(3,.ptr 1 0),(4,.ptr 2 0),(7,.d (.bool ag)),(8,.d (.int .i64 q)),(14,.d (.int .i64 (b.objects.map GateObject.e).length)),(15,.d (.int .i64 q)),(23,.d (aE b.objects)),(24,.d (.int .i64 (b.objects.map GateObject.e).length)),(25,.d (.int .i64 i))]) (fun i=>⟨[(0,.map 99 (.del (.int .i64)) ((fl o p).map cb)),(2,.cells 48 (b.e.map .d)),(1,.cells 41 (L.e.map .d))],3,1⟩),⟨_,_,_,⟨0,rfl,Nat.zero_le _,(fun z hz=>absurd hz (Nat.not_lt_zero _)),rfl,rfl⟩,by repeat' first|exact rfl|exact trivial|exact nA _ _|refine aj ?_ ?_⟩,?_⟩
    rintro m' l' hh ⟨i,rfl,hi,hr,rfl,rfl⟩
    repeat refine ai ?_
    refine aj ?_ ?_<;>intro h2
    ·have hlt:i<b.objects.length:=V h2
     repeat refine ai ?_
     refine O (e:=GateObject.e) (xs:=b.objects) (hlt) rfl ?_
     repeat refine ai ?_
     refine ak ?_
     repeat refine ai ?_
     cases hy:p i with
     |true=>
      refine rx on hlt hy ?_
      repeat refine ai ?_
      refine an ?_
      repeat refine ai ?_
      refine an ?_
      repeat refine ai ?_
      exact bL hlt hs (fun z hz hz2=>(Nat.lt_succ_iff_lt_or_eq.1 hz).elim (fun g=>hr z g hz2) (fun g=>by rw[g,hy] at hz2;cases hz2)) fun hw=>by repeat' first|exact rfl|exact trivial|exact nd hw|exact nA _ _|refine aj ?_ ?_
     |false=>
      refine wd on hlt hy ?_
      repeat refine ai ?_
      refine ay ?_
      repeat refine ai ?_
      refine O (e:=GateObject.e) (xs:=b.objects) (hlq) rfl ?_
      repeat refine ai ?_
      refine oc (og L _ _ 1) ?_
      repeat refine ai ?_
      refine aj ?_ ?_<;>intro c1
      ·repeat refine ai ?_
       refine O (e:=GateObject.e) (xs:=b.objects) (hlq) rfl ?_
       repeat refine ai ?_
       refine oc (og L _ _ 3) ?_
       repeat refine ai ?_
       refine aj ?_ ?_<;>intro c2
       ·have c2:fe L.shapes b.objects[i] b.objects[q] 3=true:=c2
        repeat refine ai ?_
        exact G1 (nj p q) true hlq hs (hR.drop on hlq hp hlt hy (by rw[vX hlt hlq,c2,Bool.or_true])) fun hw=>by repeat' first|exact rfl|exact trivial|exact nd hw|exact nA _ _|exact Ab on|refine aj ?_ ?_
       ·have c2:fe L.shapes b.objects[i] b.objects[q] 3=false:=c2
        repeat refine ai ?_
        exact bL hlt hs (fun z hz hz2=>(Nat.lt_succ_iff_lt_or_eq.1 hz).elim (fun g=>hr z g hz2) (fun g=>by rw[g,vX hlt hlq,c1,c2];rfl)) fun hw=>by repeat' first|exact rfl|exact trivial|exact nd hw|exact nA _ _|refine aj ?_ ?_
      ·repeat refine ai ?_
       refine ay ?_
       repeat refine ai ?_
       exact G1 (nj p q) true hlq hs (hR.drop on hlq hp hlt hy (by rw[vX hlt hlq,c1,Bool.true_or])) fun hw=>by repeat' first|exact rfl|exact trivial|exact nd hw|exact nA _ _|exact Ab on|refine aj ?_ ?_
    ·repeat refine ai ?_
     exact G1 p ag hlq hs (hR.keep (fun _ y hy hn=>hr y (by have:=Y h2;omega) hn)) fun hw=>by repeat' first|exact rfl|exact trivial|exact nd hw|exact nA _ _|refine aj ?_ ?_
  ·have hge:=Y h1
   repeat refine ai ?_
   refine HB (p,ag) ?_ ⟨rfl,hR.gi,fun e z hz=>(hR.no e).2 z (by omega)⟩ (by repeat' first|exact rfl|exact trivial|exact nA _ _|refine aj ?_ ?_)
   rw[hm]
   dsimp only
   cases ag with
   |false=>rw[(hR.no rfl).1];simp only[Hb,cond_true,cond_false];omega
   |true=>have:=hR.yes rfl;simp only[Hb,cond_true];omega
theorem DS (b:GateBook) (t:Nat) (tk:TK) (htk:tk.base= .int .i64) (o:List Nat) (on:Ordn b.objects.length o) (p:Nat→Bool):FSpec P 78 [st b.e,.mapr 0] ⟨[(0,.map 99 (.del (.int .i64)) ((fl o p).map cb))],1,1⟩ (.own 2) ⟨[(0,.map 99 (.del (.int .i64)) ((fl o p).map cb)),(2,.tree 3 1 [.leaf] ((bO (fun v=>v) ((List.range b.objects.length).map p) 0).map eN))],3,1⟩:=by
 refine FSpec.of_vc da aw [.tmp 4] Tryz.func78 rfl rfl rfl rfl rfl (fun hok hob=>?_)
 have hs:b.objects.length≤big:=(bP ⟨hok.1,trivial⟩).1
 have hlen:((List.range b.objects.length).map p).length=b.objects.length:=by rw[List.length_map,List.length_range]
 repeat refine ai ?_
 refine ⟨I1 b.objects (fun i (ns:List Int)=>bO (fun v=>v) ((List.range b.objects.length).map p) 0=ns++bO (fun v=>v) (((List.range b.objects.length).map p).drop i) i∧ns.length≤i) (fun i ns=>[(1,.mapr 0),(5,.own 2),(9,.d (.int .i64 (b.objects.map GateObject.e).length)),(10,.d (.int .i64 i))]) (fun i ns=>⟨[(0,.map 99 (.del (.int .i64)) ((fl o p).map cb)),(2,.tree 3 1 [.leaf] (ns.map eN))],3,1⟩),⟨_,_,_,⟨0,[],rfl,Nat.zero_le _,⟨rfl,Nat.zero_le _⟩,rfl,rfl⟩,by repeat' first|exact rfl|exact trivial|exact nA _ _|refine aj ?_ ?_⟩,?_⟩
 rintro m l hh ⟨i,ns,rfl,hi,hr,rfl,rfl⟩
 obtain ⟨ho,hn⟩:=hr
 repeat refine ai ?_
 refine aj ?_ ?_<;>intro h1
 ·have hlt:i<b.objects.length:=V h1
  rw[mL (by rw[hlen];exact hlt),List.getElem_map,List.getElem_range] at ho
  cases hp:p i with
  |true=>
   rw[hp,cond_true] at ho
   repeat refine ai ?_
   refine rx on hlt hp ?_
   repeat refine ai ?_
   refine ay ?_
   repeat refine ai ?_
   refine aj trivial ?_
   repeat refine ai ?_
   refine aj (by simp only[List.length_append,List.length_nil,List.length_cons,List.length_map] at*;unfold big at*;omega) ?_
   repeat refine ai ?_
   exact cQ (ns++[(i:Int)]) hlt hs ⟨by rw[ho,List.append_assoc];rfl,by rw[List.length_append];simp only[List.length_cons,List.length_nil];omega⟩ fun hw=>by repeat' first|exact rfl|exact trivial|exact nd hw|exact nA _ _|exact (y7 (by rw[List.map_append];rfl))|exact Ff _ _ _|refine aj ?_ ?_
  |false=>
   rw[hp,cond_false] at ho
   repeat refine ai ?_
   refine wd on hlt hp ?_
   repeat refine ai ?_
   refine an ?_
   repeat refine ai ?_
   exact cQ ns hlt hs ⟨ho,by omega⟩ fun hw=>by repeat' first|exact rfl|exact trivial|exact nd hw|exact nA _ _|refine aj ?_ ?_
 ·rw[ho,oQ (by rw[hlen];exact Y h1),List.append_nil]
  repeat refine ai ?_
  all_goals (repeat' first|exact rfl|exact trivial|exact nA _ _|refine aj ?_ ?_)
theorem DR (L:GateLaw) (b:GateBook) (o:List Nat) (on:Ordn b.objects.length o) (I:Nat→Bool) (tk:TK) (htk:tk.base= .int .i64) (es:List (List D×AV)) (he:es=(fl o I).map cb):FSpec P 79 [st L.e,st b.e,.mapr 0] ⟨[(0,.map 99 tk es)],1,1⟩ (.mapr 0) ⟨[(0,.map 99 (.del (.int .i64)) ((fl o (GH L b I)).map cb))],1,1⟩:=by
 rw[he];exact EU L b o on I tk htk
theorem Cl (b:GateBook) (o:List Nat) (on:Ordn b.objects.length o) (p:Nat→Bool) (es:List (List D×AV)) (he:es=(fl o p).map cb):FSpec P 78 [st b.e,.mapr 0] ⟨[(0,.map 99 (.del (.int .i64)) es)],1,1⟩ (.own 2) ⟨[(0,.map 99 (.del (.int .i64)) es),(2,.tree 3 1 [.leaf] ((bO (fun v=>v) ((List.range b.objects.length).map p) 0).map eN))],3,1⟩:=by
 rw[he];exact DS b 0 (.int .i64) rfl o on p
end Go.Vc
end
section
namespace Go.Vc
section
variable {n:Nat} {nm:Nat→Nat→Bool}
def CB (n:Nat) (nm:Nat→Nat→Bool) (C:Nat→Bool):Prop:=∀k,k<n→C k=true→∀i,i<n→nm i k=true→C i=true
open Classical in
noncomputable def BT (n:Nat) (nm:Nat→Nat→Bool) (I:Nat→Bool) (x:Nat):Bool:=decide (∀C,CB n nm C→(∀z,z<n→I z=true→C z=true)→C x=true)
theorem rch_iff {I:Nat→Bool} {x:Nat}:BT n nm I x=true↔∀C,CB n nm C→(∀z,z<n→I z=true→C z=true)→C x=true:=by
 unfold BT
 exact @decide_eq_true_iff _ (Classical.propDecidable _)
theorem tU {I:Nat→Bool} {x:Nat} (hx:x<n) (h:I x=true):BT n nm I x=true:=rch_iff.2 fun _ _ h2=>h2 x hx h
theorem AI {I:Nat→Bool}:CB n nm (BT n nm I):=fun k hk h i hi hn=>rch_iff.2 fun C h1 h2=>h1 k hk (rch_iff.1 h C h1 h2) i hi hn
theorem xz {I S:Nat→Bool} (hs:∀x,x<n→S x=true→BT n nm I x=true) (hi:∀x,x<n→I x=true→S x=true) (hc:CB n nm S) {x:Nat} (hx:x<n):S x=BT n nm I x:=by
 cases h:BT n nm I x with
 |true=>exact rch_iff.1 h S hc hi
 |false=>
  cases h2:S x with
  |false=>rfl
  |true=>rw[hs x hx h2] at h;cases h
def wQ (n:Nat) (nm:Nat→Nat→Bool):Nat→Nat→List Nat→List Nat
 |0,_,l=>l
 |f+1,at_,l=>if at_∈l then l else (List.range n).foldl (fun l i=>bif nm i at_ then wQ n nm f i l else l) (l++[at_])
def yU (n:Nat) (nm:Nat→Nat→Bool) (f at_:Nat) (l:List Nat) (i:Nat):List Nat:=(List.range i).foldl (fun l i=>bif nm i at_ then wQ n nm f i l else l) (l++[at_])
theorem r7 {f x i:Nat} {l:List Nat}:yU n nm f x l (i+1)=bif nm i x then wQ n nm f i (yU n nm f x l i) else yU n nm f x l i:=by
 unfold yU
 rw[List.range_succ,List.foldl_append]
 rfl
theorem wG {f x:Nat} {l:List Nat} (h:x∈l):wQ n nm f x l=l:=by
 cases f with
 |zero=>rfl
 |succ f=>rw[wQ,if_pos h]
theorem Bl {f x:Nat} {l:List Nat} (h:x ∉ l):wQ n nm (f+1) x l=yU n nm f x l n:=by
 rw[wQ,if_neg h];rfl
structure Gdl (n:Nat) (l:List Nat):Prop where
 nd:l.Nodup
 lt:∀x,x∈l→x<n
def wL (n:Nat) (l:List Nat):Nat:=(fl (List.range n) (fun x=> !l.contains x)).length
theorem Fa (l:List Nat):wL n l≤n:=by
 have:=List.length_filter_le (fun x=> !l.contains x) (List.range n)
 rw[List.length_range] at this
 exact this
theorem Eo {l l':List Nat} (h:∀x,x∈l→x∈l'):wL n l'≤wL n l:=by
 unfold wL fl
 rw[←List.countP_eq_length_filter,←List.countP_eq_length_filter]
 refine List.countP_mono_left (fun x _ hx=>?_)
 simp only[Bool.not_eq_true',List.contains_eq_mem,decide_eq_false_iff_not] at hx ⊢
 exact fun g=>hx (h x g)
theorem CH {l:List Nat} {x:Nat} (hx:x<n) (h:x ∉ l):wL n (l++[x])+1=wL n l:=by
 have:=Bf (Ordn.range n) (p:=fun x=> !l.contains x) hx (by simp[h])
 have e:(fun y=> !(l++[x]).contains y)=nj (fun y=> !l.contains y) x:=by
  funext y
  unfold nj
  by_cases e:y=x<;>simp[e]
 unfold wL
 rw[e]
 exact this
theorem Aw {l:List Nat} {x:Nat} (hx:x<n) (h:wL n l=0):x∈l:=by
 by_cases g:x∈l
 ·exact g
 ·have:=CH hx g;omega
theorem Gdl.add {l:List Nat} (g:Gdl n l) {x:Nat} (hx:x<n) (h:x ∉ l):Gdl n (l++[x]):=by
 refine ⟨List.nodup_append.2 ⟨g.nd,by simp,fun a ha c hc=>?_⟩,fun y hy=>?_⟩
 ·rw[List.mem_singleton] at hc
  subst hc
  exact fun e=>h (e▸ha)
 ·rcases List.mem_append.1 hy with h1|h1
  ·exact g.lt y h1
  ·rw[List.mem_singleton] at h1;omega
structure HH (n:Nat) (nm:Nat→Nat→Bool) (l l':List Nat):Prop where
 good:Gdl n l'
 sub:∀x,x∈l→x∈l'
 clo:∀x,x∈l'→x∈l∨∀i,i<n→nm i x=true→i∈l'
 snd:∀C,CB n nm C→(∀z,z∈l→C z=true)→∀z,z∈l'→C z=true∨z∈l
structure Hn (n:Nat) (nm:Nat→Nat→Bool) (l:List Nat) (x f i:Nat) (l':List Nat):Prop where
 good:Gdl n l'
 sub:∀y,y∈l++[x]→y∈l'
 clo:∀y,y∈l'→y∈l++[x]∨∀j,j<n→nm j y=true→j∈l'
 at_:∀j,j<i→nm j x=true→j∈l'
 snd:∀C,CB n nm C→C x=true→(∀z,z∈l→C z=true)→∀z,z∈l'→C z=true
 few:wL n l'≤f
theorem Fj:∀(f x:Nat) (l:List Nat),x<n→Gdl n l→wL n l≤f→
 Gdl n (wQ n nm f x l)∧(∀y,y∈l→y∈wQ n nm f x l)∧x∈wQ n nm f x l∧(∀y,y∈wQ n nm f x l→y∈l∨∀i,i<n→nm i y=true→i∈wQ n nm f x l)∧
 (∀C,CB n nm C→C x=true→(∀z,z∈l→C z=true)→∀z,z∈wQ n nm f x l→C z=true)∧
 ∀f',f=f'+1→x ∉ l→∀i,i≤n→Hn n nm l x f' i (yU n nm f' x l i):=by
 intro f
 induction f with
 |zero=>
  intro x l hx g hw
  have hin:=Aw hx (by omega:wL n l=0)
  rw[wG hin]
  exact ⟨g,fun _ h=>h,hin,fun _ h=> .inl h,fun _ _ _ h=>h,fun f' e=>by omega⟩
 |succ f ih=>
  intro x l hx g hw
  by_cases hin:x∈l
  ·rw[wG hin]
   exact ⟨g,fun _ h=>h,hin,fun _ h=> .inl h,fun _ _ _ h=>h,fun _ _ h=>absurd hin h⟩
  ·have hw1:=CH hx hin
   have hm:∀i,i≤n→Hn n nm l x f i (yU n nm f x l i):=by
    intro i
    induction i with
    |zero=>
     intro _
     refine ⟨g.add hx hin,fun _ h=>h,fun _ h=> .inl h,fun j hj=>absurd hj (Nat.not_lt_zero _),fun C _ hc h z hz=>?_,by show wL n (l++[x])≤f;omega⟩
     rcases List.mem_append.1 hz with h1|h1
     ·exact h z h1
     ·rw[List.mem_singleton] at h1;rw[h1];exact hc
    |succ i ihi=>
     intro hi
     have m:=ihi (by omega)
     rw[r7]
     cases hn:nm i x with
     |false=>
      rw[cond_false]
      refine ⟨m.good,m.sub,m.clo,fun j hj h=>?_,m.snd,m.few⟩
      rcases Nat.lt_succ_iff_lt_or_eq.1 hj with e|e
      ·exact m.at_ j e h
      ·rw[e,hn] at h;cases h
     |true=>
      rw[cond_true]
      obtain ⟨h1,h2,h3,h4,h5,_⟩:=ih i (yU n nm f x l i) (by omega) m.good m.few
      refine ⟨h1,fun y hy=>h2 y (m.sub y hy),fun y hy=>?_,fun j hj h=>?_,fun C hc hx' hl=>h5 C hc ?_ (m.snd C hc hx' hl),?_⟩
      ·rcases h4 y hy with e|e
       ·rcases m.clo y e with e2|e2
        ·exact .inl e2
        ·exact .inr fun j hj hh=>h2 j (e2 j hj hh)
       ·exact .inr e
      ·rcases Nat.lt_succ_iff_lt_or_eq.1 hj with e|e
       ·exact h2 j (m.at_ j e h)
       ·rw[e];exact h3
      ·exact hc x hx hx' i (by omega) hn
      ·have:=Eo (n:=n) h2
       have:=m.few
       omega
   have m:=hm n (Nat.le_refl _)
   rw[Bl hin]
   refine ⟨m.good,fun y hy=>m.sub y (List.mem_append_left _ hy),m.sub x (by simp),fun y hy=>?_,m.snd,fun f' e _=>?_⟩
   ·rcases m.clo y hy with e|e
    ·rcases List.mem_append.1 e with h1|h1
     ·exact .inl h1
     ·rw[List.mem_singleton] at h1
      subst h1
      exact .inr m.at_
    ·exact .inr e
   ·obtain rfl:f=f':=by omega
    exact hm
theorem FZ {f x:Nat} {l:List Nat} (hx:x<n) (g:Gdl n l) (hw:wL n l≤f+1) (hin:x ∉ l) {i:Nat} (hi:i≤n):Hn n nm l x f i (yU n nm f x l i):=
 (Fj (f+1) x l hx g hw).2.2.2.2.2 f rfl hin i hi
def yT (n:Nat) (nm:Nat→Nat→Bool) (I:Nat→Bool) (i:Nat):List Nat:=(List.range i).foldl (fun l i=>bif I i then wQ n nm n i l else l) []
theorem qh {I:Nat→Bool} {i:Nat}:yT n nm I (i+1)=bif I i then wQ n nm n i (yT n nm I i) else yT n nm I i:=by
 unfold yT
 rw[List.range_succ,List.foldl_append]
 rfl
structure HG (n:Nat) (nm:Nat→Nat→Bool) (I:Nat→Bool) (i:Nat) (l:List Nat):Prop where
 good:Gdl n l
 clo:∀y,y∈l→∀j,j<n→nm j y=true→j∈l
 at_:∀j,j<i→I j=true→j∈l
 snd:∀z,z∈l→BT n nm I z=true
theorem Fb {I:Nat→Bool}:∀i,i≤n→HG n nm I i (yT n nm I i):=by
 intro i
 induction i with
 |zero=>exact fun _=>⟨⟨List.nodup_nil,fun _ h=>absurd h List.not_mem_nil⟩,fun _ h=>absurd h List.not_mem_nil,fun j hj=>absurd hj (Nat.not_lt_zero _),fun _ h=>absurd h List.not_mem_nil⟩
 |succ i ih=>
  intro hi
  have m:=ih (by omega)
  rw[qh]
  cases hI:I i with
  |false=>
   rw[cond_false]
   refine ⟨m.good,m.clo,fun j hj h=>?_,m.snd⟩
   rcases Nat.lt_succ_iff_lt_or_eq.1 hj with e|e
   ·exact m.at_ j e h
   ·rw[e,hI] at h;cases h
  |true=>
   rw[cond_true]
   obtain ⟨h1,h2,h3,h4,h5,_⟩:=Fj (nm:=nm) n i (yT n nm I i) (by omega) m.good (Fa _)
   refine ⟨h1,fun y hy j hj hh=>?_,fun j hj h=>?_,h5 _ AI (tU (by omega) hI) m.snd⟩
   ·rcases h4 y hy with e|e
    ·exact h2 j (m.clo y e j hj hh)
    ·exact e j hj hh
   ·rcases Nat.lt_succ_iff_lt_or_eq.1 hj with e|e
    ·exact h2 j (m.at_ j e h)
    ·rw[e];exact h3
theorem Fn {I:Nat→Bool} {x:Nat} (hx:x<n):(yT n nm I n).contains x=BT n nm I x:=by
 have m:=Fb (nm:=nm) (I:=I) n (Nat.le_refl n)
 refine xz (S:=fun x=>(yT n nm I n).contains x) (fun y _ h=>m.snd y (by simpa using h)) (fun y hy h=>by simpa using m.at_ y hy h) (fun k hk h i hi hn=>?_) hx
 have h:k∈yT n nm I n:=by simpa using h
 simpa using m.clo k h i hi hn
def qY (n:Nat) (l:List Nat):List Nat:=l++fl (List.range n) (fun x=> !l.contains x)
theorem vR {l:List Nat} (g:Gdl n l):Ordn n (qY n l):=by
 unfold qY fl
 refine ⟨List.nodup_append.2 ⟨g.nd,List.nodup_range.filter _,fun a ha c hc=>?_⟩,fun x=>?_⟩
 ·rintro rfl
  simp[ha] at hc
 ·rw[List.mem_append,List.mem_filter,List.mem_range]
  constructor
  ·rintro (h|h)
   ·exact g.lt x h
   ·exact h.1
  ·intro h
   by_cases e:x∈l
   ·exact .inl e
   ·exact .inr ⟨h,by simp[e]⟩
theorem EI {l:List Nat}:fl (qY n l) (fun x=>l.contains x)=l:=by
 unfold fl qY
 rw[List.filter_append,List.filter_eq_self.2 (fun x hx=>by simpa using hx),show List.filter (fun x=>l.contains x) (fl (List.range n) fun x=> !l.contains x)=[] from ?_,List.append_nil]
 rw[List.filter_eq_nil_iff]
 intro x hx
 unfold fl at hx
 rw[List.mem_filter] at hx
 simpa using hx.2
end
end Go.Vc
end
section
namespace Go.Vc
open Go.Proofs
set_option maxRecDepth 100000
theorem xn (b:GateBook):HSpec P 73 [st b.e] hp0 (.own 0) ⟨[(0,.tree 4 1 [.leaf] ((b.objects.map GateObject.ending).map eT))],1,0⟩:=by
 refine ax da aw [.tmp 2] Tryz.func73 rfl rfl rfl rfl (fun hok=>?_)
 have hs:b.objects.length≤big:=(bP ⟨hok.1,trivial⟩).1
 repeat refine ai ?_
 refine d9 (b.objects) (fun i=>True) (fun i=>[(1,.ptr 0 0),(3,.own 1),(4,.d (.int .i64 i))]) (fun i=>⟨[(1,.tree 4 1 [.leaf] (((b.objects.take i).map GateObject.ending).map eT)),(0,.cells 48 (b.e.map .d))],2,0⟩) (trivial) ?_
 intro i hi hr
 repeat refine ai ?_
 refine aj ?_ ?_<;>intro h1
 ·have hlt:i<b.objects.length:=V h1
  repeat refine ai ?_
  refine O (e:=GateObject.e) (xs:=b.objects) (hlt) rfl ?_
  repeat refine ai ?_
  refine aj trivial ?_
  repeat refine ai ?_
  refine aj (by simp only[List.length_append,List.length_nil,List.length_cons,List.length_map,List.length_take] at*;unfold big at*;omega) ?_
  repeat refine ai ?_
  exact bL hlt hs trivial fun hw=>by repeat' first|exact rfl|exact trivial|exact nd hw|exact (y7 (by rw[List.take_succ_eq_append_getElem hlt,List.map_append,List.map_append];rfl))|refine aj ?_ ?_
 ·repeat refine ai ?_
  rw[List.take_of_length_le (Y h1)]
  exact ⟨[some 1],by repeat' first|exact rfl|exact trivial|refine aj ?_ ?_⟩
theorem xm (s:List Bool):HSpec P 71 [.d (lB s)] hp0 (.own 0) ⟨[(0,.tree 3 1 [.leaf] ((bO (fun v=>v) s 0).map eN))],1,0⟩:=by
 refine ax da aw [.tmp 2] Tryz.func71 rfl rfl rfl rfl (fun hok=>?_)
 have hs:s.length≤big:=az hok.1.1
 repeat refine ai ?_
 refine m4 (s) (fun i (ns:List Int)=>bO (fun v=>v) s 0=ns++bO (fun v=>v) (s.drop i) i∧ns.length≤i) (fun i (ns:List Int)=>[(0,.d (lB s)),(3,.own 0),(4,.d (.int .i64 i))]) (fun i (ns:List Int)=>⟨[(0,.tree 3 1 [.leaf] (ns.map eN))],1,0⟩) ((show bO (fun v=>v) s 0=([]:List Int)++bO (fun v=>v) (s.drop 0) 0∧([]:List Int).length≤0 from ⟨rfl,Nat.zero_le _⟩)) ?_
 intro i ns hi hr
 obtain ⟨ho,hn⟩:=hr
 repeat refine ai ?_
 refine aj ?_ ?_<;>intro h1
 ·have hlt:i<s.length:=V h1
  rw[mL hlt] at ho
  repeat refine ai ?_
  refine O (e:=eT) (xs:=s) (hlt) rfl ?_
  repeat refine ai ?_
  refine aj ?_ ?_<;>intro h2
  ·rw[h2,cond_true] at ho
   repeat refine ai ?_
   refine aj trivial ?_
   repeat refine ai ?_
   refine aj (by simp only[List.length_append,List.length_nil,List.length_cons,List.length_map] at*;unfold big at*;omega) ?_
   repeat refine ai ?_
   exact cQ (ns++[(i:Int)]) hlt hs ⟨by rw[ho,List.append_assoc];rfl,by rw[List.length_append];simp only[List.length_cons,List.length_nil];omega⟩ fun hw=>by repeat' first|exact rfl|exact trivial|exact nd hw|exact (y7 (by rw[List.map_append];rfl))|refine aj ?_ ?_
  ·rw[h2,cond_false] at ho
   repeat refine ai ?_
   exact cQ ns hlt hs ⟨ho,by omega⟩
 ·rw[ho,oQ (Y h1),List.append_nil]
  repeat refine ai ?_
  exact ⟨[some 0],by repeat' first|exact rfl|exact trivial|refine aj ?_ ?_⟩
set_option maxHeartbeats 2000000 in
theorem sQ (L:GateLaw) (b:GateBook) (s0:List Bool) (hl0:s0.length=b.objects.length):HSpec P 72 [st L.e,st b.e,.d (lB s0)] hp0 (.own 0) ⟨[(0,.tree 4 1 [.leaf] ((Cg L b s0).map eT))],1,0⟩:=by
 refine ax da aw [.tmp 6] Tryz.func72 rfl rfl rfl rfl (fun hok=>?_)
 have hs:b.objects.length≤big:=(bP ⟨hok.2.1,trivial⟩).1
 repeat refine ai ?_
 refine aj (FS _) ?_
 repeat refine ai ?_
 refine aj (by simp only[List.length_nil,List.length_map,List.length_append];omega) ?_
 repeat refine ai ?_
 refine m4 ((List.range (b.objects.length+1))) (fun k (s:List Bool)=>s.length=b.objects.length∧Gj b.objects.length (q9 L b) (eW s0) (fun x=>eW s0 x&&pO b x) (eW s)∧((∀x,x<b.objects.length→o7 L b s x)∨s.count true+k≤b.objects.length)) (fun k (s:List Bool)=>[(3,.ptr 0 0),(4,.ptr 1 0),(7,.own 2),(8,.d (.int .i64 k))]) (fun k (s:List Bool)=>⟨[(2,.tree 4 1 [.leaf] (s.map eT)),(1,.cells 48 (b.e.map .d)),(0,.cells 41 (L.e.map .d))],3,0⟩) ((show s0.length=b.objects.length∧Gj b.objects.length (q9 L b) (eW s0) (fun x=>eW s0 x&&pO b x) (eW s0)∧((∀x,x<b.objects.length→o7 L b s0 x)∨s0.count true+0≤b.objects.length) from ⟨hl0,⟨fun _ _ h=>h,fun x hx h=>by have:=zV hx h;rw[Bool.and_eq_true] at this;exact this.1⟩,.inr (by have:=uA s0;omega)⟩)) ?_
 intro k s hk hr
 obtain ⟨hl,hg,hc⟩:=hr
 have hkl:k≤b.objects.length+1:=by rw[List.length_range] at hk;exact hk
 repeat refine ai ?_
 refine aj ?_ ?_<;>intro h1
 ·have hk1:k<(List.range (b.objects.length+1)).length:=by
   have:=of_decide_eq_true h1
   rw[List.length_map,hl] at this
   rw[List.length_range];omega
  repeat refine ai ?_
  refine m4 (b.objects) (fun i (u:List Bool)=>Rnd L b s0 s u i) (fun i (u:List Bool)=>[(3,.ptr 0 0),(4,.ptr 1 0),(7,.own 2),(8,.d (.int .i64 k)),(9,.d (.int .i64 i))]) (fun i (u:List Bool)=>⟨[(2,.tree 4 1 [.leaf] (u.map eT)),(1,.cells 48 (b.e.map .d)),(0,.cells 41 (L.e.map .d))],3,0⟩) ((show Rnd L b s0 s s 0 from ⟨hl,hg,.inl ⟨rfl,fun x hx=>absurd hx (Nat.not_lt_zero _)⟩,fun _=>rfl⟩)) ?_
  intro i u hi hr
  repeat refine ai ?_
  refine aj ?_ ?_<;>intro h2
  ·have hlt:i<b.objects.length:=by
    have:=of_decide_eq_true h2
    rw[List.length_map,hr.len] at this
    omega
   have hlt2:i<u.length:=by rw[hr.len];exact hlt
   repeat refine ai ?_
   refine rK (e:=eT) (xs:=u) hlt2 ?_
   repeat refine ai ?_
   refine Dw (e:=eT) (xs:=u) hlt2 ?_
   repeat refine ai ?_
   refine aj ?_ ?_<;>intro c1
   ·have c1:eW u i=true:=by rw[gf hlt2];exact c1
    repeat refine ai ?_
    refine O (e:=GateObject.e) (xs:=b.objects) (hlt) rfl ?_
    repeat refine ai ?_
    refine aj ?_ ?_<;>intro c2
    ·have c2:pO b i=true:=by
      rw[wr hlt]
      have:=of_decide_eq_false c2
      rw[List.length_map] at this
      exact beq_iff_eq.2 (by omega)
     repeat refine ai ?_
     refine oc (BI L b u i hlt hr.len) ?_
     repeat refine ai ?_
     refine aj ?_ ?_<;>intro c3
     ·repeat refine ai ?_
      refine rK (e:=eT) (xs:=u) hlt2 ?_
      repeat refine ai ?_
      refine ⟨_,EL hlt2,Nat.le_refl _,?_⟩
      repeat refine ai ?_
      exact cQ (u.set i false) hlt hs (hr.drop hlt c1 (.inr c3)) fun hw=>by repeat' first|exact rfl|exact trivial|exact nd hw|exact vy rfl|refine aj ?_ ?_
     ·repeat refine ai ?_
      exact cQ u hlt hs (hr.keep (fun _=>⟨c2,c3⟩))
    ·have c2:pO b i=false:=by
      rw[wr hlt]
      have:=of_decide_eq_true c2
      rw[List.length_map] at this
      exact beq_eq_false_iff_ne.2 (by omega)
     repeat refine ai ?_
     refine rK (e:=eT) (xs:=u) hlt2 ?_
     repeat refine ai ?_
     refine ⟨_,EL hlt2,Nat.le_refl _,?_⟩
     repeat refine ai ?_
     exact cQ (u.set i false) hlt hs (hr.drop hlt c1 (.inl c2)) fun hw=>by repeat' first|exact rfl|exact trivial|exact nd hw|exact vy rfl|refine aj ?_ ?_
   ·repeat refine ai ?_
    exact cQ u hlt hs (hr.keep (fun h=>by rw[gf hlt2,show u[i]=false from c1] at h;cases h))
  ·have hge:b.objects.length≤i:=by
    have:=of_decide_eq_false h2
    rw[List.length_map,hr.len] at this
    omega
   have hq:(∀x,x<b.objects.length→o7 L b u x)∨u.count true+(k+1)≤b.objects.length:=by
    rcases hr.less with ⟨e,h⟩|h
    ·exact .inl (fun x hx=>by rw[e];exact h x (by omega))
    ·rcases hc with g|g
     ·exact .inl (fun x hx=>by rw[hr.fix g];exact g x hx)
     ·exact .inr (by omega)
   repeat refine ai ?_
   exact ⟨_,_,_,⟨k+1,u,rfl,hk1,⟨hr.len,hr.gj,hq⟩,rfl,rfl⟩,by omega,by repeat' first|exact rfl|exact trivial|exact nd (Av (k:=k) (by omega))|refine aj ?_ ?_⟩
 ·have hf:∀x,x<b.objects.length→o7 L b s x:=by
   rcases hc with g|g
   ·exact g
   ·have:=of_decide_eq_false h1
    rw[List.length_map,hl] at this
    omega
  rw[←Cj hl hg hf]
  repeat refine ai ?_
  exact ⟨[some 2],by repeat' first|exact rfl|exact trivial|refine aj ?_ ?_⟩
theorem yN {s:List Bool} {i j:Nat} (h:i<s.length):eW (s.set i true) j=(eW s j||(j==i)):=by
 unfold eW
 rw[List.getElem?_set]
 by_cases e:i=j
 ·subst e
  rw[if_pos rfl,if_pos h]
  simp
 ·rw[if_neg e]
  have:(j==i)=false:=by rw[beq_eq_false_iff_ne];exact fun h=>e h.symm
  rw[this,Bool.or_false]
theorem sb:∀{s:List Bool} {i:Nat} (h:i<s.length),s[i]=false→(s.set i true).count true=s.count true+1
 |[],i,h,_=>by simp at h
 |b::s,0,h,e=>by
  simp only[List.getElem_cons_zero] at e
  subst e
  simp
 |b::s,i+1,h,e=>by
  have:=sb (s:=s) (i:=i) (by simpa using h) (by simpa using e)
  rw[List.set_cons_succ,List.count_cons,List.count_cons,this];omega
theorem BG {s:List Bool} {i:Nat} (h:i<s.length) (e:s[i]=true):s.set i true=s:=by
 rw[←e,List.set_getElem_self]
theorem uB:∀{s:List Bool},s.length≤s.count true→∀i,i<s.length→eW s i=true
 |[],_,i,hi=>by simp at hi
 |true::s,h,0,_=>rfl
 |true::s,h,i+1,hi=>by
  have:=uB (s:=s) (by simpa using h) i (by simpa using hi)
  simpa [eW] using this
 |false::s,h,i,_=>by
  have:=uA s
  simp at h;omega
section
variable {n:Nat} {nm:Nat→Nat→Bool} {E:Nat→Bool} {s w:List Bool}
structure Upw (n:Nat) (nm:Nat→Nat→Bool) (E:Nat→Bool) (s:List Bool):Prop where
 len:s.length=n
 sub:∀x,x<n→eW s x=true→BT n nm E x=true
 sup:∀x,x<n→E x=true→eW s x=true
structure Rou (n:Nat) (nm:Nat→Nat→Bool) (E:Nat→Bool) (s w:List Bool) (i k:Nat):Prop where
 up:Upw n nm E w
 less:(w=s∧(∀x,x<i→∀y,y<n→eW s y=true→nm x y=true→eW s x=true)∧∀y,y<k→eW s y=true→nm i y=true→eW s i=true)∨s.count true<w.count true
 fix:CB n nm (eW s)→w=s
theorem Rou.start (u:Upw n nm E s):Rou n nm E s s 0 0:=⟨u,.inl ⟨rfl,fun x hx=>absurd hx (Nat.not_lt_zero _),fun y hy=>absurd hy (Nat.not_lt_zero _)⟩,fun _=>rfl⟩
theorem Rou.keep {i k:Nat} (r:Rou n nm E s w i k) (h:eW w k=true→nm i k=true→eW w i=true):Rou n nm E s w i (k+1):=by
 refine ⟨r.up,?_,r.fix⟩
 rcases r.less with ⟨e,h1,h2⟩|g
 ·refine .inl ⟨e,h1,fun y hy=>?_⟩
  rcases Nat.lt_succ_iff_lt_or_eq.1 hy with g|g
  ·exact h2 y g
  ·rw[g,←e];exact h
 ·exact .inr g
theorem Rou.next {i:Nat} (r:Rou n nm E s w i n):Rou n nm E s w (i+1) 0:=by
 refine ⟨r.up,?_,r.fix⟩
 rcases r.less with ⟨e,h1,h2⟩|g
 ·refine .inl ⟨e,fun x hx=>?_,fun y hy=>absurd hy (Nat.not_lt_zero _)⟩
  rcases Nat.lt_succ_iff_lt_or_eq.1 hx with g|g
  ·exact h1 x g
  ·rw[g];exact h2
 ·exact .inr g
theorem Rou.put {i k:Nat} (r:Rou n nm E s w i k) (hi:i<n) (hk:k<n) (hb:eW w k=true) (hn:nm i k=true):Rou n nm E s (w.set i true) i (k+1):=by
 have hi':i<w.length:=by rw[r.up.len];exact hi
 cases e:w[i] with
 |true=>
  rw[BG hi' e]
  exact r.keep fun _ _=>by rw[gf hi'];exact e
 |false=>
  have hc:=sb hi' e
  refine ⟨⟨by rw[List.length_set];exact r.up.len,fun x hx h=>?_,fun x hx h=>by rw[yN hi',r.up.sup x hx h];rfl⟩,.inr ?_,fun hf=>?_⟩
  ·rw[yN hi',Bool.or_eq_true] at h
   rcases h with h|h
   ·exact r.up.sub x hx h
   ·rw[beq_iff_eq] at h
    subst h
    exact AI k hk (r.up.sub k hk hb) x hi hn
  ·rcases r.less with ⟨g,_⟩|g
   ·rw[←g];omega
   ·omega
  ·exfalso
   have g:=r.fix hf
   subst g
   have:=hf k hk hb i hi hn
   rw[gf hi',e] at this
   cases this
theorem Rou.round {k:Nat} (r:Rou n nm E s w n 0) (hc:CB n nm (eW s)∨k≤s.count true):CB n nm (eW w)∨k+1≤w.count true:=by
 rcases r.less with ⟨e,h,_⟩|g
 ·rw[e]
  exact .inl fun y hy hb x hx hn=>h x hx y hy hb hn
 ·rcases hc with c|c
  ·rw[r.fix c];exact .inl c
  ·exact .inr (by omega)
theorem Upw.done (u:Upw n nm E s) (hc:CB n nm (eW s)∨n≤s.count true):s=(List.range n).map (BT n nm E):=by
 have hcl:CB n nm (eW s):=by
  rcases hc with c|c
  ·exact c
  ·exact fun _ _ _ i hi _=>uB (by rw[u.len];exact c) i (by rw[u.len];exact hi)
 refine List.ext_getElem (by simp[u.len]) (fun i h1 h2=>?_)
 rw[←gf h1,List.getElem_map,List.getElem_range]
 exact xz (S:=eW s) u.sub u.sup hcl (by rw[←u.len];exact h1)
end
def vW (L:GateLaw) (b:GateBook) (y x:Nat):Bool:=match b.objects[y]?,b.objects[x]? with
 |some o,some p=>fe L.shapes o p 3
 |_,_=>false
theorem vV {L:GateLaw} {b:GateBook} {x y:Nat} (hy:y<b.objects.length) (hx:x<b.objects.length):vW L b y x=fe L.shapes b.objects[y] b.objects[x] 3:=by
 unfold vW
 rw[List.getElem?_eq_getElem hy,List.getElem?_eq_getElem hx]
noncomputable def Em (L:GateLaw) (b:GateBook):List Bool:=(List.range b.objects.length).map (BT b.objects.length (vW L b) (eW (b.objects.map GateObject.ending)))
noncomputable def gM (L:GateLaw) (b:GateBook):List Int:=bif ge L b then bO (fun v=>v) (Cg L b (Em L b)) 0 else []
theorem CK (L:GateLaw) (b:GateBook):Upw b.objects.length (vW L b) (eW (b.objects.map GateObject.ending)) (b.objects.map GateObject.ending):=
 ⟨by rw[List.length_map],fun _ hx h=>tU hx h,fun _ _ h=>h⟩
set_option maxHeartbeats 4000000 in
theorem vE (L:GateLaw) (b:GateBook):Spec P 26 [st L.e,st b.e] (.d (lI (gM L b))):=by
 refine Spec.of_vc da aw [.tmp 4] Tryz.func26 rfl rfl rfl rfl (fun hok=>?_)
 cases hb:ge L b with
 |false=>
  rw[show gM L b=[] from by unfold gM;rw[hb];rfl]
  repeat refine ai ?_
  refine oc (mu L b) ?_
  rw[hb]
  repeat refine ai ?_
  refine ay ?_
  repeat refine ai ?_
  exact rfl
 |true=>
  have hs:b.objects.length≤big:=(bP ⟨hok.2.1,trivial⟩).1
  rw[show gM L b=bO (fun v=>v) (Cg L b (Em L b)) 0 from by unfold gM;rw[hb];rfl]
  repeat refine ai ?_
  refine oc (mu L b) ?_
  rw[hb]
  repeat refine ai ?_
  refine an ?_
  repeat refine ai ?_
  refine ow (xn b) ?_
  repeat refine ai ?_
  refine ⟨I1 (List.range b.objects.length) (fun k (s:List Bool)=>Upw b.objects.length (vW L b) (eW (b.objects.map GateObject.ending)) s∧(CB b.objects.length (vW L b) (eW s)∨k≤s.count true)) (fun k s=>[(2,.ptr 0 0),(3,.ptr 1 0),(5,.own 2),(6,.d (.int .i64 k))]) (fun k s=>⟨[(2,.tree 4 1 [.leaf] (s.map eT)),(1,.cells 48 (b.e.map .d)),(0,.cells 41 (L.e.map .d))],3,0⟩),⟨_,_,_,⟨0,b.objects.map GateObject.ending,rfl,Nat.zero_le _,⟨CK L b,.inr (Nat.zero_le _)⟩,rfl,rfl⟩,by repeat' first|exact rfl|exact trivial|refine aj ?_ ?_⟩,?_⟩
  rintro m l hh ⟨k,s,rfl,hk,hr,rfl,rfl⟩
  obtain ⟨hu,hc⟩:=hr
  rw[List.length_range] at hk
  repeat refine ai ?_
  refine aj ?_ ?_<;>intro h1
  ·have hk1:k<b.objects.length:=by
    have:=of_decide_eq_true h1
    rw[List.length_map,hu.len] at this
    omega
   refine ⟨I1 b.objects (fun i (u:List Bool)=>Rou b.objects.length (vW L b) (eW (b.objects.map GateObject.ending)) s u i 0) (fun i u=>[(2,.ptr 0 0),(3,.ptr 1 0),(5,.own 2),(6,.d (.int .i64 k)),(7,.d (.int .i64 i))]) (fun i u=>⟨[(2,.tree 4 1 [.leaf] (u.map eT)),(1,.cells 48 (b.e.map .d)),(0,.cells 41 (L.e.map .d))],3,0⟩),⟨_,_,_,⟨0,s,rfl,Nat.zero_le _,Rou.start hu,rfl,rfl⟩,by repeat' first|exact rfl|exact trivial|refine aj ?_ ?_⟩,?_⟩
   rintro m l hh ⟨i,u,rfl,hi,hR,rfl,rfl⟩
   repeat refine ai ?_
   refine aj ?_ ?_<;>intro h2
   ·have hlt:i<b.objects.length:=by
     have:=of_decide_eq_true h2
     rw[List.length_map,hR.up.len] at this
     omega
    refine ⟨I1 b.objects (fun q (w:List Bool)=>Rou b.objects.length (vW L b) (eW (b.objects.map GateObject.ending)) s w i q) (fun q w=>[(2,.ptr 0 0),(3,.ptr 1 0),(5,.own 2),(6,.d (.int .i64 k)),(7,.d (.int .i64 i)),(8,.d (.int .i64 q))]) (fun q w=>⟨[(2,.tree 4 1 [.leaf] (w.map eT)),(1,.cells 48 (b.e.map .d)),(0,.cells 41 (L.e.map .d))],3,0⟩),⟨_,_,_,⟨0,u,rfl,Nat.zero_le _,hR,rfl,rfl⟩,by repeat' first|exact rfl|exact trivial|refine aj ?_ ?_⟩,?_⟩
    rintro m l hh ⟨q,w,rfl,hq,hr,rfl,rfl⟩
    repeat refine ai ?_
    refine aj ?_ ?_<;>intro h3
    ·have hlq:q<b.objects.length:=by
      have:=of_decide_eq_true h3
      rw[List.length_map,hr.up.len] at this
      omega
     have hlq2:q<w.length:=by rw[hr.up.len];exact hlq
     have hli2:i<w.length:=by rw[hr.up.len];exact hlt
     repeat refine ai ?_
     refine rK (e:=eT) (xs:=w) hlq2 ?_
     repeat refine ai ?_
     refine Dw (e:=eT) (xs:=w) hlq2 ?_
     repeat refine ai ?_
     refine aj ?_ ?_<;>intro c1
     ·have c1:eW w q=true:=by rw[gf hlq2];exact c1
      repeat refine ai ?_
      refine oc (nP L b i q hlt hlq 3) ?_
      repeat refine ai ?_
      refine aj ?_ ?_<;>intro c2
      ·repeat refine ai ?_
       refine rK (e:=eT) (xs:=w) hli2 ?_
       repeat refine ai ?_
       refine ⟨_,EL hli2,Nat.le_refl _,?_⟩
       repeat refine ai ?_
       exact cQ (w.set i true) hlq hs (hr.put hlt hlq c1 (by rw[vV hlt hlq];exact c2)) fun hw=>by repeat' first|exact rfl|exact trivial|exact nd hw|exact vy rfl|refine aj ?_ ?_
      ·repeat refine ai ?_
       exact cQ w hlq hs (hr.keep (fun _ h=>by rw[vV hlt hlq,c2] at h;cases h))
     ·repeat refine ai ?_
      exact cQ w hlq hs (hr.keep (fun h _=>by rw[gf hlq2,show w[q]=false from c1] at h;cases h))
    ·have e:q=b.objects.length:=by
      have:=of_decide_eq_false h3
      rw[List.length_map,hr.up.len] at this
      omega
     subst e
     repeat refine ai ?_
     exact cQ w hlt hs hr.next
   ·have e:i=b.objects.length:=by
     have:=of_decide_eq_false h2
     rw[List.length_map,hR.up.len] at this
     omega
    subst e
    repeat refine ai ?_
    exact ⟨_,_,_,⟨k+1,u,rfl,by rw[List.length_range];omega,⟨hR.up,hR.round hc⟩,rfl,rfl⟩,by rw[List.length_range];omega,by repeat' first|exact rfl|exact trivial|exact nd (Av (k:=k) (by omega))|refine aj ?_ ?_⟩
  ·have e:k=b.objects.length:=by
    have:=of_decide_eq_false h1
    rw[List.length_map,hu.len] at this
    omega
   subst e
   have hd:s=Em L b:=hu.done hc
   subst hd
   repeat refine ai ?_
   refine ov (sQ L b _ hu.len) ?_
   repeat refine ai ?_
   refine ov (xm _) ?_
   repeat refine ai ?_
   exact rfl
end Go.Vc
end
section
namespace Go.Vc
open Go.Proofs
set_option maxRecDepth 100000
def HF (b:GateBook) (x:Nat):Bool:=eW (b.objects.map GateObject.ending) x&&pO b x
end Go.Vc
end
