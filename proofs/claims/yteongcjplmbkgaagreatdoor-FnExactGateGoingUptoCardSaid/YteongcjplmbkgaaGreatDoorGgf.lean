/- Part 6 of a proof: Contracts: the sums of a book. Contracts: the sums of a book, by the specification; a book. Contracts: laws. Contracts: books. Contracts: who names whom; what is marked. The greatest part of a set that nobody outside names. Contracts of the functions that the laws bring with them, printed by genlaws.py. Helpers of the contracts' proofs: trees. Pure data of the laws as trees of the call's own, printed by genlaws.py. Contracts of the laws' own functions that make trees, printed by genlaws.py. Purses and ledgers, as pure data; helpers for trees that are read and written in place. Contracts: what  -/
import Derived.Test.YteongcjplmbkgaaGreatDoorGga
import Derived.Test.YteongcjplmbkgaaGreatDoorGgb
import Derived.Test.YteongcjplmbkgaaGreatDoorGgc
import Derived.Test.YteongcjplmbkgaaGreatDoorGgd
import Derived.Test.YteongcjplmbkgaaGreatDoorGge
set_option linter.unusedVariables false
set_option linter.unusedSimpArgs false
section
namespace Go.Vc
open Go.Proofs
set_option maxRecDepth 100000
def gk (L:GateLaw) (p:Option GateLedger) (g:GateLedger):Bool:=mD p g&&(L.teams.any (·.name==g.team)&&(aU g.resource&&(!decide (g.free<0)&&(!decide (g.free>g.most)&& !decide (g.most>1000000)))))
def xe (p:Option GatePurse) (x:GatePurse):Bool:=match p with|some q=>mC q x|none=>true
def kI (b:GateBook) (p:Option GatePurse) (x:GatePurse):Bool:=xe p x&&(b.ledgers.any (fun g=>g.team==x.team&&g.resource==x.resource)&&(aU x.door&&(fi x.amount 1 1000000&&fi x.until_ b.tick (dz b.tick 10))))
def sB (L:GateLaw) (b:GateBook) (g:GateLedger):Bool:=dz (dz (tx L b g.team g.resource) (D6 b g.team g.resource)) g.free==g.most
def jL (L:GateLaw) (b:GateBook):Bool:= !decide ((b.ledgers.length:Int)>10)&&(!decide ((b.purses.length:Int)>24)&&(aq (gk L) none b.ledgers&&(aq (kI b) none b.purses&&b.ledgers.all (sB L b))))
def wK (L:GateLaw) (b:GateBook) (g:GateLedger):Int:=dz g.free (tx L b g.team g.resource)
theorem tX {L:GateLaw}:∀(p:Option GateLedger) (g:GateLedger),gk L p g=true→mD p g=true:=fun p g h=>by
 simp only[gk,Bool.and_eq_true] at h;exact h.1
theorem Cp {L:GateLaw} {b:GateBook} (h:aq (gk L) none b.ledgers=true) {g:GateLedger} (hg:g∈b.ledgers):∃v,cI (DP (Em (wK L b) b.ledgers) b.purses) (pw g)=some v∧(v==g.most)=sB L b g:=by
 have h1:=rO (wK L b) [] (jl tX h) g hg
 refine ⟨_,by rw[rl];unfold Em;rw[h1];rfl,?_⟩
 unfold sB wK D6
 simp only[pw]
 rw[BB]
theorem Dq {E:List (fZ×Int)} {k:fZ} (h:(cI E k).isSome) (ps:List GatePurse):∃v,cI (DP E ps) k=some v:=by
 obtain ⟨v,e⟩:=Option.isSome_iff_exists.1 h
 exact ⟨_,by rw[rl,e];rfl⟩
theorem E3 {t:Nat} {tk:TK} {E:List (fZ×Int)} {a c:Bs} {v:Int}:some (AO.map t tk (bn (E.map jj) [.str a,.str c] (.d (.int .i64 v))))=some (AO.map t tk ((pj E (a,c) v).map jj)):=by
 rw[show ([D.str a,D.str c]:List D)=sN (a,c) from rfl,xH]
theorem xL (a b c d:Bs):gg a b c d= !(!(Op.bytesLess a c||a==c)||(a==c&& !Op.bytesLess b d)):=by rw[tU,Bool.not_not]
theorem AD {E:List (fZ×Int)} {a c:Bs} {v:Int} (h:cI E (a,c)=some v):ar (E.map jj) [.str a,.str c]=some (.d (.int .i64 v)):=by
 rw[show ([D.str a,D.str c]:List D)=sN (a,c) from rfl,tT,h];rfl
theorem Dn {E:List (fZ×Int)} {a c:Bs} {v:Int} (h:cI E (a,c)=some v):∃j,∃k':fZ,eu (E.map jj) [.str a,.str c] 0=some (j,.d (.int .i64 v))∧(E.map jj)[(((j:Nat):Int)).toNat]? =some (sN k',.d (.int .i64 v))∧
 ∀t tk x,some (AO.map t tk ((E.map jj).set (((j:Nat):Int)).toNat (sN k',.d (.int .i64 (IntKind.i64.wrap (v+x))))))=some (AO.map t tk ((rU E (a,c) x).map jj)):=by
 obtain ⟨j,k',h1,h2,h3⟩:=AA (i:=0) h
 rw[Nat.zero_add] at h1
 refine ⟨j,k',h1,?_,fun t tk x=>?_⟩
 ·rw[Int.toNat_natCast,List.getElem?_map,h2];rfl
 ·rw[h3,List.map_set,Int.toNat_natCast];rfl
theorem CF {L:GateLaw} {b:GateBook} (h:aq (gk L) none b.ledgers=true) {p:Option GatePurse} {x:GatePurse} (hx:kI b p x=true) (ps:List GatePurse):∃v,cI (DP (Em (wK L b) b.ledgers) ps) (x.team,x.resource)=some v:=by
 simp only[kI,Bool.and_eq_true] at hx
 obtain ⟨g,hg,hk⟩:=List.any_eq_true.1 hx.2.1
 simp only[Bool.and_eq_true,beq_iff_eq] at hk
 have h1:=rO (wK L b) [] (jl tX h) g hg
 refine Dq ?_ ps
 rw[←hk.1,←hk.2]
 show (cI (Em (wK L b) b.ledgers) (pw g)).isSome
 unfold Em;rw[h1];rfl
set_option maxHeartbeats 4000000 in
theorem C7 (L:GateLaw) (b:GateBook):Spec P 128 [st b.e,st L.e] (.d (.bool (jL L b))):=by
 refine Spec.of_vc aI aw [.tmp 4] Tryz.func128 rfl rfl rfl rfl (fun hok=>?_)
 have hsl:=(bV (dw hok)).2.2.1
 have hsp:=(bV (dw hok)).2.2.2
 repeat refine ai ?_
 refine aj ?_ ?_<;>intro h0
 ·have h0':decide ((b.ledgers.length:Int)>10)=false:=by rw[List.length_map] at h0;exact h0
  repeat refine ai ?_
  refine aj ?_ ?_<;>intro h00
  ·have h00:decide ((b.purses.length:Int)>24)=true:=by simp only[cond_false,List.length_map] at h00;exact h00
   refine bd ?_
   rw[jL,h0',h00];rfl
  have h00:decide ((b.purses.length:Int)>24)=false:=by simp only[cond_false,List.length_map] at h00;exact h00
  have hob:jL L b=(aq (gk L) none b.ledgers&&(aq (kI b) none b.purses&&b.ledgers.all (sB L b))):=by rw[jL,h0',h00];rfl
  rw[hob]
  repeat refine ai ?_
  refine mX (b.ledgers) (fun i (E:List (fZ×Int))=>E=Em (wK L b) (b.ledgers.take i)∧aq (gk L) none b.ledgers=aq (gk L) (cA b.ledgers i) (b.ledgers.drop i)) (fun i (E:List (fZ×Int))=>[(2,.ptr 0 0),(3,.ptr 1 0),(5,.mapr 2),(26,.d (aW b.ledgers)),(27,.d (.int .i64 (b.ledgers.map GateLedger.e).length)),(28,.d (.int .i64 i))]) (fun i (E:List (fZ×Int))=>⟨[(2,.map 224 .pair (E.map jj)),(1,.cells 41 (L.e.map .d)),(0,.cells 48 (b.e.map .d))],3,0⟩) (⟨rfl,rfl⟩) ?_ ⟨rfl,rfl,⟨rfl,rfl,rfl,rfl,rfl,rfl,trivial⟩,(by repeat' first|exact rfl|exact trivial|exact rf _ _|refine aj ?_ ?_),(by repeat' first|exact rfl|exact trivial|refine aj ?_ ?_)⟩
  intro i E hi hr
  obtain ⟨hE,hr⟩:=hr
  repeat refine ai ?_
  refine aj ?_ ?_<;>intro h1
  ·have hlt:i<b.ledgers.length:=V h1
   rw[dR hlt] at hr
   repeat refine ai ?_
   refine O (e:=GateLedger.e) (xs:=b.ledgers) (hlt) rfl ?_
   repeat refine ai ?_
   repeat' first
    |refine ai ?_
    |(refine n1 ?_;intro h)
    |(refine n2 ?_;intro h)
    |(refine n3 ?_;intro h)
    |(refine n4 ?_;intro h)
    |(refine aj ?_ ?_<;>intro h)
    |refine oc (fV _ _) ?_
    |refine oc (c7 _) ?_
    |refine aB (e:=GateLedger.e) (xs:=b.ledgers) (k:=i - 1) (by omega) (aX (lF (by assumption)) hlt hsl) rfl ?_
   all_goals (simp only[cond_false,cond_true,Bool.not_eq_true',Bool.not_eq_false',reduceCtorEq,idx_lt] at*)
   all_goals first
    |(refine bd ?_
      rw[hr]
      clear hr hE hob h0 h0' h00
      first|rw[cf (lF (by assumption)) hlt]|rw[cg (pn (by assumption))]
      simp_all only[gk,mD,xL,Bool.true_and,Bool.and_true,Bool.false_and,Bool.and_false,Bool.true_or,Bool.or_true,Bool.false_or,Bool.or_false,Bool.not_true,Bool.not_false]
      done)
    |(refine (fun hq:gk L (cA b.ledgers i) b.ledgers[i]=true=>?_) ?_
      rotate_left
      ·clear hr hE hob h0 h0' h00
       first|rw[cf (lF (by assumption)) hlt]|rw[cg (pn (by assumption))]
       simp_all only[gk,mD,xL,Bool.true_and,Bool.and_true,Bool.false_and,Bool.and_false,Bool.true_or,Bool.or_true,Bool.false_or,Bool.or_false,Bool.not_true,Bool.not_false]
       done
      ·rw[hq,Bool.true_and] at hr
       repeat refine ai ?_
       refine GA ?_
       repeat refine ai ?_
       refine oc (zy _ _ _ _) ?_
       repeat refine ai ?_
       exact c6 (pj E (pw b.ledgers[i]) (wK L b b.ledgers[i])) hlt hsl ⟨by rw[hE,List.take_succ_eq_append_getElem hlt,Dr],hr⟩ fun hw=>by repeat' first|exact rfl|exact trivial|exact nd hw|exact E3|exact rf _ _|refine aj ?_ ?_
     )
  ·rw[eV (Z h1)] at hr
   rw[List.take_of_length_le (Z h1)] at hE
   rw[hr,Bool.true_and]
   have hC:=hr
   clear hr
   repeat refine ai ?_
   refine mX (b.purses) (fun i (F:List (fZ×Int))=>F=DP E (b.purses.take i)∧aq (kI b) none b.purses=aq (kI b) (cA b.purses i) (b.purses.drop i)) (fun i (F:List (fZ×Int))=>[(2,.ptr 0 0),(5,.mapr 2),(107,.d (bo b.purses)),(108,.d (.int .i64 (b.purses.map GatePurse.e).length)),(109,.d (.int .i64 i))]) (fun i (F:List (fZ×Int))=>⟨[(2,.map 224 .pair (F.map jj)),(0,.cells 48 (b.e.map .d))],3,0⟩) (⟨rfl,rfl⟩) ?_ ⟨rfl,rfl,⟨rfl,rfl,rfl,rfl,rfl,trivial⟩,(by repeat' first|exact rfl|exact trivial|exact rf _ _|refine aj ?_ ?_),(by repeat' first|exact rfl|exact trivial|refine aj ?_ ?_)⟩
   intro i F hi hr
   obtain ⟨hF,hr⟩:=hr
   repeat refine ai ?_
   refine aj ?_ ?_<;>intro h2
   ·have hlt:i<b.purses.length:=V h2
    rw[dR hlt] at hr
    repeat refine ai ?_
    refine O (e:=GatePurse.e) (xs:=b.purses) (hlt) rfl ?_
    repeat refine ai ?_
    repeat' first
      |refine ai ?_
      |(refine n1 ?_;intro h)
      |(refine n2 ?_;intro h)
      |(refine n3 ?_;intro h)
      |(refine n4 ?_;intro h)
      |(refine aj ?_ ?_<;>intro h)
      |refine oc (sO _ _) ?_
      |refine oc (Dc _ _ _) ?_
      |refine oc (c7 _) ?_
      |refine ak ?_
      |refine aB (e:=GatePurse.e) (xs:=b.purses) (k:=i - 1) (by omega) (aX (lF (by assumption)) hlt hsp) rfl ?_
    all_goals (simp only[cond_false,cond_true,Bool.not_eq_true',Bool.not_eq_false',reduceCtorEq,idx_lt] at*)
    all_goals first
      |(refine bd ?_
        rw[hr]
        clear hr hE hob h0 h0' h00 hF hC
        first|rw[cf (lF (by assumption)) hlt]|rw[cg (pn (by assumption))]
        simp_all only[kI,xe,m5,dz,Bool.true_and,Bool.and_true,Bool.false_and,Bool.and_false,Bool.true_or,Bool.or_true,Bool.false_or,Bool.or_false,Bool.not_true,Bool.not_false]
        done)
      |(refine (fun hq:kI b (cA b.purses i) b.purses[i]=true=>?_) ?_
        rotate_left
        ·clear hr hE hob h0 h0' h00 hF hC
         first|rw[cf (lF (by assumption)) hlt]|rw[cg (pn (by assumption))]
         simp_all only[kI,xe,m5,dz,Bool.true_and,Bool.and_true,Bool.false_and,Bool.and_false,Bool.true_or,Bool.or_true,Bool.false_or,Bool.or_false,Bool.not_true,Bool.not_false]
         done
        ·rw[hq,Bool.true_and] at hr
         obtain ⟨v,hv⟩:=CF hC hq (b.purses.take i)
         rw[←hE,←hF] at hv
         obtain ⟨j,k',g1,g2,g3⟩:=Dn hv
         refine ⟨_,AD hv,?_⟩
         repeat first|refine ai ?_|refine aj trivial ?_
         refine ⟨_,g1,?_⟩
         repeat first|refine ai ?_|refine aj trivial ?_
         refine ⟨Int.natCast_nonneg _,_,g2,?_⟩
         repeat refine ai ?_
         exact c6 (rU F (b.purses[i].team,b.purses[i].resource) b.purses[i].amount) hlt hsp ⟨by rw[hF,List.take_succ_eq_append_getElem hlt,Dp];rfl,hr⟩ fun hw=>by repeat' first|exact rfl|exact trivial|exact nd hw|exact g3 _ _ _|exact rf _ _|refine aj ?_ ?_
       )
   ·rw[eV (Z h2)] at hr
    rw[List.take_of_length_le (Z h2)] at hF
    rw[hr,Bool.true_and]
    clear hr
    repeat refine ai ?_
    refine d8 (b.ledgers) (fun i=>b.ledgers.all (sB L b)=(b.ledgers.drop i).all (sB L b)) (fun i=>[(5,.mapr 2),(180,.d (aW b.ledgers)),(181,.d (.int .i64 (b.ledgers.map GateLedger.e).length)),(182,.d (.int .i64 i))]) (fun i=>⟨[(2,.map 224 .pair (F.map jj))],3,0⟩) (rfl) ?_ ⟨rfl,rfl,⟨rfl,rfl,rfl,rfl,trivial⟩,(by repeat' first|exact rfl|exact trivial|exact rf _ _|refine aj ?_ ?_),(by repeat' first|exact rfl|exact trivial|refine aj ?_ ?_)⟩
    intro i hi hr
    repeat refine ai ?_
    refine aj ?_ ?_<;>intro h3
    ·have hlt:i<b.ledgers.length:=V h3
     rw[aE hlt] at hr
     obtain ⟨v,hv,hs⟩:=Cp hC (List.getElem_mem hlt)
     rw[←hE,←hF] at hv
     repeat refine ai ?_
     refine O (e:=GateLedger.e) (xs:=b.ledgers) (hlt) rfl ?_
     repeat refine ai ?_
     refine ak ?_
     repeat refine ai ?_
     refine ⟨_,AD hv,?_⟩
     repeat refine ai ?_
     refine aj ?_ ?_<;>intro h4
     ·refine bd ?_
      rw[hr,←hs,qT h4];rfl
     ·rw[←hs,nr h4,Bool.true_and] at hr
      repeat refine ai ?_
      exact bQ hlt hsl hr fun hw=>⟨rfl,rfl,⟨rfl,rfl,rfl,nd hw,trivial⟩,(by repeat' first|exact rfl|exact trivial|exact rf _ _|refine aj ?_ ?_),(by repeat' first|exact rfl|exact trivial|refine aj ?_ ?_)⟩
    ·refine bd ?_
     rw[hr,cl (Z h3)]
 ·refine bd ?_
  rw[List.length_map] at h0
  rw[jL,h0];rfl
end Go.Vc
end
section
namespace Go.Vc
open Go.Proofs
set_option maxRecDepth 100000
def rz (L:GateLaw) (b:GateBook) (p:Option GateLedger) (g:GateLedger):Bool:=gk L p g&&sB L b g
set_option maxHeartbeats 4000000 in
theorem yP (L:GateLaw) (b:GateBook):Spec P 117 [st L.e,st b.e] (.d (.bool (jL L b))):=by
 refine Spec.of_vc aI aw [.tmp 4] Tryz.func117 rfl rfl rfl rfl (fun hok=>?_)
 have hsl:=(bV hok.2).2.2.1
 have hsp:=(bV hok.2).2.2.2
 repeat refine ai ?_
 refine aj ?_ ?_<;>intro h0
 ·have h0':decide ((b.ledgers.length:Int)>10)=false:=by rw[List.length_map] at h0;exact h0
  repeat refine ai ?_
  refine aj ?_ ?_<;>intro h00
  ·have h00:decide ((b.purses.length:Int)>24)=true:=by simp only[cond_false,List.length_map] at h00;exact h00
   refine bd ?_
   rw[jL,h0',h00];rfl
  have h00:decide ((b.purses.length:Int)>24)=false:=by simp only[cond_false,List.length_map] at h00;exact h00
  have hob:jL L b=(aq (kI b) none b.purses&&aq (rz L b) none b.ledgers):=by
   rw[jL,h0',h00]
   rw[show aq (rz L b) none b.ledgers=(aq (gk L) none b.ledgers&&b.ledgers.all (sB L b)) from uo]
   cases aq (gk L) none b.ledgers<;>cases aq (kI b) none b.purses<;>rfl
  rw[hob]
  repeat refine ai ?_
  refine d8 (b.purses) (fun i=>aq (kI b) none b.purses=aq (kI b) (cA b.purses i) (b.purses.drop i)) (fun i=>[(2,.ptr 0 0),(3,.ptr 1 0),(5,.d (.int .i64 i))]) (fun i=>⟨[(1,.cells 48 (b.e.map .d)),(0,.cells 41 (L.e.map .d))],2,0⟩) (rfl) ?_
  intro i hi hr
  repeat refine ai ?_
  refine aj ?_ ?_<;>intro h1
  ·have hlt:i<b.purses.length:=V h1
   rw[dR hlt] at hr
   repeat refine ai ?_
   refine O (e:=GatePurse.e) (xs:=b.purses) (hlt) rfl ?_
   repeat refine ai ?_
   refine ak ?_
   repeat refine ai ?_
   repeat' first
    |refine ai ?_
    |(refine n1 ?_;intro h)
    |(refine n2 ?_;intro h)
    |(refine n3 ?_;intro h)
    |(refine n4 ?_;intro h)
    |(refine aj ?_ ?_<;>intro h)
    |refine oc (bC _) ?_
    |refine oc (yQ _ _ _) ?_
    |refine oc (d6 _ _ _) ?_
    |refine oc (vk _ _) ?_
    |refine ak ?_
    |refine aB (e:=GatePurse.e) (xs:=b.purses) (k:=i - 1) (by omega) (aX (lF (by assumption)) hlt hsp) rfl ?_
   all_goals (simp only[cond_false,cond_true,Bool.not_eq_true',Bool.not_eq_false',reduceCtorEq,idx_lt,Bw] at*)
   all_goals first
    |(refine bd ?_
      rw[hr]
      clear hr hob h0 h0' h00
      first|rw[cf (lF (by assumption)) hlt]|rw[cg (pn (by assumption))]|skip
      simp_all only[kI,xe,dz,Bool.true_and,Bool.and_true,Bool.false_and,Bool.and_false,Bool.true_or,Bool.or_true,Bool.false_or,Bool.or_false,Bool.not_true,Bool.not_false]
      done)
    |(refine (fun hq:kI b (cA b.purses i) b.purses[i]=true=>?_) ?_
      rotate_left
      ·clear hr hob h0 h0' h00
       first|rw[cf (lF (by assumption)) hlt]|rw[cg (pn (by assumption))]
       simp_all only[kI,xe,dz,Bool.true_and,Bool.and_true,Bool.false_and,Bool.and_false,Bool.true_or,Bool.or_true,Bool.false_or,Bool.or_false,Bool.not_true,Bool.not_false]
       done
      ·rw[hq,Bool.true_and] at hr
       repeat first|refine ai ?_|refine aj trivial ?_
       exact ⟨_,_,_,⟨i+1,rfl,hlt,hr,rfl,rfl⟩,by omega,rfl,rfl,⟨rfl,rfl,nd (Y hlt hsp),trivial⟩,(by repeat' first|exact rfl|exact trivial|refine aj ?_ ?_),(by repeat' first|exact rfl|exact trivial|refine aj ?_ ?_)⟩
     )
  ·rw[eV (Z h1)] at hr
   rw[hr,Bool.true_and]
   clear hr
   repeat refine ai ?_
   refine d8 (b.ledgers) (fun i=>aq (rz L b) none b.ledgers=aq (rz L b) (cA b.ledgers i) (b.ledgers.drop i)) (fun i=>[(2,.ptr 0 0),(3,.ptr 1 0),(7,.d (.int .i64 i))]) (fun i=>⟨[(1,.cells 48 (b.e.map .d)),(0,.cells 41 (L.e.map .d))],2,0⟩) (rfl) ?_
   intro i hi hr
   repeat refine ai ?_
   refine aj ?_ ?_<;>intro h2
   ·have hlt:i<b.ledgers.length:=V h2
    rw[dR hlt] at hr
    repeat refine ai ?_
    refine O (e:=GateLedger.e) (xs:=b.ledgers) (hlt) rfl ?_
    repeat refine ai ?_
    repeat' first
      |refine ai ?_
      |(refine n1 ?_;intro h)
      |(refine n2 ?_;intro h)
      |(refine n3 ?_;intro h)
      |(refine n4 ?_;intro h)
      |(refine aj ?_ ?_<;>intro h)
      |refine oc (bC _) ?_
      |refine oc (mo _ _) ?_
      |refine oc (vj _ _ _ _) ?_
      |refine oc (yU _ _ _ _) ?_
      |refine oc (DY _ _ _) ?_
      |refine ak ?_
      |refine aB (e:=GateLedger.e) (xs:=b.ledgers) (k:=i - 1) (by omega) (aX (lF (by assumption)) hlt hsl) rfl ?_
    all_goals (simp only[cond_false,cond_true,Bool.not_eq_true',Bool.not_eq_false',reduceCtorEq,idx_lt,py] at*)
    all_goals (try simp only[bne,Bool.not_eq_true',Bool.not_eq_false'] at*)
    all_goals first
      |(refine bd ?_
        rw[hr]
        clear hr hob h0 h0' h00
        first|rw[cf (lF (by assumption)) hlt]|rw[cg (pn (by assumption))]|skip
        simp_all only[rz,gk,sB,mD,dz,Bool.true_and,Bool.and_true,Bool.false_and,Bool.and_false,Bool.true_or,Bool.or_true,Bool.false_or,Bool.or_false,Bool.not_true,Bool.not_false]
        done)
      |(refine (fun hq:rz L b (cA b.ledgers i) b.ledgers[i]=true=>?_) ?_
        rotate_left
        ·clear hr hob h0 h0' h00
         first|rw[cf (lF (by assumption)) hlt]|rw[cg (pn (by assumption))]
         simp_all only[rz,gk,sB,mD,dz,Bool.true_and,Bool.and_true,Bool.false_and,Bool.and_false,Bool.true_or,Bool.or_true,Bool.false_or,Bool.or_false,Bool.not_true,Bool.not_false]
         done
        ·rw[hq,Bool.true_and] at hr
         repeat first|refine ai ?_|refine aj trivial ?_
         exact ⟨_,_,_,⟨i+1,rfl,hlt,hr,rfl,rfl⟩,by omega,rfl,rfl,⟨rfl,rfl,nd (Y hlt hsl),trivial⟩,(by repeat' first|exact rfl|exact trivial|refine aj ?_ ?_),(by repeat' first|exact rfl|exact trivial|refine aj ?_ ?_)⟩
       )
   ·refine bd ?_
    rw[hr,eV (Z h2)]
 ·refine bd ?_
  rw[List.length_map] at h0
  rw[jL,h0];rfl
end Go.Vc
end
section
namespace Go.Vc
open Go.Proofs
set_option maxRecDepth 100000
def m4 (l:GateLaw):Bool:=bw l.shapes l.mends&&fI l.teams
theorem w4 (l:GateLaw):Spec P 114 [st l.e] (.d (.bool (m4 l))):=by
 refine Spec.of_vc aI aw [.tmp 2] Tryz.func114 rfl rfl rfl rfl (fun hok=>?_)
 repeat refine ai ?_
 refine oc (sG _ _) ?_
 repeat refine ai ?_
 refine aj ?_ ?_<;>intro h
 ·repeat refine ai ?_
  refine oc (sF _) ?_
  refine bd ?_
  simp only[m4,h,Bool.true_and]
 ·refine bd ?_
  simp only[m4,h,Bool.false_and]
theorem xU (l:GateLaw):Spec P 125 [st l.e] (.d (.bool (m4 l))):=by
 refine Spec.of_vc aI aw [.tmp 2] Tryz.func125 rfl rfl rfl rfl (fun hok=>?_)
 repeat refine ai ?_
 refine oc (fO _ _) ?_
 repeat refine ai ?_
 refine aj ?_ ?_<;>intro h
 ·repeat refine ai ?_
  refine oc (sQ _) ?_
  refine bd ?_
  simp only[m4,h,Bool.true_and]
 ·refine bd ?_
  simp only[m4,h,Bool.false_and]
end Go.Vc
end
section
namespace Go.Vc
open Go.Proofs
set_option maxRecDepth 100000
def gK (L:GateLaw) (b:GateBook):Bool:=m4 L&&(fi b.now 0 1000000&&(fi b.tick 0 1000000&&(fi b.given 0 b.now&&(mO L b&&(gt b&&jL L b)))))
theorem tY {L:GateLaw} (h:m4 L=true):bw L.shapes L.mends=true:=by
 unfold m4 at h;rw[Bool.and_eq_true] at h;exact h.1
theorem m9 (L:GateLaw) (b:GateBook):Spec P 55 [st L.e,st b.e] (.d (.bool (gK L b))):=by
 refine Spec.of_vc aI aw [.tmp 4] Tryz.func55 rfl rfl rfl rfl (fun hok=>?_)
 repeat refine ai ?_
 refine oc (xU _) ?_
 repeat' first
  |refine ai ?_
  |(refine n1 ?_;intro h)
  |(refine n2 ?_;intro h)
  |(refine n3 ?_;intro h)
  |(refine n4 ?_;intro h)
  |(refine aj ?_ ?_<;>intro h)
  |refine oc (xR L b (tY (nr (by assumption)))) ?_
  |refine oc (zw b) ?_
  |refine oc (C7 L b) ?_
 all_goals (refine bd ?_;simp only[cond_false,cond_true,Bool.not_eq_true',Bool.not_eq_false',reduceCtorEq] at*;simp only[gK,m5, *,bl])
theorem mp (L:GateLaw) (b:GateBook):Spec P 46 [st L.e,st b.e] (.d (.bool (gK L b))):=by
 refine Spec.of_vc aI aw [.tmp 4] Tryz.func46 rfl rfl rfl rfl (fun hok=>?_)
 repeat refine ai ?_
 refine oc (w4 _) ?_
 repeat' first
  |refine ai ?_
  |(refine n1 ?_;intro h)
  |(refine n2 ?_;intro h)
  |(refine n3 ?_;intro h)
  |(refine n4 ?_;intro h)
  |(refine aj ?_ ?_<;>intro h)
  |refine oc (d6 _ _ _) ?_
  |refine oc (sE L b (tY (nr (by assumption)))) ?_
  |refine oc (vl b) ?_
  |refine oc (yP L b) ?_
 all_goals (refine bd ?_;simp only[cond_false,cond_true,Bool.not_eq_true',Bool.not_eq_false',reduceCtorEq] at*;simp only[gK, *,bl])
end Go.Vc
end
section
namespace Go.Vc
open Go.Proofs
set_option maxRecDepth 100000
def bN {α:Type} (p:α→Bool):List α→Nat→List Int
 |[],_=>[]
 |x::xs,i=>bif p x then (i:Int)::bN p xs (i+1) else bN p xs (i+1)
section
variable {α:Type} {p:α→Bool} {xs:List α} {i:Nat}
theorem mG (h:i<xs.length):bN p (xs.drop i) i=bif p xs[i] then (i:Int)::bN p (xs.drop (i+1)) (i+1) else bN p (xs.drop (i+1)) (i+1):=by
 rw[List.drop_eq_getElem_cons h];rfl
theorem oG (h:xs.length≤i):bN p (xs.drop i) i=[]:=by
 rw[List.drop_of_length_le h];rfl
theorem oF:∀(xs:List α) (i:Nat),(bN p xs i).length≤xs.length
 |[],_=>Nat.le_refl _
 |x::xs,i=>by
  have:=oF xs (i+1)
  unfold bN
  cases p x<;>simp only[cond_true,cond_false,List.length_cons]<;>omega
end
def ic (o to:GateObject) (role:Int) (p:Nat×GateField):Bool:=p.2.role==role&&(p.2.to_==to.kind&&uN o.values p.1==to.name)
def gb (xs:List GateShape) (o to:GateObject) (role:Int):Bool:=(cj xs o).any (ic o to role)
def FK (L:GateLaw) (b:GateBook) (o:GateObject):Bool:= !o.ending&&b.objects.any (fun x=>x.ending&&gb L.shapes o x 3)
def GH (L:GateLaw) (b:GateBook):List Int:=bif gK L b then bN (FK L b) b.objects 0 else []
theorem zd {fs:List GateField} {vs:List Bs} {i:Nat} {q:Nat×GateField→Bool} (h:i<fs.length) (h2:i<vs.length):
 (ca (fs.drop i) (vs.drop i) i).any q=((fs[i].kind==4&& !(vs[i]==[])&&q (i,fs[i]))||(ca (fs.drop (i+1)) (vs.drop (i+1)) (i+1)).any q):=by
 rw[g9 h h2]
 cases fs[i].kind==4&& !(vs[i]==[])<;>rfl
theorem BH {fs:List GateField} {vs:List Bs} {i:Nat} {q:Nat×GateField→Bool} (h:fs.length≤i):(ca (fs.drop i) (vs.drop i) i).any q=false:=by
 rw[List.drop_of_length_le h];rfl
theorem tA (L:GateLaw) (b:GateBook) (p q:Nat) (hp:p<b.objects.length) (hq:q<b.objects.length) (role:Int):Spec P 75 [st L.e,st b.e,.d (.int .i64 (p:Int)),.d (.int .i64 (q:Int)),.d (.int .i64 role)] (.d (.bool (gb L.shapes b.objects[p] b.objects[q] role))):=by
 refine Spec.of_vc aI aw [.tmp 10] Tryz.func75 rfl rfl rfl rfl (fun hok=>?_)
 have hvb:=(Aw ⟨hok.2.1,trivial⟩ (List.getElem_mem hp)).1
 repeat refine ai ?_
 refine O (e:=GateObject.e) (xs:=b.objects) (hp) rfl ?_
 repeat refine ai ?_
 generalize ho:b.objects[p]=o at*
 repeat refine ai ?_
 refine oc (eD _ _) ?_
 have hl:=(cr (xs:=L.shapes) (k:=o.kind) (n:=o.values.length)).1
 rw[show gb L.shapes o b.objects[q] role=(ca (ah L.shapes o.kind o.values.length).1 o.values 0).any (ic o b.objects[q] role) from rfl]
 generalize (ah L.shapes o.kind o.values.length).1=fs at*
 repeat refine ai ?_
 refine d8 (fs) (fun i=>(ca fs o.values 0).any (ic o b.objects[q] role)=(ca (fs.drop i) (o.values.drop i) i).any (ic o b.objects[q] role)) (fun i=>[(3,.d (.int .i64 q)),(4,.d (.int .i64 role)),(5,.ptr 0 0),(6,.ptr 1 0),(11,.ptr 2 0),(12,.d (ab fs)),(14,.d (.int .i64 i))]) (fun i=>⟨[(2,.cells 103 (o.e.map .d)),(1,.cells 48 (b.e.map .d)),(0,.cells 41 (L.e.map .d))],3,0⟩) (rfl) ?_
 intro i hi hr
 have hs:fs.length≤big:=by omega
 repeat refine ai ?_
 refine aj ?_ ?_<;>intro h1
 ·have hlt:i<fs.length:=V h1
  have hlt2:i<o.values.length:=by omega
  rw[zd hlt hlt2,show ic o b.objects[q] role (i,fs[i])=(fs[i].role==role&&(fs[i].to_==b.objects[q].kind&&o.values[i]==b.objects[q].name)) from by simp only[ic,f9 hlt2]] at hr
  repeat refine ai ?_
  refine O (e:=GateField.e) (xs:=fs) (hlt) rfl ?_
  repeat refine ai ?_
  refine ak ?_
  repeat refine ai ?_
  refine aj ?_ ?_<;>intro c1
  ·repeat refine ai ?_
   refine aj ?_ ?_<;>intro c2
   ·repeat refine ai ?_
    refine O (e:=eB) (xs:=o.values) (hlt2) rfl ?_
    repeat refine ai ?_
    refine aj ?_ ?_<;>intro c3
    ·repeat refine ai ?_
     refine O (e:=GateObject.e) (xs:=b.objects) (hq) rfl ?_
     repeat refine ai ?_
     refine aj ?_ ?_<;>intro c4
     ·repeat refine ai ?_
      refine O (e:=eB) (xs:=o.values) (hlt2) rfl ?_
      repeat refine ai ?_
      refine O (e:=GateObject.e) (xs:=b.objects) (hq) rfl ?_
      repeat refine ai ?_
      refine aj ?_ ?_<;>intro c5
      ·repeat refine ai ?_
       refine bd ?_
       rw[hr]
       simp only[cond_true] at c2 c3 c4 c5
       simp only[c1,c2,c3,c4,c5,Bool.and_self,Bool.true_or]
      ·try simp only[cond_true] at*
       repeat' first
        |refine ai ?_
        |refine aj (fun h=>nomatch (show false=true from h)) (fun _=>?_)
       exact bQ hlt hs (by rw[hr];simp only[c5,bl])
     ·try simp only[cond_true] at*
      repeat' first
       |refine ai ?_
       |refine aj (fun h=>nomatch (show false=true from h)) (fun _=>?_)
      exact bQ hlt hs (by rw[hr];simp only[c4,bl])
    ·try simp only[cond_true] at*
     repeat' first
      |refine ai ?_
      |refine aj (fun h=>nomatch (show false=true from h)) (fun _=>?_)
     exact bQ hlt hs (by rw[hr];simp only[c3,bl])
   ·try simp only[cond_true] at*
    repeat' first
     |refine ai ?_
     |refine aj (fun h=>nomatch (show false=true from h)) (fun _=>?_)
    exact bQ hlt hs (by rw[hr];simp only[c2,bl])
  ·try simp only[cond_true] at*
   repeat' first
    |refine ai ?_
    |refine aj (fun h=>nomatch (show false=true from h)) (fun _=>?_)
   exact bQ hlt hs (by rw[hr];simp only[c1,bl])
 ·repeat refine ai ?_
  refine bd ?_
  rw[hr,BH (Z h1)]
end Go.Vc
end
section
namespace Go.Vc
section
variable {n:Nat} {nm:Nat→Nat→Bool}
def Ab (n:Nat) (nm:Nat→Nat→Bool) (C:Nat→Bool):Prop:=∀x,x<n→C x=true→∀y,y<n→C y=false→nm y x=false
open Classical in
noncomputable def pq (n:Nat) (nm:Nat→Nat→Bool) (I:Nat→Bool) (x:Nat):Bool:=decide (∃C,Ab n nm C∧(∀z,z<n→C z=true→I z=true)∧C x=true)
theorem gst_iff {I:Nat→Bool} {x:Nat}:pq n nm I x=true↔∃C,Ab n nm C∧(∀z,z<n→C z=true→I z=true)∧C x=true:=by
 unfold pq
 exact @decide_eq_true_iff _ (Classical.propDecidable _)
theorem zD {I:Nat→Bool} {x:Nat} (hx:x<n) (h:pq n nm I x=true):I x=true:=by
 obtain ⟨C,_,h2,h3⟩:=gst_iff.1 h
 exact h2 x hx h3
theorem xW {I:Nat→Bool}:Ab n nm (pq n nm I):=by
 intro x hx h y hy hn
 obtain ⟨C,h1,h2,h3⟩:=gst_iff.1 h
 refine h1 x hx h3 y hy ?_
 cases hc:C y with
 |false=>rfl
 |true=>rw[gst_iff.2 ⟨C,h1,h2,hc⟩] at hn;cases hn
structure Gi (n:Nat) (nm:Nat→Nat→Bool) (I S:Nat→Bool):Prop where
 sub:∀x,x<n→S x=true→I x=true
 big:∀x,x<n→pq n nm I x=true→S x=true
theorem Gi.done {I S:Nat→Bool} (g:Gi n nm I S) (hs:Ab n nm S) {x:Nat} (hx:x<n):S x=pq n nm I x:=by
 cases h:S x with
 |false=>
  cases h2:pq n nm I x with
  |false=>rfl
  |true=>rw[g.big x hx h2] at h;cases h
 |true=>exact (gst_iff.2 ⟨S,hs,g.sub,h⟩).symm
theorem Gi.out {I S:Nat→Bool} (g:Gi n nm I S) {x y:Nat} (hx:x<n) (hy:y<n) (hn:S y=false) (h:nm y x=true):pq n nm I x=false:=by
 cases hg:pq n nm I x with
 |false=>rfl
 |true=>
  have:pq n nm I y=false:=by
   cases h2:pq n nm I y with
   |false=>rfl
   |true=>rw[g.big y hy h2] at hn;cases hn
  rw[xW x hx hg y hy this] at h
  cases h
theorem DN {I:Nat→Bool}:Gi n nm I I:=⟨fun _ _ h=>h,fun _ hx h=>zD hx h⟩
theorem Gi.drop {I S S':Nat→Bool} (g:Gi n nm I S) {x:Nat} (hg:x<n→pq n nm I x=false) (h:∀z,S' z=(S z&& !(z==x))):Gi n nm I S':=by
 refine ⟨fun z hz hs=>?_,fun z hz hs=>?_⟩
 ·rw[h,Bool.and_eq_true] at hs
  exact g.sub z hz hs.1
 ·rw[h,g.big z hz hs,Bool.true_and]
  cases e:z==x with
  |false=>rfl
  |true=>rw[beq_iff_eq] at e;subst e;rw[hg hz] at hs;cases hs
end
def lO (s:List Bool) (i:Nat):Bool:=match s[i]? with|some v=>v|none=>false
theorem oo {s:List Bool} {i:Nat} (h:i<s.length):lO s i=s[i]:=by unfold lO;rw[List.getElem?_eq_getElem h]
theorem Ep {s:List Bool} {i j:Nat} (h:i<s.length):lO (s.set i false) j=(lO s j&& !(j==i)):=by
 unfold lO
 rw[List.getElem?_set]
 by_cases e:i=j
 ·subst e
  rw[if_pos rfl,if_pos h]
  simp
 ·rw[if_neg e]
  have:(j==i)=false:=by rw[beq_eq_false_iff_ne];exact fun h=>e h.symm
  rw[this,Bool.not_false,Bool.and_true]
theorem um:∀{s:List Bool} {i:Nat} (h:i<s.length),s[i]=true→(s.set i false).count true+1=s.count true
 |[],i,h,_=>by simp at h
 |b::s,0,h,e=>by
  simp only[List.getElem_cons_zero] at e
  subst e
  simp
 |b::s,i+1,h,e=>by
  have:=um (s:=s) (i:=i) (by simpa using h) (by simpa using e)
  rw[List.set_cons_succ,List.count_cons,List.count_cons,←this];omega
theorem BW (s:List Bool):s.count true≤s.length:=List.count_le_length
theorem nb {l0:List Nat} (hn:l0.Nodup) {p:Nat→Bool} {x:Nat}:(l0.filter p).erase x=l0.filter (fun z=>p z&& !(z==x)):=by
 rw[List.Nodup.erase_eq_filter (hn.filter p),List.filter_filter]
 congr 1
 funext z
 rw[Bool.and_comm]
 rfl
theorem BU {l:List Nat} {x:Nat} (h:x∈l):(l.erase x).length+1=l.length:=by
 have:=List.length_erase_of_mem h
 have:=List.length_pos_of_mem h
 omega
end Go.Vc
end
section
namespace Go.Vc
open Go.Proofs
set_option maxRecDepth 100000
def aY (xs:List Bs) (n:Int):Int:=aG (IntKind.i64.wrap (n - ((xs.map eB).length:Int))) fun n=>gN (fun (s:Bs) n=>IntKind.i64.wrap (n - (s.length:Int))) xs n
theorem wV (xs:List Bs) (n:Int):Spec P 168 [.d (lS xs),.d (.int .i64 n)] (.d (.int .i64 (aG (IntKind.i64.wrap (n - ((xs.map eB).length:Int))) fun n=>gN (fun (s:Bs) n=>IntKind.i64.wrap (n - (s.length:Int))) xs n))):=by
 refine Spec.of_vc aI aw [.tmp 4] Tryz.func168 rfl rfl rfl rfl (fun hok=>?_)
 have hs:xs.length≤big:=by have:=hok.1.1;rwa [List.length_map] at this
 refine aj (fun h=>nd (by simp only[aG,h,cond_true,cond_false])) (fun h=>?_)
 simp only[aG,h,cond_true,cond_false]
 refine ⟨fun k l h=>∃(i:Nat) (v:Int),k=xs.length - i∧i≤xs.length∧gN (fun (s:Bs) n=>IntKind.i64.wrap (n - (s.length:Int))) xs (IntKind.i64.wrap (n - ((xs.map eB).length:Int)))=gN (fun (s:Bs) n=>IntKind.i64.wrap (n - (s.length:Int))) (xs.drop i) v∧l=[(0,.d (lS xs)),(1,.d (.int .i64 v)),(5,.d (.int .i64 i))]∧h=hp0,
  ⟨_,_,_,⟨0,_,rfl,Nat.zero_le _,rfl,rfl,rfl⟩,rfl,rfl,⟨rfl,rfl,rfl,trivial⟩,trivial,trivial⟩,?_⟩
 rintro k l h1 ⟨i,v,rfl,hi,hr,rfl,rfl⟩
 refine aj ?_ ?_<;>intro h1
 ·have hlt:i<xs.length:=V h1
  repeat refine ai ?_
  refine O (e:=eB) (xs:=xs) (hlt) rfl ?_
  repeat refine ai ?_
  refine aj ?_ ?_<;>intro h2
  ·refine nd ?_
   rw[hr,bP hlt]
   simp only[aG,h2,cond_true]
  ·refine ⟨_,_,_,⟨i+1,_,rfl,hlt,?_,rfl,rfl⟩,by omega,rfl,rfl,⟨rfl,rfl,nd (Y hlt hs),trivial⟩,trivial,trivial⟩
   rw[hr,bP hlt]
   simp only[aG,h2,cond_false]
 ·refine nd ?_
  rw[hr,List.drop_of_length_le (Z h1)];rfl
theorem jK (xs:List Bs) (n:Int):Spec P 168 [.d (lS xs),.d (.int .i64 n)] (.d (.int .i64 (aY xs n))):=wV xs n
def dq (x:List Int) (n:Int):Int:=aG (IntKind.i64.wrap (n - ((x.map eN).length:Int))) fun n=>n
theorem Cn (x:List Int) (n:Int):Spec P 200 [.d (lI x),.d (.int .i64 n)] (.d (.int .i64 (aG (IntKind.i64.wrap (n - ((x.map eN).length:Int))) fun n=>n))):=by
 refine Spec.of_vc aI aw [.tmp 4] Tryz.func200 rfl rfl rfl rfl (fun hok=>?_)
 refine aj (fun h=>nd (by simp only[aG,h,cond_true,cond_false])) (fun h=>nd (by simp only[aG,h,cond_true,cond_false]))
theorem Cm (x:List Int) (n:Int):Spec P 200 [.d (lI x),.d (.int .i64 n)] (.d (.int .i64 (dq x n))):=Cn x n
def cq (x:GateField) (n:Int):Int:=aG (IntKind.i64.wrap (n - (x.name.length:Int))) fun n=>aG (aY x.words n) fun n=>aG (IntKind.i64.wrap (n - (x.to_.length:Int))) fun n=>aG (IntKind.i64.wrap (n - (x.default_.length:Int))) fun n=>aG (IntKind.i64.wrap (n - (x.weighs.length:Int))) fun n=>n
theorem sA (x:GateField) (n:Int):Spec P 199 [st x.e,.d (.int .i64 n)] (.d (.int .i64 (aG (IntKind.i64.wrap (n - (x.name.length:Int))) fun n=>aG (aY x.words n) fun n=>aG (IntKind.i64.wrap (n - (x.to_.length:Int))) fun n=>aG (IntKind.i64.wrap (n - (x.default_.length:Int))) fun n=>aG (IntKind.i64.wrap (n - (x.weighs.length:Int))) fun n=>n))):=by
 refine Spec.of_vc aI aw [.tmp 4] Tryz.func199 rfl rfl rfl rfl (fun hok=>?_)
 refine aj (fun h=>nd (by simp only[aG,h, *,cond_true,cond_false])) (fun h0=>?_)
 repeat refine ai ?_
 refine oc (jK _ _) ?_
 refine aj (fun h=>nd (by simp only[aG,h, *,cond_true,cond_false])) (fun h1=>?_)
 refine aj (fun h=>nd (by simp only[aG,h, *,cond_true,cond_false])) (fun h2=>?_)
 refine aj (fun h=>nd (by simp only[aG,h, *,cond_true,cond_false])) (fun h3=>?_)
 refine aj (fun h=>nd (by simp only[aG,h, *,cond_true,cond_false])) (fun h4=>?_)
 exact nd (by simp only[aG, *,cond_true,cond_false])
theorem ss (x:GateField) (n:Int):Spec P 199 [st x.e,.d (.int .i64 n)] (.d (.int .i64 (cq x n))):=sA x n
def dK (xs:List GateField) (n:Int):Int:=aG (IntKind.i64.wrap (n - ((xs.map GateField.e).length:Int))) fun n=>gN cq xs n
theorem qs (xs:List GateField) (n:Int):Spec P 167 [.d (ab xs),.d (.int .i64 n)] (.d (.int .i64 (aG (IntKind.i64.wrap (n - ((xs.map GateField.e).length:Int))) fun n=>gN cq xs n))):=by
 refine Spec.of_vc aI aw [.tmp 4] Tryz.func167 rfl rfl rfl rfl (fun hok=>?_)
 have hs:xs.length≤big:=by have:=hok.1.1;rwa [List.length_map] at this
 refine aj (fun h=>nd (by simp only[aG,h,cond_true,cond_false])) (fun h=>?_)
 simp only[aG,h,cond_true,cond_false]
 refine ⟨fun k l h=>∃(i:Nat) (v:Int),k=xs.length - i∧i≤xs.length∧gN cq xs (IntKind.i64.wrap (n - ((xs.map GateField.e).length:Int)))=gN cq (xs.drop i) v∧l=[(0,.d (ab xs)),(1,.d (.int .i64 v)),(5,.d (.int .i64 i))]∧h=hp0,
  ⟨_,_,_,⟨0,_,rfl,Nat.zero_le _,rfl,rfl,rfl⟩,rfl,rfl,⟨rfl,rfl,rfl,trivial⟩,trivial,trivial⟩,?_⟩
 rintro k l h1 ⟨i,v,rfl,hi,hr,rfl,rfl⟩
 refine aj ?_ ?_<;>intro h1
 ·have hlt:i<xs.length:=V h1
  repeat refine ai ?_
  refine O (e:=GateField.e) (xs:=xs) (hlt) rfl ?_
  repeat refine ai ?_
  refine oc (ss _ _) ?_
  refine aj ?_ ?_<;>intro h2
  ·refine nd ?_
   rw[hr,bP hlt]
   simp only[aG,h2,cond_true]
  ·refine ⟨_,_,_,⟨i+1,_,rfl,hlt,?_,rfl,rfl⟩,by omega,rfl,rfl,⟨rfl,rfl,nd (Y hlt hs),trivial⟩,trivial,trivial⟩
   rw[hr,bP hlt]
   simp only[aG,h2,cond_false]
 ·refine nd ?_
  rw[hr,List.drop_of_length_le (Z h1)];rfl
theorem qm (xs:List GateField) (n:Int):Spec P 167 [.d (ab xs),.d (.int .i64 n)] (.d (.int .i64 (dK xs n))):=qs xs n
def cm (x:GateShape) (n:Int):Int:=aG (IntKind.i64.wrap (n - (x.kind.length:Int))) fun n=>aG (dK x.fields n) fun n=>n
theorem sv (x:GateShape) (n:Int):Spec P 107 [st x.e,.d (.int .i64 n)] (.d (.int .i64 (aG (IntKind.i64.wrap (n - (x.kind.length:Int))) fun n=>aG (dK x.fields n) fun n=>n))):=by
 refine Spec.of_vc aI aw [.tmp 4] Tryz.func107 rfl rfl rfl rfl (fun hok=>?_)
 refine aj (fun h=>nd (by simp only[aG,h, *,cond_true,cond_false])) (fun h0=>?_)
 repeat refine ai ?_
 refine oc (qm _ _) ?_
 refine aj (fun h=>nd (by simp only[aG,h, *,cond_true,cond_false])) (fun h1=>?_)
 exact nd (by simp only[aG, *,cond_true,cond_false])
theorem sn (x:GateShape) (n:Int):Spec P 107 [st x.e,.d (.int .i64 n)] (.d (.int .i64 (cm x n))):=sv x n
def cu (xs:List GateShape) (n:Int):Int:=aG (IntKind.i64.wrap (n - ((xs.map GateShape.e).length:Int))) fun n=>gN cm xs n
theorem qn (xs:List GateShape) (n:Int):Spec P 39 [.d (aa xs),.d (.int .i64 n)] (.d (.int .i64 (aG (IntKind.i64.wrap (n - ((xs.map GateShape.e).length:Int))) fun n=>gN cm xs n))):=by
 refine Spec.of_vc aI aw [.tmp 4] Tryz.func39 rfl rfl rfl rfl (fun hok=>?_)
 have hs:xs.length≤big:=by have:=hok.1.1;rwa [List.length_map] at this
 refine aj (fun h=>nd (by simp only[aG,h,cond_true,cond_false])) (fun h=>?_)
 simp only[aG,h,cond_true,cond_false]
 refine ⟨fun k l h=>∃(i:Nat) (v:Int),k=xs.length - i∧i≤xs.length∧gN cm xs (IntKind.i64.wrap (n - ((xs.map GateShape.e).length:Int)))=gN cm (xs.drop i) v∧l=[(0,.d (aa xs)),(1,.d (.int .i64 v)),(5,.d (.int .i64 i))]∧h=hp0,
  ⟨_,_,_,⟨0,_,rfl,Nat.zero_le _,rfl,rfl,rfl⟩,rfl,rfl,⟨rfl,rfl,rfl,trivial⟩,trivial,trivial⟩,?_⟩
 rintro k l h1 ⟨i,v,rfl,hi,hr,rfl,rfl⟩
 refine aj ?_ ?_<;>intro h1
 ·have hlt:i<xs.length:=V h1
  repeat refine ai ?_
  refine O (e:=GateShape.e) (xs:=xs) (hlt) rfl ?_
  repeat refine ai ?_
  refine oc (sn _ _) ?_
  refine aj ?_ ?_<;>intro h2
  ·refine nd ?_
   rw[hr,bP hlt]
   simp only[aG,h2,cond_true]
  ·refine ⟨_,_,_,⟨i+1,_,rfl,hlt,?_,rfl,rfl⟩,by omega,rfl,rfl,⟨rfl,rfl,nd (Y hlt hs),trivial⟩,trivial,trivial⟩
   rw[hr,bP hlt]
   simp only[aG,h2,cond_false]
 ·refine nd ?_
  rw[hr,List.drop_of_length_le (Z h1)];rfl
theorem qh (xs:List GateShape) (n:Int):Spec P 39 [.d (aa xs),.d (.int .i64 n)] (.d (.int .i64 (cu xs n))):=qn xs n
def cG (x:GateMend) (n:Int):Int:=aG (IntKind.i64.wrap (n - (x.kind.length:Int))) fun n=>aG (IntKind.i64.wrap (n - (x.field.length:Int))) fun n=>aG (IntKind.i64.wrap (n - (x.when_.length:Int))) fun n=>aG (IntKind.i64.wrap (n - (x.is_.length:Int))) fun n=>aG (IntKind.i64.wrap (n - (x.put.length:Int))) fun n=>aG (IntKind.i64.wrap (n - (x.from_.length:Int))) fun n=>n
theorem vg (x:GateMend) (n:Int):Spec P 108 [st x.e,.d (.int .i64 n)] (.d (.int .i64 (aG (IntKind.i64.wrap (n - (x.kind.length:Int))) fun n=>aG (IntKind.i64.wrap (n - (x.field.length:Int))) fun n=>aG (IntKind.i64.wrap (n - (x.when_.length:Int))) fun n=>aG (IntKind.i64.wrap (n - (x.is_.length:Int))) fun n=>aG (IntKind.i64.wrap (n - (x.put.length:Int))) fun n=>aG (IntKind.i64.wrap (n - (x.from_.length:Int))) fun n=>n))):=by
 refine Spec.of_vc aI aw [.tmp 4] Tryz.func108 rfl rfl rfl rfl (fun hok=>?_)
 refine aj (fun h=>nd (by simp only[aG,h, *,cond_true,cond_false])) (fun h0=>?_)
 refine aj (fun h=>nd (by simp only[aG,h, *,cond_true,cond_false])) (fun h1=>?_)
 refine aj (fun h=>nd (by simp only[aG,h, *,cond_true,cond_false])) (fun h2=>?_)
 refine aj (fun h=>nd (by simp only[aG,h, *,cond_true,cond_false])) (fun h3=>?_)
 refine aj (fun h=>nd (by simp only[aG,h, *,cond_true,cond_false])) (fun h4=>?_)
 refine aj (fun h=>nd (by simp only[aG,h, *,cond_true,cond_false])) (fun h5=>?_)
 exact nd (by simp only[aG, *,cond_true,cond_false])
theorem vb (x:GateMend) (n:Int):Spec P 108 [st x.e,.d (.int .i64 n)] (.d (.int .i64 (cG x n))):=vg x n
def du (xs:List GateMend) (n:Int):Int:=aG (IntKind.i64.wrap (n - ((xs.map GateMend.e).length:Int))) fun n=>gN cG xs n
theorem sx (xs:List GateMend) (n:Int):Spec P 40 [.d (af xs),.d (.int .i64 n)] (.d (.int .i64 (aG (IntKind.i64.wrap (n - ((xs.map GateMend.e).length:Int))) fun n=>gN cG xs n))):=by
 refine Spec.of_vc aI aw [.tmp 4] Tryz.func40 rfl rfl rfl rfl (fun hok=>?_)
 have hs:xs.length≤big:=by have:=hok.1.1;rwa [List.length_map] at this
 refine aj (fun h=>nd (by simp only[aG,h,cond_true,cond_false])) (fun h=>?_)
 simp only[aG,h,cond_true,cond_false]
 refine ⟨fun k l h=>∃(i:Nat) (v:Int),k=xs.length - i∧i≤xs.length∧gN cG xs (IntKind.i64.wrap (n - ((xs.map GateMend.e).length:Int)))=gN cG (xs.drop i) v∧l=[(0,.d (af xs)),(1,.d (.int .i64 v)),(5,.d (.int .i64 i))]∧h=hp0,
  ⟨_,_,_,⟨0,_,rfl,Nat.zero_le _,rfl,rfl,rfl⟩,rfl,rfl,⟨rfl,rfl,rfl,trivial⟩,trivial,trivial⟩,?_⟩
 rintro k l h1 ⟨i,v,rfl,hi,hr,rfl,rfl⟩
 refine aj ?_ ?_<;>intro h1
 ·have hlt:i<xs.length:=V h1
  repeat refine ai ?_
  refine O (e:=GateMend.e) (xs:=xs) (hlt) rfl ?_
  repeat refine ai ?_
  refine oc (vb _ _) ?_
  refine aj ?_ ?_<;>intro h2
  ·refine nd ?_
   rw[hr,bP hlt]
   simp only[aG,h2,cond_true]
  ·refine ⟨_,_,_,⟨i+1,_,rfl,hlt,?_,rfl,rfl⟩,by omega,rfl,rfl,⟨rfl,rfl,nd (Y hlt hs),trivial⟩,trivial,trivial⟩
   rw[hr,bP hlt]
   simp only[aG,h2,cond_false]
 ·refine nd ?_
  rw[hr,List.drop_of_length_le (Z h1)];rfl
theorem sq (xs:List GateMend) (n:Int):Spec P 40 [.d (af xs),.d (.int .i64 n)] (.d (.int .i64 (du xs n))):=sx xs n
def cF (x:GateTeam) (n:Int):Int:=aG (IntKind.i64.wrap (n - (x.name.length:Int))) fun n=>aG (IntKind.i64.wrap (n - (x.over.length:Int))) fun n=>n
theorem ve (x:GateTeam) (n:Int):Spec P 109 [st x.e,.d (.int .i64 n)] (.d (.int .i64 (aG (IntKind.i64.wrap (n - (x.name.length:Int))) fun n=>aG (IntKind.i64.wrap (n - (x.over.length:Int))) fun n=>n))):=by
 refine Spec.of_vc aI aw [.tmp 4] Tryz.func109 rfl rfl rfl rfl (fun hok=>?_)
 refine aj (fun h=>nd (by simp only[aG,h, *,cond_true,cond_false])) (fun h0=>?_)
 refine aj (fun h=>nd (by simp only[aG,h, *,cond_true,cond_false])) (fun h1=>?_)
 exact nd (by simp only[aG, *,cond_true,cond_false])
theorem u9 (x:GateTeam) (n:Int):Spec P 109 [st x.e,.d (.int .i64 n)] (.d (.int .i64 (cF x n))):=ve x n
def ec (xs:List GateTeam) (n:Int):Int:=aG (IntKind.i64.wrap (n - ((xs.map GateTeam.e).length:Int))) fun n=>gN cF xs n
theorem su (xs:List GateTeam) (n:Int):Spec P 41 [.d (am xs),.d (.int .i64 n)] (.d (.int .i64 (aG (IntKind.i64.wrap (n - ((xs.map GateTeam.e).length:Int))) fun n=>gN cF xs n))):=by
 refine Spec.of_vc aI aw [.tmp 4] Tryz.func41 rfl rfl rfl rfl (fun hok=>?_)
 have hs:xs.length≤big:=by have:=hok.1.1;rwa [List.length_map] at this
 refine aj (fun h=>nd (by simp only[aG,h,cond_true,cond_false])) (fun h=>?_)
 simp only[aG,h,cond_true,cond_false]
 refine ⟨fun k l h=>∃(i:Nat) (v:Int),k=xs.length - i∧i≤xs.length∧gN cF xs (IntKind.i64.wrap (n - ((xs.map GateTeam.e).length:Int)))=gN cF (xs.drop i) v∧l=[(0,.d (am xs)),(1,.d (.int .i64 v)),(5,.d (.int .i64 i))]∧h=hp0,
  ⟨_,_,_,⟨0,_,rfl,Nat.zero_le _,rfl,rfl,rfl⟩,rfl,rfl,⟨rfl,rfl,rfl,trivial⟩,trivial,trivial⟩,?_⟩
 rintro k l h1 ⟨i,v,rfl,hi,hr,rfl,rfl⟩
 refine aj ?_ ?_<;>intro h1
 ·have hlt:i<xs.length:=V h1
  repeat refine ai ?_
  refine O (e:=GateTeam.e) (xs:=xs) (hlt) rfl ?_
  repeat refine ai ?_
  refine oc (u9 _ _) ?_
  refine aj ?_ ?_<;>intro h2
  ·refine nd ?_
   rw[hr,bP hlt]
   simp only[aG,h2,cond_true]
  ·refine ⟨_,_,_,⟨i+1,_,rfl,hlt,?_,rfl,rfl⟩,by omega,rfl,rfl,⟨rfl,rfl,nd (Y hlt hs),trivial⟩,trivial,trivial⟩
   rw[hr,bP hlt]
   simp only[aG,h2,cond_false]
 ·refine nd ?_
  rw[hr,List.drop_of_length_le (Z h1)];rfl
theorem sk (xs:List GateTeam) (n:Int):Spec P 41 [.d (am xs),.d (.int .i64 n)] (.d (.int .i64 (ec xs n))):=su xs n
def eQ (x:GateLaw) (n:Int):Int:=aG (cu x.shapes n) fun n=>aG (du x.mends n) fun n=>aG (ec x.teams n) fun n=>n
theorem wW (x:GateLaw) (n:Int):Spec P 11 [st x.e,.d (.int .i64 n)] (.d (.int .i64 (aG (cu x.shapes n) fun n=>aG (du x.mends n) fun n=>aG (ec x.teams n) fun n=>n))):=by
 refine Spec.of_vc aI aw [.tmp 4] Tryz.func11 rfl rfl rfl rfl (fun hok=>?_)
 repeat refine ai ?_
 refine oc (qh _ _) ?_
 refine aj (fun h=>nd (by simp only[aG,h, *,cond_true,cond_false])) (fun h0=>?_)
 repeat refine ai ?_
 refine oc (sq _ _) ?_
 refine aj (fun h=>nd (by simp only[aG,h, *,cond_true,cond_false])) (fun h1=>?_)
 repeat refine ai ?_
 refine oc (sk _ _) ?_
 refine aj (fun h=>nd (by simp only[aG,h, *,cond_true,cond_false])) (fun h2=>?_)
 exact nd (by simp only[aG, *,cond_true,cond_false])
theorem wU (x:GateLaw) (n:Int):Spec P 11 [st x.e,.d (.int .i64 n)] (.d (.int .i64 (eQ x n))):=wW x n
def bY (x:GateObject) (n:Int):Int:=aG (IntKind.i64.wrap (n - (x.kind.length:Int))) fun n=>aG (IntKind.i64.wrap (n - (x.name.length:Int))) fun n=>aG (IntKind.i64.wrap (n - (x.team.length:Int))) fun n=>aG (aY x.values n) fun n=>aG (aY x.holds n) fun n=>n
theorem qp (x:GateObject) (n:Int):Spec P 110 [st x.e,.d (.int .i64 n)] (.d (.int .i64 (aG (IntKind.i64.wrap (n - (x.kind.length:Int))) fun n=>aG (IntKind.i64.wrap (n - (x.name.length:Int))) fun n=>aG (IntKind.i64.wrap (n - (x.team.length:Int))) fun n=>aG (aY x.values n) fun n=>aG (aY x.holds n) fun n=>n))):=by
 refine Spec.of_vc aI aw [.tmp 4] Tryz.func110 rfl rfl rfl rfl (fun hok=>?_)
 refine aj (fun h=>nd (by simp only[aG,h, *,cond_true,cond_false])) (fun h0=>?_)
 refine aj (fun h=>nd (by simp only[aG,h, *,cond_true,cond_false])) (fun h1=>?_)
 refine aj (fun h=>nd (by simp only[aG,h, *,cond_true,cond_false])) (fun h2=>?_)
 repeat refine ai ?_
 refine oc (jK _ _) ?_
 refine aj (fun h=>nd (by simp only[aG,h, *,cond_true,cond_false])) (fun h3=>?_)
 repeat refine ai ?_
 refine oc (jK _ _) ?_
 refine aj (fun h=>nd (by simp only[aG,h, *,cond_true,cond_false])) (fun h4=>?_)
 exact nd (by simp only[aG, *,cond_true,cond_false])
theorem qj (x:GateObject) (n:Int):Spec P 110 [st x.e,.d (.int .i64 n)] (.d (.int .i64 (bY x n))):=qp x n
def bK (xs:List GateObject) (n:Int):Int:=aG (IntKind.i64.wrap (n - ((xs.map GateObject.e).length:Int))) fun n=>gN bY xs n
theorem o8 (xs:List GateObject) (n:Int):Spec P 42 [.d (aM xs),.d (.int .i64 n)] (.d (.int .i64 (aG (IntKind.i64.wrap (n - ((xs.map GateObject.e).length:Int))) fun n=>gN bY xs n))):=by
 refine Spec.of_vc aI aw [.tmp 4] Tryz.func42 rfl rfl rfl rfl (fun hok=>?_)
 have hs:xs.length≤big:=by have:=hok.1.1;rwa [List.length_map] at this
 refine aj (fun h=>nd (by simp only[aG,h,cond_true,cond_false])) (fun h=>?_)
 simp only[aG,h,cond_true,cond_false]
 refine ⟨fun k l h=>∃(i:Nat) (v:Int),k=xs.length - i∧i≤xs.length∧gN bY xs (IntKind.i64.wrap (n - ((xs.map GateObject.e).length:Int)))=gN bY (xs.drop i) v∧l=[(0,.d (aM xs)),(1,.d (.int .i64 v)),(5,.d (.int .i64 i))]∧h=hp0,
  ⟨_,_,_,⟨0,_,rfl,Nat.zero_le _,rfl,rfl,rfl⟩,rfl,rfl,⟨rfl,rfl,rfl,trivial⟩,trivial,trivial⟩,?_⟩
 rintro k l h1 ⟨i,v,rfl,hi,hr,rfl,rfl⟩
 refine aj ?_ ?_<;>intro h1
 ·have hlt:i<xs.length:=V h1
  repeat refine ai ?_
  refine O (e:=GateObject.e) (xs:=xs) (hlt) rfl ?_
  repeat refine ai ?_
  refine oc (qj _ _) ?_
  refine aj ?_ ?_<;>intro h2
  ·refine nd ?_
   rw[hr,bP hlt]
   simp only[aG,h2,cond_true]
  ·refine ⟨_,_,_,⟨i+1,_,rfl,hlt,?_,rfl,rfl⟩,by omega,rfl,rfl,⟨rfl,rfl,nd (Y hlt hs),trivial⟩,trivial,trivial⟩
   rw[hr,bP hlt]
   simp only[aG,h2,cond_false]
 ·refine nd ?_
  rw[hr,List.drop_of_length_le (Z h1)];rfl
theorem o6 (xs:List GateObject) (n:Int):Spec P 42 [.d (aM xs),.d (.int .i64 n)] (.d (.int .i64 (bK xs n))):=o8 xs n
def dT (x:GateRule) (n:Int):Int:=aG (dq x.verbs n) fun n=>aG (IntKind.i64.wrap (n - (x.kind.length:Int))) fun n=>aG (IntKind.i64.wrap (n - (x.team.length:Int))) fun n=>aG (IntKind.i64.wrap (n - (x.prefix_.length:Int))) fun n=>n
theorem vf (x:GateRule) (n:Int):Spec P 169 [st x.e,.d (.int .i64 n)] (.d (.int .i64 (aG (dq x.verbs n) fun n=>aG (IntKind.i64.wrap (n - (x.kind.length:Int))) fun n=>aG (IntKind.i64.wrap (n - (x.team.length:Int))) fun n=>aG (IntKind.i64.wrap (n - (x.prefix_.length:Int))) fun n=>n))):=by
 refine Spec.of_vc aI aw [.tmp 4] Tryz.func169 rfl rfl rfl rfl (fun hok=>?_)
 repeat refine ai ?_
 refine oc (Cm _ _) ?_
 refine aj (fun h=>nd (by simp only[aG,h, *,cond_true,cond_false])) (fun h0=>?_)
 refine aj (fun h=>nd (by simp only[aG,h, *,cond_true,cond_false])) (fun h1=>?_)
 refine aj (fun h=>nd (by simp only[aG,h, *,cond_true,cond_false])) (fun h2=>?_)
 refine aj (fun h=>nd (by simp only[aG,h, *,cond_true,cond_false])) (fun h3=>?_)
 exact nd (by simp only[aG, *,cond_true,cond_false])
theorem va (x:GateRule) (n:Int):Spec P 169 [st x.e,.d (.int .i64 n)] (.d (.int .i64 (dT x n))):=vf x n
def co (x:GateGrant) (n:Int):Int:=aG (IntKind.i64.wrap (n - (x.to_.length:Int))) fun n=>aG (IntKind.i64.wrap (n - (x.by_.length:Int))) fun n=>aG (dT x.rule n) fun n=>n
theorem sy (x:GateGrant) (n:Int):Spec P 111 [st x.e,.d (.int .i64 n)] (.d (.int .i64 (aG (IntKind.i64.wrap (n - (x.to_.length:Int))) fun n=>aG (IntKind.i64.wrap (n - (x.by_.length:Int))) fun n=>aG (dT x.rule n) fun n=>n))):=by
 refine Spec.of_vc aI aw [.tmp 4] Tryz.func111 rfl rfl rfl rfl (fun hok=>?_)
 refine aj (fun h=>nd (by simp only[aG,h, *,cond_true,cond_false])) (fun h0=>?_)
 refine aj (fun h=>nd (by simp only[aG,h, *,cond_true,cond_false])) (fun h1=>?_)
 repeat refine ai ?_
 refine oc (va _ _) ?_
 refine aj (fun h=>nd (by simp only[aG,h, *,cond_true,cond_false])) (fun h2=>?_)
 exact nd (by simp only[aG, *,cond_true,cond_false])
theorem sr (x:GateGrant) (n:Int):Spec P 111 [st x.e,.d (.int .i64 n)] (.d (.int .i64 (co x n))):=sy x n
def cv (xs:List GateGrant) (n:Int):Int:=aG (IntKind.i64.wrap (n - ((xs.map GateGrant.e).length:Int))) fun n=>gN co xs n
theorem qr (xs:List GateGrant) (n:Int):Spec P 43 [.d (bp xs),.d (.int .i64 n)] (.d (.int .i64 (aG (IntKind.i64.wrap (n - ((xs.map GateGrant.e).length:Int))) fun n=>gN co xs n))):=by
 refine Spec.of_vc aI aw [.tmp 4] Tryz.func43 rfl rfl rfl rfl (fun hok=>?_)
 have hs:xs.length≤big:=by have:=hok.1.1;rwa [List.length_map] at this
 refine aj (fun h=>nd (by simp only[aG,h,cond_true,cond_false])) (fun h=>?_)
 simp only[aG,h,cond_true,cond_false]
 refine ⟨fun k l h=>∃(i:Nat) (v:Int),k=xs.length - i∧i≤xs.length∧gN co xs (IntKind.i64.wrap (n - ((xs.map GateGrant.e).length:Int)))=gN co (xs.drop i) v∧l=[(0,.d (bp xs)),(1,.d (.int .i64 v)),(5,.d (.int .i64 i))]∧h=hp0,
  ⟨_,_,_,⟨0,_,rfl,Nat.zero_le _,rfl,rfl,rfl⟩,rfl,rfl,⟨rfl,rfl,rfl,trivial⟩,trivial,trivial⟩,?_⟩
 rintro k l h1 ⟨i,v,rfl,hi,hr,rfl,rfl⟩
 refine aj ?_ ?_<;>intro h1
 ·have hlt:i<xs.length:=V h1
  repeat refine ai ?_
  refine O (e:=GateGrant.e) (xs:=xs) (hlt) rfl ?_
  repeat refine ai ?_
  refine oc (sr _ _) ?_
  refine aj ?_ ?_<;>intro h2
  ·refine nd ?_
   rw[hr,bP hlt]
   simp only[aG,h2,cond_true]
  ·refine ⟨_,_,_,⟨i+1,_,rfl,hlt,?_,rfl,rfl⟩,by omega,rfl,rfl,⟨rfl,rfl,nd (Y hlt hs),trivial⟩,trivial,trivial⟩
   rw[hr,bP hlt]
   simp only[aG,h2,cond_false]
 ·refine nd ?_
  rw[hr,List.drop_of_length_le (Z h1)];rfl
theorem ql (xs:List GateGrant) (n:Int):Spec P 43 [.d (bp xs),.d (.int .i64 n)] (.d (.int .i64 (cv xs n))):=qr xs n
def bZ (x:GateLedger) (n:Int):Int:=aG (IntKind.i64.wrap (n - (x.team.length:Int))) fun n=>aG (IntKind.i64.wrap (n - (x.resource.length:Int))) fun n=>n
theorem qq (x:GateLedger) (n:Int):Spec P 112 [st x.e,.d (.int .i64 n)] (.d (.int .i64 (aG (IntKind.i64.wrap (n - (x.team.length:Int))) fun n=>aG (IntKind.i64.wrap (n - (x.resource.length:Int))) fun n=>n))):=by
 refine Spec.of_vc aI aw [.tmp 4] Tryz.func112 rfl rfl rfl rfl (fun hok=>?_)
 refine aj (fun h=>nd (by simp only[aG,h, *,cond_true,cond_false])) (fun h0=>?_)
 refine aj (fun h=>nd (by simp only[aG,h, *,cond_true,cond_false])) (fun h1=>?_)
 exact nd (by simp only[aG, *,cond_true,cond_false])
theorem qk (x:GateLedger) (n:Int):Spec P 112 [st x.e,.d (.int .i64 n)] (.d (.int .i64 (bZ x n))):=qq x n
def cD (xs:List GateLedger) (n:Int):Int:=aG (IntKind.i64.wrap (n - ((xs.map GateLedger.e).length:Int))) fun n=>gN bZ xs n
theorem o9 (xs:List GateLedger) (n:Int):Spec P 44 [.d (aW xs),.d (.int .i64 n)] (.d (.int .i64 (aG (IntKind.i64.wrap (n - ((xs.map GateLedger.e).length:Int))) fun n=>gN bZ xs n))):=by
 refine Spec.of_vc aI aw [.tmp 4] Tryz.func44 rfl rfl rfl rfl (fun hok=>?_)
 have hs:xs.length≤big:=by have:=hok.1.1;rwa [List.length_map] at this
 refine aj (fun h=>nd (by simp only[aG,h,cond_true,cond_false])) (fun h=>?_)
 simp only[aG,h,cond_true,cond_false]
 refine ⟨fun k l h=>∃(i:Nat) (v:Int),k=xs.length - i∧i≤xs.length∧gN bZ xs (IntKind.i64.wrap (n - ((xs.map GateLedger.e).length:Int)))=gN bZ (xs.drop i) v∧l=[(0,.d (aW xs)),(1,.d (.int .i64 v)),(5,.d (.int .i64 i))]∧h=hp0,
  ⟨_,_,_,⟨0,_,rfl,Nat.zero_le _,rfl,rfl,rfl⟩,rfl,rfl,⟨rfl,rfl,rfl,trivial⟩,trivial,trivial⟩,?_⟩
 rintro k l h1 ⟨i,v,rfl,hi,hr,rfl,rfl⟩
 refine aj ?_ ?_<;>intro h1
 ·have hlt:i<xs.length:=V h1
  repeat refine ai ?_
  refine O (e:=GateLedger.e) (xs:=xs) (hlt) rfl ?_
  repeat refine ai ?_
  refine oc (qk _ _) ?_
  refine aj ?_ ?_<;>intro h2
  ·refine nd ?_
   rw[hr,bP hlt]
   simp only[aG,h2,cond_true]
  ·refine ⟨_,_,_,⟨i+1,_,rfl,hlt,?_,rfl,rfl⟩,by omega,rfl,rfl,⟨rfl,rfl,nd (Y hlt hs),trivial⟩,trivial,trivial⟩
   rw[hr,bP hlt]
   simp only[aG,h2,cond_false]
 ·refine nd ?_
  rw[hr,List.drop_of_length_le (Z h1)];rfl
theorem o7 (xs:List GateLedger) (n:Int):Spec P 44 [.d (aW xs),.d (.int .i64 n)] (.d (.int .i64 (cD xs n))):=o9 xs n
def cn (x:GatePurse) (n:Int):Int:=aG (IntKind.i64.wrap (n - (x.door.length:Int))) fun n=>aG (IntKind.i64.wrap (n - (x.team.length:Int))) fun n=>aG (IntKind.i64.wrap (n - (x.resource.length:Int))) fun n=>n
theorem sw (x:GatePurse) (n:Int):Spec P 113 [st x.e,.d (.int .i64 n)] (.d (.int .i64 (aG (IntKind.i64.wrap (n - (x.door.length:Int))) fun n=>aG (IntKind.i64.wrap (n - (x.team.length:Int))) fun n=>aG (IntKind.i64.wrap (n - (x.resource.length:Int))) fun n=>n))):=by
 refine Spec.of_vc aI aw [.tmp 4] Tryz.func113 rfl rfl rfl rfl (fun hok=>?_)
 refine aj (fun h=>nd (by simp only[aG,h, *,cond_true,cond_false])) (fun h0=>?_)
 refine aj (fun h=>nd (by simp only[aG,h, *,cond_true,cond_false])) (fun h1=>?_)
 refine aj (fun h=>nd (by simp only[aG,h, *,cond_true,cond_false])) (fun h2=>?_)
 exact nd (by simp only[aG, *,cond_true,cond_false])
theorem so (x:GatePurse) (n:Int):Spec P 113 [st x.e,.d (.int .i64 n)] (.d (.int .i64 (cn x n))):=sw x n
def dJ (xs:List GatePurse) (n:Int):Int:=aG (IntKind.i64.wrap (n - ((xs.map GatePurse.e).length:Int))) fun n=>gN cn xs n
theorem qo (xs:List GatePurse) (n:Int):Spec P 45 [.d (bo xs),.d (.int .i64 n)] (.d (.int .i64 (aG (IntKind.i64.wrap (n - ((xs.map GatePurse.e).length:Int))) fun n=>gN cn xs n))):=by
 refine Spec.of_vc aI aw [.tmp 4] Tryz.func45 rfl rfl rfl rfl (fun hok=>?_)
 have hs:xs.length≤big:=by have:=hok.1.1;rwa [List.length_map] at this
 refine aj (fun h=>nd (by simp only[aG,h,cond_true,cond_false])) (fun h=>?_)
 simp only[aG,h,cond_true,cond_false]
 refine ⟨fun k l h=>∃(i:Nat) (v:Int),k=xs.length - i∧i≤xs.length∧gN cn xs (IntKind.i64.wrap (n - ((xs.map GatePurse.e).length:Int)))=gN cn (xs.drop i) v∧l=[(0,.d (bo xs)),(1,.d (.int .i64 v)),(5,.d (.int .i64 i))]∧h=hp0,
  ⟨_,_,_,⟨0,_,rfl,Nat.zero_le _,rfl,rfl,rfl⟩,rfl,rfl,⟨rfl,rfl,rfl,trivial⟩,trivial,trivial⟩,?_⟩
 rintro k l h1 ⟨i,v,rfl,hi,hr,rfl,rfl⟩
 refine aj ?_ ?_<;>intro h1
 ·have hlt:i<xs.length:=V h1
  repeat refine ai ?_
  refine O (e:=GatePurse.e) (xs:=xs) (hlt) rfl ?_
  repeat refine ai ?_
  refine oc (so _ _) ?_
  refine aj ?_ ?_<;>intro h2
  ·refine nd ?_
   rw[hr,bP hlt]
   simp only[aG,h2,cond_true]
  ·refine ⟨_,_,_,⟨i+1,_,rfl,hlt,?_,rfl,rfl⟩,by omega,rfl,rfl,⟨rfl,rfl,nd (Y hlt hs),trivial⟩,trivial,trivial⟩
   rw[hr,bP hlt]
   simp only[aG,h2,cond_false]
 ·refine nd ?_
  rw[hr,List.drop_of_length_le (Z h1)];rfl
theorem qi (xs:List GatePurse) (n:Int):Spec P 45 [.d (bo xs),.d (.int .i64 n)] (.d (.int .i64 (dJ xs n))):=qo xs n
def e6 (x:GateBook) (n:Int):Int:=aG (bK x.objects n) fun n=>aG (cv x.grants n) fun n=>aG (cD x.ledgers n) fun n=>aG (dJ x.purses n) fun n=>n
theorem vh (x:GateBook) (n:Int):Spec P 12 [st x.e,.d (.int .i64 n)] (.d (.int .i64 (aG (bK x.objects n) fun n=>aG (cv x.grants n) fun n=>aG (cD x.ledgers n) fun n=>aG (dJ x.purses n) fun n=>n))):=by
 refine Spec.of_vc aI aw [.tmp 4] Tryz.func12 rfl rfl rfl rfl (fun hok=>?_)
 repeat refine ai ?_
 refine oc (o6 _ _) ?_
 refine aj (fun h=>nd (by simp only[aG,h, *,cond_true,cond_false])) (fun h0=>?_)
 repeat refine ai ?_
 refine oc (ql _ _) ?_
 refine aj (fun h=>nd (by simp only[aG,h, *,cond_true,cond_false])) (fun h1=>?_)
 repeat refine ai ?_
 refine oc (o7 _ _) ?_
 refine aj (fun h=>nd (by simp only[aG,h, *,cond_true,cond_false])) (fun h2=>?_)
 repeat refine ai ?_
 refine oc (qi _ _) ?_
 refine aj (fun h=>nd (by simp only[aG,h, *,cond_true,cond_false])) (fun h3=>?_)
 exact nd (by simp only[aG, *,cond_true,cond_false])
theorem vd (x:GateBook) (n:Int):Spec P 12 [st x.e,.d (.int .i64 n)] (.d (.int .i64 (e6 x n))):=vh x n
theorem la (xs:List Bs):Spec P 179 [.d (lS xs)] (.d (lS xs)):=by
 refine Spec.of_vc aI aw [.tmp 2] Tryz.func179 rfl rfl rfl rfl (fun hok=>?_)
 have hs:xs.length≤big:=by have:=hok.1.1;rwa [List.length_map] at this
 repeat refine ai ?_
 refine aj (Int.natCast_nonneg _) (aj (Int.le_refl _) (aj (dM hs) ?_))
 refine ⟨fun k l h=>∃i:Nat,k=xs.length - i∧i≤xs.length∧l=[(0,.d (lS xs)),(3,.own 0),(4,.d (.int .i64 i))]∧h=⟨[(0,.row 9 [D.str []].length (bc eB xs [D.str []] i))],1,0⟩,
  ⟨_,_,_,⟨0,rfl,Nat.zero_le _,rfl,rfl⟩,rfl,rfl,⟨rfl,rfl,rfl,trivial⟩,⟨rfl,trivial⟩,⟨bU,trivial⟩⟩,?_⟩
 rintro k l h1 ⟨i,rfl,hi,rfl,rfl⟩
 refine aj ?_ ?_<;>intro h1
 ·have hlt:i<xs.length:=V h1
  repeat refine ai ?_
  refine O (e:=eB) (xs:=xs) (hlt) rfl ?_
  repeat refine ai ?_
  refine aj (Int.natCast_nonneg _) (aj (by rw[aS hi];omega) ?_)
  repeat refine ai ?_
  refine ⟨_,aT hlt,Nat.le_refl _,?_⟩
  exact ⟨_,_,_,⟨i+1,rfl,hlt,rfl,rfl⟩,by omega,rfl,rfl,⟨rfl,rfl,nd (Y hlt hs),trivial⟩,⟨rfl,trivial⟩,⟨cw hlt rfl,trivial⟩⟩
 ·exact ld (cx (Z h1) hi)
theorem DU (xs:List Int):Spec P 209 [.d (lI xs)] (.d (lI xs)):=by
 refine Spec.of_vc aI aw [.tmp 2] Tryz.func209 rfl rfl rfl rfl (fun hok=>?_)
 have hs:xs.length≤big:=by have:=hok.1.1;rwa [List.length_map] at this
 repeat refine ai ?_
 refine aj (Int.natCast_nonneg _) (aj (Int.le_refl _) (aj (dM hs) ?_))
 refine ⟨fun k l h=>∃i:Nat,k=xs.length - i∧i≤xs.length∧l=[(0,.d (lI xs)),(3,.own 0),(4,.d (.int .i64 i))]∧h=⟨[(0,.row 3 [D.int .i64 0].length (bc eN xs [D.int .i64 0] i))],1,0⟩,
  ⟨_,_,_,⟨0,rfl,Nat.zero_le _,rfl,rfl⟩,rfl,rfl,⟨rfl,rfl,rfl,trivial⟩,⟨rfl,trivial⟩,⟨bU,trivial⟩⟩,?_⟩
 rintro k l h1 ⟨i,rfl,hi,rfl,rfl⟩
 refine aj ?_ ?_<;>intro h1
 ·have hlt:i<xs.length:=V h1
  repeat refine ai ?_
  refine O (e:=eN) (xs:=xs) (hlt) rfl ?_
  repeat refine ai ?_
  refine aj (Int.natCast_nonneg _) (aj (by rw[aS hi];omega) ?_)
  repeat refine ai ?_
  refine ⟨_,aT hlt,Nat.le_refl _,?_⟩
  exact ⟨_,_,_,⟨i+1,rfl,hlt,rfl,rfl⟩,by omega,rfl,rfl,⟨rfl,rfl,nd (Y hlt hs),trivial⟩,⟨rfl,trivial⟩,⟨cw hlt rfl,trivial⟩⟩
 ·exact ld (cx (Z h1) hi)
def GateField.z:List D:=[.str [],.int .i64 0,.int .i64 0,.int .i64 0,.list [],.str [],.int .i64 0,.bool false,.bool false,.str [],.str []]
theorem uX (x:GateField):Spec P 208 [st x.e] (st x.e):=by
 refine Spec.of_vc aI aw [.cell 2 138] Tryz.func208 rfl rfl rfl rfl (fun hok=>?_)
 repeat refine ai ?_
 refine oc (la _) ?_
 repeat refine ai ?_
 rfl
theorem sc (xs:List GateField):Spec P 178 [.d (ab xs)] (.d (ab xs)):=by
 refine Spec.of_vc aI aw [.tmp 2] Tryz.func178 rfl rfl rfl rfl (fun hok=>?_)
 have hs:xs.length≤big:=by have:=hok.1.1;rwa [List.length_map] at this
 repeat refine ai ?_
 refine aj (Int.natCast_nonneg _) (aj (Int.le_refl _) (aj (dM hs) ?_))
 refine ⟨fun k l h=>∃i:Nat,k=xs.length - i∧i≤xs.length∧l=[(0,.d (ab xs)),(3,.own 0),(4,.d (.int .i64 i))]∧h=⟨[(0,.row 138 GateField.z.length (bc GateField.e xs GateField.z i))],1,0⟩,
  ⟨_,_,_,⟨0,rfl,Nat.zero_le _,rfl,rfl⟩,rfl,rfl,⟨rfl,rfl,rfl,trivial⟩,⟨rfl,trivial⟩,⟨bU,trivial⟩⟩,?_⟩
 rintro k l h1 ⟨i,rfl,hi,rfl,rfl⟩
 refine aj ?_ ?_<;>intro h1
 ·have hlt:i<xs.length:=V h1
  repeat refine ai ?_
  refine O (e:=GateField.e) (xs:=xs) (hlt) rfl ?_
  repeat refine ai ?_
  refine oc (uX _) ?_
  repeat refine ai ?_
  refine aj (Int.natCast_nonneg _) (aj (by rw[aS hi];omega) ?_)
  repeat refine ai ?_
  refine ⟨_,aT hlt,Nat.le_refl _,?_⟩
  exact ⟨_,_,_,⟨i+1,rfl,hlt,rfl,rfl⟩,by omega,rfl,rfl,⟨rfl,rfl,nd (Y hlt hs),trivial⟩,⟨rfl,trivial⟩,⟨cw hlt rfl,trivial⟩⟩
 ·exact ld (cx (Z h1) hi)
def GateShape.z:List D:=[.str [],.list []]
theorem uU (x:GateShape):Spec P 118 [st x.e] (st x.e):=by
 refine Spec.of_vc aI aw [.cell 2 164] Tryz.func118 rfl rfl rfl rfl (fun hok=>?_)
 repeat refine ai ?_
 refine oc (sc _) ?_
 repeat refine ai ?_
 rfl
theorem r8 (xs:List GateShape):Spec P 48 [.d (aa xs)] (.d (aa xs)):=by
 refine Spec.of_vc aI aw [.tmp 2] Tryz.func48 rfl rfl rfl rfl (fun hok=>?_)
 have hs:xs.length≤big:=by have:=hok.1.1;rwa [List.length_map] at this
 repeat refine ai ?_
 refine aj (Int.natCast_nonneg _) (aj (Int.le_refl _) (aj (dM hs) ?_))
 refine ⟨fun k l h=>∃i:Nat,k=xs.length - i∧i≤xs.length∧l=[(0,.d (aa xs)),(3,.own 0),(4,.d (.int .i64 i))]∧h=⟨[(0,.row 164 GateShape.z.length (bc GateShape.e xs GateShape.z i))],1,0⟩,
  ⟨_,_,_,⟨0,rfl,Nat.zero_le _,rfl,rfl⟩,rfl,rfl,⟨rfl,rfl,rfl,trivial⟩,⟨rfl,trivial⟩,⟨bU,trivial⟩⟩,?_⟩
 rintro k l h1 ⟨i,rfl,hi,rfl,rfl⟩
 refine aj ?_ ?_<;>intro h1
 ·have hlt:i<xs.length:=V h1
  repeat refine ai ?_
  refine O (e:=GateShape.e) (xs:=xs) (hlt) rfl ?_
  repeat refine ai ?_
  refine oc (uU _) ?_
  repeat refine ai ?_
  refine aj (Int.natCast_nonneg _) (aj (by rw[aS hi];omega) ?_)
  repeat refine ai ?_
  refine ⟨_,aT hlt,Nat.le_refl _,?_⟩
  exact ⟨_,_,_,⟨i+1,rfl,hlt,rfl,rfl⟩,by omega,rfl,rfl,⟨rfl,rfl,nd (Y hlt hs),trivial⟩,⟨rfl,trivial⟩,⟨cw hlt rfl,trivial⟩⟩
 ·exact ld (cx (Z h1) hi)
def GateMend.z:List D:=[.str [],.str [],.str [],.str [],.str [],.str []]
theorem oz (x:GateMend):Spec P 119 [st x.e] (st x.e):=by
 refine Spec.of_vc aI aw [.cell 2 166] Tryz.func119 rfl rfl rfl rfl (fun hok=>?_)
 repeat refine ai ?_
 rfl
theorem uV (xs:List GateMend):Spec P 49 [.d (af xs)] (.d (af xs)):=by
 refine Spec.of_vc aI aw [.tmp 2] Tryz.func49 rfl rfl rfl rfl (fun hok=>?_)
 have hs:xs.length≤big:=by have:=hok.1.1;rwa [List.length_map] at this
 repeat refine ai ?_
 refine aj (Int.natCast_nonneg _) (aj (Int.le_refl _) (aj (dM hs) ?_))
 refine ⟨fun k l h=>∃i:Nat,k=xs.length - i∧i≤xs.length∧l=[(0,.d (af xs)),(3,.own 0),(4,.d (.int .i64 i))]∧h=⟨[(0,.row 166 GateMend.z.length (bc GateMend.e xs GateMend.z i))],1,0⟩,
  ⟨_,_,_,⟨0,rfl,Nat.zero_le _,rfl,rfl⟩,rfl,rfl,⟨rfl,rfl,rfl,trivial⟩,⟨rfl,trivial⟩,⟨bU,trivial⟩⟩,?_⟩
 rintro k l h1 ⟨i,rfl,hi,rfl,rfl⟩
 refine aj ?_ ?_<;>intro h1
 ·have hlt:i<xs.length:=V h1
  repeat refine ai ?_
  refine O (e:=GateMend.e) (xs:=xs) (hlt) rfl ?_
  repeat refine ai ?_
  refine oc (oz _) ?_
  repeat refine ai ?_
  refine aj (Int.natCast_nonneg _) (aj (by rw[aS hi];omega) ?_)
  repeat refine ai ?_
  refine ⟨_,aT hlt,Nat.le_refl _,?_⟩
  exact ⟨_,_,_,⟨i+1,rfl,hlt,rfl,rfl⟩,by omega,rfl,rfl,⟨rfl,rfl,nd (Y hlt hs),trivial⟩,⟨rfl,trivial⟩,⟨cw hlt rfl,trivial⟩⟩
 ·exact ld (cx (Z h1) hi)
def GateTeam.z:List D:=[.str [],.str []]
theorem oy (x:GateTeam):Spec P 120 [st x.e] (st x.e):=by
 refine Spec.of_vc aI aw [.cell 2 168] Tryz.func120 rfl rfl rfl rfl (fun hok=>?_)
 repeat refine ai ?_
 rfl
theorem uT (xs:List GateTeam):Spec P 50 [.d (am xs)] (.d (am xs)):=by
 refine Spec.of_vc aI aw [.tmp 2] Tryz.func50 rfl rfl rfl rfl (fun hok=>?_)
 have hs:xs.length≤big:=by have:=hok.1.1;rwa [List.length_map] at this
 repeat refine ai ?_
 refine aj (Int.natCast_nonneg _) (aj (Int.le_refl _) (aj (dM hs) ?_))
 refine ⟨fun k l h=>∃i:Nat,k=xs.length - i∧i≤xs.length∧l=[(0,.d (am xs)),(3,.own 0),(4,.d (.int .i64 i))]∧h=⟨[(0,.row 168 GateTeam.z.length (bc GateTeam.e xs GateTeam.z i))],1,0⟩,
  ⟨_,_,_,⟨0,rfl,Nat.zero_le _,rfl,rfl⟩,rfl,rfl,⟨rfl,rfl,rfl,trivial⟩,⟨rfl,trivial⟩,⟨bU,trivial⟩⟩,?_⟩
 rintro k l h1 ⟨i,rfl,hi,rfl,rfl⟩
 refine aj ?_ ?_<;>intro h1
 ·have hlt:i<xs.length:=V h1
  repeat refine ai ?_
  refine O (e:=GateTeam.e) (xs:=xs) (hlt) rfl ?_
  repeat refine ai ?_
  refine oc (oy _) ?_
  repeat refine ai ?_
  refine aj (Int.natCast_nonneg _) (aj (by rw[aS hi];omega) ?_)
  repeat refine ai ?_
  refine ⟨_,aT hlt,Nat.le_refl _,?_⟩
  exact ⟨_,_,_,⟨i+1,rfl,hlt,rfl,rfl⟩,by omega,rfl,rfl,⟨rfl,rfl,nd (Y hlt hs),trivial⟩,⟨rfl,trivial⟩,⟨cw hlt rfl,trivial⟩⟩
 ·exact ld (cx (Z h1) hi)
def GateLaw.z:List D:=[.list [],.list [],.list []]
theorem lc (x:GateLaw):Spec P 14 [st x.e] (st x.e):=by
 refine Spec.of_vc aI aw [.cell 2 41] Tryz.func14 rfl rfl rfl rfl (fun hok=>?_)
 repeat refine ai ?_
 refine oc (r8 _) ?_
 repeat refine ai ?_
 refine oc (uV _) ?_
 repeat refine ai ?_
 refine oc (uT _) ?_
 repeat refine ai ?_
 rfl
def GateObject.z:List D:=[.str [],.str [],.str [],.list [],.bool false,.list [],.int .i64 0]
theorem sa (x:GateObject):Spec P 121 [st x.e] (st x.e):=by
 refine Spec.of_vc aI aw [.cell 2 103] Tryz.func121 rfl rfl rfl rfl (fun hok=>?_)
 repeat refine ai ?_
 refine oc (la _) ?_
 repeat refine ai ?_
 refine oc (la _) ?_
 repeat refine ai ?_
 rfl
theorem p9 (xs:List GateObject):Spec P 51 [.d (aM xs)] (.d (aM xs)):=by
 refine Spec.of_vc aI aw [.tmp 2] Tryz.func51 rfl rfl rfl rfl (fun hok=>?_)
 have hs:xs.length≤big:=by have:=hok.1.1;rwa [List.length_map] at this
 repeat refine ai ?_
 refine aj (Int.natCast_nonneg _) (aj (Int.le_refl _) (aj (dM hs) ?_))
 refine ⟨fun k l h=>∃i:Nat,k=xs.length - i∧i≤xs.length∧l=[(0,.d (aM xs)),(3,.own 0),(4,.d (.int .i64 i))]∧h=⟨[(0,.row 103 GateObject.z.length (bc GateObject.e xs GateObject.z i))],1,0⟩,
  ⟨_,_,_,⟨0,rfl,Nat.zero_le _,rfl,rfl⟩,rfl,rfl,⟨rfl,rfl,rfl,trivial⟩,⟨rfl,trivial⟩,⟨bU,trivial⟩⟩,?_⟩
 rintro k l h1 ⟨i,rfl,hi,rfl,rfl⟩
 refine aj ?_ ?_<;>intro h1
 ·have hlt:i<xs.length:=V h1
  repeat refine ai ?_
  refine O (e:=GateObject.e) (xs:=xs) (hlt) rfl ?_
  repeat refine ai ?_
  refine oc (sa _) ?_
  repeat refine ai ?_
  refine aj (Int.natCast_nonneg _) (aj (by rw[aS hi];omega) ?_)
  repeat refine ai ?_
  refine ⟨_,aT hlt,Nat.le_refl _,?_⟩
  exact ⟨_,_,_,⟨i+1,rfl,hlt,rfl,rfl⟩,by omega,rfl,rfl,⟨rfl,rfl,nd (Y hlt hs),trivial⟩,⟨rfl,trivial⟩,⟨cw hlt rfl,trivial⟩⟩
 ·exact ld (cx (Z h1) hi)
def GateRule.z:List D:=[.list [],.str [],.str [],.str []]
theorem wS (x:GateRule):Spec P 180 [st x.e] (st x.e):=by
 refine Spec.of_vc aI aw [.cell 2 171] Tryz.func180 rfl rfl rfl rfl (fun hok=>?_)
 repeat refine ai ?_
 refine oc (DU _) ?_
 repeat refine ai ?_
 rfl
def GateGrant.z:List D:=[.int .i64 0,.str [],.str [],.list [],.str [],.str [],.str []]
theorem uW (x:GateGrant):Spec P 122 [st x.e] (st x.e):=by
 refine Spec.of_vc aI aw [.cell 2 173] Tryz.func122 rfl rfl rfl rfl (fun hok=>?_)
 repeat refine ai ?_
 refine oc (wS _) ?_
 repeat refine ai ?_
 rfl
theorem sb (xs:List GateGrant):Spec P 52 [.d (bp xs)] (.d (bp xs)):=by
 refine Spec.of_vc aI aw [.tmp 2] Tryz.func52 rfl rfl rfl rfl (fun hok=>?_)
 have hs:xs.length≤big:=by have:=hok.1.1;rwa [List.length_map] at this
 repeat refine ai ?_
 refine aj (Int.natCast_nonneg _) (aj (Int.le_refl _) (aj (dM hs) ?_))
 refine ⟨fun k l h=>∃i:Nat,k=xs.length - i∧i≤xs.length∧l=[(0,.d (bp xs)),(3,.own 0),(4,.d (.int .i64 i))]∧h=⟨[(0,.row 173 GateGrant.z.length (bc GateGrant.e xs GateGrant.z i))],1,0⟩,
  ⟨_,_,_,⟨0,rfl,Nat.zero_le _,rfl,rfl⟩,rfl,rfl,⟨rfl,rfl,rfl,trivial⟩,⟨rfl,trivial⟩,⟨bU,trivial⟩⟩,?_⟩
 rintro k l h1 ⟨i,rfl,hi,rfl,rfl⟩
 refine aj ?_ ?_<;>intro h1
 ·have hlt:i<xs.length:=V h1
  repeat refine ai ?_
  refine O (e:=GateGrant.e) (xs:=xs) (hlt) rfl ?_
  repeat refine ai ?_
  refine oc (uW _) ?_
  repeat refine ai ?_
  refine aj (Int.natCast_nonneg _) (aj (by rw[aS hi];omega) ?_)
  repeat refine ai ?_
  refine ⟨_,aT hlt,Nat.le_refl _,?_⟩
  exact ⟨_,_,_,⟨i+1,rfl,hlt,rfl,rfl⟩,by omega,rfl,rfl,⟨rfl,rfl,nd (Y hlt hs),trivial⟩,⟨rfl,trivial⟩,⟨cw hlt rfl,trivial⟩⟩
 ·exact ld (cx (Z h1) hi)
def GateLedger.z:List D:=[.str [],.str [],.int .i64 0,.int .i64 0]
theorem kO (x:GateLedger):Spec P 123 [st x.e] (st x.e):=by
 refine Spec.of_vc aI aw [.cell 2 119] Tryz.func123 rfl rfl rfl rfl (fun hok=>?_)
 repeat refine ai ?_
 rfl
theorem qa (xs:List GateLedger):Spec P 53 [.d (aW xs)] (.d (aW xs)):=by
 refine Spec.of_vc aI aw [.tmp 2] Tryz.func53 rfl rfl rfl rfl (fun hok=>?_)
 have hs:xs.length≤big:=by have:=hok.1.1;rwa [List.length_map] at this
 repeat refine ai ?_
 refine aj (Int.natCast_nonneg _) (aj (Int.le_refl _) (aj (dM hs) ?_))
 refine ⟨fun k l h=>∃i:Nat,k=xs.length - i∧i≤xs.length∧l=[(0,.d (aW xs)),(3,.own 0),(4,.d (.int .i64 i))]∧h=⟨[(0,.row 119 GateLedger.z.length (bc GateLedger.e xs GateLedger.z i))],1,0⟩,
  ⟨_,_,_,⟨0,rfl,Nat.zero_le _,rfl,rfl⟩,rfl,rfl,⟨rfl,rfl,rfl,trivial⟩,⟨rfl,trivial⟩,⟨bU,trivial⟩⟩,?_⟩
 rintro k l h1 ⟨i,rfl,hi,rfl,rfl⟩
 refine aj ?_ ?_<;>intro h1
 ·have hlt:i<xs.length:=V h1
  repeat refine ai ?_
  refine O (e:=GateLedger.e) (xs:=xs) (hlt) rfl ?_
  repeat refine ai ?_
  refine oc (kO _) ?_
  repeat refine ai ?_
  refine aj (Int.natCast_nonneg _) (aj (by rw[aS hi];omega) ?_)
  repeat refine ai ?_
  refine ⟨_,aT hlt,Nat.le_refl _,?_⟩
  exact ⟨_,_,_,⟨i+1,rfl,hlt,rfl,rfl⟩,by omega,rfl,rfl,⟨rfl,rfl,nd (Y hlt hs),trivial⟩,⟨rfl,trivial⟩,⟨cw hlt rfl,trivial⟩⟩
 ·exact ld (cx (Z h1) hi)
def GatePurse.z:List D:=[.str [],.str [],.str [],.int .i64 0,.int .i64 0]
theorem l8 (x:GatePurse):Spec P 124 [st x.e] (st x.e):=by
 refine Spec.of_vc aI aw [.cell 2 109] Tryz.func124 rfl rfl rfl rfl (fun hok=>?_)
 repeat refine ai ?_
 rfl
theorem r9 (xs:List GatePurse):Spec P 54 [.d (bo xs)] (.d (bo xs)):=by
 refine Spec.of_vc aI aw [.tmp 2] Tryz.func54 rfl rfl rfl rfl (fun hok=>?_)
 have hs:xs.length≤big:=by have:=hok.1.1;rwa [List.length_map] at this
 repeat refine ai ?_
 refine aj (Int.natCast_nonneg _) (aj (Int.le_refl _) (aj (dM hs) ?_))
 refine ⟨fun k l h=>∃i:Nat,k=xs.length - i∧i≤xs.length∧l=[(0,.d (bo xs)),(3,.own 0),(4,.d (.int .i64 i))]∧h=⟨[(0,.row 109 GatePurse.z.length (bc GatePurse.e xs GatePurse.z i))],1,0⟩,
  ⟨_,_,_,⟨0,rfl,Nat.zero_le _,rfl,rfl⟩,rfl,rfl,⟨rfl,rfl,rfl,trivial⟩,⟨rfl,trivial⟩,⟨bU,trivial⟩⟩,?_⟩
 rintro k l h1 ⟨i,rfl,hi,rfl,rfl⟩
 refine aj ?_ ?_<;>intro h1
 ·have hlt:i<xs.length:=V h1
  repeat refine ai ?_
  refine O (e:=GatePurse.e) (xs:=xs) (hlt) rfl ?_
  repeat refine ai ?_
  refine oc (l8 _) ?_
  repeat refine ai ?_
  refine aj (Int.natCast_nonneg _) (aj (by rw[aS hi];omega) ?_)
  repeat refine ai ?_
  refine ⟨_,aT hlt,Nat.le_refl _,?_⟩
  exact ⟨_,_,_,⟨i+1,rfl,hlt,rfl,rfl⟩,by omega,rfl,rfl,⟨rfl,rfl,nd (Y hlt hs),trivial⟩,⟨rfl,trivial⟩,⟨cw hlt rfl,trivial⟩⟩
 ·exact ld (cx (Z h1) hi)
def GateBook.z:List D:=[.int .i64 0,.int .i64 0,.int .i64 0,.list [],.list [],.list [],.list []]
theorem jI (x:GateBook):Spec P 15 [st x.e] (st x.e):=by
 refine Spec.of_vc aI aw [.cell 2 48] Tryz.func15 rfl rfl rfl rfl (fun hok=>?_)
 repeat refine ai ?_
 refine oc (p9 _) ?_
 repeat refine ai ?_
 refine oc (sb _) ?_
 repeat refine ai ?_
 refine oc (qa _) ?_
 repeat refine ai ?_
 refine oc (r9 _) ?_
 repeat refine ai ?_
 rfl
theorem lJ (xs:List Bs):Spec P 189 [.d (lS xs),.d (lS xs)] (.d (.bool true)):=by
 refine Spec.of_vc aI aw [.tmp 4] Tryz.func189 rfl rfl rfl rfl (fun hok=>?_)
 have hs:xs.length≤big:=by have:=hok.1.1;rwa [List.length_map] at this
 repeat refine ai ?_
 refine an ?_
 refine ⟨fun k l h=>∃i:Nat,k=xs.length - i∧i≤xs.length∧l=[(0,.d (lS xs)),(1,.d (lS xs)),(5,.d (.int .i64 i))]∧h=hp0,
  ⟨_,_,_,⟨0,rfl,Nat.zero_le _,rfl,rfl⟩,rfl,rfl,⟨rfl,rfl,rfl,trivial⟩,trivial,trivial⟩,?_⟩
 rintro k l h1 ⟨i,rfl,hi,rfl,rfl⟩
 refine aj ?_ ?_<;>intro h1
 ·have hlt:i<xs.length:=V h1
  repeat refine ai ?_
  refine ak ?_
  repeat refine ai ?_
  refine O (e:=eB) (xs:=xs) (hlt) rfl ?_
  repeat refine ai ?_
  refine O (e:=eB) (xs:=xs) (hlt) rfl ?_
  repeat refine ai ?_
  refine an ?_
  exact ⟨_,_,_,⟨i+1,rfl,hlt,rfl,rfl⟩,by omega,rfl,rfl,⟨rfl,rfl,nd (Y hlt hs),trivial⟩,trivial,trivial⟩
 ·rfl
theorem pK (xs:List Int):Spec P 17 [.d (lI xs),.d (lI xs)] (.d (.bool true)):=by
 refine Spec.of_vc aI aw [.tmp 4] Tryz.func17 rfl rfl rfl rfl (fun hok=>?_)
 have hs:xs.length≤big:=by have:=hok.1.1;rwa [List.length_map] at this
 repeat refine ai ?_
 refine an ?_
 refine ⟨fun k l h=>∃i:Nat,k=xs.length - i∧i≤xs.length∧l=[(0,.d (lI xs)),(1,.d (lI xs)),(5,.d (.int .i64 i))]∧h=hp0,
  ⟨_,_,_,⟨0,rfl,Nat.zero_le _,rfl,rfl⟩,rfl,rfl,⟨rfl,rfl,rfl,trivial⟩,trivial,trivial⟩,?_⟩
 rintro k l h1 ⟨i,rfl,hi,rfl,rfl⟩
 refine aj ?_ ?_<;>intro h1
 ·have hlt:i<xs.length:=V h1
  repeat refine ai ?_
  refine ak ?_
  repeat refine ai ?_
  refine O (e:=eN) (xs:=xs) (hlt) rfl ?_
  repeat refine ai ?_
  refine O (e:=eN) (xs:=xs) (hlt) rfl ?_
  repeat refine ai ?_
  refine an ?_
  exact ⟨_,_,_,⟨i+1,rfl,hlt,rfl,rfl⟩,by omega,rfl,rfl,⟨rfl,rfl,nd (Y hlt hs),trivial⟩,trivial,trivial⟩
 ·rfl
theorem wj (x:GateField):Spec P 218 [st x.e,st x.e] (.d (.bool true)):=by
 refine Spec.of_vc aI aw [.tmp 4] Tryz.func218 rfl rfl rfl rfl (fun hok=>?_)
 repeat refine ai ?_
 refine an ?_
 repeat refine ai ?_
 refine an ?_
 repeat refine ai ?_
 refine an ?_
 repeat refine ai ?_
 refine an ?_
 repeat refine ai ?_
 refine oc (lJ _) ?_
 repeat refine ai ?_
 refine an ?_
 repeat refine ai ?_
 refine an ?_
 repeat refine ai ?_
 refine an ?_
 repeat refine ai ?_
 refine an ?_
 repeat refine ai ?_
 refine an ?_
 repeat refine ai ?_
 refine an ?_
 repeat refine ai ?_
 refine an ?_
 repeat refine ai ?_
 rfl
theorem sY (xs:List GateField):Spec P 188 [.d (ab xs),.d (ab xs)] (.d (.bool true)):=by
 refine Spec.of_vc aI aw [.tmp 4] Tryz.func188 rfl rfl rfl rfl (fun hok=>?_)
 have hs:xs.length≤big:=by have:=hok.1.1;rwa [List.length_map] at this
 repeat refine ai ?_
 refine an ?_
 refine ⟨fun k l h=>∃i:Nat,k=xs.length - i∧i≤xs.length∧l=[(0,.d (ab xs)),(1,.d (ab xs)),(5,.d (.int .i64 i))]∧h=hp0,
  ⟨_,_,_,⟨0,rfl,Nat.zero_le _,rfl,rfl⟩,rfl,rfl,⟨rfl,rfl,rfl,trivial⟩,trivial,trivial⟩,?_⟩
 rintro k l h1 ⟨i,rfl,hi,rfl,rfl⟩
 refine aj ?_ ?_<;>intro h1
 ·have hlt:i<xs.length:=V h1
  repeat refine ai ?_
  refine ak ?_
  repeat refine ai ?_
  refine O (e:=GateField.e) (xs:=xs) (hlt) rfl ?_
  repeat refine ai ?_
  refine O (e:=GateField.e) (xs:=xs) (hlt) rfl ?_
  repeat refine ai ?_
  refine oc (wj _) ?_
  repeat refine ai ?_
  refine an ?_
  exact ⟨_,_,_,⟨i+1,rfl,hlt,rfl,rfl⟩,by omega,rfl,rfl,⟨rfl,rfl,nd (Y hlt hs),trivial⟩,trivial,trivial⟩
 ·rfl
theorem wf (x:GateShape):Spec P 129 [st x.e,st x.e] (.d (.bool true)):=by
 refine Spec.of_vc aI aw [.tmp 4] Tryz.func129 rfl rfl rfl rfl (fun hok=>?_)
 repeat refine ai ?_
 refine an ?_
 repeat refine ai ?_
 refine oc (sY _) ?_
 repeat refine ai ?_
 refine an ?_
 repeat refine ai ?_
 rfl
theorem sT (xs:List GateShape):Spec P 57 [.d (aa xs),.d (aa xs)] (.d (.bool true)):=by
 refine Spec.of_vc aI aw [.tmp 4] Tryz.func57 rfl rfl rfl rfl (fun hok=>?_)
 have hs:xs.length≤big:=by have:=hok.1.1;rwa [List.length_map] at this
 repeat refine ai ?_
 refine an ?_
 refine ⟨fun k l h=>∃i:Nat,k=xs.length - i∧i≤xs.length∧l=[(0,.d (aa xs)),(1,.d (aa xs)),(5,.d (.int .i64 i))]∧h=hp0,
  ⟨_,_,_,⟨0,rfl,Nat.zero_le _,rfl,rfl⟩,rfl,rfl,⟨rfl,rfl,rfl,trivial⟩,trivial,trivial⟩,?_⟩
 rintro k l h1 ⟨i,rfl,hi,rfl,rfl⟩
 refine aj ?_ ?_<;>intro h1
 ·have hlt:i<xs.length:=V h1
  repeat refine ai ?_
  refine ak ?_
  repeat refine ai ?_
  refine O (e:=GateShape.e) (xs:=xs) (hlt) rfl ?_
  repeat refine ai ?_
  refine O (e:=GateShape.e) (xs:=xs) (hlt) rfl ?_
  repeat refine ai ?_
  refine oc (wf _) ?_
  repeat refine ai ?_
  refine an ?_
  exact ⟨_,_,_,⟨i+1,rfl,hlt,rfl,rfl⟩,by omega,rfl,rfl,⟨rfl,rfl,nd (Y hlt hs),trivial⟩,trivial,trivial⟩
 ·rfl
theorem yf (x:GateMend):Spec P 130 [st x.e,st x.e] (.d (.bool true)):=by
 refine Spec.of_vc aI aw [.tmp 4] Tryz.func130 rfl rfl rfl rfl (fun hok=>?_)
 repeat refine ai ?_
 refine an ?_
 repeat refine ai ?_
 refine an ?_
 repeat refine ai ?_
 refine an ?_
 repeat refine ai ?_
 refine an ?_
 repeat refine ai ?_
 refine an ?_
 repeat refine ai ?_
 refine an ?_
 repeat refine ai ?_
 rfl
theorem wh (xs:List GateMend):Spec P 58 [.d (af xs),.d (af xs)] (.d (.bool true)):=by
 refine Spec.of_vc aI aw [.tmp 4] Tryz.func58 rfl rfl rfl rfl (fun hok=>?_)
 have hs:xs.length≤big:=by have:=hok.1.1;rwa [List.length_map] at this
 repeat refine ai ?_
 refine an ?_
 refine ⟨fun k l h=>∃i:Nat,k=xs.length - i∧i≤xs.length∧l=[(0,.d (af xs)),(1,.d (af xs)),(5,.d (.int .i64 i))]∧h=hp0,
  ⟨_,_,_,⟨0,rfl,Nat.zero_le _,rfl,rfl⟩,rfl,rfl,⟨rfl,rfl,rfl,trivial⟩,trivial,trivial⟩,?_⟩
 rintro k l h1 ⟨i,rfl,hi,rfl,rfl⟩
 refine aj ?_ ?_<;>intro h1
 ·have hlt:i<xs.length:=V h1
  repeat refine ai ?_
  refine ak ?_
  repeat refine ai ?_
  refine O (e:=GateMend.e) (xs:=xs) (hlt) rfl ?_
  repeat refine ai ?_
  refine O (e:=GateMend.e) (xs:=xs) (hlt) rfl ?_
  repeat refine ai ?_
  refine oc (yf _) ?_
  repeat refine ai ?_
  refine an ?_
  exact ⟨_,_,_,⟨i+1,rfl,hlt,rfl,rfl⟩,by omega,rfl,rfl,⟨rfl,rfl,nd (Y hlt hs),trivial⟩,trivial,trivial⟩
 ·rfl
theorem yd (x:GateTeam):Spec P 131 [st x.e,st x.e] (.d (.bool true)):=by
 refine Spec.of_vc aI aw [.tmp 4] Tryz.func131 rfl rfl rfl rfl (fun hok=>?_)
 repeat refine ai ?_
 refine an ?_
 repeat refine ai ?_
 refine an ?_
 repeat refine ai ?_
 rfl
theorem we (xs:List GateTeam):Spec P 59 [.d (am xs),.d (am xs)] (.d (.bool true)):=by
 refine Spec.of_vc aI aw [.tmp 4] Tryz.func59 rfl rfl rfl rfl (fun hok=>?_)
 have hs:xs.length≤big:=by have:=hok.1.1;rwa [List.length_map] at this
 repeat refine ai ?_
 refine an ?_
 refine ⟨fun k l h=>∃i:Nat,k=xs.length - i∧i≤xs.length∧l=[(0,.d (am xs)),(1,.d (am xs)),(5,.d (.int .i64 i))]∧h=hp0,
  ⟨_,_,_,⟨0,rfl,Nat.zero_le _,rfl,rfl⟩,rfl,rfl,⟨rfl,rfl,rfl,trivial⟩,trivial,trivial⟩,?_⟩
 rintro k l h1 ⟨i,rfl,hi,rfl,rfl⟩
 refine aj ?_ ?_<;>intro h1
 ·have hlt:i<xs.length:=V h1
  repeat refine ai ?_
  refine ak ?_
  repeat refine ai ?_
  refine O (e:=GateTeam.e) (xs:=xs) (hlt) rfl ?_
  repeat refine ai ?_
  refine O (e:=GateTeam.e) (xs:=xs) (hlt) rfl ?_
  repeat refine ai ?_
  refine oc (yd _) ?_
  repeat refine ai ?_
  refine an ?_
  exact ⟨_,_,_,⟨i+1,rfl,hlt,rfl,rfl⟩,by omega,rfl,rfl,⟨rfl,rfl,nd (Y hlt hs),trivial⟩,trivial,trivial⟩
 ·rfl
theorem zO (x:GateLaw):Spec P 18 [st x.e,st x.e] (.d (.bool true)):=by
 refine Spec.of_vc aI aw [.tmp 4] Tryz.func18 rfl rfl rfl rfl (fun hok=>?_)
 repeat refine ai ?_
 refine oc (sT _) ?_
 repeat refine ai ?_
 refine an ?_
 repeat refine ai ?_
 refine oc (wh _) ?_
 repeat refine ai ?_
 refine an ?_
 repeat refine ai ?_
 refine oc (we _) ?_
 repeat refine ai ?_
 refine an ?_
 repeat refine ai ?_
 rfl
theorem sV (x:GateObject):Spec P 132 [st x.e,st x.e] (.d (.bool true)):=by
 refine Spec.of_vc aI aw [.tmp 4] Tryz.func132 rfl rfl rfl rfl (fun hok=>?_)
 repeat refine ai ?_
 refine an ?_
 repeat refine ai ?_
 refine an ?_
 repeat refine ai ?_
 refine an ?_
 repeat refine ai ?_
 refine oc (lJ _) ?_
 repeat refine ai ?_
 refine an ?_
 repeat refine ai ?_
 refine an ?_
 repeat refine ai ?_
 refine oc (lJ _) ?_
 repeat refine ai ?_
 refine an ?_
 repeat refine ai ?_
 refine an ?_
 repeat refine ai ?_
 rfl
theorem rL (xs:List GateObject):Spec P 60 [.d (aM xs),.d (aM xs)] (.d (.bool true)):=by
 refine Spec.of_vc aI aw [.tmp 4] Tryz.func60 rfl rfl rfl rfl (fun hok=>?_)
 have hs:xs.length≤big:=by have:=hok.1.1;rwa [List.length_map] at this
 repeat refine ai ?_
 refine an ?_
 refine ⟨fun k l h=>∃i:Nat,k=xs.length - i∧i≤xs.length∧l=[(0,.d (aM xs)),(1,.d (aM xs)),(5,.d (.int .i64 i))]∧h=hp0,
  ⟨_,_,_,⟨0,rfl,Nat.zero_le _,rfl,rfl⟩,rfl,rfl,⟨rfl,rfl,rfl,trivial⟩,trivial,trivial⟩,?_⟩
 rintro k l h1 ⟨i,rfl,hi,rfl,rfl⟩
 refine aj ?_ ?_<;>intro h1
 ·have hlt:i<xs.length:=V h1
  repeat refine ai ?_
  refine ak ?_
  repeat refine ai ?_
  refine O (e:=GateObject.e) (xs:=xs) (hlt) rfl ?_
  repeat refine ai ?_
  refine O (e:=GateObject.e) (xs:=xs) (hlt) rfl ?_
  repeat refine ai ?_
  refine oc (sV _) ?_
  repeat refine ai ?_
  refine an ?_
  exact ⟨_,_,_,⟨i+1,rfl,hlt,rfl,rfl⟩,by omega,rfl,rfl,⟨rfl,rfl,nd (Y hlt hs),trivial⟩,trivial,trivial⟩
 ·rfl
theorem ye (x:GateRule):Spec P 190 [st x.e,st x.e] (.d (.bool true)):=by
 refine Spec.of_vc aI aw [.tmp 4] Tryz.func190 rfl rfl rfl rfl (fun hok=>?_)
 repeat refine ai ?_
 refine oc (pK _) ?_
 repeat refine ai ?_
 refine an ?_
 repeat refine ai ?_
 refine an ?_
 repeat refine ai ?_
 refine an ?_
 repeat refine ai ?_
 refine an ?_
 repeat refine ai ?_
 rfl
theorem wi (x:GateGrant):Spec P 133 [st x.e,st x.e] (.d (.bool true)):=by
 refine Spec.of_vc aI aw [.tmp 4] Tryz.func133 rfl rfl rfl rfl (fun hok=>?_)
 repeat refine ai ?_
 refine an ?_
 repeat refine ai ?_
 refine an ?_
 repeat refine ai ?_
 refine an ?_
 repeat refine ai ?_
 refine oc (ye _) ?_
 repeat refine ai ?_
 refine an ?_
 repeat refine ai ?_
 rfl
theorem sX (xs:List GateGrant):Spec P 61 [.d (bp xs),.d (bp xs)] (.d (.bool true)):=by
 refine Spec.of_vc aI aw [.tmp 4] Tryz.func61 rfl rfl rfl rfl (fun hok=>?_)
 have hs:xs.length≤big:=by have:=hok.1.1;rwa [List.length_map] at this
 repeat refine ai ?_
 refine an ?_
 refine ⟨fun k l h=>∃i:Nat,k=xs.length - i∧i≤xs.length∧l=[(0,.d (bp xs)),(1,.d (bp xs)),(5,.d (.int .i64 i))]∧h=hp0,
  ⟨_,_,_,⟨0,rfl,Nat.zero_le _,rfl,rfl⟩,rfl,rfl,⟨rfl,rfl,rfl,trivial⟩,trivial,trivial⟩,?_⟩
 rintro k l h1 ⟨i,rfl,hi,rfl,rfl⟩
 refine aj ?_ ?_<;>intro h1
 ·have hlt:i<xs.length:=V h1
  repeat refine ai ?_
  refine ak ?_
  repeat refine ai ?_
  refine O (e:=GateGrant.e) (xs:=xs) (hlt) rfl ?_
  repeat refine ai ?_
  refine O (e:=GateGrant.e) (xs:=xs) (hlt) rfl ?_
  repeat refine ai ?_
  refine oc (wi _) ?_
  repeat refine ai ?_
  refine an ?_
  exact ⟨_,_,_,⟨i+1,rfl,hlt,rfl,rfl⟩,by omega,rfl,rfl,⟨rfl,rfl,nd (Y hlt hs),trivial⟩,trivial,trivial⟩
 ·rfl
theorem sW (x:GateLedger):Spec P 134 [st x.e,st x.e] (.d (.bool true)):=by
 refine Spec.of_vc aI aw [.tmp 4] Tryz.func134 rfl rfl rfl rfl (fun hok=>?_)
 repeat refine ai ?_
 refine an ?_
 repeat refine ai ?_
 refine an ?_
 repeat refine ai ?_
 refine an ?_
 repeat refine ai ?_
 refine an ?_
 repeat refine ai ?_
 rfl
theorem rM (xs:List GateLedger):Spec P 62 [.d (aW xs),.d (aW xs)] (.d (.bool true)):=by
 refine Spec.of_vc aI aw [.tmp 4] Tryz.func62 rfl rfl rfl rfl (fun hok=>?_)
 have hs:xs.length≤big:=by have:=hok.1.1;rwa [List.length_map] at this
 repeat refine ai ?_
 refine an ?_
 refine ⟨fun k l h=>∃i:Nat,k=xs.length - i∧i≤xs.length∧l=[(0,.d (aW xs)),(1,.d (aW xs)),(5,.d (.int .i64 i))]∧h=hp0,
  ⟨_,_,_,⟨0,rfl,Nat.zero_le _,rfl,rfl⟩,rfl,rfl,⟨rfl,rfl,rfl,trivial⟩,trivial,trivial⟩,?_⟩
 rintro k l h1 ⟨i,rfl,hi,rfl,rfl⟩
 refine aj ?_ ?_<;>intro h1
 ·have hlt:i<xs.length:=V h1
  repeat refine ai ?_
  refine ak ?_
  repeat refine ai ?_
  refine O (e:=GateLedger.e) (xs:=xs) (hlt) rfl ?_
  repeat refine ai ?_
  refine O (e:=GateLedger.e) (xs:=xs) (hlt) rfl ?_
  repeat refine ai ?_
  refine oc (sW _) ?_
  repeat refine ai ?_
  refine an ?_
  exact ⟨_,_,_,⟨i+1,rfl,hlt,rfl,rfl⟩,by omega,rfl,rfl,⟨rfl,rfl,nd (Y hlt hs),trivial⟩,trivial,trivial⟩
 ·rfl
theorem wg (x:GatePurse):Spec P 135 [st x.e,st x.e] (.d (.bool true)):=by
 refine Spec.of_vc aI aw [.tmp 4] Tryz.func135 rfl rfl rfl rfl (fun hok=>?_)
 repeat refine ai ?_
 refine an ?_
 repeat refine ai ?_
 refine an ?_
 repeat refine ai ?_
 refine an ?_
 repeat refine ai ?_
 refine an ?_
 repeat refine ai ?_
 refine an ?_
 repeat refine ai ?_
 rfl
theorem sU (xs:List GatePurse):Spec P 63 [.d (bo xs),.d (bo xs)] (.d (.bool true)):=by
 refine Spec.of_vc aI aw [.tmp 4] Tryz.func63 rfl rfl rfl rfl (fun hok=>?_)
 have hs:xs.length≤big:=by have:=hok.1.1;rwa [List.length_map] at this
 repeat refine ai ?_
 refine an ?_
 refine ⟨fun k l h=>∃i:Nat,k=xs.length - i∧i≤xs.length∧l=[(0,.d (bo xs)),(1,.d (bo xs)),(5,.d (.int .i64 i))]∧h=hp0,
  ⟨_,_,_,⟨0,rfl,Nat.zero_le _,rfl,rfl⟩,rfl,rfl,⟨rfl,rfl,rfl,trivial⟩,trivial,trivial⟩,?_⟩
 rintro k l h1 ⟨i,rfl,hi,rfl,rfl⟩
 refine aj ?_ ?_<;>intro h1
 ·have hlt:i<xs.length:=V h1
  repeat refine ai ?_
  refine ak ?_
  repeat refine ai ?_
  refine O (e:=GatePurse.e) (xs:=xs) (hlt) rfl ?_
  repeat refine ai ?_
  refine O (e:=GatePurse.e) (xs:=xs) (hlt) rfl ?_
  repeat refine ai ?_
  refine oc (wg _) ?_
  repeat refine ai ?_
  refine an ?_
  exact ⟨_,_,_,⟨i+1,rfl,hlt,rfl,rfl⟩,by omega,rfl,rfl,⟨rfl,rfl,nd (Y hlt hs),trivial⟩,trivial,trivial⟩
 ·rfl
theorem yg (x:GateBook):Spec P 19 [st x.e,st x.e] (.d (.bool true)):=by
 refine Spec.of_vc aI aw [.tmp 4] Tryz.func19 rfl rfl rfl rfl (fun hok=>?_)
 repeat refine ai ?_
 refine an ?_
 repeat refine ai ?_
 refine an ?_
 repeat refine ai ?_
 refine an ?_
 repeat refine ai ?_
 refine oc (rL _) ?_
 repeat refine ai ?_
 refine an ?_
 repeat refine ai ?_
 refine oc (sX _) ?_
 repeat refine ai ?_
 refine an ?_
 repeat refine ai ?_
 refine oc (rM _) ?_
 repeat refine ai ?_
 refine an ?_
 repeat refine ai ?_
 refine oc (sU _) ?_
 repeat refine ai ?_
 refine an ?_
 repeat refine ai ?_
 rfl
end Go.Vc
end
section
namespace Go.Vc
section
variable {α:Type} {e:α→List D} {xs:List α} {z:List D} {i:Nat} {fs:List NT}
theorem cL {t n:Nat}:some (AO.tree t n fs (List.replicate ((((xs.map e).length:Nat):Int)).toNat z))=some (AO.tree t n fs (bc e xs z 0)):=by
 simp[bc]
theorem ea {t n:Nat} (hi:i<xs.length) (hz:(e xs[i]).length=z.length):
 some (AO.tree t n fs ((bc e xs z i).set i (dC z 0 (e xs[i]))))=some (AO.tree t n fs (bc e xs z (i+1))):=by
 have:=cw (t:=t) (n:=n) (e:=e) hi hz
 simp only[Option.some.injEq,AO.row.injEq,true_and] at this
 rw[this]
theorem eb {t n:Nat} (h:xs.length≤i) (hi:i≤xs.length):some (AO.tree t n fs (bc e xs z i))=some (AO.tree t n fs (xs.map e)):=by
 rw[cx h hi]
end
def aK {α:Type} (f:α→Int→α×Int):List α→Int→List α×Int
 |[],k=>([],k)
 |x::xs,k=>((f x k).1::(aK f xs (f x k).2).1,(aK f xs (f x k).2).2)
def mU {α:Type} (f:α→Int→α×Int) (xs:List α) (k:Int) (i:Nat):Int:=(aK f (xs.take i) k).2
def tN {α:Type} (f:α→Int→α×Int) (e:α→List D) (xs:List α) (k:Int) (i:Nat):List (List D):=((aK f (xs.take i) k).1++xs.drop i).map e
section
variable {α:Type} {f:α→Int→α×Int} {e:α→List D}
theorem xB:∀(xs:List α) (y:α) (k:Int),aK f (xs++[y]) k=((aK f xs k).1++[(f y (aK f xs k).2).1],(f y (aK f xs k).2).2)
 |[],y,k=>rfl
 |x::xs,y,k=>by
  simp only[List.cons_append,aK,xB xs y]
theorem fL:∀(xs:List α) (k:Int),(aK f xs k).1.length=xs.length
 |[],_=>rfl
 |x::xs,k=>by simp only[aK,List.length_cons,fL xs]
theorem xA {xs:List α} {i:Nat} (h:i<xs.length) (k:Int):aK f (xs.take (i+1)) k=((aK f (xs.take i) k).1++[(f xs[i] (mU f xs k i)).1],(f xs[i] (mU f xs k i)).2):=by
 rw[List.take_succ_eq_append_getElem h,xB];rfl
theorem dN {xs:List α} {i:Nat} (h:i<xs.length) (k:Int):(f xs[i] (mU f xs k i)).2=mU f xs k (i+1):=by
 unfold mU
 rw[xA h];rfl
theorem bW {xs:List α} {i:Nat} (k:Int) (h:i≤xs.length):(tN f e xs k i).length=xs.length:=by
 unfold tN
 rw[List.length_map,List.length_append,fL,List.length_take,List.length_drop];omega
theorem bf {xs:List α} {i:Nat} {k:Int} (h:i<xs.length):i<(tN f e xs k i).length:=by rw[bW k (Nat.le_of_lt h)];exact h
theorem aP {xs:List α} {i:Nat} {k:Int} (h:i<xs.length):(tN f e xs k i)[i]? =some (e xs[i]):=by
 unfold tN
 rw[List.getElem?_map,List.getElem?_append_right (by rw[fL,List.length_take];omega),fL,List.length_take,Nat.min_eq_left (Nat.le_of_lt h),Nat.sub_self,List.getElem?_drop,Nat.add_zero,List.getElem?_eq_getElem h]
 rfl
theorem er {xs:List α} {i:Nat} {k:Int} (h:i<xs.length) {r:List D} (hr:r=e (f xs[i] (mU f xs k i)).1):(tN f e xs k i).set i r=tN f e xs k (i+1):=by
 subst hr
 unfold tN
 rw[xA h,List.drop_eq_getElem_cons h,←List.map_set]
 congr 1
 rw[List.set_append_right _ _ (by rw[fL,List.length_take];omega),fL,List.length_take,Nat.min_eq_left (Nat.le_of_lt h),Nat.sub_self,List.set_cons_zero,List.append_assoc]
 rfl
theorem fK {xs:List α} {i:Nat} {k:Int} (h:xs.length≤i):tN f e xs k i=(aK f xs k).1.map e:=by
 unfold tN
 rw[List.take_of_length_le h,List.drop_of_length_le h,List.append_nil]
theorem fc {xs:List α} {i:Nat} {k:Int} (h:xs.length≤i):mU f xs k i=(aK f xs k).2:=by
 unfold mU
 rw[List.take_of_length_le h]
theorem gm {R:List (List D)} {i:Nat} {r:List D} (h:i<R.length):(R.set i r)[i]? =some r:=by
 rw[List.getElem?_set_self h]
theorem EZ {xs:List α} {i:Nat} (k:Int) (h:i<xs.length) (h':i<(aK f xs k).1.length):(aK f xs k).1[i]=(f xs[i] (mU f xs k i)).1:=by
 have key:∀(xs:List α) (k:Int) (i:Nat) (h:i<xs.length),(aK f xs k).1[i]? =some (f xs[i] (mU f xs k i)).1:=by
  intro xs
  induction xs with
  |nil=>intro k i h;simp at h
  |cons x xs ih=>
   intro k i h
   cases i with
   |zero=>rfl
   |succ i=>
    simp only[aK,List.getElem?_cons_succ]
    rw[ih (f x k).2 i (by simpa using h)]
    rfl
 have:=key xs k i h
 rw[List.getElem?_eq_getElem h'] at this
 injection this
end
theorem FP {α:Type} {f:α→Int→α×Int} {e:α→List D} {xs:List α} {k:Int} {i sz:Nat} {K:List D→Prop} (hk:i<xs.length) (hs:(e (f xs[i] (mU f xs k i)).1).length=sz) (h:K (e (f xs[i] (mU f xs k i)).1)):
 (0:Int)≤(i:Int)∧∃b,(((aK f xs k).1).map e)[(i:Int).toNat]? =some b∧b.length=sz∧K b:=by
 have hk':i<(aK f xs k).1.length:=by rw[fL];exact hk
 rw[←EZ k hk hk'] at hs h
 exact O hk' hs h
def wk (k:Int):Int:=IntKind.i64.wrap (k+1)
end Go.Vc
end
section
namespace Go.Vc
open Go.Proofs
def GateField.n:List NT:=[.leaf,.leaf,.leaf,.leaf,.list 9 1 [.leaf],.leaf,.leaf,.leaf,.leaf,.leaf,.leaf]
def GateField.a (x:GateField):List AV:=[.d (.str x.name),.d (.int .i64 x.kind),.d (.int .i64 x.least),.d (.int .i64 x.most),.own 0,.d (.str x.to_),.d (.int .i64 x.role),.d (.bool x.must),.d (.bool x.fixed),.d (.str x.default_),.d (.str x.weighs)]
def GateField.o (x:GateField):List (Nat×AO):=[(0,.tree 9 1 [.leaf] (x.words.map eB))]
def GateShape.n:List NT:=[.leaf,.list 138 11 [.leaf,.leaf,.leaf,.leaf,.list 9 1 [.leaf],.leaf,.leaf,.leaf,.leaf,.leaf,.leaf]]
def GateShape.a (x:GateShape):List AV:=[.d (.str x.kind),.own 0]
def GateShape.o (x:GateShape):List (Nat×AO):=[(0,.tree 138 11 GateField.n (x.fields.map GateField.e))]
def GateMend.n:List NT:=[.leaf,.leaf,.leaf,.leaf,.leaf,.leaf]
def GateMend.a (x:GateMend):List AV:=[.d (.str x.kind),.d (.str x.field),.d (.str x.when_),.d (.str x.is_),.d (.str x.put),.d (.str x.from_)]
def GateMend.o (x:GateMend):List (Nat×AO):=[]
def GateTeam.n:List NT:=[.leaf,.leaf]
def GateTeam.a (x:GateTeam):List AV:=[.d (.str x.name),.d (.str x.over)]
def GateTeam.o (x:GateTeam):List (Nat×AO):=[]
def GateLaw.n:List NT:=[.list 164 2 [.leaf,.list 138 11 [.leaf,.leaf,.leaf,.leaf,.list 9 1 [.leaf],.leaf,.leaf,.leaf,.leaf,.leaf,.leaf]],.list 166 6 [.leaf,.leaf,.leaf,.leaf,.leaf,.leaf],.list 168 2 [.leaf,.leaf]]
def GateLaw.a (x:GateLaw):List AV:=[.own 0,.own 1,.own 2]
def GateLaw.o (x:GateLaw):List (Nat×AO):=[(0,.tree 164 2 GateShape.n (x.shapes.map GateShape.e)),(1,.tree 166 6 GateMend.n (x.mends.map GateMend.e)),(2,.tree 168 2 GateTeam.n (x.teams.map GateTeam.e))]
def GateObject.n:List NT:=[.leaf,.leaf,.leaf,.list 9 1 [.leaf],.leaf,.list 9 1 [.leaf],.leaf]
def GateObject.a (x:GateObject):List AV:=[.d (.str x.kind),.d (.str x.name),.d (.str x.team),.own 0,.d (.bool x.ending),.own 1,.d (.int .i64 x.version)]
def GateObject.o (x:GateObject):List (Nat×AO):=[(0,.tree 9 1 [.leaf] (x.values.map eB)),(1,.tree 9 1 [.leaf] (x.holds.map eB))]
def GateRule.n:List NT:=[.list 3 1 [.leaf],.leaf,.leaf,.leaf]
def GateRule.a (x:GateRule):List AV:=[.own 0,.d (.str x.kind),.d (.str x.team),.d (.str x.prefix_)]
def GateRule.o (x:GateRule):List (Nat×AO):=[(0,.tree 3 1 [.leaf] (x.verbs.map eN))]
def GateGrant.n:List NT:=[.leaf,.leaf,.leaf,.list 3 1 [.leaf],.leaf,.leaf,.leaf]
def GateGrant.a (x:GateGrant):List AV:=[.d (.int .i64 x.number),.d (.str x.to_),.d (.str x.by_),.own 0,.d (.str x.rule.kind),.d (.str x.rule.team),.d (.str x.rule.prefix_)]
def GateGrant.o (x:GateGrant):List (Nat×AO):=[(0,.tree 3 1 [.leaf] (x.rule.verbs.map eN))]
def GateLedger.n:List NT:=[.leaf,.leaf,.leaf,.leaf]
def GateLedger.a (x:GateLedger):List AV:=[.d (.str x.team),.d (.str x.resource),.d (.int .i64 x.most),.d (.int .i64 x.free)]
def GateLedger.o (x:GateLedger):List (Nat×AO):=[]
def GatePurse.n:List NT:=[.leaf,.leaf,.leaf,.leaf,.leaf]
def GatePurse.a (x:GatePurse):List AV:=[.d (.str x.door),.d (.str x.team),.d (.str x.resource),.d (.int .i64 x.amount),.d (.int .i64 x.until_)]
def GatePurse.o (x:GatePurse):List (Nat×AO):=[]
def GateBook.n:List NT:=[.leaf,.leaf,.leaf,.list 103 7 [.leaf,.leaf,.leaf,.list 9 1 [.leaf],.leaf,.list 9 1 [.leaf],.leaf],.list 173 7 [.leaf,.leaf,.leaf,.list 3 1 [.leaf],.leaf,.leaf,.leaf],.list 119 4 [.leaf,.leaf,.leaf,.leaf],.list 109 5 [.leaf,.leaf,.leaf,.leaf,.leaf]]
def GateBook.a (x:GateBook):List AV:=[.d (.int .i64 x.now),.d (.int .i64 x.tick),.d (.int .i64 x.given),.own 0,.own 1,.own 2,.own 3]
def GateBook.o (x:GateBook):List (Nat×AO):=[(0,.tree 103 7 GateObject.n (x.objects.map GateObject.e)),(1,.tree 173 7 GateGrant.n (x.grants.map GateGrant.e)),(2,.tree 119 4 GateLedger.n (x.ledgers.map GateLedger.e)),(3,.tree 109 5 GatePurse.n (x.purses.map GatePurse.e))]
end Go.Vc
end
section
namespace Go.Vc
open Go.Proofs
set_option maxRecDepth 100000
theorem jJ (xs:List Bs):HSpec P 179 [.d (lS xs)] hp0 (.own 0) ⟨[(0,.tree 9 1 [.leaf] (xs.map eB))],1,0⟩:=by
 refine aD dm aw [.tmp 2] Tryz.func179 rfl rfl rfl rfl (fun hok=>?_)
 have hs:xs.length≤big:=by have:=hok.1.1;rwa [List.length_map] at this
 repeat refine ai ?_
 refine aj (Int.natCast_nonneg _) (aj (Int.le_refl _) (aj (dM hs) ?_))
 refine ⟨fun k l h=>∃i:Nat,k=xs.length - i∧i≤xs.length∧l=[(0,.d (lS xs)),(3,.own 0),(4,.d (.int .i64 i))]∧h=⟨[(0,.tree 9 1 [.leaf] (bc eB xs [D.str []] i))],1,0⟩,
  ⟨_,_,_,⟨0,rfl,Nat.zero_le _,rfl,rfl⟩,rfl,rfl,⟨rfl,rfl,rfl,trivial⟩,⟨rfl,trivial⟩,⟨cL,trivial⟩⟩,?_⟩
 rintro k l h1 ⟨i,rfl,hi,rfl,rfl⟩
 refine aj ?_ ?_<;>intro h1
 ·have hlt:i<xs.length:=V h1
  repeat refine ai ?_
  refine O (e:=eB) (xs:=xs) (hlt) rfl ?_
  repeat refine ai ?_
  refine aj (Int.natCast_nonneg _) (aj (by rw[aS hi];omega) ?_)
  repeat refine ai ?_
  refine ⟨_,aT hlt,Nat.le_refl _,?_⟩
  exact ⟨_,_,_,⟨i+1,rfl,hlt,rfl,rfl⟩,by omega,rfl,rfl,⟨rfl,rfl,nd (Y hlt hs),trivial⟩,⟨rfl,trivial⟩,⟨ea hlt rfl,trivial⟩⟩
 ·exact ⟨[some 0],rfl,rfl,⟨eb (Z h1) hi,rfl⟩,trivial⟩
theorem Cj (xs:List Int):HSpec P 209 [.d (lI xs)] hp0 (.own 0) ⟨[(0,.tree 3 1 [.leaf] (xs.map eN))],1,0⟩:=by
 refine aD dm aw [.tmp 2] Tryz.func209 rfl rfl rfl rfl (fun hok=>?_)
 have hs:xs.length≤big:=by have:=hok.1.1;rwa [List.length_map] at this
 repeat refine ai ?_
 refine aj (Int.natCast_nonneg _) (aj (Int.le_refl _) (aj (dM hs) ?_))
 refine ⟨fun k l h=>∃i:Nat,k=xs.length - i∧i≤xs.length∧l=[(0,.d (lI xs)),(3,.own 0),(4,.d (.int .i64 i))]∧h=⟨[(0,.tree 3 1 [.leaf] (bc eN xs [D.int .i64 0] i))],1,0⟩,
  ⟨_,_,_,⟨0,rfl,Nat.zero_le _,rfl,rfl⟩,rfl,rfl,⟨rfl,rfl,rfl,trivial⟩,⟨rfl,trivial⟩,⟨cL,trivial⟩⟩,?_⟩
 rintro k l h1 ⟨i,rfl,hi,rfl,rfl⟩
 refine aj ?_ ?_<;>intro h1
 ·have hlt:i<xs.length:=V h1
  repeat refine ai ?_
  refine O (e:=eN) (xs:=xs) (hlt) rfl ?_
  repeat refine ai ?_
  refine aj (Int.natCast_nonneg _) (aj (by rw[aS hi];omega) ?_)
  repeat refine ai ?_
  refine ⟨_,aT hlt,Nat.le_refl _,?_⟩
  exact ⟨_,_,_,⟨i+1,rfl,hlt,rfl,rfl⟩,by omega,rfl,rfl,⟨rfl,rfl,nd (Y hlt hs),trivial⟩,⟨rfl,trivial⟩,⟨ea hlt rfl,trivial⟩⟩
 ·exact ⟨[some 0],rfl,rfl,⟨eb (Z h1) hi,rfl⟩,trivial⟩
set_option maxHeartbeats 2000000 in
theorem sj (x:GateField):HSpec P 208 [st x.e] hp0 (.agg x.a) ⟨x.o,1,0⟩:=by
 refine aD dm aw [.cell 2 138] Tryz.func208 rfl rfl rfl rfl (fun hok=>?_)
 repeat refine ai ?_
 refine ow (jJ _) ?_
 repeat refine ai ?_
 exact ⟨[some 3],by (repeat' first|exact rfl|exact trivial|refine aj ?_ ?_)⟩
theorem qf (xs:List GateField):HSpec P 178 [.d (ab xs)] hp0 (.own 0) ⟨[(0,.tree 138 11 GateField.n (xs.map GateField.e))],1,0⟩:=by
 refine aD dm aw [.tmp 2] Tryz.func178 rfl rfl rfl rfl (fun hok=>?_)
 have hs:xs.length≤big:=by have:=hok.1.1;rwa [List.length_map] at this
 repeat refine ai ?_
 refine aj (Int.natCast_nonneg _) (aj (Int.le_refl _) (aj (dM hs) ?_))
 refine ⟨fun k l h=>∃i:Nat,k=xs.length - i∧i≤xs.length∧l=[(0,.d (ab xs)),(3,.own 0),(4,.d (.int .i64 i))]∧h=⟨[(0,.tree 138 11 GateField.n (bc GateField.e xs GateField.z i))],1,0⟩,
  ⟨_,_,_,⟨0,rfl,Nat.zero_le _,rfl,rfl⟩,rfl,rfl,⟨rfl,rfl,rfl,trivial⟩,⟨rfl,trivial⟩,⟨cL,trivial⟩⟩,?_⟩
 rintro k l h1 ⟨i,rfl,hi,rfl,rfl⟩
 refine aj ?_ ?_<;>intro h1
 ·have hlt:i<xs.length:=V h1
  repeat refine ai ?_
  refine O (e:=GateField.e) (xs:=xs) (hlt) rfl ?_
  repeat refine ai ?_
  refine ow (sj _) ?_
  repeat refine ai ?_
  refine aj (Int.natCast_nonneg _) (aj (by rw[aS hi];omega) ?_)
  repeat refine ai ?_
  refine ⟨_,aT hlt,Nat.le_refl _,?_⟩
  exact ⟨_,_,_,⟨i+1,rfl,hlt,rfl,rfl⟩,by omega,rfl,rfl,⟨rfl,rfl,nd (Y hlt hs),trivial⟩,⟨rfl,trivial⟩,⟨ea hlt rfl,trivial⟩⟩
 ·exact ⟨[some 0],rfl,rfl,⟨eb (Z h1) hi,rfl⟩,trivial⟩
set_option maxHeartbeats 2000000 in
theorem sf (x:GateShape):HSpec P 118 [st x.e] hp0 (.agg x.a) ⟨x.o,1,0⟩:=by
 refine aD dm aw [.cell 2 164] Tryz.func118 rfl rfl rfl rfl (fun hok=>?_)
 repeat refine ai ?_
 refine ow (qf _) ?_
 repeat refine ai ?_
 exact ⟨[some 3],by (repeat' first|exact rfl|exact trivial|refine aj ?_ ?_)⟩
theorem qb (xs:List GateShape):HSpec P 48 [.d (aa xs)] hp0 (.own 0) ⟨[(0,.tree 164 2 GateShape.n (xs.map GateShape.e))],1,0⟩:=by
 refine aD dm aw [.tmp 2] Tryz.func48 rfl rfl rfl rfl (fun hok=>?_)
 have hs:xs.length≤big:=by have:=hok.1.1;rwa [List.length_map] at this
 repeat refine ai ?_
 refine aj (Int.natCast_nonneg _) (aj (Int.le_refl _) (aj (dM hs) ?_))
 refine ⟨fun k l h=>∃i:Nat,k=xs.length - i∧i≤xs.length∧l=[(0,.d (aa xs)),(3,.own 0),(4,.d (.int .i64 i))]∧h=⟨[(0,.tree 164 2 GateShape.n (bc GateShape.e xs GateShape.z i))],1,0⟩,
  ⟨_,_,_,⟨0,rfl,Nat.zero_le _,rfl,rfl⟩,rfl,rfl,⟨rfl,rfl,rfl,trivial⟩,⟨rfl,trivial⟩,⟨cL,trivial⟩⟩,?_⟩
 rintro k l h1 ⟨i,rfl,hi,rfl,rfl⟩
 refine aj ?_ ?_<;>intro h1
 ·have hlt:i<xs.length:=V h1
  repeat refine ai ?_
  refine O (e:=GateShape.e) (xs:=xs) (hlt) rfl ?_
  repeat refine ai ?_
  refine ow (sf _) ?_
  repeat refine ai ?_
  refine aj (Int.natCast_nonneg _) (aj (by rw[aS hi];omega) ?_)
  repeat refine ai ?_
  refine ⟨_,aT hlt,Nat.le_refl _,?_⟩
  exact ⟨_,_,_,⟨i+1,rfl,hlt,rfl,rfl⟩,by omega,rfl,rfl,⟨rfl,rfl,nd (Y hlt hs),trivial⟩,⟨rfl,trivial⟩,⟨ea hlt rfl,trivial⟩⟩
 ·exact ⟨[some 0],rfl,rfl,⟨eb (Z h1) hi,rfl⟩,trivial⟩
theorem sg (xs:List GateMend):HSpec P 49 [.d (af xs)] hp0 (.own 0) ⟨[(0,.tree 166 6 GateMend.n (xs.map GateMend.e))],1,0⟩:=by
 refine aD dm aw [.tmp 2] Tryz.func49 rfl rfl rfl rfl (fun hok=>?_)
 have hs:xs.length≤big:=by have:=hok.1.1;rwa [List.length_map] at this
 repeat refine ai ?_
 refine aj (Int.natCast_nonneg _) (aj (Int.le_refl _) (aj (dM hs) ?_))
 refine ⟨fun k l h=>∃i:Nat,k=xs.length - i∧i≤xs.length∧l=[(0,.d (af xs)),(3,.own 0),(4,.d (.int .i64 i))]∧h=⟨[(0,.tree 166 6 GateMend.n (bc GateMend.e xs GateMend.z i))],1,0⟩,
  ⟨_,_,_,⟨0,rfl,Nat.zero_le _,rfl,rfl⟩,rfl,rfl,⟨rfl,rfl,rfl,trivial⟩,⟨rfl,trivial⟩,⟨cL,trivial⟩⟩,?_⟩
 rintro k l h1 ⟨i,rfl,hi,rfl,rfl⟩
 refine aj ?_ ?_<;>intro h1
 ·have hlt:i<xs.length:=V h1
  repeat refine ai ?_
  refine O (e:=GateMend.e) (xs:=xs) (hlt) rfl ?_
  repeat refine ai ?_
  refine oc (oz _) ?_
  repeat refine ai ?_
  refine aj (Int.natCast_nonneg _) (aj (by rw[aS hi];omega) ?_)
  repeat refine ai ?_
  refine ⟨_,aT hlt,Nat.le_refl _,?_⟩
  exact ⟨_,_,_,⟨i+1,rfl,hlt,rfl,rfl⟩,by omega,rfl,rfl,⟨rfl,rfl,nd (Y hlt hs),trivial⟩,⟨rfl,trivial⟩,⟨ea hlt rfl,trivial⟩⟩
 ·exact ⟨[some 0],rfl,rfl,⟨eb (Z h1) hi,rfl⟩,trivial⟩
theorem se (xs:List GateTeam):HSpec P 50 [.d (am xs)] hp0 (.own 0) ⟨[(0,.tree 168 2 GateTeam.n (xs.map GateTeam.e))],1,0⟩:=by
 refine aD dm aw [.tmp 2] Tryz.func50 rfl rfl rfl rfl (fun hok=>?_)
 have hs:xs.length≤big:=by have:=hok.1.1;rwa [List.length_map] at this
 repeat refine ai ?_
 refine aj (Int.natCast_nonneg _) (aj (Int.le_refl _) (aj (dM hs) ?_))
 refine ⟨fun k l h=>∃i:Nat,k=xs.length - i∧i≤xs.length∧l=[(0,.d (am xs)),(3,.own 0),(4,.d (.int .i64 i))]∧h=⟨[(0,.tree 168 2 GateTeam.n (bc GateTeam.e xs GateTeam.z i))],1,0⟩,
  ⟨_,_,_,⟨0,rfl,Nat.zero_le _,rfl,rfl⟩,rfl,rfl,⟨rfl,rfl,rfl,trivial⟩,⟨rfl,trivial⟩,⟨cL,trivial⟩⟩,?_⟩
 rintro k l h1 ⟨i,rfl,hi,rfl,rfl⟩
 refine aj ?_ ?_<;>intro h1
 ·have hlt:i<xs.length:=V h1
  repeat refine ai ?_
  refine O (e:=GateTeam.e) (xs:=xs) (hlt) rfl ?_
  repeat refine ai ?_
  refine oc (oy _) ?_
  repeat refine ai ?_
  refine aj (Int.natCast_nonneg _) (aj (by rw[aS hi];omega) ?_)
  repeat refine ai ?_
  refine ⟨_,aT hlt,Nat.le_refl _,?_⟩
  exact ⟨_,_,_,⟨i+1,rfl,hlt,rfl,rfl⟩,by omega,rfl,rfl,⟨rfl,rfl,nd (Y hlt hs),trivial⟩,⟨rfl,trivial⟩,⟨ea hlt rfl,trivial⟩⟩
 ·exact ⟨[some 0],rfl,rfl,⟨eb (Z h1) hi,rfl⟩,trivial⟩
set_option maxHeartbeats 2000000 in
theorem wT (x:GateLaw):HSpec P 14 [st x.e] hp0 (.agg x.a) ⟨x.o,3,0⟩:=by
 refine aD dm aw [.cell 2 41] Tryz.func14 rfl rfl rfl rfl (fun hok=>?_)
 repeat refine ai ?_
 refine ow (qb _) ?_
 repeat refine ai ?_
 refine ow (sg _) ?_
 repeat refine ai ?_
 refine ow (se _) ?_
 repeat refine ai ?_
 exact ⟨[some 3,some 4,some 5],by (repeat' first|exact rfl|exact trivial|refine aj ?_ ?_)⟩
set_option maxHeartbeats 2000000 in
theorem qd (x:GateObject):HSpec P 121 [st x.e] hp0 (.agg x.a) ⟨x.o,2,0⟩:=by
 refine aD dm aw [.cell 2 103] Tryz.func121 rfl rfl rfl rfl (fun hok=>?_)
 repeat refine ai ?_
 refine ow (jJ _) ?_
 repeat refine ai ?_
 refine ow (jJ _) ?_
 repeat refine ai ?_
 exact ⟨[some 3,some 4],by (repeat' first|exact rfl|exact trivial|refine aj ?_ ?_)⟩
theorem o4 (xs:List GateObject):HSpec P 51 [.d (aM xs)] hp0 (.own 0) ⟨[(0,.tree 103 7 GateObject.n (xs.map GateObject.e))],1,0⟩:=by
 refine aD dm aw [.tmp 2] Tryz.func51 rfl rfl rfl rfl (fun hok=>?_)
 have hs:xs.length≤big:=by have:=hok.1.1;rwa [List.length_map] at this
 repeat refine ai ?_
 refine aj (Int.natCast_nonneg _) (aj (Int.le_refl _) (aj (dM hs) ?_))
 refine ⟨fun k l h=>∃i:Nat,k=xs.length - i∧i≤xs.length∧l=[(0,.d (aM xs)),(3,.own 0),(4,.d (.int .i64 i))]∧h=⟨[(0,.tree 103 7 GateObject.n (bc GateObject.e xs GateObject.z i))],1,0⟩,
  ⟨_,_,_,⟨0,rfl,Nat.zero_le _,rfl,rfl⟩,rfl,rfl,⟨rfl,rfl,rfl,trivial⟩,⟨rfl,trivial⟩,⟨cL,trivial⟩⟩,?_⟩
 rintro k l h1 ⟨i,rfl,hi,rfl,rfl⟩
 refine aj ?_ ?_<;>intro h1
 ·have hlt:i<xs.length:=V h1
  repeat refine ai ?_
  refine O (e:=GateObject.e) (xs:=xs) (hlt) rfl ?_
  repeat refine ai ?_
  refine ow (qd _) ?_
  repeat refine ai ?_
  refine aj (Int.natCast_nonneg _) (aj (by rw[aS hi];omega) ?_)
  repeat refine ai ?_
  refine ⟨_,aT hlt,Nat.le_refl _,?_⟩
  exact ⟨_,_,_,⟨i+1,rfl,hlt,rfl,rfl⟩,by omega,rfl,rfl,⟨rfl,rfl,nd (Y hlt hs),trivial⟩,⟨rfl,trivial⟩,⟨ea hlt rfl,trivial⟩⟩
 ·exact ⟨[some 0],rfl,rfl,⟨eb (Z h1) hi,rfl⟩,trivial⟩
set_option maxHeartbeats 2000000 in
theorem uY (x:GateRule):HSpec P 180 [st x.e] hp0 (.agg x.a) ⟨x.o,1,0⟩:=by
 refine aD dm aw [.cell 2 171] Tryz.func180 rfl rfl rfl rfl (fun hok=>?_)
 repeat refine ai ?_
 refine ow (Cj _) ?_
 repeat refine ai ?_
 exact ⟨[some 3],by (repeat' first|exact rfl|exact trivial|refine aj ?_ ?_)⟩
set_option maxHeartbeats 2000000 in
theorem si (x:GateGrant):HSpec P 122 [st x.e] hp0 (.agg x.a) ⟨x.o,1,0⟩:=by
 refine aD dm aw [.cell 2 173] Tryz.func122 rfl rfl rfl rfl (fun hok=>?_)
 repeat refine ai ?_
 refine ow (uY _) ?_
 repeat refine ai ?_
 exact ⟨[some 3],by (repeat' first|exact rfl|exact trivial|refine aj ?_ ?_)⟩
theorem qe (xs:List GateGrant):HSpec P 52 [.d (bp xs)] hp0 (.own 0) ⟨[(0,.tree 173 7 GateGrant.n (xs.map GateGrant.e))],1,0⟩:=by
 refine aD dm aw [.tmp 2] Tryz.func52 rfl rfl rfl rfl (fun hok=>?_)
 have hs:xs.length≤big:=by have:=hok.1.1;rwa [List.length_map] at this
 repeat refine ai ?_
 refine aj (Int.natCast_nonneg _) (aj (Int.le_refl _) (aj (dM hs) ?_))
 refine ⟨fun k l h=>∃i:Nat,k=xs.length - i∧i≤xs.length∧l=[(0,.d (bp xs)),(3,.own 0),(4,.d (.int .i64 i))]∧h=⟨[(0,.tree 173 7 GateGrant.n (bc GateGrant.e xs GateGrant.z i))],1,0⟩,
  ⟨_,_,_,⟨0,rfl,Nat.zero_le _,rfl,rfl⟩,rfl,rfl,⟨rfl,rfl,rfl,trivial⟩,⟨rfl,trivial⟩,⟨cL,trivial⟩⟩,?_⟩
 rintro k l h1 ⟨i,rfl,hi,rfl,rfl⟩
 refine aj ?_ ?_<;>intro h1
 ·have hlt:i<xs.length:=V h1
  repeat refine ai ?_
  refine O (e:=GateGrant.e) (xs:=xs) (hlt) rfl ?_
  repeat refine ai ?_
  refine ow (si _) ?_
  repeat refine ai ?_
  refine aj (Int.natCast_nonneg _) (aj (by rw[aS hi];omega) ?_)
  repeat refine ai ?_
  refine ⟨_,aT hlt,Nat.le_refl _,?_⟩
  exact ⟨_,_,_,⟨i+1,rfl,hlt,rfl,rfl⟩,by omega,rfl,rfl,⟨rfl,rfl,nd (Y hlt hs),trivial⟩,⟨rfl,trivial⟩,⟨ea hlt rfl,trivial⟩⟩
 ·exact ⟨[some 0],rfl,rfl,⟨eb (Z h1) hi,rfl⟩,trivial⟩
theorem o5 (xs:List GateLedger):HSpec P 53 [.d (aW xs)] hp0 (.own 0) ⟨[(0,.tree 119 4 GateLedger.n (xs.map GateLedger.e))],1,0⟩:=by
 refine aD dm aw [.tmp 2] Tryz.func53 rfl rfl rfl rfl (fun hok=>?_)
 have hs:xs.length≤big:=by have:=hok.1.1;rwa [List.length_map] at this
 repeat refine ai ?_
 refine aj (Int.natCast_nonneg _) (aj (Int.le_refl _) (aj (dM hs) ?_))
 refine ⟨fun k l h=>∃i:Nat,k=xs.length - i∧i≤xs.length∧l=[(0,.d (aW xs)),(3,.own 0),(4,.d (.int .i64 i))]∧h=⟨[(0,.tree 119 4 GateLedger.n (bc GateLedger.e xs GateLedger.z i))],1,0⟩,
  ⟨_,_,_,⟨0,rfl,Nat.zero_le _,rfl,rfl⟩,rfl,rfl,⟨rfl,rfl,rfl,trivial⟩,⟨rfl,trivial⟩,⟨cL,trivial⟩⟩,?_⟩
 rintro k l h1 ⟨i,rfl,hi,rfl,rfl⟩
 refine aj ?_ ?_<;>intro h1
 ·have hlt:i<xs.length:=V h1
  repeat refine ai ?_
  refine O (e:=GateLedger.e) (xs:=xs) (hlt) rfl ?_
  repeat refine ai ?_
  refine oc (kO _) ?_
  repeat refine ai ?_
  refine aj (Int.natCast_nonneg _) (aj (by rw[aS hi];omega) ?_)
  repeat refine ai ?_
  refine ⟨_,aT hlt,Nat.le_refl _,?_⟩
  exact ⟨_,_,_,⟨i+1,rfl,hlt,rfl,rfl⟩,by omega,rfl,rfl,⟨rfl,rfl,nd (Y hlt hs),trivial⟩,⟨rfl,trivial⟩,⟨ea hlt rfl,trivial⟩⟩
 ·exact ⟨[some 0],rfl,rfl,⟨eb (Z h1) hi,rfl⟩,trivial⟩
theorem qc (xs:List GatePurse):HSpec P 54 [.d (bo xs)] hp0 (.own 0) ⟨[(0,.tree 109 5 GatePurse.n (xs.map GatePurse.e))],1,0⟩:=by
 refine aD dm aw [.tmp 2] Tryz.func54 rfl rfl rfl rfl (fun hok=>?_)
 have hs:xs.length≤big:=by have:=hok.1.1;rwa [List.length_map] at this
 repeat refine ai ?_
 refine aj (Int.natCast_nonneg _) (aj (Int.le_refl _) (aj (dM hs) ?_))
 refine ⟨fun k l h=>∃i:Nat,k=xs.length - i∧i≤xs.length∧l=[(0,.d (bo xs)),(3,.own 0),(4,.d (.int .i64 i))]∧h=⟨[(0,.tree 109 5 GatePurse.n (bc GatePurse.e xs GatePurse.z i))],1,0⟩,
  ⟨_,_,_,⟨0,rfl,Nat.zero_le _,rfl,rfl⟩,rfl,rfl,⟨rfl,rfl,rfl,trivial⟩,⟨rfl,trivial⟩,⟨cL,trivial⟩⟩,?_⟩
 rintro k l h1 ⟨i,rfl,hi,rfl,rfl⟩
 refine aj ?_ ?_<;>intro h1
 ·have hlt:i<xs.length:=V h1
  repeat refine ai ?_
  refine O (e:=GatePurse.e) (xs:=xs) (hlt) rfl ?_
  repeat refine ai ?_
  refine oc (l8 _) ?_
  repeat refine ai ?_
  refine aj (Int.natCast_nonneg _) (aj (by rw[aS hi];omega) ?_)
  repeat refine ai ?_
  refine ⟨_,aT hlt,Nat.le_refl _,?_⟩
  exact ⟨_,_,_,⟨i+1,rfl,hlt,rfl,rfl⟩,by omega,rfl,rfl,⟨rfl,rfl,nd (Y hlt hs),trivial⟩,⟨rfl,trivial⟩,⟨ea hlt rfl,trivial⟩⟩
 ·exact ⟨[some 0],rfl,rfl,⟨eb (Z h1) hi,rfl⟩,trivial⟩
set_option maxHeartbeats 2000000 in
theorem uZ (x:GateBook):HSpec P 15 [st x.e] hp0 (.agg x.a) ⟨x.o,4,0⟩:=by
 refine aD dm aw [.cell 2 48] Tryz.func15 rfl rfl rfl rfl (fun hok=>?_)
 repeat refine ai ?_
 refine ow (o4 _) ?_
 repeat refine ai ?_
 refine ow (qe _) ?_
 repeat refine ai ?_
 refine ow (o5 _) ?_
 repeat refine ai ?_
 refine ow (qc _) ?_
 repeat refine ai ?_
 exact ⟨[some 3,some 4,some 5,some 6],by (repeat' first|exact rfl|exact trivial|refine aj ?_ ?_)⟩
end Go.Vc
end
section
namespace Go.Vc
open Go.Proofs
set_option maxRecDepth 100000
section
variable {α:Type} {e:α→List D} {xs:List α} {k:Nat}
theorem E1 (h:k<xs.length):(xs.map e)[k]? =some (e xs[k]):=by simp[h]
theorem zn {K:Prop} (h:k<xs.length) (q:K):(0:Int)≤(k:Int)∧(k:Int)<(((xs.map e).length:Nat):Int)∧K:=⟨Int.natCast_nonneg _,by rw[List.length_map];omega,q⟩
theorem E8 {K:List D→Prop} (h:k<xs.length) (q:K (e xs[k])):∃r,(xs.map e)[k]? =some r∧K r:=⟨_,E1 h,q⟩
theorem Ae {t sz:Nat} {fs:List NT} {r:List D} {y:α} (hr:r=e y):some (AO.tree t sz fs ((xs.map e).set k r))=some (AO.tree t sz fs ((xs.set k y).map e)):=by
 rw[hr,List.map_set]
theorem yG {t sz:Nat} {fs:List NT} {a b:List (List D)} (h:a=b):some (AO.tree t sz fs a)=some (AO.tree t sz fs b):=by rw[h]
end
section
variable {α:Type} {xs:List α} {i q:Nat}
def Fj (xs:List α) (i q:Nat):List α:=(xs.take q).eraseIdx i
theorem F2:Fj xs i 0=[]:=rfl
theorem Gl (h:xs.length≤q):Fj xs i q=xs.eraseIdx i:=by
 unfold Fj
 rw[List.take_of_length_le h]
end
def AY (g:GateLedger) (n:Int):GateLedger:={g with free:=dz g.free n}
def Gz (b:GateBook) (i k:Nat) (hi:i<b.purses.length) (hk:k<b.ledgers.length):GateBook:=
 {b with ledgers:=b.ledgers.set k (AY b.ledgers[k] b.purses[i].amount),purses:=b.purses.eraseIdx i}
abbrev FL (b:GateBook) (t r:Bs):Int:=dA (fun x=>x.team==t&&x.resource==r) b.ledgers
abbrev FG (b:GateBook) (d t r:Bs):Int:=dA (fun x=>x.door==d&&(x.team==t&&x.resource==r)) b.purses
def GE (b:GateBook):Prop:=∀p∈b.purses,b.ledgers.any (fun g=>g.team==p.team&&g.resource==p.resource)=true
def ED (b:GateBook) (i:Nat):GateBook:=match b.purses[i]? with
 |none=>b
 |some p=>match b.ledgers[(FL b p.team p.resource).toNat]? with
  |none=>b
  |some g=>{b with ledgers:=b.ledgers.set (FL b p.team p.resource).toNat (AY g p.amount),purses:=b.purses.eraseIdx i}
def GK (b:GateBook) (o g l p:Nat):AO:= .cells 48 [.d (.int .i64 b.now),.d (.int .i64 b.tick),.d (.int .i64 b.given),.own o,.own g,.own l,.own p]
def GM (b:GateBook) (o g l p:Nat):AV:= .agg [.d (.int .i64 b.now),.d (.int .i64 b.tick),.d (.int .i64 b.given),.own o,.own g,.own l,.own p]
def GX (b:GateBook):AO:= .tree 103 7 GateObject.n (b.objects.map GateObject.e)
def GZ (b:GateBook):AO:= .tree 173 7 GateGrant.n (b.grants.map GateGrant.e)
def GY (b:GateBook):AO:= .tree 119 4 GateLedger.n (b.ledgers.map GateLedger.e)
def GW (b:GateBook):AO:= .tree 109 5 GatePurse.n (b.purses.map GatePurse.e)
end Go.Vc
end
section
namespace Go.Vc
open Go.Proofs
set_option maxRecDepth 100000
def eT (v:Bool):List D:=[.bool v]
abbrev lB (s:List Bool):D:= .list (s.map eT)
theorem Fd (xs:List Bool):∀r∈xs.map eT,kB 1 r:=fun r hr=>by
 obtain ⟨x,_,rfl⟩:=List.mem_map.1 hr
 exact ⟨rfl,fun d hd=>by rw[List.mem_singleton.1 hd];rfl⟩
def qQ (L:GateLaw) (b:GateBook) (y x:Nat):Bool:=match b.objects[y]?,b.objects[x]? with
 |some o,some p=>gb L.shapes o p 1||gb L.shapes o p 3
 |_,_=>false
theorem vG {L:GateLaw} {b:GateBook} {x y:Nat} (hy:y<b.objects.length) (hx:x<b.objects.length):qQ L b y x=(gb L.shapes b.objects[y] b.objects[x] 1||gb L.shapes b.objects[y] b.objects[x] 3):=by
 unfold qQ
 rw[List.getElem?_eq_getElem hy,List.getElem?_eq_getElem hx]
def zB (b:GateBook) (x:Nat):Bool:=match b.objects[x]? with|some o=>o.holds.length==0|none=>false
theorem zA {b:GateBook} {x:Nat} (hx:x<b.objects.length):zB b x=(b.objects[x].holds.length==0):=by
 unfold zB
 rw[List.getElem?_eq_getElem hx]
def nF (L:GateLaw) (b:GateBook) (s:List Bool) (x:Nat):Bool:=(List.range b.objects.length).any fun y=> !lO s y&&qQ L b y x
theorem y4 {n i:Nat} {f:Nat→Bool} (h:i<n):((List.range n).drop i).any f=(f i||((List.range n).drop (i+1)).any f):=by
 have h':i<(List.range n).length:=by rw[List.length_range];exact h
 rw[gL h',List.getElem_range]
theorem Bu {n i:Nat} {f:Nat→Bool} (h:n≤i):((List.range n).drop i).any f=false:=by
 rw[List.drop_of_length_le (by rw[List.length_range];exact h)];rfl
theorem Bi (L:GateLaw) (b:GateBook) (s:List Bool) (x:Nat) (hx:x<b.objects.length) (hl:s.length=b.objects.length):Spec P 139 [st L.e,st b.e,.d (lB s),.d (.int .i64 (x:Int))] (.d (.bool (nF L b s x))):=by
 refine Spec.of_vc aI aw [.tmp 8] Tryz.func139 rfl rfl rfl rfl (fun hok=>?_)
 have hs:b.objects.length≤big:=(bV ⟨hok.2.1,trivial⟩).1
 repeat refine ai ?_
 refine d8 (b.objects) (fun i=>nF L b s x=((List.range b.objects.length).drop i).any (fun y=> !lO s y&&qQ L b y x)) (fun i=>[(2,.d (lB s)),(3,.d (.int .i64 (x:Int))),(4,.ptr 0 0),(5,.ptr 1 0),(9,.d (.int .i64 i))]) (fun i=>⟨[(1,.cells 48 (b.e.map .d)),(0,.cells 41 (L.e.map .d))],2,0⟩) (rfl) ?_
 intro i hi hr
 repeat refine ai ?_
 refine aj ?_ ?_<;>intro h1
 ·have hlt:i<b.objects.length:=V h1
  have hlt2:i<s.length:=by omega
  rw[y4 hlt,oo hlt2,vG hlt hx] at hr
  repeat refine ai ?_
  refine O (e:=eT) (xs:=s) (hlt2) rfl ?_
  repeat refine ai ?_
  refine aj ?_ ?_<;>intro c1
  ·repeat refine ai ?_
   refine oc (tA L b i x hlt hx 1) ?_
   repeat refine ai ?_
   refine aj ?_ ?_<;>intro c2
   ·repeat refine ai ?_
    refine oc (tA L b i x hlt hx 3) ?_
    repeat refine ai ?_
    refine aj ?_ ?_<;>intro c3
    ·refine bd ?_
     rw[hr,c1,c2,c3];rfl
    ·repeat refine ai ?_
     exact bQ hlt hs (by rw[hr,c1,c2,c3];rfl)
   ·refine bd ?_
    rw[hr,c1,c2];rfl
  ·repeat refine ai ?_
   exact bQ hlt hs (by rw[hr,c1];rfl)
 ·refine bd ?_
  rw[hr,Bu (Z h1)]
theorem yO (b:GateBook):Spec P 73 [st b.e] (.d (lB (b.objects.map GateObject.ending))):=by
 refine Spec.of_vc dm aw [.tmp 2] Tryz.func73 rfl rfl rfl rfl (fun hok=>?_)
 have hs:b.objects.length≤big:=(bV ⟨hok.1,trivial⟩).1
 repeat refine ai ?_
 refine d8 (b.objects) (fun i=>True) (fun i=>[(1,.ptr 0 0),(3,.own 1),(4,.d (.int .i64 i))]) (fun i=>⟨[(1,.tree 4 1 [.leaf] (((b.objects.take i).map GateObject.ending).map eT)),(0,.cells 48 (b.e.map .d))],2,0⟩) (trivial) ?_
 intro i hi hr
 repeat refine ai ?_
 refine aj ?_ ?_<;>intro h1
 ·have hlt:i<b.objects.length:=V h1
  repeat refine ai ?_
  refine O (e:=GateObject.e) (xs:=b.objects) (hlt) rfl ?_
  repeat refine ai ?_
  refine aj trivial ?_
  repeat refine ai ?_
  refine aj (by simp only[List.length_append,List.length_nil,List.length_cons,List.length_map,List.length_take] at*;unfold big at*;omega) ?_
  repeat refine ai ?_
  exact bQ hlt hs trivial fun hw=>by repeat' first|exact rfl|exact trivial|exact nd hw|exact (yG (by rw[List.take_succ_eq_append_getElem hlt,List.map_append,List.map_append];rfl))|refine aj ?_ ?_
 ·repeat refine ai ?_
  rw[List.take_of_length_le (Z h1)]
  exact rfl
theorem yN (s:List Bool):Spec P 71 [.d (lB s)] (.d (lI (bN (fun v=>v) s 0))):=by
 refine Spec.of_vc dm aw [.tmp 2] Tryz.func71 rfl rfl rfl rfl (fun hok=>?_)
 have hs:s.length≤big:=ax hok.1.1
 repeat refine ai ?_
 refine mX (s) (fun i (ns:List Int)=>bN (fun v=>v) s 0=ns++bN (fun v=>v) (s.drop i) i∧ns.length≤i) (fun i (ns:List Int)=>[(0,.d (lB s)),(3,.own 0),(4,.d (.int .i64 i))]) (fun i (ns:List Int)=>⟨[(0,.tree 3 1 [.leaf] (ns.map eN))],1,0⟩) ((show bN (fun v=>v) s 0=([]:List Int)++bN (fun v=>v) (s.drop 0) 0∧([]:List Int).length≤0 from ⟨rfl,Nat.zero_le _⟩)) ?_
 intro i ns hi hr
 obtain ⟨ho,hn⟩:=hr
 repeat refine ai ?_
 refine aj ?_ ?_<;>intro h1
 ·have hlt:i<s.length:=V h1
  rw[mG hlt] at ho
  repeat refine ai ?_
  refine O (e:=eT) (xs:=s) (hlt) rfl ?_
  repeat refine ai ?_
  refine aj ?_ ?_<;>intro h2
  ·rw[h2,cond_true] at ho
   repeat refine ai ?_
   refine aj trivial ?_
   repeat refine ai ?_
   refine aj (by simp only[List.length_append,List.length_nil,List.length_cons,List.length_map] at*;unfold big at*;omega) ?_
   repeat refine ai ?_
   exact c6 (ns++[(i:Int)]) hlt hs ⟨by rw[ho,List.append_assoc];rfl,by rw[List.length_append];simp only[List.length_cons,List.length_nil];omega⟩ fun hw=>by repeat' first|exact rfl|exact trivial|exact nd hw|exact (yG (by rw[List.map_append];rfl))|refine aj ?_ ?_
  ·rw[h2,cond_false] at ho
   repeat refine ai ?_
   exact c6 ns hlt hs ⟨ho,by omega⟩
 ·rw[ho,oG (Z h1),List.append_nil]
  repeat refine ai ?_
  exact rfl
theorem DR {k:Nat} (h:k≤big+1):IntKind.i64.wrap ((k:Int)+1)=((k+1:Nat):Int):=by
 unfold big at h
 rw[IntKind.wrap_i64]
 omega
section
variable {n:Nat} {nm:Nat→Nat→Bool}
structure Gj (n:Nat) (nm:Nat→Nat→Bool) (I0 I S:Nat→Bool):Prop where
 sub:∀x,x<n→S x=true→I0 x=true
 big:∀x,x<n→pq n nm I x=true→S x=true
variable {I0 I S S':Nat→Bool}
theorem Gj.out (g:Gj n nm I0 I S) {x y:Nat} (hx:x<n) (hy:y<n) (hn:S y=false) (h:nm y x=true):pq n nm I x=false:=by
 cases hg:pq n nm I x with
 |false=>rfl
 |true=>
  have:pq n nm I y=false:=by
   cases h2:pq n nm I y with
   |false=>rfl
   |true=>rw[g.big y hy h2] at hn;cases hn
  rw[xW x hx hg y hy this] at h
  cases h
theorem Gj.drop (g:Gj n nm I0 I S) {x:Nat} (hg:pq n nm I x=false) (h:∀z,S' z=(S z&& !(z==x))):Gj n nm I0 I S':=by
 refine ⟨fun z hz hs=>?_,fun z hz hs=>?_⟩
 ·rw[h,Bool.and_eq_true] at hs
  exact g.sub z hz hs.1
 ·rw[h,g.big z hz hs,Bool.true_and]
  cases e:z==x with
  |false=>rfl
  |true=>rw[beq_iff_eq] at e;subst e;rw[hg] at hs;cases hs
theorem Gj.done (g:Gj n nm I0 I S) (hs:Ab n nm S) (hi:∀x,x<n→S x=true→I x=true) {x:Nat} (hx:x<n):S x=pq n nm I x:=by
 cases h:S x with
 |false=>
  cases h2:pq n nm I x with
  |false=>rfl
  |true=>rw[g.big x hx h2] at h;cases h
 |true=>exact (gst_iff.2 ⟨S,hs,hi,h⟩).symm
end
noncomputable def Df (L:GateLaw) (b:GateBook) (s:List Bool):List Bool:=(List.range b.objects.length).map (pq b.objects.length (qQ L b) fun x=>lO s x&&zB b x)
def oX (L:GateLaw) (b:GateBook) (s:List Bool) (x:Nat):Prop:=lO s x=true→zB b x=true∧nF L b s x=false
section
variable {L:GateLaw} {b:GateBook} {s0 s:List Bool}
theorem Be {x:Nat} (h:nF L b s x=true):∃y,y<b.objects.length∧lO s y=false∧qQ L b y x=true:=by
 obtain ⟨y,hy,h⟩:=List.any_eq_true.1 h
 rw[Bool.and_eq_true,Bool.not_eq_true'] at h
 exact ⟨y,List.mem_range.1 hy,h.1,h.2⟩
theorem BR (hl:s.length=b.objects.length) (g:Gj b.objects.length (qQ L b) (lO s0) (fun x=>lO s0 x&&zB b x) (lO s)) (hf:∀x,x<b.objects.length→oX L b s x):s=Df L b s0:=by
 have hs:Ab b.objects.length (qQ L b) (lO s):=by
  intro x hx h y hy hn
  cases e:qQ L b y x with
  |false=>rfl
  |true=>
   have:=(hf x hx h).2
   unfold nF at this
   rw[List.any_eq_false] at this
   exact absurd (by rw[hn,e];rfl) (this y (List.mem_range.2 hy))
 have hd:∀x,x<b.objects.length→lO s x=pq b.objects.length (qQ L b) (fun x=>lO s0 x&&zB b x) x:=fun x hx=>g.done hs (fun z hz h=>by rw[Bool.and_eq_true];exact ⟨g.sub z hz h,(hf z hz h).1⟩) hx
 refine List.ext_getElem (by simp[Df,hl]) (fun i h1 h2=>?_)
 rw[←oo h1,hd i (by omega)]
 simp[Df]
structure Rnd (L:GateLaw) (b:GateBook) (s0 s s':List Bool) (i:Nat):Prop where
 len:s'.length=b.objects.length
 gj:Gj b.objects.length (qQ L b) (lO s0) (fun x=>lO s0 x&&zB b x) (lO s')
 less:(s'=s∧∀x,x<i→oX L b s x)∨s'.count true<s.count true
 fix:(∀x,x<b.objects.length→oX L b s x)→s'=s
theorem Rnd.keep {s':List Bool} {i:Nat} (r:Rnd L b s0 s s' i) (hf:oX L b s' i):Rnd L b s0 s s' (i+1):=by
 refine ⟨r.len,r.gj,?_,r.fix⟩
 rcases r.less with ⟨e,h⟩|h
 ·refine .inl ⟨e,fun x hx=>?_⟩
  rcases Nat.lt_succ_iff_lt_or_eq.1 hx with g|g
  ·exact h x g
  ·rw[g,←e];exact hf
 ·exact .inr h
theorem Rnd.drop {s':List Bool} {i:Nat} (r:Rnd L b s0 s s' i) (hi:i<b.objects.length) (hb:lO s' i=true) (hn:zB b i=false∨nF L b s' i=true):Rnd L b s0 s (s'.set i false) (i+1):=by
 have hi':i<s'.length:=by rw[r.len];exact hi
 have hg:pq b.objects.length (qQ L b) (fun x=>lO s0 x&&zB b x) i=false:=by
  rcases hn with hn|hn
  ·cases e:pq b.objects.length (qQ L b) (fun x=>lO s0 x&&zB b x) i with
   |false=>rfl
   |true=>
    have:=zD hi e
    simp only[hn,Bool.and_false] at this
    cases this
  ·obtain ⟨y,h1,h2,h3⟩:=Be hn
   exact r.gj.out hi h1 h2 h3
 have hc:=um hi' (by rw[←oo hi'];exact hb)
 have hle:s'.count true≤s.count true:=by
  rcases r.less with ⟨e,_⟩|h
  ·rw[e];exact Nat.le_refl _
  ·omega
 refine ⟨by rw[List.length_set];exact r.len,r.gj.drop hg (fun z=>Ep hi'),.inr (by omega),fun hf=>?_⟩
 exfalso
 have e:=r.fix hf
 subst e
 obtain ⟨g1,g2⟩:=hf i hi hb
 rcases hn with hn|hn
 ·rw[g1] at hn;cases hn
 ·rw[g2] at hn;cases hn
end
set_option maxHeartbeats 2000000 in
theorem vi (L:GateLaw) (b:GateBook) (s0:List Bool) (hl0:s0.length=b.objects.length):Spec P 72 [st L.e,st b.e,.d (lB s0)] (.d (lB (Df L b s0))):=by
 refine Spec.of_vc dm aw [.tmp 6] Tryz.func72 rfl rfl rfl rfl (fun hok=>?_)
 have hs:b.objects.length≤big:=(bV ⟨hok.2.1,trivial⟩).1
 repeat refine ai ?_
 refine aj (Fd _) ?_
 repeat refine ai ?_
 refine aj (by simp only[List.length_nil,List.length_map,List.length_append];omega) ?_
 repeat refine ai ?_
 refine mX ((List.range (b.objects.length+1))) (fun k (s:List Bool)=>s.length=b.objects.length∧Gj b.objects.length (qQ L b) (lO s0) (fun x=>lO s0 x&&zB b x) (lO s)∧((∀x,x<b.objects.length→oX L b s x)∨s.count true+k≤b.objects.length)) (fun k (s:List Bool)=>[(3,.ptr 0 0),(4,.ptr 1 0),(7,.own 2),(8,.d (.int .i64 k))]) (fun k (s:List Bool)=>⟨[(2,.tree 4 1 [.leaf] (s.map eT)),(1,.cells 48 (b.e.map .d)),(0,.cells 41 (L.e.map .d))],3,0⟩) ((show s0.length=b.objects.length∧Gj b.objects.length (qQ L b) (lO s0) (fun x=>lO s0 x&&zB b x) (lO s0)∧((∀x,x<b.objects.length→oX L b s0 x)∨s0.count true+0≤b.objects.length) from ⟨hl0,⟨fun _ _ h=>h,fun x hx h=>by have:=zD hx h;rw[Bool.and_eq_true] at this;exact this.1⟩,.inr (by have:=BW s0;omega)⟩)) ?_
 intro k s hk hr
 obtain ⟨hl,hg,hc⟩:=hr
 have hkl:k≤b.objects.length+1:=by rw[List.length_range] at hk;exact hk
 repeat refine ai ?_
 refine aj ?_ ?_<;>intro h1
 ·have hk1:k<(List.range (b.objects.length+1)).length:=by
   have:=of_decide_eq_true h1
   rw[List.length_map,hl] at this
   rw[List.length_range];omega
  repeat refine ai ?_
  refine mX (b.objects) (fun i (u:List Bool)=>Rnd L b s0 s u i) (fun i (u:List Bool)=>[(3,.ptr 0 0),(4,.ptr 1 0),(7,.own 2),(8,.d (.int .i64 k)),(9,.d (.int .i64 i))]) (fun i (u:List Bool)=>⟨[(2,.tree 4 1 [.leaf] (u.map eT)),(1,.cells 48 (b.e.map .d)),(0,.cells 41 (L.e.map .d))],3,0⟩) ((show Rnd L b s0 s s 0 from ⟨hl,hg,.inl ⟨rfl,fun x hx=>absurd hx (Nat.not_lt_zero _)⟩,fun _=>rfl⟩)) ?_
  intro i u hi hr
  repeat refine ai ?_
  refine aj ?_ ?_<;>intro h2
  ·have hlt:i<b.objects.length:=by
    have:=of_decide_eq_true h2
    rw[List.length_map,hr.len] at this
    omega
   have hlt2:i<u.length:=by rw[hr.len];exact hlt
   repeat refine ai ?_
   refine zn (e:=eT) (xs:=u) hlt2 ?_
   repeat refine ai ?_
   refine E8 (e:=eT) (xs:=u) hlt2 ?_
   repeat refine ai ?_
   refine aj ?_ ?_<;>intro c1
   ·have c1:lO u i=true:=by rw[oo hlt2];exact c1
    repeat refine ai ?_
    refine O (e:=GateObject.e) (xs:=b.objects) (hlt) rfl ?_
    repeat refine ai ?_
    refine aj ?_ ?_<;>intro c2
    ·have c2:zB b i=true:=by
      rw[zA hlt]
      have:=of_decide_eq_false c2
      rw[List.length_map] at this
      exact beq_iff_eq.2 (by omega)
     repeat refine ai ?_
     refine oc (Bi L b u i hlt hr.len) ?_
     repeat refine ai ?_
     refine aj ?_ ?_<;>intro c3
     ·repeat refine ai ?_
      refine zn (e:=eT) (xs:=u) hlt2 ?_
      repeat refine ai ?_
      refine ⟨_,E1 hlt2,Nat.le_refl _,?_⟩
      repeat refine ai ?_
      exact c6 (u.set i false) hlt hs (hr.drop hlt c1 (.inr c3)) fun hw=>by repeat' first|exact rfl|exact trivial|exact nd hw|exact Ae rfl|refine aj ?_ ?_
     ·repeat refine ai ?_
      exact c6 u hlt hs (hr.keep (fun _=>⟨c2,c3⟩))
    ·have c2:zB b i=false:=by
      rw[zA hlt]
      have:=of_decide_eq_true c2
      rw[List.length_map] at this
      exact beq_eq_false_iff_ne.2 (by omega)
     repeat refine ai ?_
     refine zn (e:=eT) (xs:=u) hlt2 ?_
     repeat refine ai ?_
     refine ⟨_,E1 hlt2,Nat.le_refl _,?_⟩
     repeat refine ai ?_
     exact c6 (u.set i false) hlt hs (hr.drop hlt c1 (.inl c2)) fun hw=>by repeat' first|exact rfl|exact trivial|exact nd hw|exact Ae rfl|refine aj ?_ ?_
   ·repeat refine ai ?_
    exact c6 u hlt hs (hr.keep (fun h=>by rw[oo hlt2,show u[i]=false from c1] at h;cases h))
  ·have hge:b.objects.length≤i:=by
    have:=of_decide_eq_false h2
    rw[List.length_map,hr.len] at this
    omega
   have hq:(∀x,x<b.objects.length→oX L b u x)∨u.count true+(k+1)≤b.objects.length:=by
    rcases hr.less with ⟨e,h⟩|h
    ·exact .inl (fun x hx=>by rw[e];exact h x (by omega))
    ·rcases hc with g|g
     ·exact .inl (fun x hx=>by rw[hr.fix g];exact g x hx)
     ·exact .inr (by omega)
   repeat refine ai ?_
   exact ⟨_,_,_,⟨k+1,u,rfl,hk1,⟨hr.len,hr.gj,hq⟩,rfl,rfl⟩,by omega,by repeat' first|exact rfl|exact trivial|exact nd (DR (k:=k) (by omega))|refine aj ?_ ?_⟩
 ·have hf:∀x,x<b.objects.length→oX L b s x:=by
   rcases hc with g|g
   ·exact g
   ·have:=of_decide_eq_false h1
    rw[List.length_map,hl] at this
    omega
  rw[←BR hl hg hf]
  repeat refine ai ?_
  exact rfl
noncomputable def eK (L:GateLaw) (b:GateBook):List Int:=bif gK L b then bN (fun v=>v) (Df L b (b.objects.map GateObject.ending)) 0 else []
theorem w5 (L:GateLaw) (b:GateBook):Spec P 24 [st L.e,st b.e] (.d (lI (eK L b))):=by
 refine Spec.of_vc dm aw [.tmp 4] Tryz.func24 rfl rfl rfl rfl (fun hok=>?_)
 cases hb:gK L b with
 |false=>
  rw[show eK L b=[] from by unfold eK;rw[hb];rfl]
  repeat refine ai ?_
  refine oc (mp L b) ?_
  rw[hb]
  repeat refine ai ?_
  refine ay ?_
  repeat refine ai ?_
  exact rfl
 |true=>
  rw[show eK L b=bN (fun v=>v) (Df L b (b.objects.map GateObject.ending)) 0 from by unfold eK;rw[hb];rfl]
  repeat refine ai ?_
  refine oc (mp L b) ?_
  rw[hb]
  repeat refine ai ?_
  refine an ?_
  repeat refine ai ?_
  refine ak ?_
  repeat refine ai ?_
  refine oc (yO b) ?_
  repeat refine ai ?_
  refine oc (vi L b _ (by rw[List.length_map])) ?_
  repeat refine ai ?_
  refine oc (yN _) ?_
  repeat refine ai ?_
  exact rfl
end Go.Vc
end
section
namespace Go.Vc
open Go.Proofs
set_option maxRecDepth 100000
theorem ET {A B:Prop} (h:B):(false=true→A)∧B:=⟨fun g=>(by cases g),h⟩
theorem uf (L:GateLaw) (o to:GateObject) (role:Int):Spec P 77 [st L.e,st o.e,st to.e,.d (.int .i64 role)] (.d (.bool (gb L.shapes o to role))):=by
 refine Spec.of_vc aI aw [.cell 8 4] Tryz.func77 rfl rfl rfl rfl (fun hok=>?_)
 repeat refine ai ?_
 refine oc (pG _ _) ?_
 repeat refine ai ?_
 refine ⟨(cj L.shapes o).map fN,fun k=>∀p,(cj L.shapes o)[k]? =some p→ic o to role p=false,m8 L o _,?_,?_,?_⟩
 ·intro X hX x hx
  obtain ⟨p,_,rfl⟩:=List.mem_map.1 hX
  obtain ⟨A,c,rfl⟩:=db hx
  rfl
 ·intro k X hX x hx
  obtain ⟨p,hp,hpm,rfl⟩:=kw hX
  obtain ⟨A,c,rfl⟩:=db hx
  have hpl:=jb hpm
  have hpn:ic o to role p=(p.2.role==role&&(p.2.to_==to.kind&&o.values[p.1]==to.name)):=by simp only[ic,f9 hpl]
  repeat refine ai ?_
  refine ⟨[(5,.ptr 1 0),(6,.ptr 2 0),(7,.ptr 3 0),(8,.ptr 4 0),(9,.d (.int .i64 p.1)),(10,.at_ [.str p.2.name,.int .i64 p.2.kind,.int .i64 p.2.least,.int .i64 p.2.most,.raw (.slice A (p.2.words.map eB).length c),.str p.2.to_,.int .i64 p.2.role,.bool p.2.must,.bool p.2.fixed,.str p.2.default_,.str p.2.weighs])],⟨rfl,rfl,⟨rfl,rfl,rfl,rfl,rfl,.inr ⟨_,_,_,_,rfl,Nat.le_of_ble_eq_true rfl,rfl,rfl,rfl⟩,trivial⟩,?_,?_⟩,?_⟩
  ·repeat' first|exact rfl|exact trivial|refine aj ?_ ?_
  ·repeat' first|exact rfl|exact trivial|refine aj ?_ ?_
  repeat refine ai ?_
  refine ak ?_
  repeat refine ai ?_
  refine aj ?_ ?_<;>intro d1
  ·repeat refine ai ?_
   refine aj ?_ ?_<;>intro d2
   ·repeat refine ai ?_
    refine O (e:=eB) (xs:=o.values) (hpl) rfl ?_
    repeat refine ai ?_
    refine aj ?_ ?_<;>intro d3
    ·repeat refine ai ?_
     refine bd ?_
     simp only[cond_true] at d2 d3
     exact (List.any_eq_true.2 ⟨p,hpm,show ic o to role p=true by rw[hpn];simp only[d1,d2,d3,Bool.and_self]⟩).symm
    ·try simp only[cond_true] at*
     repeat' first
      |refine ai ?_
      |refine ET (fun _=>?_)
     refine ⟨fun p' hp'=>?_,rfl,rfl,trivial,?_,?_⟩
     ·rw[hp] at hp'
      cases hp'
      rw[hpn]
      simp only[d3,bl]
     ·repeat' first|exact rfl|exact trivial|refine aj ?_ ?_
     ·repeat' first|exact rfl|exact trivial|refine aj ?_ ?_
   ·try simp only[cond_true] at*
    repeat' first
     |refine ai ?_
     |refine ET (fun _=>?_)
    refine ⟨fun p' hp'=>?_,rfl,rfl,trivial,?_,?_⟩
    ·rw[hp] at hp'
     cases hp'
     rw[hpn]
     simp only[d2,bl]
    ·repeat' first|exact rfl|exact trivial|refine aj ?_ ?_
    ·repeat' first|exact rfl|exact trivial|refine aj ?_ ?_
  ·try simp only[cond_true] at*
   repeat' first
    |refine ai ?_
    |refine ET (fun _=>?_)
   refine ⟨fun p' hp'=>?_,rfl,rfl,trivial,?_,?_⟩
   ·rw[hp] at hp'
    cases hp'
    rw[hpn]
    simp only[d1,bl]
   ·repeat' first|exact rfl|exact trivial|refine aj ?_ ?_
   ·repeat' first|exact rfl|exact trivial|refine aj ?_ ?_
 ·intro hall
  have hal:gb L.shapes o to role=false:=by
   unfold gb
   rw[List.any_eq_false]
   intro p hp
   obtain ⟨k,hk,rfl⟩:=List.getElem_of_mem hp
   rw[hall k (by rw[List.length_map];exact hk) _ (List.getElem?_eq_getElem hk)]
   simp
  rw[hal]
  repeat refine ai ?_
  exact rfl
end Go.Vc
end
section
namespace Go.Vc
open Go.Proofs
set_option maxRecDepth 100000
end Go.Vc
end
section
namespace Go.Vc
open Go.Proofs
set_option maxRecDepth 100000
end Go.Vc
end
section
namespace Go.Vc
open Go.Proofs
set_option maxRecDepth 100000
end Go.Vc
end
section
namespace Go.Vc
open Go.Proofs
set_option maxRecDepth 100000
def Ex:GateBook:=⟨0,0,0,[],[],[],[]⟩
def GL (L:GateLaw) (b:GateBook) (d t r:Bs):GateBook×Int:=bif gK L b then (bif decide (FG b d t r≥0) then (ED b (FG b d t r).toNat,0) else (b,2)) else (Ex,1)
end Go.Vc
end
section
namespace Go.Vc
open Go.Proofs
set_option maxRecDepth 100000
section
variable {A:Type} {σ:Env} {h:Heap} {c:DQ} {Q:Exit→Env→Heap→Prop}
def D1 (J:Nat→A→Prop) (f:Nat→A→List (Nat×AV)) (g:Nat→A→Heap) (m:Nat) (l:List (Nat×AV)) (h:Heap):Prop:=∃a,J m a∧l=f m a∧h=g m a
theorem GR (n:Nat) (J:Nat→A→Prop) (f:Nat→A→List (Nat×AV)) (g:Nat→A→Heap) (a:A) (j:J n a) (H:∀m a,J m a→c (Env.of (f m a)) (g m a) (vq (D1 J f g) m Q))
 (w:iH σ h (f n a) (g n a)):uH c σ h Q:=
 ⟨D1 J f g,⟨_,_,_,⟨a,j,rfl,rfl⟩,w⟩,fun _ _ _ ⟨a,hj,el,eh⟩=>by subst el eh;exact H _ a hj⟩
theorem GP {J:Nat→A→Prop} {f:Nat→A→List (Nat×AV)} {g:Nat→A→Heap} {m m':Nat} (a:A) (ht:m'<m) (j:J m' a) (w:iH σ h (f m' a) (g m' a)):∃k' l' h'',D1 J f g k' l' h''∧k'<m∧iH σ h l' h'':=
 ⟨m',_,_,⟨a,j,rfl,rfl⟩,ht,w⟩
end
def pm (m:Nat):Int:=(m:Int) - 1
theorem Ga (m:Nat):pm (m+1)=(m:Int):=by unfold pm;omega
def Ev:Nat→GateBook→GateBook
 |0,b=>b
 |m+1,b=>Ev m (bif (match b.purses[m]? with|some p=>decide (p.until_<b.tick)|none=>false) then ED b m else b)
def GF (L:GateLaw) (b:GateBook):GateBook×Int:=bif gK L b then (bif b.tick==1000000 then (b,2) else (Ev b.purses.length {b with tick:=dz b.tick 1},0)) else (Ex,1)
end Go.Vc
end
section
namespace Go.Vc
open Go.Proofs
set_option maxRecDepth 100000
def d9 (x:Nat):List D×AV:=([.int .i64 (x:Int)],.d (.int .i64 1))
theorem E9 (x y:Nat):cK [.int .i64 (x:Int)] [.int .i64 (y:Int)]=(x==y):=by
 show (eH .i64 .i64&&((x:Int)==(y:Int)))=(x==y)
 rw[show eH .i64 .i64=true from rfl,Bool.true_and,Bool.eq_iff_iff,beq_iff_eq,beq_iff_eq]
 omega
theorem Ez:∀(l:List Nat) (x:Nat),ar (l.map d9) [.int .i64 (x:Int)]=if x∈l then some (.d (.int .i64 1)) else none
 |[],x=>rfl
 |y::l,x=>by
  simp only[List.map_cons,d9,ar,E9]
  by_cases e:x=y
  ·subst e;simp
  ·rw[show (x==y)=false from by rw[beq_eq_false_iff_ne];exact e]
   have:=Ez l x
   rw[this]
   simp[e]
theorem F1:∀(l:List Nat) (x:Nat),fe (l.map d9) [.int .i64 (x:Int)]=(l.erase x).map d9
 |[],x=>rfl
 |y::l,x=>by
  simp only[List.map_cons,d9,fe,E9]
  by_cases e:x=y
  ·subst e;simp
  ·rw[show (x==y)=false from by rw[beq_eq_false_iff_ne];exact e]
   have:=F1 l x
   simp only[this]
   rw[List.erase_cons_tail (by rw[beq_iff_eq];exact fun h=>e h.symm)]
   rfl
theorem FF:∀(l:List Nat) (x:Nat),x ∉ l→bn (l.map d9) [.int .i64 (x:Int)] (.d (.int .i64 1))=(l++[x]).map d9
 |[],x,_=>rfl
 |y::l,x,h=>by
  simp only[List.map_cons,d9,bn,E9,List.cons_append]
  rw[show (x==y)=false from by rw[beq_eq_false_iff_ne];rintro rfl;exact h List.mem_cons_self]
  have:=FF l x (fun g=>h (List.mem_cons_of_mem _ g))
  simp only[this]
theorem tV:∀(m:Nat) (l:List Nat),DO m (l.map d9)
 |_,[]=>trivial
 |m,x::l=>⟨rfl,tV m l⟩
theorem Eb (f:Nat→Option Nat):∀l:List Nat,rc f (l.map d9)=l.map d9
 |[]=>rfl
 |x::l=>by
  have:=Eb f l
  simp only[List.map_cons,d9,rc,AV.map] at this ⊢
  rw[this]
theorem Ey (f g:Nat→Option Nat) (l:List Nat):rc f (rc g (l.map d9))=l.map d9:=by rw[Eb,Eb]
structure Ordn (n:Nat) (o:List Nat):Prop where
 nd:o.Nodup
 all:∀x,x∈o↔x<n
theorem Ordn.range (n:Nat):Ordn n (List.range n):=⟨List.nodup_range,fun _=>List.mem_range⟩
def fl (o:List Nat) (p:Nat→Bool):List Nat:=o.filter p
section
variable {n:Nat} {o:List Nat} (on:Ordn n o)
include on
theorem zJ {x:Nat} {p:Nat→Bool} (h:x<n):x∈fl o p↔p x=true:=by
 simp[fl,(on.all x).2 h]
theorem AP {x:Nat} {p:Nat→Bool} (h:x<n):ar ((fl o p).map d9) [.int .i64 (x:Int)]=bif p x then some (.d (.int .i64 1)) else none:=by
 rw[Ez]
 cases e:p x with
 |true=>rw[if_pos ((zJ on h).2 e)];rfl
 |false=>rw[if_neg (fun g=>by rw[(zJ on h).1 g] at e;cases e)];rfl
omit on
def yl (p:Nat→Bool) (x:Nat):Nat→Bool:=fun z=>p z&& !(z==x)
include on
theorem Dk {x:Nat} {p:Nat→Bool}:fe ((fl o p).map d9) [.int .i64 (x:Int)]=(fl o (yl p x)).map d9:=by
 rw[F1]
 unfold fl
 rw[nb on.nd]
 rfl
theorem Ek {x:Nat} {p:Nat→Bool} (h:x<n) (hp:p x=true):(fl o (yl p x)).length+1=(fl o p).length:=by
 have:=BU (l:=fl o p) (x:=x) ((zJ on h).2 hp)
 unfold fl at this ⊢
 rw[nb on.nd] at this
 exact this
omit on in
theorem zh {t:Nat} {tk:TK} {es es':List (List D×AV)} (h:es=es'):some (AO.map t tk es)=some (AO.map t tk es'):=by rw[h]
theorem rg {x:Nat} {p:Nat→Bool} {K:Option AV→Prop} (h:x<n) (hp:p x=true) (k:K (some (.d (.int .i64 1)))):∃r,ar ((fl o p).map d9) [.int .i64 (x:Int)]=r∧K r:=⟨_,by rw[AP on h,hp];rfl,k⟩
theorem vS {x:Nat} {p:Nat→Bool} {K:Option AV→Prop} (h:x<n) (hp:p x=false) (k:K none):∃r,ar ((fl o p).map d9) [.int .i64 (x:Int)]=r∧K r:=⟨_,by rw[AP on h,hp];rfl,k⟩
end
section
variable {L:GateLaw} {b:GateBook} {I:Nat→Bool} {o:List Nat}
noncomputable abbrev Gh (L:GateLaw) (b:GateBook) (I:Nat→Bool):Nat→Bool:=pq b.objects.length (qQ L b) I
def Gc (L:GateLaw) (b:GateBook) (p:Nat→Bool) (x:Nat):Prop:=p x=true→∀y,y<b.objects.length→p y=false→qQ L b y x=false
structure Rnk (L:GateLaw) (b:GateBook) (o:List Nat) (I p0 p:Nat→Bool) (ag:Bool) (q:Nat):Prop where
 gi:Gi b.objects.length (qQ L b) I p
 no:ag=false→p=p0∧∀z,z<q→Gc L b p z
 yes:ag=true→(fl o p).length<(fl o p0).length
theorem Rnk.keep {p0 p:Nat→Bool} {ag:Bool} {q:Nat} (r:Rnk L b o I p0 p ag q) (h:Gc L b p q):Rnk L b o I p0 p ag (q+1):=
 ⟨r.gi,fun e=>⟨(r.no e).1,fun z hz=>by
   rcases Nat.lt_succ_iff_lt_or_eq.1 hz with g|g
   ·exact (r.no e).2 z g
   ·rw[g];exact h⟩,r.yes⟩
theorem Rnk.drop (on:Ordn b.objects.length o) {p0 p:Nat→Bool} {ag:Bool} {q y:Nat} (r:Rnk L b o I p0 p ag q) (hq:q<b.objects.length) (hp:p q=true) (hy:y<b.objects.length) (hn:p y=false) (h:qQ L b y q=true):Rnk L b o I p0 (yl p q) true (q+1):=by
 have hl:=Ek on hq hp
 refine ⟨r.gi.drop (fun _=>r.gi.out hq hy hn h) (fun z=>rfl),fun e=>(by cases e),fun _=>?_⟩
 cases ag with
 |true=>have:=r.yes rfl;omega
 |false=>rw[←(r.no rfl).1];omega
theorem CS (on:Ordn b.objects.length o) {p:Nat→Bool} (g:Gi b.objects.length (qQ L b) I p) (h:∀z,z<b.objects.length→Gc L b p z):fl o p=fl o (Gh L b I):=by
 have hs:Ab b.objects.length (qQ L b) p:=fun x hx hp y hy hn=>h x hx hp y hy hn
 unfold fl
 refine List.filter_congr (fun x hx=>?_)
 exact g.done hs ((on.all x).1 hx)
end
def Gs (ag:Bool):Nat:=bif ag then 1 else 0
set_option maxHeartbeats 2000000 in
theorem El (L:GateLaw) (b:GateBook) (o:List Nat) (on:Ordn b.objects.length o) (I:Nat→Bool) (tk:TK) (htk:tk.base= .int .i64):FSpec P 79 [st L.e,st b.e,.mapr 0] ⟨[(0,.map 99 tk ((fl o I).map d9))],1,1⟩ (.mapr 0) ⟨[(0,.map 99 (.del (.int .i64)) ((fl o (Gh L b I)).map d9))],1,1⟩:=by
 refine FSpec.of_vc dm aw [.tmp 6] Tryz.func79 rfl rfl rfl rfl rfl (fun hok hob=>?_)
 have hs:b.objects.length≤big:=(bV ⟨hok.2.1,trivial⟩).1
 repeat refine ai ?_
 refine GR (2*(fl o I).length+1) (fun m (a:(Nat→Bool)×Bool)=>m=2*(fl o a.1).length+Gs a.2∧Gi b.objects.length (qQ L b) I a.1∧(a.2=false→∀z,z<b.objects.length→Gc L b a.1 z)) (fun m a=>[(2,.mapr 0),(3,.ptr 1 0),(4,.ptr 2 0),(7,.d (.bool a.2))]) (fun m a=>⟨[(0,.map 99 (.del (.int .i64)) ((fl o a.1).map d9)),(2,.cells 48 (b.e.map .d)),(1,.cells 41 (L.e.map .d))],3,1⟩)
  (I,true) ⟨rfl,DN,fun e=>by cases e⟩ ?_ (by repeat' first|exact rfl|exact trivial|exact htk|exact tV _ _|refine aj ?_ ?_)
 intro m a hJ
 obtain ⟨p0,ag0⟩:=a
 obtain ⟨hm,hg,hc⟩:=hJ
 dsimp only at hm hg hc ⊢
 cases ag0 with
 |false=>
  rw[←CS on hg (hc rfl)]
  repeat refine ai ?_
  refine an ?_
  repeat refine ai ?_
  all_goals (repeat' first|exact rfl|exact trivial|exact tV _ _|refine aj ?_ ?_)
 |true=>
  repeat refine ai ?_
  refine ay ?_
  refine ⟨I2 b.objects (fun q p ag=>Rnk L b o I p0 p ag q) (fun q p ag=>[(2,.mapr 0),(3,.ptr 1 0),(4,.ptr 2 0),(7,.d (.bool ag)),(14,.d (.int .i64 (b.objects.map GateObject.e).length)),(15,.d (.int .i64 q))]) (fun q p ag=>⟨[(0,.map 99 (.del (.int .i64)) ((fl o p).map d9)),(2,.cells 48 (b.e.map .d)),(1,.cells 41 (L.e.map .d))],3,1⟩),⟨_,_,_,⟨0,p0,false,rfl,Nat.zero_le _,(show Rnk L b o I p0 p0 false 0 from ⟨hg,fun _=>⟨rfl,fun z hz=>absurd hz (Nat.not_lt_zero _)⟩,fun e=>by cases e⟩),rfl,rfl⟩,by repeat' first|exact rfl|exact trivial|exact tV _ _|refine aj ?_ ?_⟩,?_⟩
  rintro m' l' hh ⟨q,p,ag,rfl,hq,hr,rfl,rfl⟩
  have hR:=hr
  repeat refine ai ?_
  refine aj ?_ ?_<;>intro h1
  ·have hlq:q<b.objects.length:=V h1
   cases hp:p q with
   |false=>
    repeat refine ai ?_
    refine vS on hlq hp ?_
    repeat refine ai ?_
    refine ay ?_
    repeat refine ai ?_
    exact Ge p ag hlq hs (hR.keep (fun h=>by rw[hp] at h;cases h)) fun hw=>by repeat' first|exact rfl|exact trivial|exact nd hw|exact tV _ _|refine aj ?_ ?_
   |true=>
    repeat refine ai ?_
    refine rg on hlq hp ?_
    repeat refine ai ?_
    refine an ?_
    repeat refine ai ?_
    refine ⟨I0 b.objects (fun i=>∀z,z<i→p z=false→qQ L b z q=false) (fun i=>[(2,.mapr 0),(3,.ptr 1 0),(4,.ptr 2 0),(7,.d (.bool ag)),(8,.d (.int .i64 q)),(14,.d (.int .i64 (b.objects.map GateObject.e).length)),(15,.d (.int .i64 q)),(23,.d (aM b.objects)),(24,.d (.int .i64 (b.objects.map GateObject.e).length)),(25,.d (.int .i64 i))]) (fun i=>⟨[(0,.map 99 (.del (.int .i64)) ((fl o p).map d9)),(2,.cells 48 (b.e.map .d)),(1,.cells 41 (L.e.map .d))],3,1⟩),⟨_,_,_,⟨0,rfl,Nat.zero_le _,(fun z hz=>absurd hz (Nat.not_lt_zero _)),rfl,rfl⟩,by repeat' first|exact rfl|exact trivial|exact tV _ _|refine aj ?_ ?_⟩,?_⟩
    rintro m' l' hh ⟨i,rfl,hi,hr,rfl,rfl⟩
    repeat refine ai ?_
    refine aj ?_ ?_<;>intro h2
    ·have hlt:i<b.objects.length:=V h2
     repeat refine ai ?_
     refine O (e:=GateObject.e) (xs:=b.objects) (hlt) rfl ?_
     repeat refine ai ?_
     refine ak ?_
     repeat refine ai ?_
     cases hy:p i with
     |true=>
      refine rg on hlt hy ?_
      repeat refine ai ?_
      refine an ?_
      repeat refine ai ?_
      refine an ?_
      repeat refine ai ?_
      exact bQ hlt hs (fun z hz hz2=>(Nat.lt_succ_iff_lt_or_eq.1 hz).elim (fun g=>hr z g hz2) (fun g=>by rw[g,hy] at hz2;cases hz2)) fun hw=>by repeat' first|exact rfl|exact trivial|exact nd hw|exact tV _ _|refine aj ?_ ?_
     |false=>
      refine vS on hlt hy ?_
      repeat refine ai ?_
      refine ay ?_
      repeat refine ai ?_
      refine O (e:=GateObject.e) (xs:=b.objects) (hlq) rfl ?_
      repeat refine ai ?_
      refine oc (uf L _ _ 1) ?_
      repeat refine ai ?_
      refine aj ?_ ?_<;>intro c1
      ·repeat refine ai ?_
       refine O (e:=GateObject.e) (xs:=b.objects) (hlq) rfl ?_
       repeat refine ai ?_
       refine oc (uf L _ _ 3) ?_
       repeat refine ai ?_
       refine aj ?_ ?_<;>intro c2
       ·have c2:gb L.shapes b.objects[i] b.objects[q] 3=true:=c2
        repeat refine ai ?_
        exact Ge (yl p q) true hlq hs (hR.drop on hlq hp hlt hy (by rw[vG hlt hlq,c2,Bool.or_true])) fun hw=>by repeat' first|exact rfl|exact trivial|exact nd hw|exact tV _ _|exact Dk on|refine aj ?_ ?_
       ·have c2:gb L.shapes b.objects[i] b.objects[q] 3=false:=c2
        repeat refine ai ?_
        exact bQ hlt hs (fun z hz hz2=>(Nat.lt_succ_iff_lt_or_eq.1 hz).elim (fun g=>hr z g hz2) (fun g=>by rw[g,vG hlt hlq,c1,c2];rfl)) fun hw=>by repeat' first|exact rfl|exact trivial|exact nd hw|exact tV _ _|refine aj ?_ ?_
      ·repeat refine ai ?_
       refine ay ?_
       repeat refine ai ?_
       exact Ge (yl p q) true hlq hs (hR.drop on hlq hp hlt hy (by rw[vG hlt hlq,c1,Bool.true_or])) fun hw=>by repeat' first|exact rfl|exact trivial|exact nd hw|exact tV _ _|exact Dk on|refine aj ?_ ?_
    ·repeat refine ai ?_
     exact Ge p ag hlq hs (hR.keep (fun _ y hy hn=>hr y (by have:=Z h2;omega) hn)) fun hw=>by repeat' first|exact rfl|exact trivial|exact nd hw|exact tV _ _|refine aj ?_ ?_
  ·have hge:=Z h1
   repeat refine ai ?_
   refine GP (p,ag) ?_ ⟨rfl,hR.gi,fun e z hz=>(hR.no e).2 z (by omega)⟩ (by repeat' first|exact rfl|exact trivial|exact tV _ _|refine aj ?_ ?_)
   rw[hm]
   dsimp only
   cases ag with
   |false=>rw[(hR.no rfl).1];simp only[Gs,cond_true,cond_false];omega
   |true=>have:=hR.yes rfl;simp only[Gs,cond_true];omega
theorem Dm (b:GateBook) (t:Nat) (tk:TK) (htk:tk.base= .int .i64) (o:List Nat) (on:Ordn b.objects.length o) (p:Nat→Bool):FSpec P 78 [st b.e,.mapr 0] ⟨[(0,.map 99 (.del (.int .i64)) ((fl o p).map d9))],1,1⟩ (.own 2) ⟨[(0,.map 99 (.del (.int .i64)) ((fl o p).map d9)),(2,.tree 3 1 [.leaf] ((bN (fun v=>v) ((List.range b.objects.length).map p) 0).map eN))],3,1⟩:=by
 refine FSpec.of_vc dm aw [.tmp 4] Tryz.func78 rfl rfl rfl rfl rfl (fun hok hob=>?_)
 have hs:b.objects.length≤big:=(bV ⟨hok.1,trivial⟩).1
 have hlen:((List.range b.objects.length).map p).length=b.objects.length:=by rw[List.length_map,List.length_range]
 repeat refine ai ?_
 refine ⟨I1 b.objects (fun i (ns:List Int)=>bN (fun v=>v) ((List.range b.objects.length).map p) 0=ns++bN (fun v=>v) (((List.range b.objects.length).map p).drop i) i∧ns.length≤i) (fun i ns=>[(1,.mapr 0),(5,.own 2),(9,.d (.int .i64 (b.objects.map GateObject.e).length)),(10,.d (.int .i64 i))]) (fun i ns=>⟨[(0,.map 99 (.del (.int .i64)) ((fl o p).map d9)),(2,.tree 3 1 [.leaf] (ns.map eN))],3,1⟩),⟨_,_,_,⟨0,[],rfl,Nat.zero_le _,⟨rfl,Nat.zero_le _⟩,rfl,rfl⟩,by repeat' first|exact rfl|exact trivial|exact tV _ _|refine aj ?_ ?_⟩,?_⟩
 rintro m l hh ⟨i,ns,rfl,hi,hr,rfl,rfl⟩
 obtain ⟨ho,hn⟩:=hr
 repeat refine ai ?_
 refine aj ?_ ?_<;>intro h1
 ·have hlt:i<b.objects.length:=V h1
  rw[mG (by rw[hlen];exact hlt),List.getElem_map,List.getElem_range] at ho
  cases hp:p i with
  |true=>
   rw[hp,cond_true] at ho
   repeat refine ai ?_
   refine rg on hlt hp ?_
   repeat refine ai ?_
   refine ay ?_
   repeat refine ai ?_
   refine aj trivial ?_
   repeat refine ai ?_
   refine aj (by simp only[List.length_append,List.length_nil,List.length_cons,List.length_map] at*;unfold big at*;omega) ?_
   repeat refine ai ?_
   exact c6 (ns++[(i:Int)]) hlt hs ⟨by rw[ho,List.append_assoc];rfl,by rw[List.length_append];simp only[List.length_cons,List.length_nil];omega⟩ fun hw=>by repeat' first|exact rfl|exact trivial|exact nd hw|exact tV _ _|exact (yG (by rw[List.map_append];rfl))|exact Ey _ _ _|refine aj ?_ ?_
  |false=>
   rw[hp,cond_false] at ho
   repeat refine ai ?_
   refine vS on hlt hp ?_
   repeat refine ai ?_
   refine an ?_
   repeat refine ai ?_
   exact c6 ns hlt hs ⟨ho,by omega⟩ fun hw=>by repeat' first|exact rfl|exact trivial|exact nd hw|exact tV _ _|refine aj ?_ ?_
 ·rw[ho,oG (by rw[hlen];exact Z h1),List.append_nil]
  repeat refine ai ?_
  all_goals (repeat' first|exact rfl|exact trivial|exact tV _ _|refine aj ?_ ?_)
theorem Dl (L:GateLaw) (b:GateBook) (o:List Nat) (on:Ordn b.objects.length o) (I:Nat→Bool) (tk:TK) (htk:tk.base= .int .i64) (es:List (List D×AV)) (he:es=(fl o I).map d9):FSpec P 79 [st L.e,st b.e,.mapr 0] ⟨[(0,.map 99 tk es)],1,1⟩ (.mapr 0) ⟨[(0,.map 99 (.del (.int .i64)) ((fl o (Gh L b I)).map d9))],1,1⟩:=by
 rw[he];exact El L b o on I tk htk
theorem BT (b:GateBook) (o:List Nat) (on:Ordn b.objects.length o) (p:Nat→Bool) (es:List (List D×AV)) (he:es=(fl o p).map d9):FSpec P 78 [st b.e,.mapr 0] ⟨[(0,.map 99 (.del (.int .i64)) es)],1,1⟩ (.own 2) ⟨[(0,.map 99 (.del (.int .i64)) es),(2,.tree 3 1 [.leaf] ((bN (fun v=>v) ((List.range b.objects.length).map p) 0).map eN))],3,1⟩:=by
 rw[he];exact Dm b 0 (.int .i64) rfl o on p
end Go.Vc
end
section
namespace Go.Vc
open Go.Proofs
set_option maxRecDepth 100000
def yj (b:GateBook) (x:Nat):Bool:=lO (b.objects.map GateObject.ending) x&&zB b x
theorem wl {b:GateBook} {x:Nat} (h:x<b.objects.length):yj b x=(b.objects[x].ending&&(b.objects[x].holds.length==0)):=by
 unfold yj
 rw[oo (by rw[List.length_map];exact h),zA h,List.getElem_map]
theorem Fe {i:Nat} {p:Nat→Bool} (h:p i=true):fl (List.range (i+1)) p=fl (List.range i) p++[i]:=by
 unfold fl
 rw[List.range_succ,List.filter_append]
 simp[h]
theorem EC {i:Nat} {p:Nat→Bool} (h:p i=false):fl (List.range (i+1)) p=fl (List.range i) p:=by
 unfold fl
 rw[List.range_succ,List.filter_append]
 simp[h]
theorem Ff {i:Nat} {p:Nat→Bool} (h:p i=true):bn ((fl (List.range i) p).map d9) [.int .i64 (i:Int)] (.d (.int .i64 1))=(fl (List.range (i+1)) p).map d9:=by
 rw[FF _ _ (fun g=>by simp[fl] at g),Fe h]
theorem Ei (L:GateLaw) (b:GateBook):HSpec P 74 [st L.e,st b.e] hp0 (.own 0) ⟨[(0,.tree 3 1 [.leaf] ((bN (fun v=>v) (Df L b (b.objects.map GateObject.ending)) 0).map eN))],1,0⟩:=by
 refine aD dm aw [.tmp 4] Tryz.func74 rfl rfl rfl rfl (fun hok=>?_)
 have hs:b.objects.length≤big:=(bV ⟨hok.2.1,trivial⟩).1
 repeat refine ai ?_
 refine ⟨I0 b.objects (fun i=>True) (fun i=>[(2,.ptr 0 0),(3,.ptr 1 0),(5,.mapr 2),(10,.d (aM b.objects)),(11,.d (.int .i64 (b.objects.map GateObject.e).length)),(12,.d (.int .i64 i))]) (fun i=>⟨[(2,.map 99 (.int .i64) ((fl (List.range i) (yj b)).map d9)),(1,.cells 48 (b.e.map .d)),(0,.cells 41 (L.e.map .d))],3,0⟩),⟨_,_,_,⟨0,rfl,Nat.zero_le _,trivial,rfl,rfl⟩,by repeat' first|exact rfl|exact trivial|exact tV _ _|refine aj ?_ ?_⟩,?_⟩
 rintro m l hh ⟨i,rfl,hi,hr,rfl,rfl⟩
 repeat refine ai ?_
 refine aj ?_ ?_<;>intro h1
 ·have hlt:i<b.objects.length:=V h1
  repeat refine ai ?_
  refine O (e:=GateObject.e) (xs:=b.objects) (hlt) rfl ?_
  repeat refine ai ?_
  refine aj ?_ ?_<;>intro c1
  ·repeat refine ai ?_
   refine aj ?_ ?_<;>intro c2
   ·have hp:yj b i=true:=by
     have c2:((((b.objects[i].holds.map eB).length:Nat):Int)==0)=true:=c2
     rw[List.length_map] at c2
     have:=beq_iff_eq.1 c2
     rw[wl hlt,show b.objects[i].ending=true from c1,Bool.true_and]
     exact beq_iff_eq.2 (by omega)
    repeat refine ai ?_
    exact bQ hlt hs trivial fun hw=>by repeat' first|exact rfl|exact trivial|exact nd hw|exact tV _ _|exact zh (Ff hp)|refine aj ?_ ?_
   ·have hp:yj b i=false:=by
     have c2:((((b.objects[i].holds.map eB).length:Nat):Int)==0)=false:=c2
     rw[List.length_map] at c2
     have:=beq_eq_false_iff_ne.1 c2
     rw[wl hlt,show b.objects[i].ending=true from c1,Bool.true_and]
     exact beq_eq_false_iff_ne.2 (by omega)
    repeat refine ai ?_
    exact bQ hlt hs trivial fun hw=>by repeat' first|exact rfl|exact trivial|exact nd hw|exact tV _ _|exact zh (by rw[EC hp])|refine aj ?_ ?_
  ·have hp:yj b i=false:=by rw[wl hlt,show b.objects[i].ending=false from c1,Bool.false_and]
   repeat refine ai ?_
   exact bQ hlt hs trivial fun hw=>by repeat' first|exact rfl|exact trivial|exact nd hw|exact tV _ _|exact zh (by rw[EC hp])|refine aj ?_ ?_
 ·have e:i=b.objects.length:=by have:=Z h1;omega
  subst e
  repeat refine ai ?_
  refine akp 6 (.one [0,1,2,3] [] 4 (.one [] [0] 5 (.fin [] []))) ?_
  repeat refine ai ?_
  refine om [2] none (Dl L b (List.range b.objects.length) (Ordn.range _) (yj b) (.int .i64) rfl _ (Eb _ _)) ?_
  repeat refine ai ?_
  refine om [2] none (BT b (List.range b.objects.length) (Ordn.range _) (Gh L b (yj b)) _ (Ey _ _ _)) ?_
  repeat refine ai ?_
  exact ⟨[some 6],by repeat' first|exact rfl|exact trivial|refine aj ?_ ?_⟩
theorem oQ (L:GateLaw) (b:GateBook):HSpec P 25 [st L.e,st b.e] hp0 (.own 0) ⟨[(0,.tree 3 1 [.leaf] ((eK L b).map eN))],1,0⟩:=by
 refine aD dm aw [.tmp 4] Tryz.func25 rfl rfl rfl rfl (fun hok=>?_)
 cases hb:gK L b with
 |false=>
  rw[show eK L b=[] from by unfold eK;rw[hb];rfl]
  repeat refine ai ?_
  refine oc (m9 L b) ?_
  rw[hb]
  repeat refine ai ?_
  refine ay ?_
  repeat refine ai ?_
  exact ⟨[none],by repeat' first|exact rfl|exact trivial|refine aj ?_ ?_⟩
 |true=>
  rw[show eK L b=bN (fun v=>v) (Df L b (b.objects.map GateObject.ending)) 0 from by unfold eK;rw[hb];rfl]
  repeat refine ai ?_
  refine oc (m9 L b) ?_
  rw[hb]
  repeat refine ai ?_
  refine an ?_
  repeat refine ai ?_
  refine ow (Ei L b) ?_
  repeat refine ai ?_
  exact ⟨[some 2],by repeat' first|exact rfl|exact trivial|refine aj ?_ ?_⟩
theorem zF (L:GateLaw) (b:GateBook):(eK L b).length≤b.objects.length:=by
 unfold eK
 cases gK L b with
 |true=>
  have:=oF (p:=fun v=>v) (Df L b (b.objects.map GateObject.ending)) 0
  have e:(Df L b (b.objects.map GateObject.ending)).length=b.objects.length:=by simp[Df]
  simp only[cond_true]
  omega
 |false=>exact Nat.zero_le _
end Go.Vc
end
section
namespace Go.Vc
open Go.Proofs
set_option maxRecDepth 100000
theorem aQ {k:Int} (h0:0≤k) (h:k+1≤1099511627776):wk k=k+1:=by
 unfold wk
 rw[IntKind.wrap_i64];omega
def mi (k:Int):Int:=k
def mb (k:Int):Bool:=k.tmod 3==0
def cC {α:Type} (f:α→Int):List α→Int
 |[]=>0
 |x::xs=>f x+cC f xs
def jA {α:Type} (f:α→Int):List α→Int
 |[]=>0
 |x::xs=>1+f x+jA f xs
theorem aZ {α:Type} {f:α→Int} (h:∀x,0≤f x):∀xs,0≤cC f xs
 |[]=>Int.le_refl _
 |x::xs=>by have:=aZ h xs;have:=h x;simp only[cC];omega
theorem bG {α:Type} {f:α→Int} (h:∀x,0≤f x):∀xs,0≤jA f xs
 |[]=>Int.le_refl _
 |x::xs=>by have:=bG h xs;have:=h x;simp only[jA];omega
theorem fA {α:Type} {f g:α→Int} (h:∀x,f x≤32+32*g x):∀xs,cC f xs≤32*jA g xs
 |[]=>by simp[cC,jA]
 |x::xs=>by have:=fA h xs;have:=h x;simp only[cC,jA];omega
theorem dj {α:Type} {f:α→Int→α×Int} {l:α→Int} (hf:∀x k,0≤k→k+l x≤1099511627776→(f x k).2=k+l x) (hl:∀x,0≤l x):∀(xs:List α) (k:Int),0≤k→k+cC l xs≤1099511627776→(aK f xs k).2=k+cC l xs
 |[],k,_,_=>by simp[aK,cC]
 |x::xs,k,h0,h=>by
  have p:=aZ hl xs
  have q:=hl x
  simp only[cC] at h
  simp only[aK,cC]
  rw[hf x k h0 (by omega),dj hf hl xs _ (by omega) (by omega)];omega
theorem E0 {α:Type} {f:α→Int→α×Int} {l:α→Int} (hf:∀x k,0≤k→k+l x≤1099511627776→(f x k).2=k+l x) (hl:∀x,0≤l x) {xs:List α} {k:Int} {i:Nat} (h0:0≤k) (h:k+cC l xs≤1099511627776) (hi:i<xs.length):
 0≤mU f xs k i∧mU f xs k i+l xs[i]≤1099511627776:=by
 have split:∀(xs:List α) (i:Nat) (hi:i<xs.length),cC l (xs.take i)+l xs[i]≤cC l xs:=by
  intro xs
  induction xs with
  |nil=>intro i hi;simp at hi
  |cons x xs ih=>
   intro i hi
   have p:=aZ hl xs
   cases i with
   |zero=>simp only[List.take_zero,cC,List.getElem_cons_zero];omega
   |succ i=>
    have:=ih i (by simpa using hi)
    simp only[List.take_succ_cons,cC,List.getElem_cons_succ];omega
 have h1:=split xs i hi
 have h2:=aZ hl (xs.take i)
 have h3:=hl xs[i]
 unfold mU
 rw[dj hf hl _ _ h0 (by omega)];omega
def gA {α:Type} (_:α):Int:=1
def AU {α:Type} (_:α):Int:=0
theorem d7 {α:Type} (x:α):0≤gA x:=by unfold gA;decide
theorem ik {α:Type} (x:α):0≤AU x:=by unfold AU;decide
theorem vP {α:Type} (x:α):gA x≤32+32*AU x:=by unfold gA AU;decide
def dg (k:Int):UInt8:=UInt8.ofNat (IntKind.u8.wrap (IntKind.i64.wrap (48+k.tmod 10))).toNat
def EY:Nat→Int→Bs→Bs
 |0,_,out=>out
 |n+1,k,out=>bif decide (k>0) then EY n (IntKind.i64.wrap (k.tdiv 10)) (dg k::out) else out
def mt (k:Int):Bs:=bif decide (k≤0) then [109,48] else 109::EY 21 k []
def FI (out:Bs) (j:Int):Prop:=out=[]∨(1≤out.length∧out.length≤20∧j.toNat*10 ^ (out.length - 1)<10 ^ 19)
theorem D9 {out:Bs} {j:Int} (h:FI out j):out.length≤20:=by
 rcases h with rfl|h
 ·simp
 ·exact h.2.1
theorem CV {out:Bs} {j:Int} (h:FI out j) (hj:0<j):out.length≤19:=by
 rcases h with rfl|⟨h1,h2,h3⟩
 ·simp
 ·refine Nat.le_of_not_lt fun hl=>?_
  have e:out.length - 1=19:=by omega
  rw[e] at h3
  have:1≤j.toNat:=by omega
  omega
theorem CU {out:Bs} {j:Int} {c:UInt8} (h:FI out j) (hj:0<j):FI (c::out) (IntKind.i64.wrap (j.tdiv 10)):=by
 have hl:=CV h hj
 have hd:j.tdiv 10=j/10:=Int.tdiv_eq_ediv_of_nonneg (by omega)
 have hw:(IntKind.i64.wrap (j.tdiv 10)).toNat≤j.toNat/10∧(IntKind.i64.wrap (j.tdiv 10)).toNat<10 ^ 19:=by
  rw[hd,IntKind.wrap_i64]
  omega
 refine .inr ⟨by simp,by simp only[List.length_cons];omega,?_⟩
 simp only[List.length_cons,Nat.add_sub_cancel]
 rcases h with rfl|⟨h1,h2,h3⟩
 ·simpa using hw.2
 ·obtain ⟨n,hn⟩:∃n,out.length=n+1:=⟨out.length - 1,by omega⟩
  rw[hn,Nat.add_sub_cancel] at h3
  rw[hn,Nat.pow_succ]
  refine Nat.lt_of_le_of_lt ?_ h3
  rw[Nat.mul_comm (10 ^ n) 10,←Nat.mul_assoc]
  refine Nat.mul_le_mul_right _ ?_
  have:=hw.1
  omega
theorem qx (k:Int):Spec P 136 [.d (.int .i64 k)] (.d (.str (mt k))):=by
 refine Spec.of_vc aI aw [.tmp 2] Tryz.func136 rfl rfl rfl rfl (fun hok=>?_)
 repeat refine ai ?_
 refine aj ?_ ?_<;>intro h0
 ·repeat refine ai ?_
  unfold mt
  rw[h0]
  rfl
 ·repeat refine ai ?_
  refine ⟨fun m l h=>∃(out:Bs) (j:Int),m=21 - out.length∧EY 21 k []=EY (21 - out.length) j out∧FI out j∧l=[(0,.d (.int .i64 j)),(3,.d (.str out))]∧h=hp0,
   ⟨_,_,_,⟨[],k,rfl,rfl,.inl rfl,rfl,rfl⟩,rfl,rfl,⟨rfl,rfl,trivial⟩,trivial,trivial⟩,?_⟩
  rintro m l hh ⟨out,j,rfl,hr,hb,rfl,rfl⟩
  repeat refine ai ?_
  refine aj ?_ ?_<;>intro h1
  ·have hj:0<j:=of_decide_eq_true h1
   have hl:=CV hb hj
   repeat refine ai ?_
   refine aj (by decide) ?_
   repeat refine ai ?_
   refine aj (by unfold big;simp) ?_
   repeat refine ai ?_
   refine aj (by unfold big;simp only[List.length_cons,List.length_nil];omega) ?_
   repeat refine ai ?_
   refine aj (by decide) ?_
   repeat refine ai ?_
   refine ⟨_,_,_,⟨dg j::out,IntKind.i64.wrap (j.tdiv 10),rfl,?_,CU hb hj,rfl,rfl⟩,?_,rfl,rfl,⟨rfl,rfl,trivial⟩,trivial,trivial⟩
   ·rw[hr,show 21 - out.length=(21 - (dg j::out).length)+1 from by simp only[List.length_cons];omega]
    simp only[EY,h1,cond_true]
   ·simp only[List.length_cons];omega
  ·have hl:=D9 hb
   repeat refine ai ?_
   refine aj (by unfold big;simp only[List.length_cons,List.length_nil];omega) ?_
   repeat refine ai ?_
   have hg:EY (21 - out.length) j out=out:=by
    rw[show 21 - out.length=(20 - out.length)+1 from by omega]
    simp only[EY,h1,cond_false]
   unfold mt
   rw[h0,hr,hg]
   rfl
def gO (_:Bs) (k:Int):Bs×Int:=(mt k,wk k)
def jz (_:Int) (k:Int):Int×Int:=(mi k,wk k)
theorem vN (x:Bs) (k:Int) (h0:0≤k) (h:k+gA x≤1099511627776):(gO x k).2=k+gA x:=aQ h0 h
theorem vM (x:Int) (k:Int) (h0:0≤k) (h:k+gA x≤1099511627776):(jz x k).2=k+gA x:=aQ h0 h
end Go.Vc
end
