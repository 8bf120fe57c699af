/- Part 6 of a proof: Contracts: the sums of a book. Contracts: the sums of a book, by the specification; a book. Contracts: laws. Contracts: books. Contracts: who names whom; what is marked. Contracts of the functions that the laws bring with them, printed by genlaws.py. Helpers of the contracts' proofs: trees. Pure data of the laws as trees of the call's own, printed by genlaws.py. Contracts of the laws' own functions that make trees, printed by genlaws.py. Contracts: what is marked, by the implementation. The text of a mark, and how many marks. What the marks are, printed by genlaws.py: the marked data, how many -/
import Derived.Test.YteongcjplmbkgaaGreatDoorMka
import Derived.Test.YteongcjplmbkgaaGreatDoorMkb
import Derived.Test.YteongcjplmbkgaaGreatDoorMkc
import Derived.Test.YteongcjplmbkgaaGreatDoorMkd
import Derived.Test.YteongcjplmbkgaaGreatDoorMke
set_option linter.unusedVariables false
set_option linter.unusedSimpArgs false
section
namespace Go.Vc
open Go.Proofs
set_option maxRecDepth 100000
def fV (L:GateLaw) (p:Option GateLedger) (g:GateLedger):Bool:=lY p g&&(L.teams.any (·.name==g.team)&&(aT g.resource&&(!decide (g.free<0)&&(!decide (g.free>g.most)&& !decide (g.most>1000000)))))
def wa (p:Option GatePurse) (x:GatePurse):Bool:=match p with|some q=>lW q x|none=>true
def kf (b:GateBook) (p:Option GatePurse) (x:GatePurse):Bool:=wa p x&&(b.ledgers.any (fun g=>g.team==x.team&&g.resource==x.resource)&&(aT x.door&&(eX x.amount 1 1000000&&eX x.until_ b.tick (dB b.tick 10))))
def rB (L:GateLaw) (b:GateBook) (g:GateLedger):Bool:=dB (dB (sj L b g.team g.resource) (Cr b g.team g.resource)) g.free==g.most
def jt (L:GateLaw) (b:GateBook):Bool:= !decide ((b.ledgers.length:Int)>10)&&(!decide ((b.purses.length:Int)>24)&&(aq (fV L) none b.ledgers&&(aq (kf b) none b.purses&&b.ledgers.all (rB L b))))
def vG (L:GateLaw) (b:GateBook) (g:GateLedger):Int:=dB g.free (sj L b g.team g.resource)
theorem sK {L:GateLaw}:∀(p:Option GateLedger) (g:GateLedger),fV L p g=true→lY p g=true:=fun p g h=>by
 simp only[fV,Bool.and_eq_true] at h;exact h.1
theorem AT {L:GateLaw} {b:GateBook} (h:aq (fV L) none b.ledgers=true) {g:GateLedger} (hg:g∈b.ledgers):∃v,cF (Cd (CE (vG L b) b.ledgers) b.purses) (oH g)=some v∧(v==g.most)=rB L b g:=by
 have h1:=qK (vG L b) [] (i4 sK h) g hg
 refine ⟨_,by rw[qo];unfold CE;rw[h1];rfl,?_⟩
 unfold rB vG Cr
 simp only[oH]
 rw[zX]
theorem BS {E:List (fP×Int)} {k:fP} (h:(cF E k).isSome) (ps:List GatePurse):∃v,cF (Cd E ps) k=some v:=by
 obtain ⟨v,e⟩:=Option.isSome_iff_exists.1 h
 exact ⟨_,by rw[qo,e];rfl⟩
theorem C6 {t:Nat} {tk:TK} {E:List (fP×Int)} {a c:Bs} {v:Int}:some (AO.map t tk (bK (E.map iZ) [.str a,.str c] (.d (.int .i64 v))))=some (AO.map t tk ((oy E (a,c) v).map iZ)):=by
 rw[show ([D.str a,D.str c]:List D)=rN (a,c) from rfl,wF]
theorem wJ (a b c d:Bs):fU a b c d= !(!(Op.bytesLess a c||a==c)||(a==c&& !Op.bytesLess b d)):=by rw[sI,Bool.not_not]
theorem y8 {E:List (fP×Int)} {a c:Bs} {v:Int} (h:cF E (a,c)=some v):az (E.map iZ) [.str a,.str c]=some (.d (.int .i64 v)):=by
 rw[show ([D.str a,D.str c]:List D)=rN (a,c) from rfl,sH,h];rfl
theorem BP {E:List (fP×Int)} {a c:Bs} {v:Int} (h:cF E (a,c)=some v):∃j,∃k':fP,ec (E.map iZ) [.str a,.str c] 0=some (j,.d (.int .i64 v))∧(E.map iZ)[(((j:Nat):Int)).toNat]? =some (rN k',.d (.int .i64 v))∧
 ∀t tk x,some (AO.map t tk ((E.map iZ).set (((j:Nat):Int)).toNat (rN k',.d (.int .i64 (IntKind.i64.wrap (v+x))))))=some (AO.map t tk ((qP E (a,c) x).map iZ)):=by
 obtain ⟨j,k',h1,h2,h3⟩:=y5 (i:=0) h
 rw[Nat.zero_add] at h1
 refine ⟨j,k',h1,?_,fun t tk x=>?_⟩
 ·rw[Int.toNat_natCast,List.getElem?_map,h2];rfl
 ·rw[h3,List.map_set,Int.toNat_natCast];rfl
theorem Bc {L:GateLaw} {b:GateBook} (h:aq (fV L) none b.ledgers=true) {p:Option GatePurse} {x:GatePurse} (hx:kf b p x=true) (ps:List GatePurse):∃v,cF (Cd (CE (vG L b) b.ledgers) ps) (x.team,x.resource)=some v:=by
 simp only[kf,Bool.and_eq_true] at hx
 obtain ⟨g,hg,hk⟩:=List.any_eq_true.1 hx.2.1
 simp only[Bool.and_eq_true,beq_iff_eq] at hk
 have h1:=qK (vG L b) [] (i4 sK h) g hg
 refine BS ?_ ps
 rw[←hk.1,←hk.2]
 show (cF (CE (vG L b) b.ledgers) (oH g)).isSome
 unfold CE;rw[h1];rfl
set_option maxHeartbeats 4000000 in
theorem BC (L:GateLaw) (b:GateBook):Spec P 128 [st b.e,st L.e] (.d (.bool (jt L b))):=by
 refine Spec.of_vc aG au [.tmp 4] Tryz.func128 rfl rfl rfl rfl (fun hok=>?_)
 have hsl:=(cE (dr hok)).2.2.1
 have hsp:=(cE (dr hok)).2.2.2
 repeat refine ai ?_
 refine aj ?_ ?_<;>intro h0
 ·have h0':decide ((b.ledgers.length:Int)>10)=false:=by rw[List.length_map] at h0;exact h0
  repeat refine ai ?_
  refine aj ?_ ?_<;>intro h00
  ·have h00:decide ((b.purses.length:Int)>24)=true:=by simp only[cond_false,List.length_map] at h00;exact h00
   refine bd ?_
   rw[jt,h0',h00];rfl
  have h00:decide ((b.purses.length:Int)>24)=false:=by simp only[cond_false,List.length_map] at h00;exact h00
  have hob:jt L b=(aq (fV L) none b.ledgers&&(aq (kf b) none b.purses&&b.ledgers.all (rB L b))):=by rw[jt,h0',h00];rfl
  rw[hob]
  repeat refine ai ?_
  refine mq (b.ledgers) (fun i (E:List (fP×Int))=>E=CE (vG L b) (b.ledgers.take i)∧aq (fV L) none b.ledgers=aq (fV L) (cw b.ledgers i) (b.ledgers.drop i)) (fun i (E:List (fP×Int))=>[(2,.ptr 0 0),(3,.ptr 1 0),(5,.mapr 2),(26,.d (aV b.ledgers)),(27,.d (.int .i64 (b.ledgers.map GateLedger.e).length)),(28,.d (.int .i64 i))]) (fun i (E:List (fP×Int))=>⟨[(2,.map 224 .pair (E.map iZ)),(1,.cells 41 (L.e.map .d)),(0,.cells 48 (b.e.map .d))],3,0⟩) (⟨rfl,rfl⟩) ?_ ⟨rfl,rfl,⟨rfl,rfl,rfl,rfl,rfl,rfl,trivial⟩,(by repeat' first|exact rfl|exact trivial|exact ql _ _|refine aj ?_ ?_),(by repeat' first|exact rfl|exact trivial|refine aj ?_ ?_)⟩
  intro i E hi hr
  obtain ⟨hE,hr⟩:=hr
  repeat refine ai ?_
  refine aj ?_ ?_<;>intro h1
  ·have hlt:i<b.ledgers.length:=V h1
   rw[dM hlt] at hr
   repeat refine ai ?_
   refine U (e:=GateLedger.e) (xs:=b.ledgers) (hlt) rfl ?_
   repeat refine ai ?_
   repeat' first
    |refine ai ?_
    |(refine n1 ?_;intro h)
    |(refine n2 ?_;intro h)
    |(refine n3 ?_;intro h)
    |(refine n4 ?_;intro h)
    |(refine aj ?_ ?_<;>intro h)
    |refine oc (fK _ _) ?_
    |refine oc (cZ _) ?_
    |refine aA (e:=GateLedger.e) (xs:=b.ledgers) (k:=i - 1) (by omega) (aW (k5 (by assumption)) hlt hsl) rfl ?_
   all_goals (simp only[cond_false,cond_true,Bool.not_eq_true',Bool.not_eq_false',reduceCtorEq,idx_lt] at*)
   all_goals first
    |(refine bd ?_
      rw[hr]
      clear hr hE hob h0 h0' h00
      first|rw[cd (k5 (by assumption)) hlt]|rw[ce (oC (by assumption))]
      simp_all only[fV,lY,wJ,Bool.true_and,Bool.and_true,Bool.false_and,Bool.and_false,Bool.true_or,Bool.or_true,Bool.false_or,Bool.or_false,Bool.not_true,Bool.not_false]
      done)
    |(refine (fun hq:fV L (cw b.ledgers i) b.ledgers[i]=true=>?_) ?_
      rotate_left
      ·clear hr hE hob h0 h0' h00
       first|rw[cd (k5 (by assumption)) hlt]|rw[ce (oC (by assumption))]
       simp_all only[fV,lY,wJ,Bool.true_and,Bool.and_true,Bool.false_and,Bool.and_false,Bool.true_or,Bool.or_true,Bool.false_or,Bool.or_false,Bool.not_true,Bool.not_false]
       done
      ·rw[hq,Bool.true_and] at hr
       repeat refine ai ?_
       refine Eg ?_
       repeat refine ai ?_
       refine oc (yi _ _ _ _) ?_
       repeat refine ai ?_
       exact cV (oy E (oH b.ledgers[i]) (vG L b b.ledgers[i])) hlt hsl ⟨by rw[hE,List.take_succ_eq_append_getElem hlt,BT],hr⟩ fun hw=>by repeat' first|exact rfl|exact trivial|exact nd hw|exact C6|exact ql _ _|refine aj ?_ ?_
     )
  ·rw[eK (Z h1)] at hr
   rw[List.take_of_length_le (Z h1)] at hE
   rw[hr,Bool.true_and]
   have hC:=hr
   clear hr
   repeat refine ai ?_
   refine mq (b.purses) (fun i (F:List (fP×Int))=>F=Cd E (b.purses.take i)∧aq (kf b) none b.purses=aq (kf b) (cw b.purses i) (b.purses.drop i)) (fun i (F:List (fP×Int))=>[(2,.ptr 0 0),(5,.mapr 2),(107,.d (bk b.purses)),(108,.d (.int .i64 (b.purses.map GatePurse.e).length)),(109,.d (.int .i64 i))]) (fun i (F:List (fP×Int))=>⟨[(2,.map 224 .pair (F.map iZ)),(0,.cells 48 (b.e.map .d))],3,0⟩) (⟨rfl,rfl⟩) ?_ ⟨rfl,rfl,⟨rfl,rfl,rfl,rfl,rfl,trivial⟩,(by repeat' first|exact rfl|exact trivial|exact ql _ _|refine aj ?_ ?_),(by repeat' first|exact rfl|exact trivial|refine aj ?_ ?_)⟩
   intro i F hi hr
   obtain ⟨hF,hr⟩:=hr
   repeat refine ai ?_
   refine aj ?_ ?_<;>intro h2
   ·have hlt:i<b.purses.length:=V h2
    rw[dM hlt] at hr
    repeat refine ai ?_
    refine U (e:=GatePurse.e) (xs:=b.purses) (hlt) rfl ?_
    repeat refine ai ?_
    repeat' first
      |refine ai ?_
      |(refine n1 ?_;intro h)
      |(refine n2 ?_;intro h)
      |(refine n3 ?_;intro h)
      |(refine n4 ?_;intro h)
      |(refine aj ?_ ?_<;>intro h)
      |refine oc (rP _ _) ?_
      |refine oc (BI _ _ _) ?_
      |refine oc (cZ _) ?_
      |refine aj (by kernel_rfl) ?_
      |refine aA (e:=GatePurse.e) (xs:=b.purses) (k:=i - 1) (by omega) (aW (k5 (by assumption)) hlt hsp) rfl ?_
    all_goals (simp only[cond_false,cond_true,Bool.not_eq_true',Bool.not_eq_false',reduceCtorEq,idx_lt] at*)
    all_goals first
      |(refine bd ?_
        rw[hr]
        clear hr hE hob h0 h0' h00 hF hC
        first|rw[cd (k5 (by assumption)) hlt]|rw[ce (oC (by assumption))]
        simp_all only[kf,wa,mz,dB,Bool.true_and,Bool.and_true,Bool.false_and,Bool.and_false,Bool.true_or,Bool.or_true,Bool.false_or,Bool.or_false,Bool.not_true,Bool.not_false]
        done)
      |(refine (fun hq:kf b (cw b.purses i) b.purses[i]=true=>?_) ?_
        rotate_left
        ·clear hr hE hob h0 h0' h00 hF hC
         first|rw[cd (k5 (by assumption)) hlt]|rw[ce (oC (by assumption))]
         simp_all only[kf,wa,mz,dB,Bool.true_and,Bool.and_true,Bool.false_and,Bool.and_false,Bool.true_or,Bool.or_true,Bool.false_or,Bool.or_false,Bool.not_true,Bool.not_false]
         done
        ·rw[hq,Bool.true_and] at hr
         obtain ⟨v,hv⟩:=Bc hC hq (b.purses.take i)
         rw[←hE,←hF] at hv
         obtain ⟨j,k',g1,g2,g3⟩:=BP hv
         refine ⟨_,y8 hv,?_⟩
         repeat first|refine ai ?_|refine aj trivial ?_
         refine ⟨_,g1,?_⟩
         repeat first|refine ai ?_|refine aj trivial ?_
         refine ⟨Int.natCast_nonneg _,_,g2,?_⟩
         repeat refine ai ?_
         exact cV (qP F (b.purses[i].team,b.purses[i].resource) b.purses[i].amount) hlt hsp ⟨by rw[hF,List.take_succ_eq_append_getElem hlt,BR];rfl,hr⟩ fun hw=>by repeat' first|exact rfl|exact trivial|exact nd hw|exact g3 _ _ _|exact ql _ _|refine aj ?_ ?_
       )
   ·rw[eK (Z h2)] at hr
    rw[List.take_of_length_le (Z h2)] at hF
    rw[hr,Bool.true_and]
    clear hr
    repeat refine ai ?_
    refine dX (b.ledgers) (fun i=>b.ledgers.all (rB L b)=(b.ledgers.drop i).all (rB L b)) (fun i=>[(5,.mapr 2),(180,.d (aV b.ledgers)),(181,.d (.int .i64 (b.ledgers.map GateLedger.e).length)),(182,.d (.int .i64 i))]) (fun i=>⟨[(2,.map 224 .pair (F.map iZ))],3,0⟩) (rfl) ?_ ⟨rfl,rfl,⟨rfl,rfl,rfl,rfl,trivial⟩,(by repeat' first|exact rfl|exact trivial|exact ql _ _|refine aj ?_ ?_),(by repeat' first|exact rfl|exact trivial|refine aj ?_ ?_)⟩
    intro i hi hr
    repeat refine ai ?_
    refine aj ?_ ?_<;>intro h3
    ·have hlt:i<b.ledgers.length:=V h3
     rw[aD hlt] at hr
     obtain ⟨v,hv,hs⟩:=AT hC (List.getElem_mem hlt)
     rw[←hE,←hF] at hv
     repeat refine ai ?_
     refine U (e:=GateLedger.e) (xs:=b.ledgers) (hlt) rfl ?_
     repeat refine ai ?_
     refine ak ?_
     repeat refine ai ?_
     refine ⟨_,y8 hv,?_⟩
     repeat refine ai ?_
     refine aj ?_ ?_<;>intro h4
     ·refine bd ?_
      rw[hr,←hs,oz h4];rfl
     ·rw[←hs,li h4,Bool.true_and] at hr
      repeat refine ai ?_
      exact bX hlt hsl hr fun hw=>⟨rfl,rfl,⟨rfl,rfl,rfl,nd hw,trivial⟩,(by repeat' first|exact rfl|exact trivial|exact ql _ _|refine aj ?_ ?_),(by repeat' first|exact rfl|exact trivial|refine aj ?_ ?_)⟩
    ·refine bd ?_
     rw[hr,ci (Z h3)]
 ·refine bd ?_
  rw[List.length_map] at h0
  rw[jt,h0];rfl
end Go.Vc
end
section
namespace Go.Vc
open Go.Proofs
set_option maxRecDepth 100000
def qv (L:GateLaw) (b:GateBook) (p:Option GateLedger) (g:GateLedger):Bool:=fV L p g&&rB L b g
set_option maxHeartbeats 4000000 in
theorem xx (L:GateLaw) (b:GateBook):Spec P 117 [st L.e,st b.e] (.d (.bool (jt L b))):=by
 refine Spec.of_vc aG au [.tmp 4] Tryz.func117 rfl rfl rfl rfl (fun hok=>?_)
 have hsl:=(cE hok.2).2.2.1
 have hsp:=(cE hok.2).2.2.2
 repeat refine ai ?_
 refine aj ?_ ?_<;>intro h0
 ·have h0':decide ((b.ledgers.length:Int)>10)=false:=by rw[List.length_map] at h0;exact h0
  repeat refine ai ?_
  refine aj ?_ ?_<;>intro h00
  ·have h00:decide ((b.purses.length:Int)>24)=true:=by simp only[cond_false,List.length_map] at h00;exact h00
   refine bd ?_
   rw[jt,h0',h00];rfl
  have h00:decide ((b.purses.length:Int)>24)=false:=by simp only[cond_false,List.length_map] at h00;exact h00
  have hob:jt L b=(aq (kf b) none b.purses&&aq (qv L b) none b.ledgers):=by
   rw[jt,h0',h00]
   rw[show aq (qv L b) none b.ledgers=(aq (fV L) none b.ledgers&&b.ledgers.all (rB L b)) from th]
   cases aq (fV L) none b.ledgers<;>cases aq (kf b) none b.purses<;>rfl
  rw[hob]
  repeat refine ai ?_
  refine dX (b.purses) (fun i=>aq (kf b) none b.purses=aq (kf b) (cw b.purses i) (b.purses.drop i)) (fun i=>[(2,.ptr 0 0),(3,.ptr 1 0),(5,.d (.int .i64 i))]) (fun i=>⟨[(1,.cells 48 (b.e.map .d)),(0,.cells 41 (L.e.map .d))],2,0⟩) (rfl) ?_
  intro i hi hr
  repeat refine ai ?_
  refine aj ?_ ?_<;>intro h1
  ·have hlt:i<b.purses.length:=V h1
   rw[dM hlt] at hr
   repeat refine ai ?_
   refine U (e:=GatePurse.e) (xs:=b.purses) (hlt) rfl ?_
   repeat refine ai ?_
   refine ak ?_
   repeat refine ai ?_
   repeat' first
    |refine ai ?_
    |(refine n1 ?_;intro h)
    |(refine n2 ?_;intro h)
    |(refine n3 ?_;intro h)
    |(refine n4 ?_;intro h)
    |(refine aj ?_ ?_<;>intro h)
    |refine oc (bB _) ?_
    |refine oc (xy _ _ _) ?_
    |refine oc (dV _ _ _) ?_
    |refine oc (ui _ _) ?_
    |refine aj (by kernel_rfl) ?_
    |refine aA (e:=GatePurse.e) (xs:=b.purses) (k:=i - 1) (by omega) (aW (k5 (by assumption)) hlt hsp) rfl ?_
   all_goals (simp only[cond_false,cond_true,Bool.not_eq_true',Bool.not_eq_false',reduceCtorEq,idx_lt,zT] at*)
   all_goals first
    |(refine bd ?_
      rw[hr]
      clear hr hob h0 h0' h00
      first|rw[cd (k5 (by assumption)) hlt]|rw[ce (oC (by assumption))]|skip
      simp_all only[kf,wa,dB,Bool.true_and,Bool.and_true,Bool.false_and,Bool.and_false,Bool.true_or,Bool.or_true,Bool.false_or,Bool.or_false,Bool.not_true,Bool.not_false]
      done)
    |(refine (fun hq:kf b (cw b.purses i) b.purses[i]=true=>?_) ?_
      rotate_left
      ·clear hr hob h0 h0' h00
       first|rw[cd (k5 (by assumption)) hlt]|rw[ce (oC (by assumption))]
       simp_all only[kf,wa,dB,Bool.true_and,Bool.and_true,Bool.false_and,Bool.and_false,Bool.true_or,Bool.or_true,Bool.false_or,Bool.or_false,Bool.not_true,Bool.not_false]
       done
      ·rw[hq,Bool.true_and] at hr
       repeat first|refine ai ?_|refine aj trivial ?_
       exact ⟨_,_,_,⟨i+1,rfl,hlt,hr,rfl,rfl⟩,by omega,rfl,rfl,⟨rfl,rfl,nd (Y hlt hsp),trivial⟩,(by repeat' first|exact rfl|exact trivial|refine aj ?_ ?_),(by repeat' first|exact rfl|exact trivial|refine aj ?_ ?_)⟩
     )
  ·rw[eK (Z h1)] at hr
   rw[hr,Bool.true_and]
   clear hr
   repeat refine ai ?_
   refine dX (b.ledgers) (fun i=>aq (qv L b) none b.ledgers=aq (qv L b) (cw b.ledgers i) (b.ledgers.drop i)) (fun i=>[(2,.ptr 0 0),(3,.ptr 1 0),(7,.d (.int .i64 i))]) (fun i=>⟨[(1,.cells 48 (b.e.map .d)),(0,.cells 41 (L.e.map .d))],2,0⟩) (rfl) ?_
   intro i hi hr
   repeat refine ai ?_
   refine aj ?_ ?_<;>intro h2
   ·have hlt:i<b.ledgers.length:=V h2
    rw[dM hlt] at hr
    repeat refine ai ?_
    refine U (e:=GateLedger.e) (xs:=b.ledgers) (hlt) rfl ?_
    repeat refine ai ?_
    repeat' first
      |refine ai ?_
      |(refine n1 ?_;intro h)
      |(refine n2 ?_;intro h)
      |(refine n3 ?_;intro h)
      |(refine n4 ?_;intro h)
      |(refine aj ?_ ?_<;>intro h)
      |refine oc (bB _) ?_
      |refine oc (lN _ _) ?_
      |refine oc (uh _ _ _ _) ?_
      |refine oc (xC _ _ _ _) ?_
      |refine oc (Ck _ _ _) ?_
      |refine aj (by kernel_rfl) ?_
      |refine aA (e:=GateLedger.e) (xs:=b.ledgers) (k:=i - 1) (by omega) (aW (k5 (by assumption)) hlt hsl) rfl ?_
    all_goals (simp only[cond_false,cond_true,Bool.not_eq_true',Bool.not_eq_false',reduceCtorEq,idx_lt,oJ] at*)
    all_goals (try simp only[bne,Bool.not_eq_true',Bool.not_eq_false'] at*)
    all_goals first
      |(refine bd ?_
        rw[hr]
        clear hr hob h0 h0' h00
        first|rw[cd (k5 (by assumption)) hlt]|rw[ce (oC (by assumption))]|skip
        simp_all only[qv,fV,rB,lY,dB,Bool.true_and,Bool.and_true,Bool.false_and,Bool.and_false,Bool.true_or,Bool.or_true,Bool.false_or,Bool.or_false,Bool.not_true,Bool.not_false]
        done)
      |(refine (fun hq:qv L b (cw b.ledgers i) b.ledgers[i]=true=>?_) ?_
        rotate_left
        ·clear hr hob h0 h0' h00
         first|rw[cd (k5 (by assumption)) hlt]|rw[ce (oC (by assumption))]
         simp_all only[qv,fV,rB,lY,dB,Bool.true_and,Bool.and_true,Bool.false_and,Bool.and_false,Bool.true_or,Bool.or_true,Bool.false_or,Bool.or_false,Bool.not_true,Bool.not_false]
         done
        ·rw[hq,Bool.true_and] at hr
         repeat first|refine ai ?_|refine aj trivial ?_
         exact ⟨_,_,_,⟨i+1,rfl,hlt,hr,rfl,rfl⟩,by omega,rfl,rfl,⟨rfl,rfl,nd (Y hlt hsl),trivial⟩,(by repeat' first|exact rfl|exact trivial|refine aj ?_ ?_),(by repeat' first|exact rfl|exact trivial|refine aj ?_ ?_)⟩
       )
   ·refine bd ?_
    rw[hr,eK (Z h2)]
 ·refine bd ?_
  rw[List.length_map] at h0
  rw[jt,h0];rfl
end Go.Vc
end
section
namespace Go.Vc
open Go.Proofs
set_option maxRecDepth 100000
def mw (l:GateLaw):Bool:=bu l.shapes l.mends&&fu l.teams
theorem vY (l:GateLaw):Spec P 114 [st l.e] (.d (.bool (mw l))):=by
 refine Spec.of_vc aG au [.tmp 2] Tryz.func114 rfl rfl rfl rfl (fun hok=>?_)
 repeat refine ai ?_
 refine oc (rG _ _) ?_
 repeat refine ai ?_
 refine aj ?_ ?_<;>intro h
 ·repeat refine ai ?_
  refine oc (rF _) ?_
  refine bd ?_
  simp only[mw,h,Bool.true_and]
 ·refine bd ?_
  simp only[mw,h,Bool.false_and]
theorem wS (l:GateLaw):Spec P 125 [st l.e] (.d (.bool (mw l))):=by
 refine Spec.of_vc aG au [.tmp 2] Tryz.func125 rfl rfl rfl rfl (fun hok=>?_)
 repeat refine ai ?_
 refine oc (fD _ _) ?_
 repeat refine ai ?_
 refine aj ?_ ?_<;>intro h
 ·repeat refine ai ?_
  refine oc (rR _) ?_
  refine bd ?_
  simp only[mw,h,Bool.true_and]
 ·refine bd ?_
  simp only[mw,h,Bool.false_and]
end Go.Vc
end
section
namespace Go.Vc
open Go.Proofs
set_option maxRecDepth 100000
def g8 (L:GateLaw) (b:GateBook):Bool:=mw L&&(eX b.now 0 1000000&&(eX b.tick 0 1000000&&(eX b.given 0 b.now&&(me L b&&(f9 b&&jt L b)))))
theorem sL {L:GateLaw} (h:mw L=true):bu L.shapes L.mends=true:=by
 unfold mw at h;rw[Bool.and_eq_true] at h;exact h.1
theorem uX (L:GateLaw) (b:GateBook):Spec P 55 [st L.e,st b.e] (.d (.bool (g8 L b))):=by
 refine Spec.of_vc aG au [.tmp 4] Tryz.func55 rfl rfl rfl rfl (fun hok=>?_)
 repeat refine ai ?_
 refine oc (wS _) ?_
 repeat' first
  |refine ai ?_
  |(refine n1 ?_;intro h)
  |(refine n2 ?_;intro h)
  |(refine n3 ?_;intro h)
  |(refine n4 ?_;intro h)
  |(refine aj ?_ ?_<;>intro h)
  |refine oc (wP L b (sL (li (by assumption)))) ?_
  |refine oc (yg b) ?_
  |refine oc (BC L b) ?_
 all_goals (refine bd ?_;simp only[cond_false,cond_true,Bool.not_eq_true',Bool.not_eq_false',reduceCtorEq] at*;simp only[g8,mz, *,bl])
theorem um (L:GateLaw) (b:GateBook):Spec P 46 [st L.e,st b.e] (.d (.bool (g8 L b))):=by
 refine Spec.of_vc aG au [.tmp 4] Tryz.func46 rfl rfl rfl rfl (fun hok=>?_)
 repeat refine ai ?_
 refine oc (vY _) ?_
 repeat' first
  |refine ai ?_
  |(refine n1 ?_;intro h)
  |(refine n2 ?_;intro h)
  |(refine n3 ?_;intro h)
  |(refine n4 ?_;intro h)
  |(refine aj ?_ ?_<;>intro h)
  |refine oc (dV _ _ _) ?_
  |refine oc (rE L b (sL (li (by assumption)))) ?_
  |refine oc (uj b) ?_
  |refine oc (xx L b) ?_
 all_goals (refine bd ?_;simp only[cond_false,cond_true,Bool.not_eq_true',Bool.not_eq_false',reduceCtorEq] at*;simp only[g8, *,bl])
end Go.Vc
end
section
namespace Go.Vc
open Go.Proofs
set_option maxRecDepth 100000
def bS {α:Type} (p:α→Bool):List α→Nat→List Int
 |[],_=>[]
 |x::xs,i=>bif p x then (i:Int)::bS p xs (i+1) else bS p xs (i+1)
section
variable {α:Type} {p:α→Bool} {xs:List α} {i:Nat}
theorem l6 (h:i<xs.length):bS p (xs.drop i) i=bif p xs[i] then (i:Int)::bS p (xs.drop (i+1)) (i+1) else bS p (xs.drop (i+1)) (i+1):=by
 rw[List.drop_eq_getElem_cons h];rfl
theorem nH (h:xs.length≤i):bS p (xs.drop i) i=[]:=by
 rw[List.drop_of_length_le h];rfl
theorem nG:∀(xs:List α) (i:Nat),(bS p xs i).length≤xs.length
 |[],_=>Nat.le_refl _
 |x::xs,i=>by
  have:=nG xs (i+1)
  unfold bS
  cases p x<;>simp only[cond_true,cond_false,List.length_cons]<;>omega
end
def gV (o to:GateObject) (role:Int) (p:Nat×GateField):Bool:=p.2.role==role&&(p.2.to_==to.kind&&tL o.values p.1==to.name)
def fS (xs:List GateShape) (o to:GateObject) (role:Int):Bool:=(cg xs o).any (gV o to role)
def gu (L:GateLaw) (b:GateBook) (o:GateObject):Bool:= !o.ending&&b.objects.any (fun x=>x.ending&&fS L.shapes o x 3)
def gv (L:GateLaw) (b:GateBook):List Int:=bif g8 L b then bS (gu L b) b.objects 0 else []
theorem xT {fs:List GateField} {vs:List Bs} {i:Nat} {q:Nat×GateField→Bool} (h:i<fs.length) (h2:i<vs.length):
 (bY (fs.drop i) (vs.drop i) i).any q=((fs[i].kind==4&& !(vs[i]==[])&&q (i,fs[i]))||(bY (fs.drop (i+1)) (vs.drop (i+1)) (i+1)).any q):=by
 rw[gO h h2]
 cases fs[i].kind==4&& !(vs[i]==[])<;>rfl
theorem Ad {fs:List GateField} {vs:List Bs} {i:Nat} {q:Nat×GateField→Bool} (h:fs.length≤i):(bY (fs.drop i) (vs.drop i) i).any q=false:=by
 rw[List.drop_of_length_le h];rfl
theorem zI (L:GateLaw) (b:GateBook) (p q:Nat) (hp:p<b.objects.length) (hq:q<b.objects.length) (role:Int):Spec P 75 [st L.e,st b.e,.d (.int .i64 (p:Int)),.d (.int .i64 (q:Int)),.d (.int .i64 role)] (.d (.bool (fS L.shapes b.objects[p] b.objects[q] role))):=by
 refine Spec.of_vc aG au [.tmp 10] Tryz.func75 rfl rfl rfl rfl (fun hok=>?_)
 have hvb:=(yY ⟨hok.2.1,trivial⟩ (List.getElem_mem hp)).1
 repeat refine ai ?_
 refine U (e:=GateObject.e) (xs:=b.objects) (hp) rfl ?_
 repeat refine ai ?_
 generalize ho:b.objects[p]=o at*
 repeat refine ai ?_
 refine oc (er _ _) ?_
 have hl:=(co (xs:=L.shapes) (k:=o.kind) (n:=o.values.length)).1
 rw[show fS L.shapes o b.objects[q] role=(bY (ag L.shapes o.kind o.values.length).1 o.values 0).any (gV o b.objects[q] role) from rfl]
 generalize (ag L.shapes o.kind o.values.length).1=fs at*
 repeat refine ai ?_
 refine dX (fs) (fun i=>(bY fs o.values 0).any (gV o b.objects[q] role)=(bY (fs.drop i) (o.values.drop i) i).any (gV o b.objects[q] role)) (fun i=>[(3,.d (.int .i64 q)),(4,.d (.int .i64 role)),(5,.ptr 0 0),(6,.ptr 1 0),(11,.ptr 2 0),(12,.d (ab fs)),(14,.d (.int .i64 i))]) (fun i=>⟨[(2,.cells 103 (o.e.map .d)),(1,.cells 48 (b.e.map .d)),(0,.cells 41 (L.e.map .d))],3,0⟩) (rfl) ?_
 intro i hi hr
 have hs:fs.length≤ap:=by omega
 repeat refine ai ?_
 refine aj ?_ ?_<;>intro h1
 ·have hlt:i<fs.length:=V h1
  have hlt2:i<o.values.length:=by omega
  rw[xT hlt hlt2,show gV o b.objects[q] role (i,fs[i])=(fs[i].role==role&&(fs[i].to_==b.objects[q].kind&&o.values[i]==b.objects[q].name)) from by simp only[gV,fQ hlt2]] at hr
  repeat refine ai ?_
  refine U (e:=GateField.e) (xs:=fs) (hlt) rfl ?_
  repeat refine ai ?_
  refine ak ?_
  repeat refine ai ?_
  refine aj ?_ ?_<;>intro c1
  ·repeat refine ai ?_
   refine aj ?_ ?_<;>intro c2
   ·repeat refine ai ?_
    refine U (e:=eB) (xs:=o.values) (hlt2) rfl ?_
    repeat refine ai ?_
    refine aj ?_ ?_<;>intro c3
    ·repeat refine ai ?_
     refine U (e:=GateObject.e) (xs:=b.objects) (hq) rfl ?_
     repeat refine ai ?_
     refine aj ?_ ?_<;>intro c4
     ·repeat refine ai ?_
      refine U (e:=eB) (xs:=o.values) (hlt2) rfl ?_
      repeat refine ai ?_
      refine U (e:=GateObject.e) (xs:=b.objects) (hq) rfl ?_
      repeat refine ai ?_
      refine aj ?_ ?_<;>intro c5
      ·repeat refine ai ?_
       refine bd ?_
       rw[hr]
       simp only[cond_true] at c2 c3 c4 c5
       simp only[c1,c2,c3,c4,c5,Bool.and_self,Bool.true_or]
      ·try simp only[cond_true] at*
       repeat' first
        |refine ai ?_
        |refine aj (fun h=>nomatch (show false=true from h)) (fun _=>?_)
       exact bX hlt hs (by rw[hr];simp only[c5,bl])
     ·try simp only[cond_true] at*
      repeat' first
       |refine ai ?_
       |refine aj (fun h=>nomatch (show false=true from h)) (fun _=>?_)
      exact bX hlt hs (by rw[hr];simp only[c4,bl])
    ·try simp only[cond_true] at*
     repeat' first
      |refine ai ?_
      |refine aj (fun h=>nomatch (show false=true from h)) (fun _=>?_)
     exact bX hlt hs (by rw[hr];simp only[c3,bl])
   ·try simp only[cond_true] at*
    repeat' first
     |refine ai ?_
     |refine aj (fun h=>nomatch (show false=true from h)) (fun _=>?_)
    exact bX hlt hs (by rw[hr];simp only[c2,bl])
  ·try simp only[cond_true] at*
   repeat' first
    |refine ai ?_
    |refine aj (fun h=>nomatch (show false=true from h)) (fun _=>?_)
   exact bX hlt hs (by rw[hr];simp only[c1,bl])
 ·repeat refine ai ?_
  refine bd ?_
  rw[hr,Ad (Z h1)]
theorem AX (L:GateLaw) (b:GateBook):Spec P 47 [st L.e,st b.e] (.d (lI (bS (gu L b) b.objects 0))):=by
 refine Spec.of_vc aG au [.tmp 4] Tryz.func47 rfl rfl rfl rfl (fun hok=>?_)
 have hs:=(cE hok.2).1
 repeat refine ai ?_
 refine mq (b.objects) (fun i (ns:List Int)=>bS (gu L b) b.objects 0=ns++bS (gu L b) (b.objects.drop i) i∧ns.length≤i) (fun i (ns:List Int)=>[(2,.ptr 0 0),(3,.ptr 1 0),(5,.own 2),(6,.d (.int .i64 i))]) (fun i (ns:List Int)=>⟨[(2,.row 3 1 (ns.map eN)),(1,.cells 48 (b.e.map .d)),(0,.cells 41 (L.e.map .d))],3,0⟩) ((show bS (gu L b) b.objects 0=([]:List Int)++bS (gu L b) (b.objects.drop 0) 0∧([]:List Int).length≤0 from ⟨rfl,Nat.le_refl 0⟩)) ?_
 intro i ns hi hr
 obtain ⟨ho,hn⟩:=hr
 repeat refine ai ?_
 refine aj ?_ ?_<;>intro h1
 ·have hlt:i<b.objects.length:=V h1
  rw[l6 hlt] at ho
  have hP:gu L b b.objects[i]=(!b.objects[i].ending&&b.objects.any (fun x=>x.ending&&fS L.shapes b.objects[i] x 3)):=rfl
  repeat refine ai ?_
  refine mq (b.objects) (fun q (v:Bool)=>b.objects.any (fun x=>x.ending&&fS L.shapes b.objects[i] x 3)=(v||(b.objects.drop q).any (fun x=>x.ending&&fS L.shapes b.objects[i] x 3))) (fun q (v:Bool)=>[(2,.ptr 0 0),(3,.ptr 1 0),(5,.own 2),(6,.d (.int .i64 i)),(7,.d (.bool v)),(8,.d (.int .i64 q))]) (fun q (v:Bool)=>⟨[(2,.row 3 1 (ns.map eN)),(1,.cells 48 (b.e.map .d)),(0,.cells 41 (L.e.map .d))],3,0⟩) (rfl) ?_
  intro q v hq hr
  repeat refine ai ?_
  refine aj ?_ ?_<;>intro h2
  ·have hlq:q<b.objects.length:=V h2
   rw[fO hlq] at hr
   repeat refine ai ?_
   refine U (e:=GateObject.e) (xs:=b.objects) (hlq) rfl ?_
   repeat refine ai ?_
   refine aj ?_ ?_<;>intro h3
   ·repeat refine ai ?_
    refine oc (zI L b i q hlt hlq 3) ?_
    repeat refine ai ?_
    refine aj ?_ ?_<;>intro h4
    ·repeat refine ai ?_
     exact cV true hlq hs (by rw[hr,h3,h4];simp only[Bool.and_self,bl])
    ·repeat refine ai ?_
     exact cV v hlq hs (by rw[hr,h3,h4];simp only[bl])
   ·repeat refine ai ?_
    exact cV v hlq hs (by rw[hr,h3];simp only[bl])
  ·rw[gQ (Z h2),Bool.or_false] at hr
   rw[hr] at hP
   repeat refine ai ?_
   refine U (e:=GateObject.e) (xs:=b.objects) (hlt) rfl ?_
   repeat refine ai ?_
   refine aj ?_ ?_<;>intro h5
   ·have h5:b.objects[i].ending=false:=by simpa using h5
    repeat refine ai ?_
    refine aj ?_ ?_<;>intro h6
    ·rw[hP,h5,h6,Bool.not_false,Bool.true_and,cond_true] at ho
     repeat refine ai ?_
     refine aj (fun r hr=>by rw[List.mem_singleton.1 hr];rfl) ?_
     repeat refine ai ?_
     refine aj (by simp only[List.length_append,List.length_nil,List.length_cons,List.length_map] at*;unfold ap at*;omega) ?_
     repeat refine ai ?_
     exact cV (ns++[(i:Int)]) hlt hs ⟨by rw[ho,List.append_assoc];rfl,by rw[List.length_append];simp only[List.length_cons,List.length_nil];omega⟩ fun hw=>by repeat' first|exact rfl|exact trivial|exact nd hw|(rw[List.map_append];exact rfl)|refine aj ?_ ?_
    ·rw[hP,h5,h6,Bool.and_false,cond_false] at ho
     repeat refine ai ?_
     exact cV ns hlt hs ⟨ho,by omega⟩
   ·have h5:b.objects[i].ending=true:=by simpa using h5
    rw[hP,h5,Bool.not_true,Bool.false_and,cond_false] at ho
    repeat refine ai ?_
    exact cV ns hlt hs ⟨ho,by omega⟩
 ·rw[ho,nH (Z h1),List.append_nil]
  repeat refine ai ?_
  exact rfl
theorem xD (L:GateLaw) (b:GateBook):Spec P 13 [st L.e,st b.e] (.d (lI (gv L b))):=by
 refine Spec.of_vc aG au [.tmp 4] Tryz.func13 rfl rfl rfl rfl (fun hok=>?_)
 repeat refine ai ?_
 refine oc (um L b) ?_
 repeat refine ai ?_
 refine aj ?_ ?_<;>intro h1
 ·have h1:g8 L b=false:=oz h1
  rw[show gv L b=[] from by rw[gv,h1];rfl]
  repeat refine ai ?_
  exact rfl
 ·have h1:g8 L b=true:=li h1
  rw[show gv L b=bS (gu L b) b.objects 0 from by rw[gv,h1];rfl]
  repeat refine ai ?_
  refine oc (AX L b) ?_
  repeat refine ai ?_
  exact rfl
end Go.Vc
end
section
namespace Go.Vc
open Go.Proofs
set_option maxRecDepth 100000
def aX (xs:List Bs) (n:Int):Int:=aE (IntKind.i64.wrap (n - ((xs.map eB).length:Int))) fun n=>gA (fun (s:Bs) n=>IntKind.i64.wrap (n - (s.length:Int))) xs n
theorem vS (xs:List Bs) (n:Int):Spec P 168 [.d (lS xs),.d (.int .i64 n)] (.d (.int .i64 (aE (IntKind.i64.wrap (n - ((xs.map eB).length:Int))) fun n=>gA (fun (s:Bs) n=>IntKind.i64.wrap (n - (s.length:Int))) xs n))):=by
 refine Spec.of_vc aG au [.tmp 4] Tryz.func168 rfl rfl rfl rfl (fun hok=>?_)
 have hs:xs.length≤ap:=by have:=hok.1.1;rwa [List.length_map] at this
 refine aj (fun h=>nd (by simp only[aE,h,cond_true,cond_false])) (fun h=>?_)
 simp only[aE,h,cond_true,cond_false]
 refine ⟨fun k l h=>∃(i:Nat) (v:Int),k=xs.length - i∧i≤xs.length∧gA (fun (s:Bs) n=>IntKind.i64.wrap (n - (s.length:Int))) xs (IntKind.i64.wrap (n - ((xs.map eB).length:Int)))=gA (fun (s:Bs) n=>IntKind.i64.wrap (n - (s.length:Int))) (xs.drop i) v∧l=[(0,.d (lS xs)),(1,.d (.int .i64 v)),(5,.d (.int .i64 i))]∧h=hp0,
  ⟨_,_,_,⟨0,_,rfl,Nat.zero_le _,rfl,rfl,rfl⟩,rfl,rfl,⟨rfl,rfl,rfl,trivial⟩,trivial,trivial⟩,?_⟩
 rintro k l h1 ⟨i,v,rfl,hi,hr,rfl,rfl⟩
 refine aj ?_ ?_<;>intro h1
 ·have hlt:i<xs.length:=V h1
  repeat refine ai ?_
  refine U (e:=eB) (xs:=xs) (hlt) rfl ?_
  repeat refine ai ?_
  refine aj ?_ ?_<;>intro h2
  ·refine nd ?_
   rw[hr,bN hlt]
   simp only[aE,h2,cond_true]
  ·refine ⟨_,_,_,⟨i+1,_,rfl,hlt,?_,rfl,rfl⟩,by omega,rfl,rfl,⟨rfl,rfl,nd (Y hlt hs),trivial⟩,trivial,trivial⟩
   rw[hr,bN hlt]
   simp only[aE,h2,cond_false]
 ·refine nd ?_
  rw[hr,List.drop_of_length_le (Z h1)];rfl
theorem js (xs:List Bs) (n:Int):Spec P 168 [.d (lS xs),.d (.int .i64 n)] (.d (.int .i64 (aX xs n))):=vS xs n
def dk (x:List Int) (n:Int):Int:=aE (IntKind.i64.wrap (n - ((x.map eN).length:Int))) fun n=>n
theorem AR (x:List Int) (n:Int):Spec P 200 [.d (lI x),.d (.int .i64 n)] (.d (.int .i64 (aE (IntKind.i64.wrap (n - ((x.map eN).length:Int))) fun n=>n))):=by
 refine Spec.of_vc aG au [.tmp 4] Tryz.func200 rfl rfl rfl rfl (fun hok=>?_)
 refine aj (fun h=>nd (by simp only[aE,h,cond_true,cond_false])) (fun h=>nd (by simp only[aE,h,cond_true,cond_false]))
theorem AQ (x:List Int) (n:Int):Spec P 200 [.d (lI x),.d (.int .i64 n)] (.d (.int .i64 (dk x n))):=AR x n
def cn (x:GateField) (n:Int):Int:=aE (IntKind.i64.wrap (n - (x.name.length:Int))) fun n=>aE (aX x.words n) fun n=>aE (IntKind.i64.wrap (n - (x.to_.length:Int))) fun n=>aE (IntKind.i64.wrap (n - (x.default_.length:Int))) fun n=>aE (IntKind.i64.wrap (n - (x.weighs.length:Int))) fun n=>n
theorem rA (x:GateField) (n:Int):Spec P 199 [st x.e,.d (.int .i64 n)] (.d (.int .i64 (aE (IntKind.i64.wrap (n - (x.name.length:Int))) fun n=>aE (aX x.words n) fun n=>aE (IntKind.i64.wrap (n - (x.to_.length:Int))) fun n=>aE (IntKind.i64.wrap (n - (x.default_.length:Int))) fun n=>aE (IntKind.i64.wrap (n - (x.weighs.length:Int))) fun n=>n))):=by
 refine Spec.of_vc aG au [.tmp 4] Tryz.func199 rfl rfl rfl rfl (fun hok=>?_)
 refine aj (fun h=>nd (by simp only[aE,h, *,cond_true,cond_false])) (fun h0=>?_)
 repeat refine ai ?_
 refine oc (js _ _) ?_
 refine aj (fun h=>nd (by simp only[aE,h, *,cond_true,cond_false])) (fun h1=>?_)
 refine aj (fun h=>nd (by simp only[aE,h, *,cond_true,cond_false])) (fun h2=>?_)
 refine aj (fun h=>nd (by simp only[aE,h, *,cond_true,cond_false])) (fun h3=>?_)
 refine aj (fun h=>nd (by simp only[aE,h, *,cond_true,cond_false])) (fun h4=>?_)
 exact nd (by simp only[aE, *,cond_true,cond_false])
theorem rp (x:GateField) (n:Int):Spec P 199 [st x.e,.d (.int .i64 n)] (.d (.int .i64 (cn x n))):=rA x n
def dF (xs:List GateField) (n:Int):Int:=aE (IntKind.i64.wrap (n - ((xs.map GateField.e).length:Int))) fun n=>gA cn xs n
theorem pG (xs:List GateField) (n:Int):Spec P 167 [.d (ab xs),.d (.int .i64 n)] (.d (.int .i64 (aE (IntKind.i64.wrap (n - ((xs.map GateField.e).length:Int))) fun n=>gA cn xs n))):=by
 refine Spec.of_vc aG au [.tmp 4] Tryz.func167 rfl rfl rfl rfl (fun hok=>?_)
 have hs:xs.length≤ap:=by have:=hok.1.1;rwa [List.length_map] at this
 refine aj (fun h=>nd (by simp only[aE,h,cond_true,cond_false])) (fun h=>?_)
 simp only[aE,h,cond_true,cond_false]
 refine ⟨fun k l h=>∃(i:Nat) (v:Int),k=xs.length - i∧i≤xs.length∧gA cn xs (IntKind.i64.wrap (n - ((xs.map GateField.e).length:Int)))=gA cn (xs.drop i) v∧l=[(0,.d (ab xs)),(1,.d (.int .i64 v)),(5,.d (.int .i64 i))]∧h=hp0,
  ⟨_,_,_,⟨0,_,rfl,Nat.zero_le _,rfl,rfl,rfl⟩,rfl,rfl,⟨rfl,rfl,rfl,trivial⟩,trivial,trivial⟩,?_⟩
 rintro k l h1 ⟨i,v,rfl,hi,hr,rfl,rfl⟩
 refine aj ?_ ?_<;>intro h1
 ·have hlt:i<xs.length:=V h1
  repeat refine ai ?_
  refine U (e:=GateField.e) (xs:=xs) (hlt) rfl ?_
  repeat refine ai ?_
  refine oc (rp _ _) ?_
  refine aj ?_ ?_<;>intro h2
  ·refine nd ?_
   rw[hr,bN hlt]
   simp only[aE,h2,cond_true]
  ·refine ⟨_,_,_,⟨i+1,_,rfl,hlt,?_,rfl,rfl⟩,by omega,rfl,rfl,⟨rfl,rfl,nd (Y hlt hs),trivial⟩,trivial,trivial⟩
   rw[hr,bN hlt]
   simp only[aE,h2,cond_false]
 ·refine nd ?_
  rw[hr,List.drop_of_length_le (Z h1)];rfl
theorem pA (xs:List GateField) (n:Int):Spec P 167 [.d (ab xs),.d (.int .i64 n)] (.d (.int .i64 (dF xs n))):=pG xs n
def cj (x:GateShape) (n:Int):Int:=aE (IntKind.i64.wrap (n - (x.kind.length:Int))) fun n=>aE (dF x.fields n) fun n=>n
theorem ru (x:GateShape) (n:Int):Spec P 107 [st x.e,.d (.int .i64 n)] (.d (.int .i64 (aE (IntKind.i64.wrap (n - (x.kind.length:Int))) fun n=>aE (dF x.fields n) fun n=>n))):=by
 refine Spec.of_vc aG au [.tmp 4] Tryz.func107 rfl rfl rfl rfl (fun hok=>?_)
 refine aj (fun h=>nd (by simp only[aE,h, *,cond_true,cond_false])) (fun h0=>?_)
 repeat refine ai ?_
 refine oc (pA _ _) ?_
 refine aj (fun h=>nd (by simp only[aE,h, *,cond_true,cond_false])) (fun h1=>?_)
 exact nd (by simp only[aE, *,cond_true,cond_false])
theorem ri (x:GateShape) (n:Int):Spec P 107 [st x.e,.d (.int .i64 n)] (.d (.int .i64 (cj x n))):=ru x n
def cq (xs:List GateShape) (n:Int):Int:=aE (IntKind.i64.wrap (n - ((xs.map GateShape.e).length:Int))) fun n=>gA cj xs n
theorem pB (xs:List GateShape) (n:Int):Spec P 39 [.d (aa xs),.d (.int .i64 n)] (.d (.int .i64 (aE (IntKind.i64.wrap (n - ((xs.map GateShape.e).length:Int))) fun n=>gA cj xs n))):=by
 refine Spec.of_vc aG au [.tmp 4] Tryz.func39 rfl rfl rfl rfl (fun hok=>?_)
 have hs:xs.length≤ap:=by have:=hok.1.1;rwa [List.length_map] at this
 refine aj (fun h=>nd (by simp only[aE,h,cond_true,cond_false])) (fun h=>?_)
 simp only[aE,h,cond_true,cond_false]
 refine ⟨fun k l h=>∃(i:Nat) (v:Int),k=xs.length - i∧i≤xs.length∧gA cj xs (IntKind.i64.wrap (n - ((xs.map GateShape.e).length:Int)))=gA cj (xs.drop i) v∧l=[(0,.d (aa xs)),(1,.d (.int .i64 v)),(5,.d (.int .i64 i))]∧h=hp0,
  ⟨_,_,_,⟨0,_,rfl,Nat.zero_le _,rfl,rfl,rfl⟩,rfl,rfl,⟨rfl,rfl,rfl,trivial⟩,trivial,trivial⟩,?_⟩
 rintro k l h1 ⟨i,v,rfl,hi,hr,rfl,rfl⟩
 refine aj ?_ ?_<;>intro h1
 ·have hlt:i<xs.length:=V h1
  repeat refine ai ?_
  refine U (e:=GateShape.e) (xs:=xs) (hlt) rfl ?_
  repeat refine ai ?_
  refine oc (ri _ _) ?_
  refine aj ?_ ?_<;>intro h2
  ·refine nd ?_
   rw[hr,bN hlt]
   simp only[aE,h2,cond_true]
  ·refine ⟨_,_,_,⟨i+1,_,rfl,hlt,?_,rfl,rfl⟩,by omega,rfl,rfl,⟨rfl,rfl,nd (Y hlt hs),trivial⟩,trivial,trivial⟩
   rw[hr,bN hlt]
   simp only[aE,h2,cond_false]
 ·refine nd ?_
  rw[hr,List.drop_of_length_le (Z h1)];rfl
theorem pv (xs:List GateShape) (n:Int):Spec P 39 [.d (aa xs),.d (.int .i64 n)] (.d (.int .i64 (cq xs n))):=pB xs n
def cC (x:GateMend) (n:Int):Int:=aE (IntKind.i64.wrap (n - (x.kind.length:Int))) fun n=>aE (IntKind.i64.wrap (n - (x.field.length:Int))) fun n=>aE (IntKind.i64.wrap (n - (x.when_.length:Int))) fun n=>aE (IntKind.i64.wrap (n - (x.is_.length:Int))) fun n=>aE (IntKind.i64.wrap (n - (x.put.length:Int))) fun n=>aE (IntKind.i64.wrap (n - (x.from_.length:Int))) fun n=>n
theorem ue (x:GateMend) (n:Int):Spec P 108 [st x.e,.d (.int .i64 n)] (.d (.int .i64 (aE (IntKind.i64.wrap (n - (x.kind.length:Int))) fun n=>aE (IntKind.i64.wrap (n - (x.field.length:Int))) fun n=>aE (IntKind.i64.wrap (n - (x.when_.length:Int))) fun n=>aE (IntKind.i64.wrap (n - (x.is_.length:Int))) fun n=>aE (IntKind.i64.wrap (n - (x.put.length:Int))) fun n=>aE (IntKind.i64.wrap (n - (x.from_.length:Int))) fun n=>n))):=by
 refine Spec.of_vc aG au [.tmp 4] Tryz.func108 rfl rfl rfl rfl (fun hok=>?_)
 refine aj (fun h=>nd (by simp only[aE,h, *,cond_true,cond_false])) (fun h0=>?_)
 refine aj (fun h=>nd (by simp only[aE,h, *,cond_true,cond_false])) (fun h1=>?_)
 refine aj (fun h=>nd (by simp only[aE,h, *,cond_true,cond_false])) (fun h2=>?_)
 refine aj (fun h=>nd (by simp only[aE,h, *,cond_true,cond_false])) (fun h3=>?_)
 refine aj (fun h=>nd (by simp only[aE,h, *,cond_true,cond_false])) (fun h4=>?_)
 refine aj (fun h=>nd (by simp only[aE,h, *,cond_true,cond_false])) (fun h5=>?_)
 exact nd (by simp only[aE, *,cond_true,cond_false])
theorem ua (x:GateMend) (n:Int):Spec P 108 [st x.e,.d (.int .i64 n)] (.d (.int .i64 (cC x n))):=ue x n
def dp (xs:List GateMend) (n:Int):Int:=aE (IntKind.i64.wrap (n - ((xs.map GateMend.e).length:Int))) fun n=>gA cC xs n
theorem ry (xs:List GateMend) (n:Int):Spec P 40 [.d (af xs),.d (.int .i64 n)] (.d (.int .i64 (aE (IntKind.i64.wrap (n - ((xs.map GateMend.e).length:Int))) fun n=>gA cC xs n))):=by
 refine Spec.of_vc aG au [.tmp 4] Tryz.func40 rfl rfl rfl rfl (fun hok=>?_)
 have hs:xs.length≤ap:=by have:=hok.1.1;rwa [List.length_map] at this
 refine aj (fun h=>nd (by simp only[aE,h,cond_true,cond_false])) (fun h=>?_)
 simp only[aE,h,cond_true,cond_false]
 refine ⟨fun k l h=>∃(i:Nat) (v:Int),k=xs.length - i∧i≤xs.length∧gA cC xs (IntKind.i64.wrap (n - ((xs.map GateMend.e).length:Int)))=gA cC (xs.drop i) v∧l=[(0,.d (af xs)),(1,.d (.int .i64 v)),(5,.d (.int .i64 i))]∧h=hp0,
  ⟨_,_,_,⟨0,_,rfl,Nat.zero_le _,rfl,rfl,rfl⟩,rfl,rfl,⟨rfl,rfl,rfl,trivial⟩,trivial,trivial⟩,?_⟩
 rintro k l h1 ⟨i,v,rfl,hi,hr,rfl,rfl⟩
 refine aj ?_ ?_<;>intro h1
 ·have hlt:i<xs.length:=V h1
  repeat refine ai ?_
  refine U (e:=GateMend.e) (xs:=xs) (hlt) rfl ?_
  repeat refine ai ?_
  refine oc (ua _ _) ?_
  refine aj ?_ ?_<;>intro h2
  ·refine nd ?_
   rw[hr,bN hlt]
   simp only[aE,h2,cond_true]
  ·refine ⟨_,_,_,⟨i+1,_,rfl,hlt,?_,rfl,rfl⟩,by omega,rfl,rfl,⟨rfl,rfl,nd (Y hlt hs),trivial⟩,trivial,trivial⟩
   rw[hr,bN hlt]
   simp only[aE,h2,cond_false]
 ·refine nd ?_
  rw[hr,List.drop_of_length_le (Z h1)];rfl
theorem rl (xs:List GateMend) (n:Int):Spec P 40 [.d (af xs),.d (.int .i64 n)] (.d (.int .i64 (dp xs n))):=ry xs n
def cB (x:GateTeam) (n:Int):Int:=aE (IntKind.i64.wrap (n - (x.name.length:Int))) fun n=>aE (IntKind.i64.wrap (n - (x.over.length:Int))) fun n=>n
theorem uc (x:GateTeam) (n:Int):Spec P 109 [st x.e,.d (.int .i64 n)] (.d (.int .i64 (aE (IntKind.i64.wrap (n - (x.name.length:Int))) fun n=>aE (IntKind.i64.wrap (n - (x.over.length:Int))) fun n=>n))):=by
 refine Spec.of_vc aG au [.tmp 4] Tryz.func109 rfl rfl rfl rfl (fun hok=>?_)
 refine aj (fun h=>nd (by simp only[aE,h, *,cond_true,cond_false])) (fun h0=>?_)
 refine aj (fun h=>nd (by simp only[aE,h, *,cond_true,cond_false])) (fun h1=>?_)
 exact nd (by simp only[aE, *,cond_true,cond_false])
theorem t8 (x:GateTeam) (n:Int):Spec P 109 [st x.e,.d (.int .i64 n)] (.d (.int .i64 (cB x n))):=uc x n
def d6 (xs:List GateTeam) (n:Int):Int:=aE (IntKind.i64.wrap (n - ((xs.map GateTeam.e).length:Int))) fun n=>gA cB xs n
theorem rq (xs:List GateTeam) (n:Int):Spec P 41 [.d (al xs),.d (.int .i64 n)] (.d (.int .i64 (aE (IntKind.i64.wrap (n - ((xs.map GateTeam.e).length:Int))) fun n=>gA cB xs n))):=by
 refine Spec.of_vc aG au [.tmp 4] Tryz.func41 rfl rfl rfl rfl (fun hok=>?_)
 have hs:xs.length≤ap:=by have:=hok.1.1;rwa [List.length_map] at this
 refine aj (fun h=>nd (by simp only[aE,h,cond_true,cond_false])) (fun h=>?_)
 simp only[aE,h,cond_true,cond_false]
 refine ⟨fun k l h=>∃(i:Nat) (v:Int),k=xs.length - i∧i≤xs.length∧gA cB xs (IntKind.i64.wrap (n - ((xs.map GateTeam.e).length:Int)))=gA cB (xs.drop i) v∧l=[(0,.d (al xs)),(1,.d (.int .i64 v)),(5,.d (.int .i64 i))]∧h=hp0,
  ⟨_,_,_,⟨0,_,rfl,Nat.zero_le _,rfl,rfl,rfl⟩,rfl,rfl,⟨rfl,rfl,rfl,trivial⟩,trivial,trivial⟩,?_⟩
 rintro k l h1 ⟨i,v,rfl,hi,hr,rfl,rfl⟩
 refine aj ?_ ?_<;>intro h1
 ·have hlt:i<xs.length:=V h1
  repeat refine ai ?_
  refine U (e:=GateTeam.e) (xs:=xs) (hlt) rfl ?_
  repeat refine ai ?_
  refine oc (t8 _ _) ?_
  refine aj ?_ ?_<;>intro h2
  ·refine nd ?_
   rw[hr,bN hlt]
   simp only[aE,h2,cond_true]
  ·refine ⟨_,_,_,⟨i+1,_,rfl,hlt,?_,rfl,rfl⟩,by omega,rfl,rfl,⟨rfl,rfl,nd (Y hlt hs),trivial⟩,trivial,trivial⟩
   rw[hr,bN hlt]
   simp only[aE,h2,cond_false]
 ·refine nd ?_
  rw[hr,List.drop_of_length_le (Z h1)];rfl
theorem rh (xs:List GateTeam) (n:Int):Spec P 41 [.d (al xs),.d (.int .i64 n)] (.d (.int .i64 (d6 xs n))):=rq xs n
def eG (x:GateLaw) (n:Int):Int:=aE (cq x.shapes n) fun n=>aE (dp x.mends n) fun n=>aE (d6 x.teams n) fun n=>n
theorem vT (x:GateLaw) (n:Int):Spec P 11 [st x.e,.d (.int .i64 n)] (.d (.int .i64 (aE (cq x.shapes n) fun n=>aE (dp x.mends n) fun n=>aE (d6 x.teams n) fun n=>n))):=by
 refine Spec.of_vc aG au [.tmp 4] Tryz.func11 rfl rfl rfl rfl (fun hok=>?_)
 repeat refine ai ?_
 refine oc (pv _ _) ?_
 refine aj (fun h=>nd (by simp only[aE,h, *,cond_true,cond_false])) (fun h0=>?_)
 repeat refine ai ?_
 refine oc (rl _ _) ?_
 refine aj (fun h=>nd (by simp only[aE,h, *,cond_true,cond_false])) (fun h1=>?_)
 repeat refine ai ?_
 refine oc (rh _ _) ?_
 refine aj (fun h=>nd (by simp only[aE,h, *,cond_true,cond_false])) (fun h2=>?_)
 exact nd (by simp only[aE, *,cond_true,cond_false])
theorem vR (x:GateLaw) (n:Int):Spec P 11 [st x.e,.d (.int .i64 n)] (.d (.int .i64 (eG x n))):=vT x n
def bV (x:GateObject) (n:Int):Int:=aE (IntKind.i64.wrap (n - (x.kind.length:Int))) fun n=>aE (IntKind.i64.wrap (n - (x.name.length:Int))) fun n=>aE (IntKind.i64.wrap (n - (x.team.length:Int))) fun n=>aE (aX x.values n) fun n=>aE (aX x.holds n) fun n=>n
theorem pD (x:GateObject) (n:Int):Spec P 110 [st x.e,.d (.int .i64 n)] (.d (.int .i64 (aE (IntKind.i64.wrap (n - (x.kind.length:Int))) fun n=>aE (IntKind.i64.wrap (n - (x.name.length:Int))) fun n=>aE (IntKind.i64.wrap (n - (x.team.length:Int))) fun n=>aE (aX x.values n) fun n=>aE (aX x.holds n) fun n=>n))):=by
 refine Spec.of_vc aG au [.tmp 4] Tryz.func110 rfl rfl rfl rfl (fun hok=>?_)
 refine aj (fun h=>nd (by simp only[aE,h, *,cond_true,cond_false])) (fun h0=>?_)
 refine aj (fun h=>nd (by simp only[aE,h, *,cond_true,cond_false])) (fun h1=>?_)
 refine aj (fun h=>nd (by simp only[aE,h, *,cond_true,cond_false])) (fun h2=>?_)
 repeat refine ai ?_
 refine oc (js _ _) ?_
 refine aj (fun h=>nd (by simp only[aE,h, *,cond_true,cond_false])) (fun h3=>?_)
 repeat refine ai ?_
 refine oc (js _ _) ?_
 refine aj (fun h=>nd (by simp only[aE,h, *,cond_true,cond_false])) (fun h4=>?_)
 exact nd (by simp only[aE, *,cond_true,cond_false])
theorem px (x:GateObject) (n:Int):Spec P 110 [st x.e,.d (.int .i64 n)] (.d (.int .i64 (bV x n))):=pD x n
def bI (xs:List GateObject) (n:Int):Int:=aE (IntKind.i64.wrap (n - ((xs.map GateObject.e).length:Int))) fun n=>gA bV xs n
theorem nY (xs:List GateObject) (n:Int):Spec P 42 [.d (aF xs),.d (.int .i64 n)] (.d (.int .i64 (aE (IntKind.i64.wrap (n - ((xs.map GateObject.e).length:Int))) fun n=>gA bV xs n))):=by
 refine Spec.of_vc aG au [.tmp 4] Tryz.func42 rfl rfl rfl rfl (fun hok=>?_)
 have hs:xs.length≤ap:=by have:=hok.1.1;rwa [List.length_map] at this
 refine aj (fun h=>nd (by simp only[aE,h,cond_true,cond_false])) (fun h=>?_)
 simp only[aE,h,cond_true,cond_false]
 refine ⟨fun k l h=>∃(i:Nat) (v:Int),k=xs.length - i∧i≤xs.length∧gA bV xs (IntKind.i64.wrap (n - ((xs.map GateObject.e).length:Int)))=gA bV (xs.drop i) v∧l=[(0,.d (aF xs)),(1,.d (.int .i64 v)),(5,.d (.int .i64 i))]∧h=hp0,
  ⟨_,_,_,⟨0,_,rfl,Nat.zero_le _,rfl,rfl,rfl⟩,rfl,rfl,⟨rfl,rfl,rfl,trivial⟩,trivial,trivial⟩,?_⟩
 rintro k l h1 ⟨i,v,rfl,hi,hr,rfl,rfl⟩
 refine aj ?_ ?_<;>intro h1
 ·have hlt:i<xs.length:=V h1
  repeat refine ai ?_
  refine U (e:=GateObject.e) (xs:=xs) (hlt) rfl ?_
  repeat refine ai ?_
  refine oc (px _ _) ?_
  refine aj ?_ ?_<;>intro h2
  ·refine nd ?_
   rw[hr,bN hlt]
   simp only[aE,h2,cond_true]
  ·refine ⟨_,_,_,⟨i+1,_,rfl,hlt,?_,rfl,rfl⟩,by omega,rfl,rfl,⟨rfl,rfl,nd (Y hlt hs),trivial⟩,trivial,trivial⟩
   rw[hr,bN hlt]
   simp only[aE,h2,cond_false]
 ·refine nd ?_
  rw[hr,List.drop_of_length_le (Z h1)];rfl
theorem nW (xs:List GateObject) (n:Int):Spec P 42 [.d (aF xs),.d (.int .i64 n)] (.d (.int .i64 (bI xs n))):=nY xs n
def dN (x:GateRule) (n:Int):Int:=aE (dk x.verbs n) fun n=>aE (IntKind.i64.wrap (n - (x.kind.length:Int))) fun n=>aE (IntKind.i64.wrap (n - (x.team.length:Int))) fun n=>aE (IntKind.i64.wrap (n - (x.prefix_.length:Int))) fun n=>n
theorem ud (x:GateRule) (n:Int):Spec P 169 [st x.e,.d (.int .i64 n)] (.d (.int .i64 (aE (dk x.verbs n) fun n=>aE (IntKind.i64.wrap (n - (x.kind.length:Int))) fun n=>aE (IntKind.i64.wrap (n - (x.team.length:Int))) fun n=>aE (IntKind.i64.wrap (n - (x.prefix_.length:Int))) fun n=>n))):=by
 refine Spec.of_vc aG au [.tmp 4] Tryz.func169 rfl rfl rfl rfl (fun hok=>?_)
 repeat refine ai ?_
 refine oc (AQ _ _) ?_
 refine aj (fun h=>nd (by simp only[aE,h, *,cond_true,cond_false])) (fun h0=>?_)
 refine aj (fun h=>nd (by simp only[aE,h, *,cond_true,cond_false])) (fun h1=>?_)
 refine aj (fun h=>nd (by simp only[aE,h, *,cond_true,cond_false])) (fun h2=>?_)
 refine aj (fun h=>nd (by simp only[aE,h, *,cond_true,cond_false])) (fun h3=>?_)
 exact nd (by simp only[aE, *,cond_true,cond_false])
theorem t9 (x:GateRule) (n:Int):Spec P 169 [st x.e,.d (.int .i64 n)] (.d (.int .i64 (dN x n))):=ud x n
def cm (x:GateGrant) (n:Int):Int:=aE (IntKind.i64.wrap (n - (x.to_.length:Int))) fun n=>aE (IntKind.i64.wrap (n - (x.by_.length:Int))) fun n=>aE (dN x.rule n) fun n=>n
theorem rz (x:GateGrant) (n:Int):Spec P 111 [st x.e,.d (.int .i64 n)] (.d (.int .i64 (aE (IntKind.i64.wrap (n - (x.to_.length:Int))) fun n=>aE (IntKind.i64.wrap (n - (x.by_.length:Int))) fun n=>aE (dN x.rule n) fun n=>n))):=by
 refine Spec.of_vc aG au [.tmp 4] Tryz.func111 rfl rfl rfl rfl (fun hok=>?_)
 refine aj (fun h=>nd (by simp only[aE,h, *,cond_true,cond_false])) (fun h0=>?_)
 refine aj (fun h=>nd (by simp only[aE,h, *,cond_true,cond_false])) (fun h1=>?_)
 repeat refine ai ?_
 refine oc (t9 _ _) ?_
 refine aj (fun h=>nd (by simp only[aE,h, *,cond_true,cond_false])) (fun h2=>?_)
 exact nd (by simp only[aE, *,cond_true,cond_false])
theorem rm (x:GateGrant) (n:Int):Spec P 111 [st x.e,.d (.int .i64 n)] (.d (.int .i64 (cm x n))):=rz x n
def cr (xs:List GateGrant) (n:Int):Int:=aE (IntKind.i64.wrap (n - ((xs.map GateGrant.e).length:Int))) fun n=>gA cm xs n
theorem pF (xs:List GateGrant) (n:Int):Spec P 43 [.d (bn xs),.d (.int .i64 n)] (.d (.int .i64 (aE (IntKind.i64.wrap (n - ((xs.map GateGrant.e).length:Int))) fun n=>gA cm xs n))):=by
 refine Spec.of_vc aG au [.tmp 4] Tryz.func43 rfl rfl rfl rfl (fun hok=>?_)
 have hs:xs.length≤ap:=by have:=hok.1.1;rwa [List.length_map] at this
 refine aj (fun h=>nd (by simp only[aE,h,cond_true,cond_false])) (fun h=>?_)
 simp only[aE,h,cond_true,cond_false]
 refine ⟨fun k l h=>∃(i:Nat) (v:Int),k=xs.length - i∧i≤xs.length∧gA cm xs (IntKind.i64.wrap (n - ((xs.map GateGrant.e).length:Int)))=gA cm (xs.drop i) v∧l=[(0,.d (bn xs)),(1,.d (.int .i64 v)),(5,.d (.int .i64 i))]∧h=hp0,
  ⟨_,_,_,⟨0,_,rfl,Nat.zero_le _,rfl,rfl,rfl⟩,rfl,rfl,⟨rfl,rfl,rfl,trivial⟩,trivial,trivial⟩,?_⟩
 rintro k l h1 ⟨i,v,rfl,hi,hr,rfl,rfl⟩
 refine aj ?_ ?_<;>intro h1
 ·have hlt:i<xs.length:=V h1
  repeat refine ai ?_
  refine U (e:=GateGrant.e) (xs:=xs) (hlt) rfl ?_
  repeat refine ai ?_
  refine oc (rm _ _) ?_
  refine aj ?_ ?_<;>intro h2
  ·refine nd ?_
   rw[hr,bN hlt]
   simp only[aE,h2,cond_true]
  ·refine ⟨_,_,_,⟨i+1,_,rfl,hlt,?_,rfl,rfl⟩,by omega,rfl,rfl,⟨rfl,rfl,nd (Y hlt hs),trivial⟩,trivial,trivial⟩
   rw[hr,bN hlt]
   simp only[aE,h2,cond_false]
 ·refine nd ?_
  rw[hr,List.drop_of_length_le (Z h1)];rfl
theorem pz (xs:List GateGrant) (n:Int):Spec P 43 [.d (bn xs),.d (.int .i64 n)] (.d (.int .i64 (cr xs n))):=pF xs n
def bW (x:GateLedger) (n:Int):Int:=aE (IntKind.i64.wrap (n - (x.team.length:Int))) fun n=>aE (IntKind.i64.wrap (n - (x.resource.length:Int))) fun n=>n
theorem pE (x:GateLedger) (n:Int):Spec P 112 [st x.e,.d (.int .i64 n)] (.d (.int .i64 (aE (IntKind.i64.wrap (n - (x.team.length:Int))) fun n=>aE (IntKind.i64.wrap (n - (x.resource.length:Int))) fun n=>n))):=by
 refine Spec.of_vc aG au [.tmp 4] Tryz.func112 rfl rfl rfl rfl (fun hok=>?_)
 refine aj (fun h=>nd (by simp only[aE,h, *,cond_true,cond_false])) (fun h0=>?_)
 refine aj (fun h=>nd (by simp only[aE,h, *,cond_true,cond_false])) (fun h1=>?_)
 exact nd (by simp only[aE, *,cond_true,cond_false])
theorem py (x:GateLedger) (n:Int):Spec P 112 [st x.e,.d (.int .i64 n)] (.d (.int .i64 (bW x n))):=pE x n
def cz (xs:List GateLedger) (n:Int):Int:=aE (IntKind.i64.wrap (n - ((xs.map GateLedger.e).length:Int))) fun n=>gA bW xs n
theorem nZ (xs:List GateLedger) (n:Int):Spec P 44 [.d (aV xs),.d (.int .i64 n)] (.d (.int .i64 (aE (IntKind.i64.wrap (n - ((xs.map GateLedger.e).length:Int))) fun n=>gA bW xs n))):=by
 refine Spec.of_vc aG au [.tmp 4] Tryz.func44 rfl rfl rfl rfl (fun hok=>?_)
 have hs:xs.length≤ap:=by have:=hok.1.1;rwa [List.length_map] at this
 refine aj (fun h=>nd (by simp only[aE,h,cond_true,cond_false])) (fun h=>?_)
 simp only[aE,h,cond_true,cond_false]
 refine ⟨fun k l h=>∃(i:Nat) (v:Int),k=xs.length - i∧i≤xs.length∧gA bW xs (IntKind.i64.wrap (n - ((xs.map GateLedger.e).length:Int)))=gA bW (xs.drop i) v∧l=[(0,.d (aV xs)),(1,.d (.int .i64 v)),(5,.d (.int .i64 i))]∧h=hp0,
  ⟨_,_,_,⟨0,_,rfl,Nat.zero_le _,rfl,rfl,rfl⟩,rfl,rfl,⟨rfl,rfl,rfl,trivial⟩,trivial,trivial⟩,?_⟩
 rintro k l h1 ⟨i,v,rfl,hi,hr,rfl,rfl⟩
 refine aj ?_ ?_<;>intro h1
 ·have hlt:i<xs.length:=V h1
  repeat refine ai ?_
  refine U (e:=GateLedger.e) (xs:=xs) (hlt) rfl ?_
  repeat refine ai ?_
  refine oc (py _ _) ?_
  refine aj ?_ ?_<;>intro h2
  ·refine nd ?_
   rw[hr,bN hlt]
   simp only[aE,h2,cond_true]
  ·refine ⟨_,_,_,⟨i+1,_,rfl,hlt,?_,rfl,rfl⟩,by omega,rfl,rfl,⟨rfl,rfl,nd (Y hlt hs),trivial⟩,trivial,trivial⟩
   rw[hr,bN hlt]
   simp only[aE,h2,cond_false]
 ·refine nd ?_
  rw[hr,List.drop_of_length_le (Z h1)];rfl
theorem nX (xs:List GateLedger) (n:Int):Spec P 44 [.d (aV xs),.d (.int .i64 n)] (.d (.int .i64 (cz xs n))):=nZ xs n
def cl (x:GatePurse) (n:Int):Int:=aE (IntKind.i64.wrap (n - (x.door.length:Int))) fun n=>aE (IntKind.i64.wrap (n - (x.team.length:Int))) fun n=>aE (IntKind.i64.wrap (n - (x.resource.length:Int))) fun n=>n
theorem rx (x:GatePurse) (n:Int):Spec P 113 [st x.e,.d (.int .i64 n)] (.d (.int .i64 (aE (IntKind.i64.wrap (n - (x.door.length:Int))) fun n=>aE (IntKind.i64.wrap (n - (x.team.length:Int))) fun n=>aE (IntKind.i64.wrap (n - (x.resource.length:Int))) fun n=>n))):=by
 refine Spec.of_vc aG au [.tmp 4] Tryz.func113 rfl rfl rfl rfl (fun hok=>?_)
 refine aj (fun h=>nd (by simp only[aE,h, *,cond_true,cond_false])) (fun h0=>?_)
 refine aj (fun h=>nd (by simp only[aE,h, *,cond_true,cond_false])) (fun h1=>?_)
 refine aj (fun h=>nd (by simp only[aE,h, *,cond_true,cond_false])) (fun h2=>?_)
 exact nd (by simp only[aE, *,cond_true,cond_false])
theorem rj (x:GatePurse) (n:Int):Spec P 113 [st x.e,.d (.int .i64 n)] (.d (.int .i64 (cl x n))):=rx x n
def dE (xs:List GatePurse) (n:Int):Int:=aE (IntKind.i64.wrap (n - ((xs.map GatePurse.e).length:Int))) fun n=>gA cl xs n
theorem pC (xs:List GatePurse) (n:Int):Spec P 45 [.d (bk xs),.d (.int .i64 n)] (.d (.int .i64 (aE (IntKind.i64.wrap (n - ((xs.map GatePurse.e).length:Int))) fun n=>gA cl xs n))):=by
 refine Spec.of_vc aG au [.tmp 4] Tryz.func45 rfl rfl rfl rfl (fun hok=>?_)
 have hs:xs.length≤ap:=by have:=hok.1.1;rwa [List.length_map] at this
 refine aj (fun h=>nd (by simp only[aE,h,cond_true,cond_false])) (fun h=>?_)
 simp only[aE,h,cond_true,cond_false]
 refine ⟨fun k l h=>∃(i:Nat) (v:Int),k=xs.length - i∧i≤xs.length∧gA cl xs (IntKind.i64.wrap (n - ((xs.map GatePurse.e).length:Int)))=gA cl (xs.drop i) v∧l=[(0,.d (bk xs)),(1,.d (.int .i64 v)),(5,.d (.int .i64 i))]∧h=hp0,
  ⟨_,_,_,⟨0,_,rfl,Nat.zero_le _,rfl,rfl,rfl⟩,rfl,rfl,⟨rfl,rfl,rfl,trivial⟩,trivial,trivial⟩,?_⟩
 rintro k l h1 ⟨i,v,rfl,hi,hr,rfl,rfl⟩
 refine aj ?_ ?_<;>intro h1
 ·have hlt:i<xs.length:=V h1
  repeat refine ai ?_
  refine U (e:=GatePurse.e) (xs:=xs) (hlt) rfl ?_
  repeat refine ai ?_
  refine oc (rj _ _) ?_
  refine aj ?_ ?_<;>intro h2
  ·refine nd ?_
   rw[hr,bN hlt]
   simp only[aE,h2,cond_true]
  ·refine ⟨_,_,_,⟨i+1,_,rfl,hlt,?_,rfl,rfl⟩,by omega,rfl,rfl,⟨rfl,rfl,nd (Y hlt hs),trivial⟩,trivial,trivial⟩
   rw[hr,bN hlt]
   simp only[aE,h2,cond_false]
 ·refine nd ?_
  rw[hr,List.drop_of_length_le (Z h1)];rfl
theorem pw (xs:List GatePurse) (n:Int):Spec P 45 [.d (bk xs),.d (.int .i64 n)] (.d (.int .i64 (dE xs n))):=pC xs n
def eQ (x:GateBook) (n:Int):Int:=aE (bI x.objects n) fun n=>aE (cr x.grants n) fun n=>aE (cz x.ledgers n) fun n=>aE (dE x.purses n) fun n=>n
theorem uf (x:GateBook) (n:Int):Spec P 12 [st x.e,.d (.int .i64 n)] (.d (.int .i64 (aE (bI x.objects n) fun n=>aE (cr x.grants n) fun n=>aE (cz x.ledgers n) fun n=>aE (dE x.purses n) fun n=>n))):=by
 refine Spec.of_vc aG au [.tmp 4] Tryz.func12 rfl rfl rfl rfl (fun hok=>?_)
 repeat refine ai ?_
 refine oc (nW _ _) ?_
 refine aj (fun h=>nd (by simp only[aE,h, *,cond_true,cond_false])) (fun h0=>?_)
 repeat refine ai ?_
 refine oc (pz _ _) ?_
 refine aj (fun h=>nd (by simp only[aE,h, *,cond_true,cond_false])) (fun h1=>?_)
 repeat refine ai ?_
 refine oc (nX _ _) ?_
 refine aj (fun h=>nd (by simp only[aE,h, *,cond_true,cond_false])) (fun h2=>?_)
 repeat refine ai ?_
 refine oc (pw _ _) ?_
 refine aj (fun h=>nd (by simp only[aE,h, *,cond_true,cond_false])) (fun h3=>?_)
 exact nd (by simp only[aE, *,cond_true,cond_false])
theorem ub (x:GateBook) (n:Int):Spec P 12 [st x.e,.d (.int .i64 n)] (.d (.int .i64 (eQ x n))):=uf x n
theorem kI (xs:List Bs):Spec P 179 [.d (lS xs)] (.d (lS xs)):=by
 refine Spec.of_vc aG au [.tmp 2] Tryz.func179 rfl rfl rfl rfl (fun hok=>?_)
 have hs:xs.length≤ap:=by have:=hok.1.1;rwa [List.length_map] at this
 repeat refine ai ?_
 refine aj (Int.natCast_nonneg _) (aj (Int.le_refl _) (aj (dH hs) ?_))
 refine ⟨fun k l h=>∃i:Nat,k=xs.length - i∧i≤xs.length∧l=[(0,.d (lS xs)),(3,.own 0),(4,.d (.int .i64 i))]∧h=⟨[(0,.row 9 [D.str []].length (bc eB xs [D.str []] i))],1,0⟩,
  ⟨_,_,_,⟨0,rfl,Nat.zero_le _,rfl,rfl⟩,rfl,rfl,⟨rfl,rfl,rfl,trivial⟩,⟨rfl,trivial⟩,⟨bR,trivial⟩⟩,?_⟩
 rintro k l h1 ⟨i,rfl,hi,rfl,rfl⟩
 refine aj ?_ ?_<;>intro h1
 ·have hlt:i<xs.length:=V h1
  repeat refine ai ?_
  refine U (e:=eB) (xs:=xs) (hlt) rfl ?_
  repeat refine ai ?_
  refine aj (Int.natCast_nonneg _) (aj (by rw[aR hi];omega) ?_)
  repeat refine ai ?_
  refine ⟨_,aS hlt,Nat.le_refl _,?_⟩
  exact ⟨_,_,_,⟨i+1,rfl,hlt,rfl,rfl⟩,by omega,rfl,rfl,⟨rfl,rfl,nd (Y hlt hs),trivial⟩,⟨rfl,trivial⟩,⟨ct hlt rfl,trivial⟩⟩
 ·exact ld (cu (Z h1) hi)
theorem Cg (xs:List Int):Spec P 209 [.d (lI xs)] (.d (lI xs)):=by
 refine Spec.of_vc aG au [.tmp 2] Tryz.func209 rfl rfl rfl rfl (fun hok=>?_)
 have hs:xs.length≤ap:=by have:=hok.1.1;rwa [List.length_map] at this
 repeat refine ai ?_
 refine aj (Int.natCast_nonneg _) (aj (Int.le_refl _) (aj (dH hs) ?_))
 refine ⟨fun k l h=>∃i:Nat,k=xs.length - i∧i≤xs.length∧l=[(0,.d (lI xs)),(3,.own 0),(4,.d (.int .i64 i))]∧h=⟨[(0,.row 3 [D.int .i64 0].length (bc eN xs [D.int .i64 0] i))],1,0⟩,
  ⟨_,_,_,⟨0,rfl,Nat.zero_le _,rfl,rfl⟩,rfl,rfl,⟨rfl,rfl,rfl,trivial⟩,⟨rfl,trivial⟩,⟨bR,trivial⟩⟩,?_⟩
 rintro k l h1 ⟨i,rfl,hi,rfl,rfl⟩
 refine aj ?_ ?_<;>intro h1
 ·have hlt:i<xs.length:=V h1
  repeat refine ai ?_
  refine U (e:=eN) (xs:=xs) (hlt) rfl ?_
  repeat refine ai ?_
  refine aj (Int.natCast_nonneg _) (aj (by rw[aR hi];omega) ?_)
  repeat refine ai ?_
  refine ⟨_,aS hlt,Nat.le_refl _,?_⟩
  exact ⟨_,_,_,⟨i+1,rfl,hlt,rfl,rfl⟩,by omega,rfl,rfl,⟨rfl,rfl,nd (Y hlt hs),trivial⟩,⟨rfl,trivial⟩,⟨ct hlt rfl,trivial⟩⟩
 ·exact ld (cu (Z h1) hi)
def GateField.z:List D:=[.str [],.int .i64 0,.int .i64 0,.int .i64 0,.list [],.str [],.int .i64 0,.bool false,.bool false,.str [],.str []]
theorem tW (x:GateField):Spec P 208 [st x.e] (st x.e):=by
 refine Spec.of_vc aG au [.cell 2 138] Tryz.func208 rfl rfl rfl rfl (fun hok=>?_)
 repeat refine ai ?_
 refine oc (kI _) ?_
 repeat refine ai ?_
 rfl
theorem q9 (xs:List GateField):Spec P 178 [.d (ab xs)] (.d (ab xs)):=by
 refine Spec.of_vc aG au [.tmp 2] Tryz.func178 rfl rfl rfl rfl (fun hok=>?_)
 have hs:xs.length≤ap:=by have:=hok.1.1;rwa [List.length_map] at this
 repeat refine ai ?_
 refine aj (Int.natCast_nonneg _) (aj (Int.le_refl _) (aj (dH hs) ?_))
 refine ⟨fun k l h=>∃i:Nat,k=xs.length - i∧i≤xs.length∧l=[(0,.d (ab xs)),(3,.own 0),(4,.d (.int .i64 i))]∧h=⟨[(0,.row 138 GateField.z.length (bc GateField.e xs GateField.z i))],1,0⟩,
  ⟨_,_,_,⟨0,rfl,Nat.zero_le _,rfl,rfl⟩,rfl,rfl,⟨rfl,rfl,rfl,trivial⟩,⟨rfl,trivial⟩,⟨bR,trivial⟩⟩,?_⟩
 rintro k l h1 ⟨i,rfl,hi,rfl,rfl⟩
 refine aj ?_ ?_<;>intro h1
 ·have hlt:i<xs.length:=V h1
  repeat refine ai ?_
  refine U (e:=GateField.e) (xs:=xs) (hlt) rfl ?_
  repeat refine ai ?_
  refine oc (tW _) ?_
  repeat refine ai ?_
  refine aj (Int.natCast_nonneg _) (aj (by rw[aR hi];omega) ?_)
  repeat refine ai ?_
  refine ⟨_,aS hlt,Nat.le_refl _,?_⟩
  exact ⟨_,_,_,⟨i+1,rfl,hlt,rfl,rfl⟩,by omega,rfl,rfl,⟨rfl,rfl,nd (Y hlt hs),trivial⟩,⟨rfl,trivial⟩,⟨ct hlt rfl,trivial⟩⟩
 ·exact ld (cu (Z h1) hi)
def GateShape.z:List D:=[.str [],.list []]
theorem tT (x:GateShape):Spec P 118 [st x.e] (st x.e):=by
 refine Spec.of_vc aG au [.cell 2 164] Tryz.func118 rfl rfl rfl rfl (fun hok=>?_)
 repeat refine ai ?_
 refine oc (q9 _) ?_
 repeat refine ai ?_
 rfl
theorem qW (xs:List GateShape):Spec P 48 [.d (aa xs)] (.d (aa xs)):=by
 refine Spec.of_vc aG au [.tmp 2] Tryz.func48 rfl rfl rfl rfl (fun hok=>?_)
 have hs:xs.length≤ap:=by have:=hok.1.1;rwa [List.length_map] at this
 repeat refine ai ?_
 refine aj (Int.natCast_nonneg _) (aj (Int.le_refl _) (aj (dH hs) ?_))
 refine ⟨fun k l h=>∃i:Nat,k=xs.length - i∧i≤xs.length∧l=[(0,.d (aa xs)),(3,.own 0),(4,.d (.int .i64 i))]∧h=⟨[(0,.row 164 GateShape.z.length (bc GateShape.e xs GateShape.z i))],1,0⟩,
  ⟨_,_,_,⟨0,rfl,Nat.zero_le _,rfl,rfl⟩,rfl,rfl,⟨rfl,rfl,rfl,trivial⟩,⟨rfl,trivial⟩,⟨bR,trivial⟩⟩,?_⟩
 rintro k l h1 ⟨i,rfl,hi,rfl,rfl⟩
 refine aj ?_ ?_<;>intro h1
 ·have hlt:i<xs.length:=V h1
  repeat refine ai ?_
  refine U (e:=GateShape.e) (xs:=xs) (hlt) rfl ?_
  repeat refine ai ?_
  refine oc (tT _) ?_
  repeat refine ai ?_
  refine aj (Int.natCast_nonneg _) (aj (by rw[aR hi];omega) ?_)
  repeat refine ai ?_
  refine ⟨_,aS hlt,Nat.le_refl _,?_⟩
  exact ⟨_,_,_,⟨i+1,rfl,hlt,rfl,rfl⟩,by omega,rfl,rfl,⟨rfl,rfl,nd (Y hlt hs),trivial⟩,⟨rfl,trivial⟩,⟨ct hlt rfl,trivial⟩⟩
 ·exact ld (cu (Z h1) hi)
def GateMend.z:List D:=[.str [],.str [],.str [],.str [],.str [],.str []]
theorem nB (x:GateMend):Spec P 119 [st x.e] (st x.e):=by
 refine Spec.of_vc aG au [.cell 2 166] Tryz.func119 rfl rfl rfl rfl (fun hok=>?_)
 repeat refine ai ?_
 rfl
theorem tU (xs:List GateMend):Spec P 49 [.d (af xs)] (.d (af xs)):=by
 refine Spec.of_vc aG au [.tmp 2] Tryz.func49 rfl rfl rfl rfl (fun hok=>?_)
 have hs:xs.length≤ap:=by have:=hok.1.1;rwa [List.length_map] at this
 repeat refine ai ?_
 refine aj (Int.natCast_nonneg _) (aj (Int.le_refl _) (aj (dH hs) ?_))
 refine ⟨fun k l h=>∃i:Nat,k=xs.length - i∧i≤xs.length∧l=[(0,.d (af xs)),(3,.own 0),(4,.d (.int .i64 i))]∧h=⟨[(0,.row 166 GateMend.z.length (bc GateMend.e xs GateMend.z i))],1,0⟩,
  ⟨_,_,_,⟨0,rfl,Nat.zero_le _,rfl,rfl⟩,rfl,rfl,⟨rfl,rfl,rfl,trivial⟩,⟨rfl,trivial⟩,⟨bR,trivial⟩⟩,?_⟩
 rintro k l h1 ⟨i,rfl,hi,rfl,rfl⟩
 refine aj ?_ ?_<;>intro h1
 ·have hlt:i<xs.length:=V h1
  repeat refine ai ?_
  refine U (e:=GateMend.e) (xs:=xs) (hlt) rfl ?_
  repeat refine ai ?_
  refine oc (nB _) ?_
  repeat refine ai ?_
  refine aj (Int.natCast_nonneg _) (aj (by rw[aR hi];omega) ?_)
  repeat refine ai ?_
  refine ⟨_,aS hlt,Nat.le_refl _,?_⟩
  exact ⟨_,_,_,⟨i+1,rfl,hlt,rfl,rfl⟩,by omega,rfl,rfl,⟨rfl,rfl,nd (Y hlt hs),trivial⟩,⟨rfl,trivial⟩,⟨ct hlt rfl,trivial⟩⟩
 ·exact ld (cu (Z h1) hi)
def GateTeam.z:List D:=[.str [],.str []]
theorem nA (x:GateTeam):Spec P 120 [st x.e] (st x.e):=by
 refine Spec.of_vc aG au [.cell 2 168] Tryz.func120 rfl rfl rfl rfl (fun hok=>?_)
 repeat refine ai ?_
 rfl
theorem tS (xs:List GateTeam):Spec P 50 [.d (al xs)] (.d (al xs)):=by
 refine Spec.of_vc aG au [.tmp 2] Tryz.func50 rfl rfl rfl rfl (fun hok=>?_)
 have hs:xs.length≤ap:=by have:=hok.1.1;rwa [List.length_map] at this
 repeat refine ai ?_
 refine aj (Int.natCast_nonneg _) (aj (Int.le_refl _) (aj (dH hs) ?_))
 refine ⟨fun k l h=>∃i:Nat,k=xs.length - i∧i≤xs.length∧l=[(0,.d (al xs)),(3,.own 0),(4,.d (.int .i64 i))]∧h=⟨[(0,.row 168 GateTeam.z.length (bc GateTeam.e xs GateTeam.z i))],1,0⟩,
  ⟨_,_,_,⟨0,rfl,Nat.zero_le _,rfl,rfl⟩,rfl,rfl,⟨rfl,rfl,rfl,trivial⟩,⟨rfl,trivial⟩,⟨bR,trivial⟩⟩,?_⟩
 rintro k l h1 ⟨i,rfl,hi,rfl,rfl⟩
 refine aj ?_ ?_<;>intro h1
 ·have hlt:i<xs.length:=V h1
  repeat refine ai ?_
  refine U (e:=GateTeam.e) (xs:=xs) (hlt) rfl ?_
  repeat refine ai ?_
  refine oc (nA _) ?_
  repeat refine ai ?_
  refine aj (Int.natCast_nonneg _) (aj (by rw[aR hi];omega) ?_)
  repeat refine ai ?_
  refine ⟨_,aS hlt,Nat.le_refl _,?_⟩
  exact ⟨_,_,_,⟨i+1,rfl,hlt,rfl,rfl⟩,by omega,rfl,rfl,⟨rfl,rfl,nd (Y hlt hs),trivial⟩,⟨rfl,trivial⟩,⟨ct hlt rfl,trivial⟩⟩
 ·exact ld (cu (Z h1) hi)
def GateLaw.z:List D:=[.list [],.list [],.list []]
theorem kJ (x:GateLaw):Spec P 14 [st x.e] (st x.e):=by
 refine Spec.of_vc aG au [.cell 2 41] Tryz.func14 rfl rfl rfl rfl (fun hok=>?_)
 repeat refine ai ?_
 refine oc (qW _) ?_
 repeat refine ai ?_
 refine oc (tU _) ?_
 repeat refine ai ?_
 refine oc (tS _) ?_
 repeat refine ai ?_
 rfl
def GateObject.z:List D:=[.str [],.str [],.str [],.list [],.bool false,.list [],.int .i64 0]
theorem qY (x:GateObject):Spec P 121 [st x.e] (st x.e):=by
 refine Spec.of_vc aG au [.cell 2 103] Tryz.func121 rfl rfl rfl rfl (fun hok=>?_)
 repeat refine ai ?_
 refine oc (kI _) ?_
 repeat refine ai ?_
 refine oc (kI _) ?_
 repeat refine ai ?_
 rfl
theorem pj (xs:List GateObject):Spec P 51 [.d (aF xs)] (.d (aF xs)):=by
 refine Spec.of_vc aG au [.tmp 2] Tryz.func51 rfl rfl rfl rfl (fun hok=>?_)
 have hs:xs.length≤ap:=by have:=hok.1.1;rwa [List.length_map] at this
 repeat refine ai ?_
 refine aj (Int.natCast_nonneg _) (aj (Int.le_refl _) (aj (dH hs) ?_))
 refine ⟨fun k l h=>∃i:Nat,k=xs.length - i∧i≤xs.length∧l=[(0,.d (aF xs)),(3,.own 0),(4,.d (.int .i64 i))]∧h=⟨[(0,.row 103 GateObject.z.length (bc GateObject.e xs GateObject.z i))],1,0⟩,
  ⟨_,_,_,⟨0,rfl,Nat.zero_le _,rfl,rfl⟩,rfl,rfl,⟨rfl,rfl,rfl,trivial⟩,⟨rfl,trivial⟩,⟨bR,trivial⟩⟩,?_⟩
 rintro k l h1 ⟨i,rfl,hi,rfl,rfl⟩
 refine aj ?_ ?_<;>intro h1
 ·have hlt:i<xs.length:=V h1
  repeat refine ai ?_
  refine U (e:=GateObject.e) (xs:=xs) (hlt) rfl ?_
  repeat refine ai ?_
  refine oc (qY _) ?_
  repeat refine ai ?_
  refine aj (Int.natCast_nonneg _) (aj (by rw[aR hi];omega) ?_)
  repeat refine ai ?_
  refine ⟨_,aS hlt,Nat.le_refl _,?_⟩
  exact ⟨_,_,_,⟨i+1,rfl,hlt,rfl,rfl⟩,by omega,rfl,rfl,⟨rfl,rfl,nd (Y hlt hs),trivial⟩,⟨rfl,trivial⟩,⟨ct hlt rfl,trivial⟩⟩
 ·exact ld (cu (Z h1) hi)
def GateRule.z:List D:=[.list [],.str [],.str [],.str []]
theorem vP (x:GateRule):Spec P 180 [st x.e] (st x.e):=by
 refine Spec.of_vc aG au [.cell 2 171] Tryz.func180 rfl rfl rfl rfl (fun hok=>?_)
 repeat refine ai ?_
 refine oc (Cg _) ?_
 repeat refine ai ?_
 rfl
def GateGrant.z:List D:=[.int .i64 0,.str [],.str [],.list [],.str [],.str [],.str []]
theorem tV (x:GateGrant):Spec P 122 [st x.e] (st x.e):=by
 refine Spec.of_vc aG au [.cell 2 173] Tryz.func122 rfl rfl rfl rfl (fun hok=>?_)
 repeat refine ai ?_
 refine oc (vP _) ?_
 repeat refine ai ?_
 rfl
theorem qZ (xs:List GateGrant):Spec P 52 [.d (bn xs)] (.d (bn xs)):=by
 refine Spec.of_vc aG au [.tmp 2] Tryz.func52 rfl rfl rfl rfl (fun hok=>?_)
 have hs:xs.length≤ap:=by have:=hok.1.1;rwa [List.length_map] at this
 repeat refine ai ?_
 refine aj (Int.natCast_nonneg _) (aj (Int.le_refl _) (aj (dH hs) ?_))
 refine ⟨fun k l h=>∃i:Nat,k=xs.length - i∧i≤xs.length∧l=[(0,.d (bn xs)),(3,.own 0),(4,.d (.int .i64 i))]∧h=⟨[(0,.row 173 GateGrant.z.length (bc GateGrant.e xs GateGrant.z i))],1,0⟩,
  ⟨_,_,_,⟨0,rfl,Nat.zero_le _,rfl,rfl⟩,rfl,rfl,⟨rfl,rfl,rfl,trivial⟩,⟨rfl,trivial⟩,⟨bR,trivial⟩⟩,?_⟩
 rintro k l h1 ⟨i,rfl,hi,rfl,rfl⟩
 refine aj ?_ ?_<;>intro h1
 ·have hlt:i<xs.length:=V h1
  repeat refine ai ?_
  refine U (e:=GateGrant.e) (xs:=xs) (hlt) rfl ?_
  repeat refine ai ?_
  refine oc (tV _) ?_
  repeat refine ai ?_
  refine aj (Int.natCast_nonneg _) (aj (by rw[aR hi];omega) ?_)
  repeat refine ai ?_
  refine ⟨_,aS hlt,Nat.le_refl _,?_⟩
  exact ⟨_,_,_,⟨i+1,rfl,hlt,rfl,rfl⟩,by omega,rfl,rfl,⟨rfl,rfl,nd (Y hlt hs),trivial⟩,⟨rfl,trivial⟩,⟨ct hlt rfl,trivial⟩⟩
 ·exact ld (cu (Z h1) hi)
def GateLedger.z:List D:=[.str [],.str [],.int .i64 0,.int .i64 0]
theorem kn (x:GateLedger):Spec P 123 [st x.e] (st x.e):=by
 refine Spec.of_vc aG au [.cell 2 119] Tryz.func123 rfl rfl rfl rfl (fun hok=>?_)
 repeat refine ai ?_
 rfl
theorem pk (xs:List GateLedger):Spec P 53 [.d (aV xs)] (.d (aV xs)):=by
 refine Spec.of_vc aG au [.tmp 2] Tryz.func53 rfl rfl rfl rfl (fun hok=>?_)
 have hs:xs.length≤ap:=by have:=hok.1.1;rwa [List.length_map] at this
 repeat refine ai ?_
 refine aj (Int.natCast_nonneg _) (aj (Int.le_refl _) (aj (dH hs) ?_))
 refine ⟨fun k l h=>∃i:Nat,k=xs.length - i∧i≤xs.length∧l=[(0,.d (aV xs)),(3,.own 0),(4,.d (.int .i64 i))]∧h=⟨[(0,.row 119 GateLedger.z.length (bc GateLedger.e xs GateLedger.z i))],1,0⟩,
  ⟨_,_,_,⟨0,rfl,Nat.zero_le _,rfl,rfl⟩,rfl,rfl,⟨rfl,rfl,rfl,trivial⟩,⟨rfl,trivial⟩,⟨bR,trivial⟩⟩,?_⟩
 rintro k l h1 ⟨i,rfl,hi,rfl,rfl⟩
 refine aj ?_ ?_<;>intro h1
 ·have hlt:i<xs.length:=V h1
  repeat refine ai ?_
  refine U (e:=GateLedger.e) (xs:=xs) (hlt) rfl ?_
  repeat refine ai ?_
  refine oc (kn _) ?_
  repeat refine ai ?_
  refine aj (Int.natCast_nonneg _) (aj (by rw[aR hi];omega) ?_)
  repeat refine ai ?_
  refine ⟨_,aS hlt,Nat.le_refl _,?_⟩
  exact ⟨_,_,_,⟨i+1,rfl,hlt,rfl,rfl⟩,by omega,rfl,rfl,⟨rfl,rfl,nd (Y hlt hs),trivial⟩,⟨rfl,trivial⟩,⟨ct hlt rfl,trivial⟩⟩
 ·exact ld (cu (Z h1) hi)
def GatePurse.z:List D:=[.str [],.str [],.str [],.int .i64 0,.int .i64 0]
theorem lA (x:GatePurse):Spec P 124 [st x.e] (st x.e):=by
 refine Spec.of_vc aG au [.cell 2 109] Tryz.func124 rfl rfl rfl rfl (fun hok=>?_)
 repeat refine ai ?_
 rfl
theorem qX (xs:List GatePurse):Spec P 54 [.d (bk xs)] (.d (bk xs)):=by
 refine Spec.of_vc aG au [.tmp 2] Tryz.func54 rfl rfl rfl rfl (fun hok=>?_)
 have hs:xs.length≤ap:=by have:=hok.1.1;rwa [List.length_map] at this
 repeat refine ai ?_
 refine aj (Int.natCast_nonneg _) (aj (Int.le_refl _) (aj (dH hs) ?_))
 refine ⟨fun k l h=>∃i:Nat,k=xs.length - i∧i≤xs.length∧l=[(0,.d (bk xs)),(3,.own 0),(4,.d (.int .i64 i))]∧h=⟨[(0,.row 109 GatePurse.z.length (bc GatePurse.e xs GatePurse.z i))],1,0⟩,
  ⟨_,_,_,⟨0,rfl,Nat.zero_le _,rfl,rfl⟩,rfl,rfl,⟨rfl,rfl,rfl,trivial⟩,⟨rfl,trivial⟩,⟨bR,trivial⟩⟩,?_⟩
 rintro k l h1 ⟨i,rfl,hi,rfl,rfl⟩
 refine aj ?_ ?_<;>intro h1
 ·have hlt:i<xs.length:=V h1
  repeat refine ai ?_
  refine U (e:=GatePurse.e) (xs:=xs) (hlt) rfl ?_
  repeat refine ai ?_
  refine oc (lA _) ?_
  repeat refine ai ?_
  refine aj (Int.natCast_nonneg _) (aj (by rw[aR hi];omega) ?_)
  repeat refine ai ?_
  refine ⟨_,aS hlt,Nat.le_refl _,?_⟩
  exact ⟨_,_,_,⟨i+1,rfl,hlt,rfl,rfl⟩,by omega,rfl,rfl,⟨rfl,rfl,nd (Y hlt hs),trivial⟩,⟨rfl,trivial⟩,⟨ct hlt rfl,trivial⟩⟩
 ·exact ld (cu (Z h1) hi)
def GateBook.z:List D:=[.int .i64 0,.int .i64 0,.int .i64 0,.list [],.list [],.list [],.list []]
theorem jq (x:GateBook):Spec P 15 [st x.e] (st x.e):=by
 refine Spec.of_vc aG au [.cell 2 48] Tryz.func15 rfl rfl rfl rfl (fun hok=>?_)
 repeat refine ai ?_
 refine oc (pj _) ?_
 repeat refine ai ?_
 refine oc (qZ _) ?_
 repeat refine ai ?_
 refine oc (pk _) ?_
 repeat refine ai ?_
 refine oc (qX _) ?_
 repeat refine ai ?_
 rfl
theorem k9 (xs:List Bs):Spec P 189 [.d (lS xs),.d (lS xs)] (.d (.bool true)):=by
 refine Spec.of_vc aG au [.tmp 4] Tryz.func189 rfl rfl rfl rfl (fun hok=>?_)
 have hs:xs.length≤ap:=by have:=hok.1.1;rwa [List.length_map] at this
 repeat refine ai ?_
 refine an ?_
 refine ⟨fun k l h=>∃i:Nat,k=xs.length - i∧i≤xs.length∧l=[(0,.d (lS xs)),(1,.d (lS xs)),(5,.d (.int .i64 i))]∧h=hp0,
  ⟨_,_,_,⟨0,rfl,Nat.zero_le _,rfl,rfl⟩,rfl,rfl,⟨rfl,rfl,rfl,trivial⟩,trivial,trivial⟩,?_⟩
 rintro k l h1 ⟨i,rfl,hi,rfl,rfl⟩
 refine aj ?_ ?_<;>intro h1
 ·have hlt:i<xs.length:=V h1
  repeat refine ai ?_
  refine ak ?_
  repeat refine ai ?_
  refine U (e:=eB) (xs:=xs) (hlt) rfl ?_
  repeat refine ai ?_
  refine U (e:=eB) (xs:=xs) (hlt) rfl ?_
  repeat refine ai ?_
  refine an ?_
  exact ⟨_,_,_,⟨i+1,rfl,hlt,rfl,rfl⟩,by omega,rfl,rfl,⟨rfl,rfl,nd (Y hlt hs),trivial⟩,trivial,trivial⟩
 ·rfl
theorem o3 (xs:List Int):Spec P 17 [.d (lI xs),.d (lI xs)] (.d (.bool true)):=by
 refine Spec.of_vc aG au [.tmp 4] Tryz.func17 rfl rfl rfl rfl (fun hok=>?_)
 have hs:xs.length≤ap:=by have:=hok.1.1;rwa [List.length_map] at this
 repeat refine ai ?_
 refine an ?_
 refine ⟨fun k l h=>∃i:Nat,k=xs.length - i∧i≤xs.length∧l=[(0,.d (lI xs)),(1,.d (lI xs)),(5,.d (.int .i64 i))]∧h=hp0,
  ⟨_,_,_,⟨0,rfl,Nat.zero_le _,rfl,rfl⟩,rfl,rfl,⟨rfl,rfl,rfl,trivial⟩,trivial,trivial⟩,?_⟩
 rintro k l h1 ⟨i,rfl,hi,rfl,rfl⟩
 refine aj ?_ ?_<;>intro h1
 ·have hlt:i<xs.length:=V h1
  repeat refine ai ?_
  refine ak ?_
  repeat refine ai ?_
  refine U (e:=eN) (xs:=xs) (hlt) rfl ?_
  repeat refine ai ?_
  refine U (e:=eN) (xs:=xs) (hlt) rfl ?_
  repeat refine ai ?_
  refine an ?_
  exact ⟨_,_,_,⟨i+1,rfl,hlt,rfl,rfl⟩,by omega,rfl,rfl,⟨rfl,rfl,nd (Y hlt hs),trivial⟩,trivial,trivial⟩
 ·rfl
theorem vi (x:GateField):Spec P 218 [st x.e,st x.e] (.d (.bool true)):=by
 refine Spec.of_vc aG au [.tmp 4] Tryz.func218 rfl rfl rfl rfl (fun hok=>?_)
 repeat refine ai ?_
 refine an ?_
 repeat refine ai ?_
 refine an ?_
 repeat refine ai ?_
 refine an ?_
 repeat refine ai ?_
 refine an ?_
 repeat refine ai ?_
 refine oc (k9 _) ?_
 repeat refine ai ?_
 refine an ?_
 repeat refine ai ?_
 refine an ?_
 repeat refine ai ?_
 refine an ?_
 repeat refine ai ?_
 refine an ?_
 repeat refine ai ?_
 refine an ?_
 repeat refine ai ?_
 refine an ?_
 repeat refine ai ?_
 refine an ?_
 repeat refine ai ?_
 rfl
theorem rZ (xs:List GateField):Spec P 188 [.d (ab xs),.d (ab xs)] (.d (.bool true)):=by
 refine Spec.of_vc aG au [.tmp 4] Tryz.func188 rfl rfl rfl rfl (fun hok=>?_)
 have hs:xs.length≤ap:=by have:=hok.1.1;rwa [List.length_map] at this
 repeat refine ai ?_
 refine an ?_
 refine ⟨fun k l h=>∃i:Nat,k=xs.length - i∧i≤xs.length∧l=[(0,.d (ab xs)),(1,.d (ab xs)),(5,.d (.int .i64 i))]∧h=hp0,
  ⟨_,_,_,⟨0,rfl,Nat.zero_le _,rfl,rfl⟩,rfl,rfl,⟨rfl,rfl,rfl,trivial⟩,trivial,trivial⟩,?_⟩
 rintro k l h1 ⟨i,rfl,hi,rfl,rfl⟩
 refine aj ?_ ?_<;>intro h1
 ·have hlt:i<xs.length:=V h1
  repeat refine ai ?_
  refine ak ?_
  repeat refine ai ?_
  refine U (e:=GateField.e) (xs:=xs) (hlt) rfl ?_
  repeat refine ai ?_
  refine U (e:=GateField.e) (xs:=xs) (hlt) rfl ?_
  repeat refine ai ?_
  refine oc (vi _) ?_
  repeat refine ai ?_
  refine an ?_
  exact ⟨_,_,_,⟨i+1,rfl,hlt,rfl,rfl⟩,by omega,rfl,rfl,⟨rfl,rfl,nd (Y hlt hs),trivial⟩,trivial,trivial⟩
 ·rfl
theorem ve (x:GateShape):Spec P 129 [st x.e,st x.e] (.d (.bool true)):=by
 refine Spec.of_vc aG au [.tmp 4] Tryz.func129 rfl rfl rfl rfl (fun hok=>?_)
 repeat refine ai ?_
 refine an ?_
 repeat refine ai ?_
 refine oc (rZ _) ?_
 repeat refine ai ?_
 refine an ?_
 repeat refine ai ?_
 rfl
theorem rU (xs:List GateShape):Spec P 57 [.d (aa xs),.d (aa xs)] (.d (.bool true)):=by
 refine Spec.of_vc aG au [.tmp 4] Tryz.func57 rfl rfl rfl rfl (fun hok=>?_)
 have hs:xs.length≤ap:=by have:=hok.1.1;rwa [List.length_map] at this
 repeat refine ai ?_
 refine an ?_
 refine ⟨fun k l h=>∃i:Nat,k=xs.length - i∧i≤xs.length∧l=[(0,.d (aa xs)),(1,.d (aa xs)),(5,.d (.int .i64 i))]∧h=hp0,
  ⟨_,_,_,⟨0,rfl,Nat.zero_le _,rfl,rfl⟩,rfl,rfl,⟨rfl,rfl,rfl,trivial⟩,trivial,trivial⟩,?_⟩
 rintro k l h1 ⟨i,rfl,hi,rfl,rfl⟩
 refine aj ?_ ?_<;>intro h1
 ·have hlt:i<xs.length:=V h1
  repeat refine ai ?_
  refine ak ?_
  repeat refine ai ?_
  refine U (e:=GateShape.e) (xs:=xs) (hlt) rfl ?_
  repeat refine ai ?_
  refine U (e:=GateShape.e) (xs:=xs) (hlt) rfl ?_
  repeat refine ai ?_
  refine oc (ve _) ?_
  repeat refine ai ?_
  refine an ?_
  exact ⟨_,_,_,⟨i+1,rfl,hlt,rfl,rfl⟩,by omega,rfl,rfl,⟨rfl,rfl,nd (Y hlt hs),trivial⟩,trivial,trivial⟩
 ·rfl
theorem w5 (x:GateMend):Spec P 130 [st x.e,st x.e] (.d (.bool true)):=by
 refine Spec.of_vc aG au [.tmp 4] Tryz.func130 rfl rfl rfl rfl (fun hok=>?_)
 repeat refine ai ?_
 refine an ?_
 repeat refine ai ?_
 refine an ?_
 repeat refine ai ?_
 refine an ?_
 repeat refine ai ?_
 refine an ?_
 repeat refine ai ?_
 refine an ?_
 repeat refine ai ?_
 refine an ?_
 repeat refine ai ?_
 rfl
theorem vg (xs:List GateMend):Spec P 58 [.d (af xs),.d (af xs)] (.d (.bool true)):=by
 refine Spec.of_vc aG au [.tmp 4] Tryz.func58 rfl rfl rfl rfl (fun hok=>?_)
 have hs:xs.length≤ap:=by have:=hok.1.1;rwa [List.length_map] at this
 repeat refine ai ?_
 refine an ?_
 refine ⟨fun k l h=>∃i:Nat,k=xs.length - i∧i≤xs.length∧l=[(0,.d (af xs)),(1,.d (af xs)),(5,.d (.int .i64 i))]∧h=hp0,
  ⟨_,_,_,⟨0,rfl,Nat.zero_le _,rfl,rfl⟩,rfl,rfl,⟨rfl,rfl,rfl,trivial⟩,trivial,trivial⟩,?_⟩
 rintro k l h1 ⟨i,rfl,hi,rfl,rfl⟩
 refine aj ?_ ?_<;>intro h1
 ·have hlt:i<xs.length:=V h1
  repeat refine ai ?_
  refine ak ?_
  repeat refine ai ?_
  refine U (e:=GateMend.e) (xs:=xs) (hlt) rfl ?_
  repeat refine ai ?_
  refine U (e:=GateMend.e) (xs:=xs) (hlt) rfl ?_
  repeat refine ai ?_
  refine oc (w5 _) ?_
  repeat refine ai ?_
  refine an ?_
  exact ⟨_,_,_,⟨i+1,rfl,hlt,rfl,rfl⟩,by omega,rfl,rfl,⟨rfl,rfl,nd (Y hlt hs),trivial⟩,trivial,trivial⟩
 ·rfl
theorem w3 (x:GateTeam):Spec P 131 [st x.e,st x.e] (.d (.bool true)):=by
 refine Spec.of_vc aG au [.tmp 4] Tryz.func131 rfl rfl rfl rfl (fun hok=>?_)
 repeat refine ai ?_
 refine an ?_
 repeat refine ai ?_
 refine an ?_
 repeat refine ai ?_
 rfl
theorem vd (xs:List GateTeam):Spec P 59 [.d (al xs),.d (al xs)] (.d (.bool true)):=by
 refine Spec.of_vc aG au [.tmp 4] Tryz.func59 rfl rfl rfl rfl (fun hok=>?_)
 have hs:xs.length≤ap:=by have:=hok.1.1;rwa [List.length_map] at this
 repeat refine ai ?_
 refine an ?_
 refine ⟨fun k l h=>∃i:Nat,k=xs.length - i∧i≤xs.length∧l=[(0,.d (al xs)),(1,.d (al xs)),(5,.d (.int .i64 i))]∧h=hp0,
  ⟨_,_,_,⟨0,rfl,Nat.zero_le _,rfl,rfl⟩,rfl,rfl,⟨rfl,rfl,rfl,trivial⟩,trivial,trivial⟩,?_⟩
 rintro k l h1 ⟨i,rfl,hi,rfl,rfl⟩
 refine aj ?_ ?_<;>intro h1
 ·have hlt:i<xs.length:=V h1
  repeat refine ai ?_
  refine ak ?_
  repeat refine ai ?_
  refine U (e:=GateTeam.e) (xs:=xs) (hlt) rfl ?_
  repeat refine ai ?_
  refine U (e:=GateTeam.e) (xs:=xs) (hlt) rfl ?_
  repeat refine ai ?_
  refine oc (w3 _) ?_
  repeat refine ai ?_
  refine an ?_
  exact ⟨_,_,_,⟨i+1,rfl,hlt,rfl,rfl⟩,by omega,rfl,rfl,⟨rfl,rfl,nd (Y hlt hs),trivial⟩,trivial,trivial⟩
 ·rfl
theorem yr (x:GateLaw):Spec P 18 [st x.e,st x.e] (.d (.bool true)):=by
 refine Spec.of_vc aG au [.tmp 4] Tryz.func18 rfl rfl rfl rfl (fun hok=>?_)
 repeat refine ai ?_
 refine oc (rU _) ?_
 repeat refine ai ?_
 refine an ?_
 repeat refine ai ?_
 refine oc (vg _) ?_
 repeat refine ai ?_
 refine an ?_
 repeat refine ai ?_
 refine oc (vd _) ?_
 repeat refine ai ?_
 refine an ?_
 repeat refine ai ?_
 rfl
theorem rW (x:GateObject):Spec P 132 [st x.e,st x.e] (.d (.bool true)):=by
 refine Spec.of_vc aG au [.tmp 4] Tryz.func132 rfl rfl rfl rfl (fun hok=>?_)
 repeat refine ai ?_
 refine an ?_
 repeat refine ai ?_
 refine an ?_
 repeat refine ai ?_
 refine an ?_
 repeat refine ai ?_
 refine oc (k9 _) ?_
 repeat refine ai ?_
 refine an ?_
 repeat refine ai ?_
 refine an ?_
 repeat refine ai ?_
 refine oc (k9 _) ?_
 repeat refine ai ?_
 refine an ?_
 repeat refine ai ?_
 refine an ?_
 repeat refine ai ?_
 rfl
theorem qH (xs:List GateObject):Spec P 60 [.d (aF xs),.d (aF xs)] (.d (.bool true)):=by
 refine Spec.of_vc aG au [.tmp 4] Tryz.func60 rfl rfl rfl rfl (fun hok=>?_)
 have hs:xs.length≤ap:=by have:=hok.1.1;rwa [List.length_map] at this
 repeat refine ai ?_
 refine an ?_
 refine ⟨fun k l h=>∃i:Nat,k=xs.length - i∧i≤xs.length∧l=[(0,.d (aF xs)),(1,.d (aF xs)),(5,.d (.int .i64 i))]∧h=hp0,
  ⟨_,_,_,⟨0,rfl,Nat.zero_le _,rfl,rfl⟩,rfl,rfl,⟨rfl,rfl,rfl,trivial⟩,trivial,trivial⟩,?_⟩
 rintro k l h1 ⟨i,rfl,hi,rfl,rfl⟩
 refine aj ?_ ?_<;>intro h1
 ·have hlt:i<xs.length:=V h1
  repeat refine ai ?_
  refine ak ?_
  repeat refine ai ?_
  refine U (e:=GateObject.e) (xs:=xs) (hlt) rfl ?_
  repeat refine ai ?_
  refine U (e:=GateObject.e) (xs:=xs) (hlt) rfl ?_
  repeat refine ai ?_
  refine oc (rW _) ?_
  repeat refine ai ?_
  refine an ?_
  exact ⟨_,_,_,⟨i+1,rfl,hlt,rfl,rfl⟩,by omega,rfl,rfl,⟨rfl,rfl,nd (Y hlt hs),trivial⟩,trivial,trivial⟩
 ·rfl
theorem w4 (x:GateRule):Spec P 190 [st x.e,st x.e] (.d (.bool true)):=by
 refine Spec.of_vc aG au [.tmp 4] Tryz.func190 rfl rfl rfl rfl (fun hok=>?_)
 repeat refine ai ?_
 refine oc (o3 _) ?_
 repeat refine ai ?_
 refine an ?_
 repeat refine ai ?_
 refine an ?_
 repeat refine ai ?_
 refine an ?_
 repeat refine ai ?_
 refine an ?_
 repeat refine ai ?_
 rfl
theorem vh (x:GateGrant):Spec P 133 [st x.e,st x.e] (.d (.bool true)):=by
 refine Spec.of_vc aG au [.tmp 4] Tryz.func133 rfl rfl rfl rfl (fun hok=>?_)
 repeat refine ai ?_
 refine an ?_
 repeat refine ai ?_
 refine an ?_
 repeat refine ai ?_
 refine an ?_
 repeat refine ai ?_
 refine oc (w4 _) ?_
 repeat refine ai ?_
 refine an ?_
 repeat refine ai ?_
 rfl
theorem rY (xs:List GateGrant):Spec P 61 [.d (bn xs),.d (bn xs)] (.d (.bool true)):=by
 refine Spec.of_vc aG au [.tmp 4] Tryz.func61 rfl rfl rfl rfl (fun hok=>?_)
 have hs:xs.length≤ap:=by have:=hok.1.1;rwa [List.length_map] at this
 repeat refine ai ?_
 refine an ?_
 refine ⟨fun k l h=>∃i:Nat,k=xs.length - i∧i≤xs.length∧l=[(0,.d (bn xs)),(1,.d (bn xs)),(5,.d (.int .i64 i))]∧h=hp0,
  ⟨_,_,_,⟨0,rfl,Nat.zero_le _,rfl,rfl⟩,rfl,rfl,⟨rfl,rfl,rfl,trivial⟩,trivial,trivial⟩,?_⟩
 rintro k l h1 ⟨i,rfl,hi,rfl,rfl⟩
 refine aj ?_ ?_<;>intro h1
 ·have hlt:i<xs.length:=V h1
  repeat refine ai ?_
  refine ak ?_
  repeat refine ai ?_
  refine U (e:=GateGrant.e) (xs:=xs) (hlt) rfl ?_
  repeat refine ai ?_
  refine U (e:=GateGrant.e) (xs:=xs) (hlt) rfl ?_
  repeat refine ai ?_
  refine oc (vh _) ?_
  repeat refine ai ?_
  refine an ?_
  exact ⟨_,_,_,⟨i+1,rfl,hlt,rfl,rfl⟩,by omega,rfl,rfl,⟨rfl,rfl,nd (Y hlt hs),trivial⟩,trivial,trivial⟩
 ·rfl
theorem rX (x:GateLedger):Spec P 134 [st x.e,st x.e] (.d (.bool true)):=by
 refine Spec.of_vc aG au [.tmp 4] Tryz.func134 rfl rfl rfl rfl (fun hok=>?_)
 repeat refine ai ?_
 refine an ?_
 repeat refine ai ?_
 refine an ?_
 repeat refine ai ?_
 refine an ?_
 repeat refine ai ?_
 refine an ?_
 repeat refine ai ?_
 rfl
theorem qI (xs:List GateLedger):Spec P 62 [.d (aV xs),.d (aV xs)] (.d (.bool true)):=by
 refine Spec.of_vc aG au [.tmp 4] Tryz.func62 rfl rfl rfl rfl (fun hok=>?_)
 have hs:xs.length≤ap:=by have:=hok.1.1;rwa [List.length_map] at this
 repeat refine ai ?_
 refine an ?_
 refine ⟨fun k l h=>∃i:Nat,k=xs.length - i∧i≤xs.length∧l=[(0,.d (aV xs)),(1,.d (aV xs)),(5,.d (.int .i64 i))]∧h=hp0,
  ⟨_,_,_,⟨0,rfl,Nat.zero_le _,rfl,rfl⟩,rfl,rfl,⟨rfl,rfl,rfl,trivial⟩,trivial,trivial⟩,?_⟩
 rintro k l h1 ⟨i,rfl,hi,rfl,rfl⟩
 refine aj ?_ ?_<;>intro h1
 ·have hlt:i<xs.length:=V h1
  repeat refine ai ?_
  refine ak ?_
  repeat refine ai ?_
  refine U (e:=GateLedger.e) (xs:=xs) (hlt) rfl ?_
  repeat refine ai ?_
  refine U (e:=GateLedger.e) (xs:=xs) (hlt) rfl ?_
  repeat refine ai ?_
  refine oc (rX _) ?_
  repeat refine ai ?_
  refine an ?_
  exact ⟨_,_,_,⟨i+1,rfl,hlt,rfl,rfl⟩,by omega,rfl,rfl,⟨rfl,rfl,nd (Y hlt hs),trivial⟩,trivial,trivial⟩
 ·rfl
theorem vf (x:GatePurse):Spec P 135 [st x.e,st x.e] (.d (.bool true)):=by
 refine Spec.of_vc aG au [.tmp 4] Tryz.func135 rfl rfl rfl rfl (fun hok=>?_)
 repeat refine ai ?_
 refine an ?_
 repeat refine ai ?_
 refine an ?_
 repeat refine ai ?_
 refine an ?_
 repeat refine ai ?_
 refine an ?_
 repeat refine ai ?_
 refine an ?_
 repeat refine ai ?_
 rfl
theorem rV (xs:List GatePurse):Spec P 63 [.d (bk xs),.d (bk xs)] (.d (.bool true)):=by
 refine Spec.of_vc aG au [.tmp 4] Tryz.func63 rfl rfl rfl rfl (fun hok=>?_)
 have hs:xs.length≤ap:=by have:=hok.1.1;rwa [List.length_map] at this
 repeat refine ai ?_
 refine an ?_
 refine ⟨fun k l h=>∃i:Nat,k=xs.length - i∧i≤xs.length∧l=[(0,.d (bk xs)),(1,.d (bk xs)),(5,.d (.int .i64 i))]∧h=hp0,
  ⟨_,_,_,⟨0,rfl,Nat.zero_le _,rfl,rfl⟩,rfl,rfl,⟨rfl,rfl,rfl,trivial⟩,trivial,trivial⟩,?_⟩
 rintro k l h1 ⟨i,rfl,hi,rfl,rfl⟩
 refine aj ?_ ?_<;>intro h1
 ·have hlt:i<xs.length:=V h1
  repeat refine ai ?_
  refine ak ?_
  repeat refine ai ?_
  refine U (e:=GatePurse.e) (xs:=xs) (hlt) rfl ?_
  repeat refine ai ?_
  refine U (e:=GatePurse.e) (xs:=xs) (hlt) rfl ?_
  repeat refine ai ?_
  refine oc (vf _) ?_
  repeat refine ai ?_
  refine an ?_
  exact ⟨_,_,_,⟨i+1,rfl,hlt,rfl,rfl⟩,by omega,rfl,rfl,⟨rfl,rfl,nd (Y hlt hs),trivial⟩,trivial,trivial⟩
 ·rfl
theorem w6 (x:GateBook):Spec P 19 [st x.e,st x.e] (.d (.bool true)):=by
 refine Spec.of_vc aG au [.tmp 4] Tryz.func19 rfl rfl rfl rfl (fun hok=>?_)
 repeat refine ai ?_
 refine an ?_
 repeat refine ai ?_
 refine an ?_
 repeat refine ai ?_
 refine an ?_
 repeat refine ai ?_
 refine oc (qH _) ?_
 repeat refine ai ?_
 refine an ?_
 repeat refine ai ?_
 refine oc (rY _) ?_
 repeat refine ai ?_
 refine an ?_
 repeat refine ai ?_
 refine oc (qI _) ?_
 repeat refine ai ?_
 refine an ?_
 repeat refine ai ?_
 refine oc (rV _) ?_
 repeat refine ai ?_
 refine an ?_
 repeat refine ai ?_
 rfl
end Go.Vc
end
section
namespace Go.Vc
section
variable {α:Type} {e:α→List D} {xs:List α} {z:List D} {i:Nat} {fs:List NT}
theorem cH {t n:Nat}:some (AO.tree t n fs (List.replicate ((((xs.map e).length:Nat):Int)).toNat z))=some (AO.tree t n fs (bc e xs z 0)):=by
 simp[bc]
theorem dZ {t n:Nat} (hi:i<xs.length) (hz:(e xs[i]).length=z.length):
 some (AO.tree t n fs ((bc e xs z i).set i (dw z 0 (e xs[i]))))=some (AO.tree t n fs (bc e xs z (i+1))):=by
 have:=ct (t:=t) (n:=n) (e:=e) hi hz
 simp only[Option.some.injEq,AO.row.injEq,true_and] at this
 rw[this]
theorem d5 {t n:Nat} (h:xs.length≤i) (hi:i≤xs.length):some (AO.tree t n fs (bc e xs z i))=some (AO.tree t n fs (xs.map e)):=by
 rw[cu h hi]
end
def aJ {α:Type} (f:α→Int→α×Int):List α→Int→List α×Int
 |[],k=>([],k)
 |x::xs,k=>((f x k).1::(aJ f xs (f x k).2).1,(aJ f xs (f x k).2).2)
def mn {α:Type} (f:α→Int→α×Int) (xs:List α) (k:Int) (i:Nat):Int:=(aJ f (xs.take i) k).2
def sC {α:Type} (f:α→Int→α×Int) (e:α→List D) (xs:List α) (k:Int) (i:Nat):List (List D):=((aJ f (xs.take i) k).1++xs.drop i).map e
section
variable {α:Type} {f:α→Int→α×Int} {e:α→List D}
theorem wz:∀(xs:List α) (y:α) (k:Int),aJ f (xs++[y]) k=((aJ f xs k).1++[(f y (aJ f xs k).2).1],(f y (aJ f xs k).2).2)
 |[],y,k=>rfl
 |x::xs,y,k=>by
  simp only[List.cons_append,aJ,wz xs y]
theorem fA:∀(xs:List α) (k:Int),(aJ f xs k).1.length=xs.length
 |[],_=>rfl
 |x::xs,k=>by simp only[aJ,List.length_cons,fA xs]
theorem wy {xs:List α} {i:Nat} (h:i<xs.length) (k:Int):aJ f (xs.take (i+1)) k=((aJ f (xs.take i) k).1++[(f xs[i] (mn f xs k i)).1],(f xs[i] (mn f xs k i)).2):=by
 rw[List.take_succ_eq_append_getElem h,wz];rfl
theorem dI {xs:List α} {i:Nat} (h:i<xs.length) (k:Int):(f xs[i] (mn f xs k i)).2=mn f xs k (i+1):=by
 unfold mn
 rw[wy h];rfl
theorem bT {xs:List α} {i:Nat} (k:Int) (h:i≤xs.length):(sC f e xs k i).length=xs.length:=by
 unfold sC
 rw[List.length_map,List.length_append,fA,List.length_take,List.length_drop];omega
theorem be {xs:List α} {i:Nat} {k:Int} (h:i<xs.length):i<(sC f e xs k i).length:=by rw[bT k (Nat.le_of_lt h)];exact h
theorem aO {xs:List α} {i:Nat} {k:Int} (h:i<xs.length):(sC f e xs k i)[i]? =some (e xs[i]):=by
 unfold sC
 rw[List.getElem?_map,List.getElem?_append_right (by rw[fA,List.length_take];omega),fA,List.length_take,Nat.min_eq_left (Nat.le_of_lt h),Nat.sub_self,List.getElem?_drop,Nat.add_zero,List.getElem?_eq_getElem h]
 rfl
theorem eb {xs:List α} {i:Nat} {k:Int} (h:i<xs.length) {r:List D} (hr:r=e (f xs[i] (mn f xs k i)).1):(sC f e xs k i).set i r=sC f e xs k (i+1):=by
 subst hr
 unfold sC
 rw[wy h,List.drop_eq_getElem_cons h,←List.map_set]
 congr 1
 rw[List.set_append_right _ _ (by rw[fA,List.length_take];omega),fA,List.length_take,Nat.min_eq_left (Nat.le_of_lt h),Nat.sub_self,List.set_cons_zero,List.append_assoc]
 rfl
theorem fy {xs:List α} {i:Nat} {k:Int} (h:xs.length≤i):sC f e xs k i=(aJ f xs k).1.map e:=by
 unfold sC
 rw[List.take_of_length_le h,List.drop_of_length_le h,List.append_nil]
theorem eV {xs:List α} {i:Nat} {k:Int} (h:xs.length≤i):mn f xs k i=(aJ f xs k).2:=by
 unfold mn
 rw[List.take_of_length_le h]
theorem fX {R:List (List D)} {i:Nat} {r:List D} (h:i<R.length):(R.set i r)[i]? =some r:=by
 rw[List.getElem?_set_self h]
theorem C4 {xs:List α} {i:Nat} (k:Int) (h:i<xs.length) (h':i<(aJ f xs k).1.length):(aJ f xs k).1[i]=(f xs[i] (mn f xs k i)).1:=by
 have key:∀(xs:List α) (k:Int) (i:Nat) (h:i<xs.length),(aJ f xs k).1[i]? =some (f xs[i] (mn f xs k i)).1:=by
  intro xs
  induction xs with
  |nil=>intro k i h;simp at h
  |cons x xs ih=>
   intro k i h
   cases i with
   |zero=>rfl
   |succ i=>
    simp only[aJ,List.getElem?_cons_succ]
    rw[ih (f x k).2 i (by simpa using h)]
    rfl
 have:=key xs k i h
 rw[List.getElem?_eq_getElem h'] at this
 injection this
end
theorem DI {α:Type} {f:α→Int→α×Int} {e:α→List D} {xs:List α} {k:Int} {i sz:Nat} {K:List D→Prop} (hk:i<xs.length) (hs:(e (f xs[i] (mn f xs k i)).1).length=sz) (h:K (e (f xs[i] (mn f xs k i)).1)):
 (0:Int)≤(i:Int)∧∃b,(((aJ f xs k).1).map e)[(i:Int).toNat]? =some b∧b.length=sz∧K b:=by
 have hk':i<(aJ f xs k).1.length:=by rw[fA];exact hk
 rw[←C4 k hk hk'] at hs h
 exact U hk' hs h
def wk (k:Int):Int:=IntKind.i64.wrap (k+1)
end Go.Vc
end
section
namespace Go.Vc
open Go.Proofs
def GateField.n:List NT:=[.leaf,.leaf,.leaf,.leaf,.list 9 1 [.leaf],.leaf,.leaf,.leaf,.leaf,.leaf,.leaf]
def GateField.a (x:GateField):List AV:=[.d (.str x.name),.d (.int .i64 x.kind),.d (.int .i64 x.least),.d (.int .i64 x.most),.own 0,.d (.str x.to_),.d (.int .i64 x.role),.d (.bool x.must),.d (.bool x.fixed),.d (.str x.default_),.d (.str x.weighs)]
def GateField.o (x:GateField):List (Nat×AO):=[(0,.tree 9 1 [.leaf] (x.words.map eB))]
def GateShape.n:List NT:=[.leaf,.list 138 11 [.leaf,.leaf,.leaf,.leaf,.list 9 1 [.leaf],.leaf,.leaf,.leaf,.leaf,.leaf,.leaf]]
def GateShape.a (x:GateShape):List AV:=[.d (.str x.kind),.own 0]
def GateShape.o (x:GateShape):List (Nat×AO):=[(0,.tree 138 11 GateField.n (x.fields.map GateField.e))]
def GateMend.n:List NT:=[.leaf,.leaf,.leaf,.leaf,.leaf,.leaf]
def GateMend.a (x:GateMend):List AV:=[.d (.str x.kind),.d (.str x.field),.d (.str x.when_),.d (.str x.is_),.d (.str x.put),.d (.str x.from_)]
def GateMend.o (x:GateMend):List (Nat×AO):=[]
def GateTeam.n:List NT:=[.leaf,.leaf]
def GateTeam.a (x:GateTeam):List AV:=[.d (.str x.name),.d (.str x.over)]
def GateTeam.o (x:GateTeam):List (Nat×AO):=[]
def GateLaw.n:List NT:=[.list 164 2 [.leaf,.list 138 11 [.leaf,.leaf,.leaf,.leaf,.list 9 1 [.leaf],.leaf,.leaf,.leaf,.leaf,.leaf,.leaf]],.list 166 6 [.leaf,.leaf,.leaf,.leaf,.leaf,.leaf],.list 168 2 [.leaf,.leaf]]
def GateLaw.a (x:GateLaw):List AV:=[.own 0,.own 1,.own 2]
def GateLaw.o (x:GateLaw):List (Nat×AO):=[(0,.tree 164 2 GateShape.n (x.shapes.map GateShape.e)),(1,.tree 166 6 GateMend.n (x.mends.map GateMend.e)),(2,.tree 168 2 GateTeam.n (x.teams.map GateTeam.e))]
def GateObject.n:List NT:=[.leaf,.leaf,.leaf,.list 9 1 [.leaf],.leaf,.list 9 1 [.leaf],.leaf]
def GateObject.a (x:GateObject):List AV:=[.d (.str x.kind),.d (.str x.name),.d (.str x.team),.own 0,.d (.bool x.ending),.own 1,.d (.int .i64 x.version)]
def GateObject.o (x:GateObject):List (Nat×AO):=[(0,.tree 9 1 [.leaf] (x.values.map eB)),(1,.tree 9 1 [.leaf] (x.holds.map eB))]
def GateRule.n:List NT:=[.list 3 1 [.leaf],.leaf,.leaf,.leaf]
def GateRule.a (x:GateRule):List AV:=[.own 0,.d (.str x.kind),.d (.str x.team),.d (.str x.prefix_)]
def GateRule.o (x:GateRule):List (Nat×AO):=[(0,.tree 3 1 [.leaf] (x.verbs.map eN))]
def GateGrant.n:List NT:=[.leaf,.leaf,.leaf,.list 3 1 [.leaf],.leaf,.leaf,.leaf]
def GateGrant.a (x:GateGrant):List AV:=[.d (.int .i64 x.number),.d (.str x.to_),.d (.str x.by_),.own 0,.d (.str x.rule.kind),.d (.str x.rule.team),.d (.str x.rule.prefix_)]
def GateGrant.o (x:GateGrant):List (Nat×AO):=[(0,.tree 3 1 [.leaf] (x.rule.verbs.map eN))]
def GateLedger.n:List NT:=[.leaf,.leaf,.leaf,.leaf]
def GateLedger.a (x:GateLedger):List AV:=[.d (.str x.team),.d (.str x.resource),.d (.int .i64 x.most),.d (.int .i64 x.free)]
def GateLedger.o (x:GateLedger):List (Nat×AO):=[]
def GatePurse.n:List NT:=[.leaf,.leaf,.leaf,.leaf,.leaf]
def GatePurse.a (x:GatePurse):List AV:=[.d (.str x.door),.d (.str x.team),.d (.str x.resource),.d (.int .i64 x.amount),.d (.int .i64 x.until_)]
def GatePurse.o (x:GatePurse):List (Nat×AO):=[]
def GateBook.n:List NT:=[.leaf,.leaf,.leaf,.list 103 7 [.leaf,.leaf,.leaf,.list 9 1 [.leaf],.leaf,.list 9 1 [.leaf],.leaf],.list 173 7 [.leaf,.leaf,.leaf,.list 3 1 [.leaf],.leaf,.leaf,.leaf],.list 119 4 [.leaf,.leaf,.leaf,.leaf],.list 109 5 [.leaf,.leaf,.leaf,.leaf,.leaf]]
def GateBook.a (x:GateBook):List AV:=[.d (.int .i64 x.now),.d (.int .i64 x.tick),.d (.int .i64 x.given),.own 0,.own 1,.own 2,.own 3]
def GateBook.o (x:GateBook):List (Nat×AO):=[(0,.tree 103 7 GateObject.n (x.objects.map GateObject.e)),(1,.tree 173 7 GateGrant.n (x.grants.map GateGrant.e)),(2,.tree 119 4 GateLedger.n (x.ledgers.map GateLedger.e)),(3,.tree 109 5 GatePurse.n (x.purses.map GatePurse.e))]
end Go.Vc
end
section
namespace Go.Vc
open Go.Proofs
set_option maxRecDepth 100000
theorem jr (xs:List Bs):HSpec P 179 [.d (lS xs)] hp0 (.own 0) ⟨[(0,.tree 9 1 [.leaf] (xs.map eB))],1,0⟩:=by
 refine aC dY au [.tmp 2] Tryz.func179 rfl rfl rfl rfl (fun hok=>?_)
 have hs:xs.length≤ap:=by have:=hok.1.1;rwa [List.length_map] at this
 repeat refine ai ?_
 refine aj (Int.natCast_nonneg _) (aj (Int.le_refl _) (aj (dH hs) ?_))
 refine ⟨fun k l h=>∃i:Nat,k=xs.length - i∧i≤xs.length∧l=[(0,.d (lS xs)),(3,.own 0),(4,.d (.int .i64 i))]∧h=⟨[(0,.tree 9 1 [.leaf] (bc eB xs [D.str []] i))],1,0⟩,
  ⟨_,_,_,⟨0,rfl,Nat.zero_le _,rfl,rfl⟩,rfl,rfl,⟨rfl,rfl,rfl,trivial⟩,⟨rfl,trivial⟩,⟨cH,trivial⟩⟩,?_⟩
 rintro k l h1 ⟨i,rfl,hi,rfl,rfl⟩
 refine aj ?_ ?_<;>intro h1
 ·have hlt:i<xs.length:=V h1
  repeat refine ai ?_
  refine U (e:=eB) (xs:=xs) (hlt) rfl ?_
  repeat refine ai ?_
  refine aj (Int.natCast_nonneg _) (aj (by rw[aR hi];omega) ?_)
  repeat refine ai ?_
  refine ⟨_,aS hlt,Nat.le_refl _,?_⟩
  exact ⟨_,_,_,⟨i+1,rfl,hlt,rfl,rfl⟩,by omega,rfl,rfl,⟨rfl,rfl,nd (Y hlt hs),trivial⟩,⟨rfl,trivial⟩,⟨dZ hlt rfl,trivial⟩⟩
 ·exact ⟨[some 0],rfl,rfl,⟨d5 (Z h1) hi,rfl⟩,trivial⟩
theorem AM (xs:List Int):HSpec P 209 [.d (lI xs)] hp0 (.own 0) ⟨[(0,.tree 3 1 [.leaf] (xs.map eN))],1,0⟩:=by
 refine aC dY au [.tmp 2] Tryz.func209 rfl rfl rfl rfl (fun hok=>?_)
 have hs:xs.length≤ap:=by have:=hok.1.1;rwa [List.length_map] at this
 repeat refine ai ?_
 refine aj (Int.natCast_nonneg _) (aj (Int.le_refl _) (aj (dH hs) ?_))
 refine ⟨fun k l h=>∃i:Nat,k=xs.length - i∧i≤xs.length∧l=[(0,.d (lI xs)),(3,.own 0),(4,.d (.int .i64 i))]∧h=⟨[(0,.tree 3 1 [.leaf] (bc eN xs [D.int .i64 0] i))],1,0⟩,
  ⟨_,_,_,⟨0,rfl,Nat.zero_le _,rfl,rfl⟩,rfl,rfl,⟨rfl,rfl,rfl,trivial⟩,⟨rfl,trivial⟩,⟨cH,trivial⟩⟩,?_⟩
 rintro k l h1 ⟨i,rfl,hi,rfl,rfl⟩
 refine aj ?_ ?_<;>intro h1
 ·have hlt:i<xs.length:=V h1
  repeat refine ai ?_
  refine U (e:=eN) (xs:=xs) (hlt) rfl ?_
  repeat refine ai ?_
  refine aj (Int.natCast_nonneg _) (aj (by rw[aR hi];omega) ?_)
  repeat refine ai ?_
  refine ⟨_,aS hlt,Nat.le_refl _,?_⟩
  exact ⟨_,_,_,⟨i+1,rfl,hlt,rfl,rfl⟩,by omega,rfl,rfl,⟨rfl,rfl,nd (Y hlt hs),trivial⟩,⟨rfl,trivial⟩,⟨dZ hlt rfl,trivial⟩⟩
 ·exact ⟨[some 0],rfl,rfl,⟨d5 (Z h1) hi,rfl⟩,trivial⟩
set_option maxHeartbeats 2000000 in
theorem rg (x:GateField):HSpec P 208 [st x.e] hp0 (.agg x.a) ⟨x.o,1,0⟩:=by
 refine aC dY au [.cell 2 138] Tryz.func208 rfl rfl rfl rfl (fun hok=>?_)
 repeat refine ai ?_
 refine ow (jr _) ?_
 repeat refine ai ?_
 exact ⟨[some 3],by (repeat' first|exact rfl|exact trivial|refine aj ?_ ?_)⟩
theorem pq (xs:List GateField):HSpec P 178 [.d (ab xs)] hp0 (.own 0) ⟨[(0,.tree 138 11 GateField.n (xs.map GateField.e))],1,0⟩:=by
 refine aC dY au [.tmp 2] Tryz.func178 rfl rfl rfl rfl (fun hok=>?_)
 have hs:xs.length≤ap:=by have:=hok.1.1;rwa [List.length_map] at this
 repeat refine ai ?_
 refine aj (Int.natCast_nonneg _) (aj (Int.le_refl _) (aj (dH hs) ?_))
 refine ⟨fun k l h=>∃i:Nat,k=xs.length - i∧i≤xs.length∧l=[(0,.d (ab xs)),(3,.own 0),(4,.d (.int .i64 i))]∧h=⟨[(0,.tree 138 11 GateField.n (bc GateField.e xs GateField.z i))],1,0⟩,
  ⟨_,_,_,⟨0,rfl,Nat.zero_le _,rfl,rfl⟩,rfl,rfl,⟨rfl,rfl,rfl,trivial⟩,⟨rfl,trivial⟩,⟨cH,trivial⟩⟩,?_⟩
 rintro k l h1 ⟨i,rfl,hi,rfl,rfl⟩
 refine aj ?_ ?_<;>intro h1
 ·have hlt:i<xs.length:=V h1
  repeat refine ai ?_
  refine U (e:=GateField.e) (xs:=xs) (hlt) rfl ?_
  repeat refine ai ?_
  refine ow (rg _) ?_
  repeat refine ai ?_
  refine aj (Int.natCast_nonneg _) (aj (by rw[aR hi];omega) ?_)
  repeat refine ai ?_
  refine ⟨_,aS hlt,Nat.le_refl _,?_⟩
  exact ⟨_,_,_,⟨i+1,rfl,hlt,rfl,rfl⟩,by omega,rfl,rfl,⟨rfl,rfl,nd (Y hlt hs),trivial⟩,⟨rfl,trivial⟩,⟨dZ hlt rfl,trivial⟩⟩
 ·exact ⟨[some 0],rfl,rfl,⟨d5 (Z h1) hi,rfl⟩,trivial⟩
set_option maxHeartbeats 2000000 in
theorem rc (x:GateShape):HSpec P 118 [st x.e] hp0 (.agg x.a) ⟨x.o,1,0⟩:=by
 refine aC dY au [.cell 2 164] Tryz.func118 rfl rfl rfl rfl (fun hok=>?_)
 repeat refine ai ?_
 refine ow (pq _) ?_
 repeat refine ai ?_
 exact ⟨[some 3],by (repeat' first|exact rfl|exact trivial|refine aj ?_ ?_)⟩
theorem pm (xs:List GateShape):HSpec P 48 [.d (aa xs)] hp0 (.own 0) ⟨[(0,.tree 164 2 GateShape.n (xs.map GateShape.e))],1,0⟩:=by
 refine aC dY au [.tmp 2] Tryz.func48 rfl rfl rfl rfl (fun hok=>?_)
 have hs:xs.length≤ap:=by have:=hok.1.1;rwa [List.length_map] at this
 repeat refine ai ?_
 refine aj (Int.natCast_nonneg _) (aj (Int.le_refl _) (aj (dH hs) ?_))
 refine ⟨fun k l h=>∃i:Nat,k=xs.length - i∧i≤xs.length∧l=[(0,.d (aa xs)),(3,.own 0),(4,.d (.int .i64 i))]∧h=⟨[(0,.tree 164 2 GateShape.n (bc GateShape.e xs GateShape.z i))],1,0⟩,
  ⟨_,_,_,⟨0,rfl,Nat.zero_le _,rfl,rfl⟩,rfl,rfl,⟨rfl,rfl,rfl,trivial⟩,⟨rfl,trivial⟩,⟨cH,trivial⟩⟩,?_⟩
 rintro k l h1 ⟨i,rfl,hi,rfl,rfl⟩
 refine aj ?_ ?_<;>intro h1
 ·have hlt:i<xs.length:=V h1
  repeat refine ai ?_
  refine U (e:=GateShape.e) (xs:=xs) (hlt) rfl ?_
  repeat refine ai ?_
  refine ow (rc _) ?_
  repeat refine ai ?_
  refine aj (Int.natCast_nonneg _) (aj (by rw[aR hi];omega) ?_)
  repeat refine ai ?_
  refine ⟨_,aS hlt,Nat.le_refl _,?_⟩
  exact ⟨_,_,_,⟨i+1,rfl,hlt,rfl,rfl⟩,by omega,rfl,rfl,⟨rfl,rfl,nd (Y hlt hs),trivial⟩,⟨rfl,trivial⟩,⟨dZ hlt rfl,trivial⟩⟩
 ·exact ⟨[some 0],rfl,rfl,⟨d5 (Z h1) hi,rfl⟩,trivial⟩
theorem re (xs:List GateMend):HSpec P 49 [.d (af xs)] hp0 (.own 0) ⟨[(0,.tree 166 6 GateMend.n (xs.map GateMend.e))],1,0⟩:=by
 refine aC dY au [.tmp 2] Tryz.func49 rfl rfl rfl rfl (fun hok=>?_)
 have hs:xs.length≤ap:=by have:=hok.1.1;rwa [List.length_map] at this
 repeat refine ai ?_
 refine aj (Int.natCast_nonneg _) (aj (Int.le_refl _) (aj (dH hs) ?_))
 refine ⟨fun k l h=>∃i:Nat,k=xs.length - i∧i≤xs.length∧l=[(0,.d (af xs)),(3,.own 0),(4,.d (.int .i64 i))]∧h=⟨[(0,.tree 166 6 GateMend.n (bc GateMend.e xs GateMend.z i))],1,0⟩,
  ⟨_,_,_,⟨0,rfl,Nat.zero_le _,rfl,rfl⟩,rfl,rfl,⟨rfl,rfl,rfl,trivial⟩,⟨rfl,trivial⟩,⟨cH,trivial⟩⟩,?_⟩
 rintro k l h1 ⟨i,rfl,hi,rfl,rfl⟩
 refine aj ?_ ?_<;>intro h1
 ·have hlt:i<xs.length:=V h1
  repeat refine ai ?_
  refine U (e:=GateMend.e) (xs:=xs) (hlt) rfl ?_
  repeat refine ai ?_
  refine oc (nB _) ?_
  repeat refine ai ?_
  refine aj (Int.natCast_nonneg _) (aj (by rw[aR hi];omega) ?_)
  repeat refine ai ?_
  refine ⟨_,aS hlt,Nat.le_refl _,?_⟩
  exact ⟨_,_,_,⟨i+1,rfl,hlt,rfl,rfl⟩,by omega,rfl,rfl,⟨rfl,rfl,nd (Y hlt hs),trivial⟩,⟨rfl,trivial⟩,⟨dZ hlt rfl,trivial⟩⟩
 ·exact ⟨[some 0],rfl,rfl,⟨d5 (Z h1) hi,rfl⟩,trivial⟩
theorem ra (xs:List GateTeam):HSpec P 50 [.d (al xs)] hp0 (.own 0) ⟨[(0,.tree 168 2 GateTeam.n (xs.map GateTeam.e))],1,0⟩:=by
 refine aC dY au [.tmp 2] Tryz.func50 rfl rfl rfl rfl (fun hok=>?_)
 have hs:xs.length≤ap:=by have:=hok.1.1;rwa [List.length_map] at this
 repeat refine ai ?_
 refine aj (Int.natCast_nonneg _) (aj (Int.le_refl _) (aj (dH hs) ?_))
 refine ⟨fun k l h=>∃i:Nat,k=xs.length - i∧i≤xs.length∧l=[(0,.d (al xs)),(3,.own 0),(4,.d (.int .i64 i))]∧h=⟨[(0,.tree 168 2 GateTeam.n (bc GateTeam.e xs GateTeam.z i))],1,0⟩,
  ⟨_,_,_,⟨0,rfl,Nat.zero_le _,rfl,rfl⟩,rfl,rfl,⟨rfl,rfl,rfl,trivial⟩,⟨rfl,trivial⟩,⟨cH,trivial⟩⟩,?_⟩
 rintro k l h1 ⟨i,rfl,hi,rfl,rfl⟩
 refine aj ?_ ?_<;>intro h1
 ·have hlt:i<xs.length:=V h1
  repeat refine ai ?_
  refine U (e:=GateTeam.e) (xs:=xs) (hlt) rfl ?_
  repeat refine ai ?_
  refine oc (nA _) ?_
  repeat refine ai ?_
  refine aj (Int.natCast_nonneg _) (aj (by rw[aR hi];omega) ?_)
  repeat refine ai ?_
  refine ⟨_,aS hlt,Nat.le_refl _,?_⟩
  exact ⟨_,_,_,⟨i+1,rfl,hlt,rfl,rfl⟩,by omega,rfl,rfl,⟨rfl,rfl,nd (Y hlt hs),trivial⟩,⟨rfl,trivial⟩,⟨dZ hlt rfl,trivial⟩⟩
 ·exact ⟨[some 0],rfl,rfl,⟨d5 (Z h1) hi,rfl⟩,trivial⟩
set_option maxHeartbeats 2000000 in
theorem vQ (x:GateLaw):HSpec P 14 [st x.e] hp0 (.agg x.a) ⟨x.o,3,0⟩:=by
 refine aC dY au [.cell 2 41] Tryz.func14 rfl rfl rfl rfl (fun hok=>?_)
 repeat refine ai ?_
 refine ow (pm _) ?_
 repeat refine ai ?_
 refine ow (re _) ?_
 repeat refine ai ?_
 refine ow (ra _) ?_
 repeat refine ai ?_
 exact ⟨[some 3,some 4,some 5],by (repeat' first|exact rfl|exact trivial|refine aj ?_ ?_)⟩
set_option maxHeartbeats 2000000 in
theorem po (x:GateObject):HSpec P 121 [st x.e] hp0 (.agg x.a) ⟨x.o,2,0⟩:=by
 refine aC dY au [.cell 2 103] Tryz.func121 rfl rfl rfl rfl (fun hok=>?_)
 repeat refine ai ?_
 refine ow (jr _) ?_
 repeat refine ai ?_
 refine ow (jr _) ?_
 repeat refine ai ?_
 exact ⟨[some 3,some 4],by (repeat' first|exact rfl|exact trivial|refine aj ?_ ?_)⟩
theorem nU (xs:List GateObject):HSpec P 51 [.d (aF xs)] hp0 (.own 0) ⟨[(0,.tree 103 7 GateObject.n (xs.map GateObject.e))],1,0⟩:=by
 refine aC dY au [.tmp 2] Tryz.func51 rfl rfl rfl rfl (fun hok=>?_)
 have hs:xs.length≤ap:=by have:=hok.1.1;rwa [List.length_map] at this
 repeat refine ai ?_
 refine aj (Int.natCast_nonneg _) (aj (Int.le_refl _) (aj (dH hs) ?_))
 refine ⟨fun k l h=>∃i:Nat,k=xs.length - i∧i≤xs.length∧l=[(0,.d (aF xs)),(3,.own 0),(4,.d (.int .i64 i))]∧h=⟨[(0,.tree 103 7 GateObject.n (bc GateObject.e xs GateObject.z i))],1,0⟩,
  ⟨_,_,_,⟨0,rfl,Nat.zero_le _,rfl,rfl⟩,rfl,rfl,⟨rfl,rfl,rfl,trivial⟩,⟨rfl,trivial⟩,⟨cH,trivial⟩⟩,?_⟩
 rintro k l h1 ⟨i,rfl,hi,rfl,rfl⟩
 refine aj ?_ ?_<;>intro h1
 ·have hlt:i<xs.length:=V h1
  repeat refine ai ?_
  refine U (e:=GateObject.e) (xs:=xs) (hlt) rfl ?_
  repeat refine ai ?_
  refine ow (po _) ?_
  repeat refine ai ?_
  refine aj (Int.natCast_nonneg _) (aj (by rw[aR hi];omega) ?_)
  repeat refine ai ?_
  refine ⟨_,aS hlt,Nat.le_refl _,?_⟩
  exact ⟨_,_,_,⟨i+1,rfl,hlt,rfl,rfl⟩,by omega,rfl,rfl,⟨rfl,rfl,nd (Y hlt hs),trivial⟩,⟨rfl,trivial⟩,⟨dZ hlt rfl,trivial⟩⟩
 ·exact ⟨[some 0],rfl,rfl,⟨d5 (Z h1) hi,rfl⟩,trivial⟩
set_option maxHeartbeats 2000000 in
theorem tX (x:GateRule):HSpec P 180 [st x.e] hp0 (.agg x.a) ⟨x.o,1,0⟩:=by
 refine aC dY au [.cell 2 171] Tryz.func180 rfl rfl rfl rfl (fun hok=>?_)
 repeat refine ai ?_
 refine ow (AM _) ?_
 repeat refine ai ?_
 exact ⟨[some 3],by (repeat' first|exact rfl|exact trivial|refine aj ?_ ?_)⟩
set_option maxHeartbeats 2000000 in
theorem rf (x:GateGrant):HSpec P 122 [st x.e] hp0 (.agg x.a) ⟨x.o,1,0⟩:=by
 refine aC dY au [.cell 2 173] Tryz.func122 rfl rfl rfl rfl (fun hok=>?_)
 repeat refine ai ?_
 refine ow (tX _) ?_
 repeat refine ai ?_
 exact ⟨[some 3],by (repeat' first|exact rfl|exact trivial|refine aj ?_ ?_)⟩
theorem pp (xs:List GateGrant):HSpec P 52 [.d (bn xs)] hp0 (.own 0) ⟨[(0,.tree 173 7 GateGrant.n (xs.map GateGrant.e))],1,0⟩:=by
 refine aC dY au [.tmp 2] Tryz.func52 rfl rfl rfl rfl (fun hok=>?_)
 have hs:xs.length≤ap:=by have:=hok.1.1;rwa [List.length_map] at this
 repeat refine ai ?_
 refine aj (Int.natCast_nonneg _) (aj (Int.le_refl _) (aj (dH hs) ?_))
 refine ⟨fun k l h=>∃i:Nat,k=xs.length - i∧i≤xs.length∧l=[(0,.d (bn xs)),(3,.own 0),(4,.d (.int .i64 i))]∧h=⟨[(0,.tree 173 7 GateGrant.n (bc GateGrant.e xs GateGrant.z i))],1,0⟩,
  ⟨_,_,_,⟨0,rfl,Nat.zero_le _,rfl,rfl⟩,rfl,rfl,⟨rfl,rfl,rfl,trivial⟩,⟨rfl,trivial⟩,⟨cH,trivial⟩⟩,?_⟩
 rintro k l h1 ⟨i,rfl,hi,rfl,rfl⟩
 refine aj ?_ ?_<;>intro h1
 ·have hlt:i<xs.length:=V h1
  repeat refine ai ?_
  refine U (e:=GateGrant.e) (xs:=xs) (hlt) rfl ?_
  repeat refine ai ?_
  refine ow (rf _) ?_
  repeat refine ai ?_
  refine aj (Int.natCast_nonneg _) (aj (by rw[aR hi];omega) ?_)
  repeat refine ai ?_
  refine ⟨_,aS hlt,Nat.le_refl _,?_⟩
  exact ⟨_,_,_,⟨i+1,rfl,hlt,rfl,rfl⟩,by omega,rfl,rfl,⟨rfl,rfl,nd (Y hlt hs),trivial⟩,⟨rfl,trivial⟩,⟨dZ hlt rfl,trivial⟩⟩
 ·exact ⟨[some 0],rfl,rfl,⟨d5 (Z h1) hi,rfl⟩,trivial⟩
theorem nV (xs:List GateLedger):HSpec P 53 [.d (aV xs)] hp0 (.own 0) ⟨[(0,.tree 119 4 GateLedger.n (xs.map GateLedger.e))],1,0⟩:=by
 refine aC dY au [.tmp 2] Tryz.func53 rfl rfl rfl rfl (fun hok=>?_)
 have hs:xs.length≤ap:=by have:=hok.1.1;rwa [List.length_map] at this
 repeat refine ai ?_
 refine aj (Int.natCast_nonneg _) (aj (Int.le_refl _) (aj (dH hs) ?_))
 refine ⟨fun k l h=>∃i:Nat,k=xs.length - i∧i≤xs.length∧l=[(0,.d (aV xs)),(3,.own 0),(4,.d (.int .i64 i))]∧h=⟨[(0,.tree 119 4 GateLedger.n (bc GateLedger.e xs GateLedger.z i))],1,0⟩,
  ⟨_,_,_,⟨0,rfl,Nat.zero_le _,rfl,rfl⟩,rfl,rfl,⟨rfl,rfl,rfl,trivial⟩,⟨rfl,trivial⟩,⟨cH,trivial⟩⟩,?_⟩
 rintro k l h1 ⟨i,rfl,hi,rfl,rfl⟩
 refine aj ?_ ?_<;>intro h1
 ·have hlt:i<xs.length:=V h1
  repeat refine ai ?_
  refine U (e:=GateLedger.e) (xs:=xs) (hlt) rfl ?_
  repeat refine ai ?_
  refine oc (kn _) ?_
  repeat refine ai ?_
  refine aj (Int.natCast_nonneg _) (aj (by rw[aR hi];omega) ?_)
  repeat refine ai ?_
  refine ⟨_,aS hlt,Nat.le_refl _,?_⟩
  exact ⟨_,_,_,⟨i+1,rfl,hlt,rfl,rfl⟩,by omega,rfl,rfl,⟨rfl,rfl,nd (Y hlt hs),trivial⟩,⟨rfl,trivial⟩,⟨dZ hlt rfl,trivial⟩⟩
 ·exact ⟨[some 0],rfl,rfl,⟨d5 (Z h1) hi,rfl⟩,trivial⟩
theorem pn (xs:List GatePurse):HSpec P 54 [.d (bk xs)] hp0 (.own 0) ⟨[(0,.tree 109 5 GatePurse.n (xs.map GatePurse.e))],1,0⟩:=by
 refine aC dY au [.tmp 2] Tryz.func54 rfl rfl rfl rfl (fun hok=>?_)
 have hs:xs.length≤ap:=by have:=hok.1.1;rwa [List.length_map] at this
 repeat refine ai ?_
 refine aj (Int.natCast_nonneg _) (aj (Int.le_refl _) (aj (dH hs) ?_))
 refine ⟨fun k l h=>∃i:Nat,k=xs.length - i∧i≤xs.length∧l=[(0,.d (bk xs)),(3,.own 0),(4,.d (.int .i64 i))]∧h=⟨[(0,.tree 109 5 GatePurse.n (bc GatePurse.e xs GatePurse.z i))],1,0⟩,
  ⟨_,_,_,⟨0,rfl,Nat.zero_le _,rfl,rfl⟩,rfl,rfl,⟨rfl,rfl,rfl,trivial⟩,⟨rfl,trivial⟩,⟨cH,trivial⟩⟩,?_⟩
 rintro k l h1 ⟨i,rfl,hi,rfl,rfl⟩
 refine aj ?_ ?_<;>intro h1
 ·have hlt:i<xs.length:=V h1
  repeat refine ai ?_
  refine U (e:=GatePurse.e) (xs:=xs) (hlt) rfl ?_
  repeat refine ai ?_
  refine oc (lA _) ?_
  repeat refine ai ?_
  refine aj (Int.natCast_nonneg _) (aj (by rw[aR hi];omega) ?_)
  repeat refine ai ?_
  refine ⟨_,aS hlt,Nat.le_refl _,?_⟩
  exact ⟨_,_,_,⟨i+1,rfl,hlt,rfl,rfl⟩,by omega,rfl,rfl,⟨rfl,rfl,nd (Y hlt hs),trivial⟩,⟨rfl,trivial⟩,⟨dZ hlt rfl,trivial⟩⟩
 ·exact ⟨[some 0],rfl,rfl,⟨d5 (Z h1) hi,rfl⟩,trivial⟩
set_option maxHeartbeats 2000000 in
theorem tY (x:GateBook):HSpec P 15 [st x.e] hp0 (.agg x.a) ⟨x.o,4,0⟩:=by
 refine aC dY au [.cell 2 48] Tryz.func15 rfl rfl rfl rfl (fun hok=>?_)
 repeat refine ai ?_
 refine ow (nU _) ?_
 repeat refine ai ?_
 refine ow (pp _) ?_
 repeat refine ai ?_
 refine ow (nV _) ?_
 repeat refine ai ?_
 refine ow (pn _) ?_
 repeat refine ai ?_
 exact ⟨[some 3,some 4,some 5,some 6],by (repeat' first|exact rfl|exact trivial|refine aj ?_ ?_)⟩
end Go.Vc
end
section
namespace Go.Vc
open Go.Proofs
set_option maxRecDepth 100000
theorem C0 {A B:Prop} (h:B):(false=true→A)∧B:=⟨fun g=>(by cases g),h⟩
theorem Al (L:GateLaw) (o to:GateObject) (role:Int):Spec P 77 [st L.e,st o.e,st to.e,.d (.int .i64 role)] (.d (.bool (fS L.shapes o to role))):=by
 refine Spec.of_vc aG au [.cell 8 4] Tryz.func77 rfl rfl rfl rfl (fun hok=>?_)
 repeat refine ai ?_
 refine oc (oV _ _) ?_
 repeat refine ai ?_
 refine ⟨(cg L.shapes o).map fC,fun k=>∀p,(cg L.shapes o)[k]? =some p→gV o to role p=false,mD L o _,?_,?_,?_⟩
 ·intro X hX x hx
  obtain ⟨p,_,rfl⟩:=List.mem_map.1 hX
  obtain ⟨A,c,rfl⟩:=c9 hx
  rfl
 ·intro k X hX x hx
  obtain ⟨p,hp,hpm,rfl⟩:=j3 hX
  obtain ⟨A,c,rfl⟩:=c9 hx
  have hpl:=iT hpm
  have hpn:gV o to role p=(p.2.role==role&&(p.2.to_==to.kind&&o.values[p.1]==to.name)):=by simp only[gV,fQ hpl]
  repeat refine ai ?_
  refine ⟨[(5,.ptr 1 0),(6,.ptr 2 0),(7,.ptr 3 0),(8,.ptr 4 0),(9,.d (.int .i64 p.1)),(10,.at_ [.str p.2.name,.int .i64 p.2.kind,.int .i64 p.2.least,.int .i64 p.2.most,.raw (.slice A (p.2.words.map eB).length c),.str p.2.to_,.int .i64 p.2.role,.bool p.2.must,.bool p.2.fixed,.str p.2.default_,.str p.2.weighs])],⟨rfl,rfl,⟨rfl,rfl,rfl,rfl,rfl,.inr ⟨_,_,_,_,rfl,Nat.le_of_ble_eq_true rfl,rfl,rfl,rfl⟩,trivial⟩,?_,?_⟩,?_⟩
  ·repeat' first|exact rfl|exact trivial|refine aj ?_ ?_
  ·repeat' first|exact rfl|exact trivial|refine aj ?_ ?_
  repeat refine ai ?_
  refine ak ?_
  repeat refine ai ?_
  refine aj ?_ ?_<;>intro d1
  ·repeat refine ai ?_
   refine aj ?_ ?_<;>intro d2
   ·repeat refine ai ?_
    refine U (e:=eB) (xs:=o.values) (hpl) rfl ?_
    repeat refine ai ?_
    refine aj ?_ ?_<;>intro d3
    ·repeat refine ai ?_
     refine bd ?_
     simp only[cond_true] at d2 d3
     exact (List.any_eq_true.2 ⟨p,hpm,show gV o to role p=true by rw[hpn];simp only[d1,d2,d3,Bool.and_self]⟩).symm
    ·try simp only[cond_true] at*
     repeat' first
      |refine ai ?_
      |refine C0 (fun _=>?_)
     refine ⟨fun p' hp'=>?_,rfl,rfl,trivial,?_,?_⟩
     ·rw[hp] at hp'
      cases hp'
      rw[hpn]
      simp only[d3,bl]
     ·repeat' first|exact rfl|exact trivial|refine aj ?_ ?_
     ·repeat' first|exact rfl|exact trivial|refine aj ?_ ?_
   ·try simp only[cond_true] at*
    repeat' first
     |refine ai ?_
     |refine C0 (fun _=>?_)
    refine ⟨fun p' hp'=>?_,rfl,rfl,trivial,?_,?_⟩
    ·rw[hp] at hp'
     cases hp'
     rw[hpn]
     simp only[d2,bl]
    ·repeat' first|exact rfl|exact trivial|refine aj ?_ ?_
    ·repeat' first|exact rfl|exact trivial|refine aj ?_ ?_
  ·try simp only[cond_true] at*
   repeat' first
    |refine ai ?_
    |refine C0 (fun _=>?_)
   refine ⟨fun p' hp'=>?_,rfl,rfl,trivial,?_,?_⟩
   ·rw[hp] at hp'
    cases hp'
    rw[hpn]
    simp only[d1,bl]
   ·repeat' first|exact rfl|exact trivial|refine aj ?_ ?_
   ·repeat' first|exact rfl|exact trivial|refine aj ?_ ?_
 ·intro hall
  have hal:fS L.shapes o to role=false:=by
   unfold fS
   rw[List.any_eq_false]
   intro p hp
   obtain ⟨k,hk,rfl⟩:=List.getElem_of_mem hp
   rw[hall k (by rw[List.length_map];exact hk) _ (List.getElem?_eq_getElem hk)]
   simp
  rw[hal]
  repeat refine ai ?_
  exact rfl
theorem BH (L:GateLaw) (b:GateBook):HSpec P 56 [st L.e,st b.e] hp0 (.own 0) ⟨[(0,.tree 3 1 [.leaf] ((bS (gu L b) b.objects 0).map eN))],1,0⟩:=by
 refine aC dY au [.tmp 4] Tryz.func56 rfl rfl rfl rfl (fun hok=>?_)
 have hs:=(cE hok.2).1
 repeat refine ai ?_
 refine mq (b.objects) (fun i (ns:List Int)=>bS (gu L b) b.objects 0=ns++bS (gu L b) (b.objects.drop i) i∧ns.length≤i) (fun i (ns:List Int)=>[(2,.ptr 0 0),(3,.ptr 1 0),(5,.own 2),(11,.d (aF b.objects)),(12,.d (.int .i64 (b.objects.map GateObject.e).length)),(13,.d (.int .i64 i))]) (fun i (ns:List Int)=>⟨[(2,.tree 3 1 [.leaf] (ns.map eN)),(1,.cells 48 (b.e.map .d)),(0,.cells 41 (L.e.map .d))],3,0⟩) ((show bS (gu L b) b.objects 0=([]:List Int)++bS (gu L b) (b.objects.drop 0) 0∧([]:List Int).length≤0 from ⟨rfl,Nat.le_refl 0⟩)) ?_
 intro i ns hi hr
 obtain ⟨ho,hn⟩:=hr
 repeat refine ai ?_
 refine aj ?_ ?_<;>intro h1
 ·have hlt:i<b.objects.length:=V h1
  rw[l6 hlt] at ho
  have hP:gu L b b.objects[i]=(!b.objects[i].ending&&b.objects.any (fun x=>x.ending&&fS L.shapes b.objects[i] x 3)):=rfl
  repeat refine ai ?_
  refine U (e:=GateObject.e) (xs:=b.objects) (hlt) rfl ?_
  repeat refine ai ?_
  refine aj ?_ ?_<;>intro h5
  ·rw[hP,h5,Bool.not_true,Bool.false_and,cond_false] at ho
   repeat refine ai ?_
   exact cV ns hlt hs ⟨ho,by omega⟩
  ·rw[hP,h5,Bool.not_false,Bool.true_and] at ho
   repeat refine ai ?_
   refine dX (b.objects) (fun q=>b.objects.any (fun x=>x.ending&&fS L.shapes b.objects[i] x 3)=(b.objects.drop q).any (fun x=>x.ending&&fS L.shapes b.objects[i] x 3)) (fun q=>[(2,.ptr 0 0),(3,.ptr 1 0),(5,.own 2),(6,.d (.int .i64 i)),(7,.ptr 3 0),(11,.d (aF b.objects)),(12,.d (.int .i64 (b.objects.map GateObject.e).length)),(13,.d (.int .i64 i)),(21,.d (aF b.objects)),(22,.d (.int .i64 (b.objects.map GateObject.e).length)),(23,.d (.int .i64 q))]) (fun q=>⟨[(3,.cells 103 (b.objects[i].e.map .d)),(2,.tree 3 1 [.leaf] (ns.map eN)),(1,.cells 48 (b.e.map .d)),(0,.cells 41 (L.e.map .d))],4,0⟩) (rfl) ?_
   intro q hq hr
   repeat refine ai ?_
   refine aj ?_ ?_<;>intro h2
   ·have hlq:q<b.objects.length:=V h2
    rw[fO hlq] at hr
    repeat refine ai ?_
    refine U (e:=GateObject.e) (xs:=b.objects) (hlq) rfl ?_
    repeat refine ai ?_
    refine aj ?_ ?_<;>intro h3
    ·repeat refine ai ?_
     refine oc (Al L _ _ 3) ?_
     repeat refine ai ?_
     refine aj ?_ ?_<;>intro h4
     ·rw[hr,h3,h4,Bool.true_and,Bool.true_or,cond_true] at ho
      repeat refine ai ?_
      refine aj trivial ?_
      repeat refine ai ?_
      refine aj (by simp only[List.length_append,List.length_nil,List.length_cons,List.length_map] at*;unfold ap at*;omega) ?_
      repeat refine ai ?_
      exact cV (ns++[(i:Int)]) hlt hs ⟨by rw[ho,List.append_assoc];rfl,by rw[List.length_append];simp only[List.length_cons,List.length_nil];omega⟩ fun hw=>by repeat' first|exact rfl|exact trivial|exact nd hw|(rw[List.map_append];exact rfl)|refine aj ?_ ?_
     ·repeat refine ai ?_
      exact bX hlq hs (by rw[hr,h3,h4];simp only[bl])
    ·repeat refine ai ?_
     exact bX hlq hs (by rw[hr,h3];simp only[bl])
   ·rw[hr,gQ (Z h2),cond_false] at ho
    repeat refine ai ?_
    exact cV ns hlt hs ⟨ho,by omega⟩
 ·rw[ho,nH (Z h1),List.append_nil]
  repeat refine ai ?_
  exact ⟨[some 2],by repeat' first|exact rfl|exact trivial|refine aj ?_ ?_⟩
theorem qy (L:GateLaw) (b:GateBook):HSpec P 16 [st L.e,st b.e] hp0 (.own 0) ⟨[(0,.tree 3 1 [.leaf] ((gv L b).map eN))],1,0⟩:=by
 refine aC dY au [.tmp 4] Tryz.func16 rfl rfl rfl rfl (fun hok=>?_)
 repeat refine ai ?_
 refine oc (uX L b) ?_
 repeat refine ai ?_
 refine aj ?_ ?_<;>intro h1
 ·have h1:g8 L b=false:=oz h1
  rw[show gv L b=[] from by rw[gv,h1];rfl]
  repeat refine ai ?_
  exact ⟨[none],by repeat' first|exact rfl|exact trivial|refine aj ?_ ?_⟩
 ·have h1:g8 L b=true:=li h1
  rw[show gv L b=bS (gu L b) b.objects 0 from by rw[gv,h1];rfl]
  repeat refine ai ?_
  refine ow (BH L b) ?_
  repeat refine ai ?_
  exact ⟨[some 2],by repeat' first|exact rfl|exact trivial|refine aj ?_ ?_⟩
theorem Ag (L:GateLaw) (b:GateBook):(gv L b).length≤b.objects.length:=by
 unfold gv
 cases g8 L b with
 |true=>exact nG _ _
 |false=>exact Nat.zero_le _
end Go.Vc
end
section
namespace Go.Vc
open Go.Proofs
set_option maxRecDepth 100000
theorem aP {k:Int} (h0:0≤k) (h:k+1≤1099511627776):wk k=k+1:=by
 unfold wk
 rw[IntKind.wrap_i64];omega
def mi (k:Int):Int:=k
def mb (k:Int):Bool:=k.tmod 3==0
def cy {α:Type} (f:α→Int):List α→Int
 |[]=>0
 |x::xs=>f x+cy f xs
def ji {α:Type} (f:α→Int):List α→Int
 |[]=>0
 |x::xs=>1+f x+ji f xs
theorem aY {α:Type} {f:α→Int} (h:∀x,0≤f x):∀xs,0≤cy f xs
 |[]=>Int.le_refl _
 |x::xs=>by have:=aY h xs;have:=h x;simp only[cy];omega
theorem bF {α:Type} {f:α→Int} (h:∀x,0≤f x):∀xs,0≤ji f xs
 |[]=>Int.le_refl _
 |x::xs=>by have:=bF h xs;have:=h x;simp only[ji];omega
theorem fk {α:Type} {f g:α→Int} (h:∀x,f x≤32+32*g x):∀xs,cy f xs≤32*ji g xs
 |[]=>by simp[cy,ji]
 |x::xs=>by have:=fk h xs;have:=h x;simp only[cy,ji];omega
theorem df {α:Type} {f:α→Int→α×Int} {l:α→Int} (hf:∀x k,0≤k→k+l x≤1099511627776→(f x k).2=k+l x) (hl:∀x,0≤l x):∀(xs:List α) (k:Int),0≤k→k+cy l xs≤1099511627776→(aJ f xs k).2=k+cy l xs
 |[],k,_,_=>by simp[aJ,cy]
 |x::xs,k,h0,h=>by
  have p:=aY hl xs
  have q:=hl x
  simp only[cy] at h
  simp only[aJ,cy]
  rw[hf x k h0 (by omega),df hf hl xs _ (by omega) (by omega)];omega
theorem C5 {α:Type} {f:α→Int→α×Int} {l:α→Int} (hf:∀x k,0≤k→k+l x≤1099511627776→(f x k).2=k+l x) (hl:∀x,0≤l x) {xs:List α} {k:Int} {i:Nat} (h0:0≤k) (h:k+cy l xs≤1099511627776) (hi:i<xs.length):
 0≤mn f xs k i∧mn f xs k i+l xs[i]≤1099511627776:=by
 have split:∀(xs:List α) (i:Nat) (hi:i<xs.length),cy l (xs.take i)+l xs[i]≤cy l xs:=by
  intro xs
  induction xs with
  |nil=>intro i hi;simp at hi
  |cons x xs ih=>
   intro i hi
   have p:=aY hl xs
   cases i with
   |zero=>simp only[List.take_zero,cy,List.getElem_cons_zero];omega
   |succ i=>
    have:=ih i (by simpa using hi)
    simp only[List.take_succ_cons,cy,List.getElem_cons_succ];omega
 have h1:=split xs i hi
 have h2:=aY hl (xs.take i)
 have h3:=hl xs[i]
 unfold mn
 rw[df hf hl _ _ h0 (by omega)];omega
def gk {α:Type} (_:α):Int:=1
def zo {α:Type} (_:α):Int:=0
theorem dW {α:Type} (x:α):0≤gk x:=by unfold gk;decide
theorem gZ {α:Type} (x:α):0≤zo x:=by unfold zo;decide
theorem uJ {α:Type} (x:α):gk x≤32+32*zo x:=by unfold gk zo;decide
def dg (k:Int):UInt8:=UInt8.ofNat (IntKind.u8.wrap (IntKind.i64.wrap (48+k.tmod 10))).toNat
def C3:Nat→Int→Bs→Bs
 |0,_,out=>out
 |n+1,k,out=>bif decide (k>0) then C3 n (IntKind.i64.wrap (k.tdiv 10)) (dg k::out) else out
def mt (k:Int):Bs:=bif decide (k≤0) then [109,48] else 109::C3 21 k []
def DE (out:Bs) (j:Int):Prop:=out=[]∨(1≤out.length∧out.length≤20∧j.toNat*10 ^ (out.length - 1)<10 ^ 19)
theorem Cu {out:Bs} {j:Int} (h:DE out j):out.length≤20:=by
 rcases h with rfl|h
 ·simp
 ·exact h.2.1
theorem Bp {out:Bs} {j:Int} (h:DE out j) (hj:0<j):out.length≤19:=by
 rcases h with rfl|⟨h1,h2,h3⟩
 ·simp
 ·refine Nat.le_of_not_lt fun hl=>?_
  have e:out.length - 1=19:=by omega
  rw[e] at h3
  have:1≤j.toNat:=by omega
  omega
theorem Bo {out:Bs} {j:Int} {c:UInt8} (h:DE out j) (hj:0<j):DE (c::out) (IntKind.i64.wrap (j.tdiv 10)):=by
 have hl:=Bp h hj
 have hd:j.tdiv 10=j/10:=Int.tdiv_eq_ediv_of_nonneg (by omega)
 have hw:(IntKind.i64.wrap (j.tdiv 10)).toNat≤j.toNat/10∧(IntKind.i64.wrap (j.tdiv 10)).toNat<10 ^ 19:=by
  rw[hd,IntKind.wrap_i64]
  omega
 refine .inr ⟨by simp,by simp only[List.length_cons];omega,?_⟩
 simp only[List.length_cons,Nat.add_sub_cancel]
 rcases h with rfl|⟨h1,h2,h3⟩
 ·simpa using hw.2
 ·obtain ⟨n,hn⟩:∃n,out.length=n+1:=⟨out.length - 1,by omega⟩
  rw[hn,Nat.add_sub_cancel] at h3
  rw[hn,Nat.pow_succ]
  refine Nat.lt_of_le_of_lt ?_ h3
  rw[Nat.mul_comm (10 ^ n) 10,←Nat.mul_assoc]
  refine Nat.mul_le_mul_right _ ?_
  have:=hw.1
  omega
theorem pL (k:Int):Spec P 136 [.d (.int .i64 k)] (.d (.str (mt k))):=by
 refine Spec.of_vc aG au [.tmp 2] Tryz.func136 rfl rfl rfl rfl (fun hok=>?_)
 repeat refine ai ?_
 refine aj ?_ ?_<;>intro h0
 ·repeat refine ai ?_
  unfold mt
  rw[h0]
  rfl
 ·repeat refine ai ?_
  refine ⟨fun m l h=>∃(out:Bs) (j:Int),m=21 - out.length∧C3 21 k []=C3 (21 - out.length) j out∧DE out j∧l=[(0,.d (.int .i64 j)),(3,.d (.str out))]∧h=hp0,
   ⟨_,_,_,⟨[],k,rfl,rfl,.inl rfl,rfl,rfl⟩,rfl,rfl,⟨rfl,rfl,trivial⟩,trivial,trivial⟩,?_⟩
  rintro m l hh ⟨out,j,rfl,hr,hb,rfl,rfl⟩
  repeat refine ai ?_
  refine aj ?_ ?_<;>intro h1
  ·have hj:0<j:=of_decide_eq_true h1
   have hl:=Bp hb hj
   repeat refine ai ?_
   refine aj (by decide) ?_
   repeat refine ai ?_
   refine aj (by unfold ap;simp) ?_
   repeat refine ai ?_
   refine aj (by unfold ap;simp only[List.length_cons,List.length_nil];omega) ?_
   repeat refine ai ?_
   refine aj (by decide) ?_
   repeat refine ai ?_
   refine ⟨_,_,_,⟨dg j::out,IntKind.i64.wrap (j.tdiv 10),rfl,?_,Bo hb hj,rfl,rfl⟩,?_,rfl,rfl,⟨rfl,rfl,trivial⟩,trivial,trivial⟩
   ·rw[hr,show 21 - out.length=(21 - (dg j::out).length)+1 from by simp only[List.length_cons];omega]
    simp only[C3,h1,cond_true]
   ·simp only[List.length_cons];omega
  ·have hl:=Cu hb
   repeat refine ai ?_
   refine aj (by unfold ap;simp only[List.length_cons,List.length_nil];omega) ?_
   repeat refine ai ?_
   have hg:C3 (21 - out.length) j out=out:=by
    rw[show 21 - out.length=(20 - out.length)+1 from by omega]
    simp only[C3,h1,cond_false]
   unfold mt
   rw[h0,hr,hg]
   rfl
def gC (_:Bs) (k:Int):Bs×Int:=(mt k,wk k)
def jh (_:Int) (k:Int):Int×Int:=(mi k,wk k)
theorem uH (x:Bs) (k:Int) (h0:0≤k) (h:k+gk x≤1099511627776):(gC x k).2=k+gk x:=aP h0 h
theorem uG (x:Int) (k:Int) (h0:0≤k) (h:k+gk x≤1099511627776):(jh x k).2=k+gk x:=aP h0 h
end Go.Vc
end
section
namespace Go.Vc
open Go.Proofs
noncomputable def GateField.mark (x:GateField) (k:Int):GateField×Int:=(⟨(mt k),(mi (wk k)),(mi (wk (wk k))),(mi (wk (wk (wk k)))),(aJ gC x.words (wk (wk (wk (wk k))))).1,(mt (aJ gC x.words (wk (wk (wk (wk k))))).2),(mi (wk (aJ gC x.words (wk (wk (wk (wk k))))).2)),(mb (wk (wk (aJ gC x.words (wk (wk (wk (wk k))))).2))),(mb (wk (wk (wk (aJ gC x.words (wk (wk (wk (wk k))))).2)))),(mt (wk (wk (wk (wk (aJ gC x.words (wk (wk (wk (wk k))))).2))))),(mt (wk (wk (wk (wk (wk (aJ gC x.words (wk (wk (wk (wk k))))).2))))))⟩,(wk (wk (wk (wk (wk (wk (aJ gC x.words (wk (wk (wk (wk k))))).2)))))))
noncomputable def GateField.marks (x:GateField) (k:Int):GateField×Int:=(⟨x.name,x.kind,x.least,x.most,(aJ gC x.words k).1,x.to_,x.role,x.must,x.fixed,x.default_,x.weighs⟩,(aJ gC x.words k).2)
def GateField.lv (x:GateField):Int:=10+cy gk x.words
def GateField.el (x:GateField):Int:=0+ji zo x.words
theorem GateField.lv_nn (x:GateField):0≤x.lv:=by
 have p0:=aY dW x.words
 unfold GateField.lv;omega
theorem GateField.el_nn (x:GateField):0≤x.el:=by
 have p0:=bF gZ x.words
 unfold GateField.el;omega
theorem GateField.lv_le (x:GateField):x.lv≤32+32*x.el:=by
 have p0:=fk uJ x.words
 unfold GateField.lv GateField.el;omega
theorem GateField.mark_val (x:GateField) (k:Int) (h0:0≤k) (hB:k+(10+cy gk x.words)≤1099511627776):(GateField.mark x k).2=k+(10+cy gk x.words):=by
 have p0:=aY dW x.words
 have s0:(wk k)=k+1:=aP (by omega) (by omega)
 have s1:(wk (wk k))=k+2:=by rw[s0,aP (by omega) (by omega)];try omega
 have s2:(wk (wk (wk k)))=k+3:=by rw[s1,aP (by omega) (by omega)];try omega
 have s3:(wk (wk (wk (wk k))))=k+4:=by rw[s2,aP (by omega) (by omega)];try omega
 have s4:(aJ gC x.words (wk (wk (wk (wk k))))).2=k+4+cy gk x.words:=by rw[s3,df (l:=gk) uH dW x.words _ (by omega) (by omega)];try omega
 have s5:(wk (aJ gC x.words (wk (wk (wk (wk k))))).2)=k+5+cy gk x.words:=by rw[s4,aP (by omega) (by omega)];try omega
 have s6:(wk (wk (aJ gC x.words (wk (wk (wk (wk k))))).2))=k+6+cy gk x.words:=by rw[s5,aP (by omega) (by omega)];try omega
 have s7:(wk (wk (wk (aJ gC x.words (wk (wk (wk (wk k))))).2)))=k+7+cy gk x.words:=by rw[s6,aP (by omega) (by omega)];try omega
 have s8:(wk (wk (wk (wk (aJ gC x.words (wk (wk (wk (wk k))))).2))))=k+8+cy gk x.words:=by rw[s7,aP (by omega) (by omega)];try omega
 have s9:(wk (wk (wk (wk (wk (aJ gC x.words (wk (wk (wk (wk k))))).2)))))=k+9+cy gk x.words:=by rw[s8,aP (by omega) (by omega)];try omega
 have s10:(wk (wk (wk (wk (wk (wk (aJ gC x.words (wk (wk (wk (wk k))))).2))))))=k+10+cy gk x.words:=by rw[s9,aP (by omega) (by omega)];try omega
 show (wk (wk (wk (wk (wk (wk (aJ gC x.words (wk (wk (wk (wk k))))).2))))))=_
 rw[s10];try omega
noncomputable def GateShape.mark (x:GateShape) (k:Int):GateShape×Int:=(⟨(mt k),(aJ GateField.mark x.fields (wk k)).1⟩,(aJ GateField.mark x.fields (wk k)).2)
noncomputable def GateShape.marks (x:GateShape) (k:Int):GateShape×Int:=(⟨x.kind,(aJ GateField.mark x.fields k).1⟩,(aJ GateField.mark x.fields k).2)
def GateShape.lv (x:GateShape):Int:=1+cy GateField.lv x.fields
def GateShape.el (x:GateShape):Int:=0+ji GateField.el x.fields
theorem GateShape.lv_nn (x:GateShape):0≤x.lv:=by
 have p0:=aY GateField.lv_nn x.fields
 unfold GateShape.lv;omega
theorem GateShape.el_nn (x:GateShape):0≤x.el:=by
 have p0:=bF GateField.el_nn x.fields
 unfold GateShape.el;omega
theorem GateShape.lv_le (x:GateShape):x.lv≤32+32*x.el:=by
 have p0:=fk GateField.lv_le x.fields
 unfold GateShape.lv GateShape.el;omega
theorem GateShape.mark_val (x:GateShape) (k:Int) (h0:0≤k) (hB:k+(1+cy GateField.lv x.fields)≤1099511627776):(GateShape.mark x k).2=k+(1+cy GateField.lv x.fields):=by
 have p0:=aY GateField.lv_nn x.fields
 have s0:(wk k)=k+1:=aP (by omega) (by omega)
 have s1:(aJ GateField.mark x.fields (wk k)).2=k+1+cy GateField.lv x.fields:=by rw[s0,df (l:=GateField.lv) GateField.mark_val GateField.lv_nn x.fields _ (by omega) (by omega)];try omega
 show (aJ GateField.mark x.fields (wk k)).2=_
 rw[s1];try omega
noncomputable def GateMend.mark (x:GateMend) (k:Int):GateMend×Int:=(⟨(mt k),(mt (wk k)),(mt (wk (wk k))),(mt (wk (wk (wk k)))),(mt (wk (wk (wk (wk k))))),(mt (wk (wk (wk (wk (wk k))))))⟩,(wk (wk (wk (wk (wk (wk k)))))))
noncomputable def GateMend.marks (x:GateMend) (k:Int):GateMend×Int:=(⟨x.kind,x.field,x.when_,x.is_,x.put,x.from_⟩,k)
def GateMend.lv (x:GateMend):Int:=6
def GateMend.el (x:GateMend):Int:=0
theorem GateMend.lv_nn (x:GateMend):0≤x.lv:=by
 unfold GateMend.lv;omega
theorem GateMend.el_nn (x:GateMend):0≤x.el:=by
 unfold GateMend.el;omega
theorem GateMend.lv_le (x:GateMend):x.lv≤32+32*x.el:=by
 unfold GateMend.lv GateMend.el;omega
theorem GateMend.mark_val (x:GateMend) (k:Int) (h0:0≤k) (hB:k+(6)≤1099511627776):(GateMend.mark x k).2=k+(6):=by
 have s0:(wk k)=k+1:=aP (by omega) (by omega)
 have s1:(wk (wk k))=k+2:=by rw[s0,aP (by omega) (by omega)];try omega
 have s2:(wk (wk (wk k)))=k+3:=by rw[s1,aP (by omega) (by omega)];try omega
 have s3:(wk (wk (wk (wk k))))=k+4:=by rw[s2,aP (by omega) (by omega)];try omega
 have s4:(wk (wk (wk (wk (wk k)))))=k+5:=by rw[s3,aP (by omega) (by omega)];try omega
 have s5:(wk (wk (wk (wk (wk (wk k))))))=k+6:=by rw[s4,aP (by omega) (by omega)];try omega
 show (wk (wk (wk (wk (wk (wk k))))))=_
 rw[s5];try omega
noncomputable def GateTeam.mark (x:GateTeam) (k:Int):GateTeam×Int:=(⟨(mt k),(mt (wk k))⟩,(wk (wk k)))
noncomputable def GateTeam.marks (x:GateTeam) (k:Int):GateTeam×Int:=(⟨x.name,x.over⟩,k)
def GateTeam.lv (x:GateTeam):Int:=2
def GateTeam.el (x:GateTeam):Int:=0
theorem GateTeam.lv_nn (x:GateTeam):0≤x.lv:=by
 unfold GateTeam.lv;omega
theorem GateTeam.el_nn (x:GateTeam):0≤x.el:=by
 unfold GateTeam.el;omega
theorem GateTeam.lv_le (x:GateTeam):x.lv≤32+32*x.el:=by
 unfold GateTeam.lv GateTeam.el;omega
theorem GateTeam.mark_val (x:GateTeam) (k:Int) (h0:0≤k) (hB:k+(2)≤1099511627776):(GateTeam.mark x k).2=k+(2):=by
 have s0:(wk k)=k+1:=aP (by omega) (by omega)
 have s1:(wk (wk k))=k+2:=by rw[s0,aP (by omega) (by omega)];try omega
 show (wk (wk k))=_
 rw[s1];try omega
noncomputable def GateLaw.mark (x:GateLaw) (k:Int):GateLaw×Int:=(⟨(aJ GateShape.mark x.shapes k).1,(aJ GateMend.mark x.mends (aJ GateShape.mark x.shapes k).2).1,(aJ GateTeam.mark x.teams (aJ GateMend.mark x.mends (aJ GateShape.mark x.shapes k).2).2).1⟩,(aJ GateTeam.mark x.teams (aJ GateMend.mark x.mends (aJ GateShape.mark x.shapes k).2).2).2)
noncomputable def GateLaw.marks (x:GateLaw) (k:Int):GateLaw×Int:=(⟨(aJ GateShape.mark x.shapes k).1,(aJ GateMend.mark x.mends (aJ GateShape.mark x.shapes k).2).1,(aJ GateTeam.mark x.teams (aJ GateMend.mark x.mends (aJ GateShape.mark x.shapes k).2).2).1⟩,(aJ GateTeam.mark x.teams (aJ GateMend.mark x.mends (aJ GateShape.mark x.shapes k).2).2).2)
def GateLaw.lv (x:GateLaw):Int:=0+cy GateShape.lv x.shapes+cy GateMend.lv x.mends+cy GateTeam.lv x.teams
def GateLaw.el (x:GateLaw):Int:=0+ji GateShape.el x.shapes+ji GateMend.el x.mends+ji GateTeam.el x.teams
theorem GateLaw.lv_nn (x:GateLaw):0≤x.lv:=by
 have p0:=aY GateShape.lv_nn x.shapes
 have p1:=aY GateMend.lv_nn x.mends
 have p2:=aY GateTeam.lv_nn x.teams
 unfold GateLaw.lv;omega
theorem GateLaw.el_nn (x:GateLaw):0≤x.el:=by
 have p0:=bF GateShape.el_nn x.shapes
 have p1:=bF GateMend.el_nn x.mends
 have p2:=bF GateTeam.el_nn x.teams
 unfold GateLaw.el;omega
theorem GateLaw.lv_le (x:GateLaw):x.lv≤32+32*x.el:=by
 have p0:=fk GateShape.lv_le x.shapes
 have p1:=fk GateMend.lv_le x.mends
 have p2:=fk GateTeam.lv_le x.teams
 unfold GateLaw.lv GateLaw.el;omega
theorem GateLaw.marks_val (x:GateLaw) (k:Int) (h0:0≤k) (hB:k+(0+cy GateShape.lv x.shapes+cy GateMend.lv x.mends+cy GateTeam.lv x.teams)≤1099511627776):(GateLaw.marks x k).2=k+(0+cy GateShape.lv x.shapes+cy GateMend.lv x.mends+cy GateTeam.lv x.teams):=by
 have p0:=aY GateShape.lv_nn x.shapes
 have p1:=aY GateMend.lv_nn x.mends
 have p2:=aY GateTeam.lv_nn x.teams
 have s0:(aJ GateShape.mark x.shapes k).2=k+0+cy GateShape.lv x.shapes:=by rw[df (l:=GateShape.lv) GateShape.mark_val GateShape.lv_nn x.shapes _ (by omega) (by omega)];try omega
 have s1:(aJ GateMend.mark x.mends (aJ GateShape.mark x.shapes k).2).2=k+0+cy GateShape.lv x.shapes+cy GateMend.lv x.mends:=by rw[s0,df (l:=GateMend.lv) GateMend.mark_val GateMend.lv_nn x.mends _ (by omega) (by omega)];try omega
 have s2:(aJ GateTeam.mark x.teams (aJ GateMend.mark x.mends (aJ GateShape.mark x.shapes k).2).2).2=k+0+cy GateShape.lv x.shapes+cy GateMend.lv x.mends+cy GateTeam.lv x.teams:=by rw[s1,df (l:=GateTeam.lv) GateTeam.mark_val GateTeam.lv_nn x.teams _ (by omega) (by omega)];try omega
 show (aJ GateTeam.mark x.teams (aJ GateMend.mark x.mends (aJ GateShape.mark x.shapes k).2).2).2=_
 rw[s2];try omega
noncomputable def GateObject.mark (x:GateObject) (k:Int):GateObject×Int:=(⟨(mt k),(mt (wk k)),(mt (wk (wk k))),(aJ gC x.values (wk (wk (wk k)))).1,(mb (aJ gC x.values (wk (wk (wk k)))).2),(aJ gC x.holds (wk (aJ gC x.values (wk (wk (wk k)))).2)).1,(mi (aJ gC x.holds (wk (aJ gC x.values (wk (wk (wk k)))).2)).2)⟩,(wk (aJ gC x.holds (wk (aJ gC x.values (wk (wk (wk k)))).2)).2))
noncomputable def GateObject.marks (x:GateObject) (k:Int):GateObject×Int:=(⟨x.kind,x.name,x.team,(aJ gC x.values k).1,x.ending,(aJ gC x.holds (aJ gC x.values k).2).1,x.version⟩,(aJ gC x.holds (aJ gC x.values k).2).2)
def GateObject.lv (x:GateObject):Int:=5+cy gk x.values+cy gk x.holds
def GateObject.el (x:GateObject):Int:=0+ji zo x.values+ji zo x.holds
theorem GateObject.lv_nn (x:GateObject):0≤x.lv:=by
 have p0:=aY dW x.values
 have p1:=aY dW x.holds
 unfold GateObject.lv;omega
theorem GateObject.el_nn (x:GateObject):0≤x.el:=by
 have p0:=bF gZ x.values
 have p1:=bF gZ x.holds
 unfold GateObject.el;omega
theorem GateObject.lv_le (x:GateObject):x.lv≤32+32*x.el:=by
 have p0:=fk uJ x.values
 have p1:=fk uJ x.holds
 unfold GateObject.lv GateObject.el;omega
theorem GateObject.mark_val (x:GateObject) (k:Int) (h0:0≤k) (hB:k+(5+cy gk x.values+cy gk x.holds)≤1099511627776):(GateObject.mark x k).2=k+(5+cy gk x.values+cy gk x.holds):=by
 have p0:=aY dW x.values
 have p1:=aY dW x.holds
 have s0:(wk k)=k+1:=aP (by omega) (by omega)
 have s1:(wk (wk k))=k+2:=by rw[s0,aP (by omega) (by omega)];try omega
 have s2:(wk (wk (wk k)))=k+3:=by rw[s1,aP (by omega) (by omega)];try omega
 have s3:(aJ gC x.values (wk (wk (wk k)))).2=k+3+cy gk x.values:=by rw[s2,df (l:=gk) uH dW x.values _ (by omega) (by omega)];try omega
 have s4:(wk (aJ gC x.values (wk (wk (wk k)))).2)=k+4+cy gk x.values:=by rw[s3,aP (by omega) (by omega)];try omega
 have s5:(aJ gC x.holds (wk (aJ gC x.values (wk (wk (wk k)))).2)).2=k+4+cy gk x.values+cy gk x.holds:=by rw[s4,df (l:=gk) uH dW x.holds _ (by omega) (by omega)];try omega
 have s6:(wk (aJ gC x.holds (wk (aJ gC x.values (wk (wk (wk k)))).2)).2)=k+5+cy gk x.values+cy gk x.holds:=by rw[s5,aP (by omega) (by omega)];try omega
 show (wk (aJ gC x.holds (wk (aJ gC x.values (wk (wk (wk k)))).2)).2)=_
 rw[s6];try omega
noncomputable def GateRule.mark (x:GateRule) (k:Int):GateRule×Int:=(⟨(aJ jh x.verbs k).1,(mt (aJ jh x.verbs k).2),(mt (wk (aJ jh x.verbs k).2)),(mt (wk (wk (aJ jh x.verbs k).2)))⟩,(wk (wk (wk (aJ jh x.verbs k).2))))
noncomputable def GateRule.marks (x:GateRule) (k:Int):GateRule×Int:=(⟨(aJ jh x.verbs k).1,x.kind,x.team,x.prefix_⟩,(aJ jh x.verbs k).2)
def GateRule.lv (x:GateRule):Int:=3+cy gk x.verbs
def GateRule.el (x:GateRule):Int:=0+ji zo x.verbs
theorem GateRule.lv_nn (x:GateRule):0≤x.lv:=by
 have p0:=aY dW x.verbs
 unfold GateRule.lv;omega
theorem GateRule.el_nn (x:GateRule):0≤x.el:=by
 have p0:=bF gZ x.verbs
 unfold GateRule.el;omega
noncomputable def GateGrant.mark (x:GateGrant) (k:Int):GateGrant×Int:=(⟨(mi k),(mt (wk k)),(mt (wk (wk k))),⟨(aJ jh x.rule.verbs (wk (wk (wk k)))).1,(mt (aJ jh x.rule.verbs (wk (wk (wk k)))).2),(mt (wk (aJ jh x.rule.verbs (wk (wk (wk k)))).2)),(mt (wk (wk (aJ jh x.rule.verbs (wk (wk (wk k)))).2)))⟩⟩,(wk (wk (wk (aJ jh x.rule.verbs (wk (wk (wk k)))).2))))
noncomputable def GateGrant.marks (x:GateGrant) (k:Int):GateGrant×Int:=(⟨x.number,x.to_,x.by_,⟨(aJ jh x.rule.verbs k).1,x.rule.kind,x.rule.team,x.rule.prefix_⟩⟩,(aJ jh x.rule.verbs k).2)
def GateGrant.lv (x:GateGrant):Int:=6+cy gk x.rule.verbs
def GateGrant.el (x:GateGrant):Int:=0+ji zo x.rule.verbs
theorem GateGrant.lv_nn (x:GateGrant):0≤x.lv:=by
 have p0:=aY dW x.rule.verbs
 unfold GateGrant.lv;omega
theorem GateGrant.el_nn (x:GateGrant):0≤x.el:=by
 have p0:=bF gZ x.rule.verbs
 unfold GateGrant.el;omega
theorem GateGrant.lv_le (x:GateGrant):x.lv≤32+32*x.el:=by
 have p0:=fk uJ x.rule.verbs
 unfold GateGrant.lv GateGrant.el;omega
theorem GateGrant.mark_val (x:GateGrant) (k:Int) (h0:0≤k) (hB:k+(6+cy gk x.rule.verbs)≤1099511627776):(GateGrant.mark x k).2=k+(6+cy gk x.rule.verbs):=by
 have p0:=aY dW x.rule.verbs
 have s0:(wk k)=k+1:=aP (by omega) (by omega)
 have s1:(wk (wk k))=k+2:=by rw[s0,aP (by omega) (by omega)];try omega
 have s2:(wk (wk (wk k)))=k+3:=by rw[s1,aP (by omega) (by omega)];try omega
 have s3:(aJ jh x.rule.verbs (wk (wk (wk k)))).2=k+3+cy gk x.rule.verbs:=by rw[s2,df (l:=gk) uG dW x.rule.verbs _ (by omega) (by omega)];try omega
 have s4:(wk (aJ jh x.rule.verbs (wk (wk (wk k)))).2)=k+4+cy gk x.rule.verbs:=by rw[s3,aP (by omega) (by omega)];try omega
 have s5:(wk (wk (aJ jh x.rule.verbs (wk (wk (wk k)))).2))=k+5+cy gk x.rule.verbs:=by rw[s4,aP (by omega) (by omega)];try omega
 have s6:(wk (wk (wk (aJ jh x.rule.verbs (wk (wk (wk k)))).2)))=k+6+cy gk x.rule.verbs:=by rw[s5,aP (by omega) (by omega)];try omega
 show (wk (wk (wk (aJ jh x.rule.verbs (wk (wk (wk k)))).2)))=_
 rw[s6];try omega
noncomputable def GateLedger.mark (x:GateLedger) (k:Int):GateLedger×Int:=(⟨(mt k),(mt (wk k)),(mi (wk (wk k))),(mi (wk (wk (wk k))))⟩,(wk (wk (wk (wk k)))))
noncomputable def GateLedger.marks (x:GateLedger) (k:Int):GateLedger×Int:=(⟨x.team,x.resource,x.most,x.free⟩,k)
def GateLedger.lv (x:GateLedger):Int:=4
def GateLedger.el (x:GateLedger):Int:=0
theorem GateLedger.lv_nn (x:GateLedger):0≤x.lv:=by
 unfold GateLedger.lv;omega
theorem GateLedger.el_nn (x:GateLedger):0≤x.el:=by
 unfold GateLedger.el;omega
theorem GateLedger.lv_le (x:GateLedger):x.lv≤32+32*x.el:=by
 unfold GateLedger.lv GateLedger.el;omega
theorem GateLedger.mark_val (x:GateLedger) (k:Int) (h0:0≤k) (hB:k+(4)≤1099511627776):(GateLedger.mark x k).2=k+(4):=by
 have s0:(wk k)=k+1:=aP (by omega) (by omega)
 have s1:(wk (wk k))=k+2:=by rw[s0,aP (by omega) (by omega)];try omega
 have s2:(wk (wk (wk k)))=k+3:=by rw[s1,aP (by omega) (by omega)];try omega
 have s3:(wk (wk (wk (wk k))))=k+4:=by rw[s2,aP (by omega) (by omega)];try omega
 show (wk (wk (wk (wk k))))=_
 rw[s3];try omega
noncomputable def GatePurse.mark (x:GatePurse) (k:Int):GatePurse×Int:=(⟨(mt k),(mt (wk k)),(mt (wk (wk k))),(mi (wk (wk (wk k)))),(mi (wk (wk (wk (wk k)))))⟩,(wk (wk (wk (wk (wk k))))))
noncomputable def GatePurse.marks (x:GatePurse) (k:Int):GatePurse×Int:=(⟨x.door,x.team,x.resource,x.amount,x.until_⟩,k)
def GatePurse.lv (x:GatePurse):Int:=5
def GatePurse.el (x:GatePurse):Int:=0
theorem GatePurse.lv_nn (x:GatePurse):0≤x.lv:=by
 unfold GatePurse.lv;omega
theorem GatePurse.el_nn (x:GatePurse):0≤x.el:=by
 unfold GatePurse.el;omega
theorem GatePurse.lv_le (x:GatePurse):x.lv≤32+32*x.el:=by
 unfold GatePurse.lv GatePurse.el;omega
theorem GatePurse.mark_val (x:GatePurse) (k:Int) (h0:0≤k) (hB:k+(5)≤1099511627776):(GatePurse.mark x k).2=k+(5):=by
 have s0:(wk k)=k+1:=aP (by omega) (by omega)
 have s1:(wk (wk k))=k+2:=by rw[s0,aP (by omega) (by omega)];try omega
 have s2:(wk (wk (wk k)))=k+3:=by rw[s1,aP (by omega) (by omega)];try omega
 have s3:(wk (wk (wk (wk k))))=k+4:=by rw[s2,aP (by omega) (by omega)];try omega
 have s4:(wk (wk (wk (wk (wk k)))))=k+5:=by rw[s3,aP (by omega) (by omega)];try omega
 show (wk (wk (wk (wk (wk k)))))=_
 rw[s4];try omega
noncomputable def GateBook.mark (x:GateBook) (k:Int):GateBook×Int:=(⟨(mi k),(mi (wk k)),(mi (wk (wk k))),(aJ GateObject.mark x.objects (wk (wk (wk k)))).1,(aJ GateGrant.mark x.grants (aJ GateObject.mark x.objects (wk (wk (wk k)))).2).1,(aJ GateLedger.mark x.ledgers (aJ GateGrant.mark x.grants (aJ GateObject.mark x.objects (wk (wk (wk k)))).2).2).1,(aJ GatePurse.mark x.purses (aJ GateLedger.mark x.ledgers (aJ GateGrant.mark x.grants (aJ GateObject.mark x.objects (wk (wk (wk k)))).2).2).2).1⟩,(aJ GatePurse.mark x.purses (aJ GateLedger.mark x.ledgers (aJ GateGrant.mark x.grants (aJ GateObject.mark x.objects (wk (wk (wk k)))).2).2).2).2)
noncomputable def GateBook.marks (x:GateBook) (k:Int):GateBook×Int:=(⟨x.now,x.tick,x.given,(aJ GateObject.mark x.objects k).1,(aJ GateGrant.mark x.grants (aJ GateObject.mark x.objects k).2).1,(aJ GateLedger.mark x.ledgers (aJ GateGrant.mark x.grants (aJ GateObject.mark x.objects k).2).2).1,(aJ GatePurse.mark x.purses (aJ GateLedger.mark x.ledgers (aJ GateGrant.mark x.grants (aJ GateObject.mark x.objects k).2).2).2).1⟩,(aJ GatePurse.mark x.purses (aJ GateLedger.mark x.ledgers (aJ GateGrant.mark x.grants (aJ GateObject.mark x.objects k).2).2).2).2)
def GateBook.lv (x:GateBook):Int:=3+cy GateObject.lv x.objects+cy GateGrant.lv x.grants+cy GateLedger.lv x.ledgers+cy GatePurse.lv x.purses
def GateBook.el (x:GateBook):Int:=0+ji GateObject.el x.objects+ji GateGrant.el x.grants+ji GateLedger.el x.ledgers+ji GatePurse.el x.purses
theorem GateBook.lv_nn (x:GateBook):0≤x.lv:=by
 have p0:=aY GateObject.lv_nn x.objects
 have p1:=aY GateGrant.lv_nn x.grants
 have p2:=aY GateLedger.lv_nn x.ledgers
 have p3:=aY GatePurse.lv_nn x.purses
 unfold GateBook.lv;omega
theorem GateBook.el_nn (x:GateBook):0≤x.el:=by
 have p0:=bF GateObject.el_nn x.objects
 have p1:=bF GateGrant.el_nn x.grants
 have p2:=bF GateLedger.el_nn x.ledgers
 have p3:=bF GatePurse.el_nn x.purses
 unfold GateBook.el;omega
theorem GateBook.lv_le (x:GateBook):x.lv≤32+32*x.el:=by
 have p0:=fk GateObject.lv_le x.objects
 have p1:=fk GateGrant.lv_le x.grants
 have p2:=fk GateLedger.lv_le x.ledgers
 have p3:=fk GatePurse.lv_le x.purses
 unfold GateBook.lv GateBook.el;omega
theorem GateBook.marks_val (x:GateBook) (k:Int) (h0:0≤k) (hB:k+(0+cy GateObject.lv x.objects+cy GateGrant.lv x.grants+cy GateLedger.lv x.ledgers+cy GatePurse.lv x.purses)≤1099511627776):(GateBook.marks x k).2=k+(0+cy GateObject.lv x.objects+cy GateGrant.lv x.grants+cy GateLedger.lv x.ledgers+cy GatePurse.lv x.purses):=by
 have p0:=aY GateObject.lv_nn x.objects
 have p1:=aY GateGrant.lv_nn x.grants
 have p2:=aY GateLedger.lv_nn x.ledgers
 have p3:=aY GatePurse.lv_nn x.purses
 have s0:(aJ GateObject.mark x.objects k).2=k+0+cy GateObject.lv x.objects:=by rw[df (l:=GateObject.lv) GateObject.mark_val GateObject.lv_nn x.objects _ (by omega) (by omega)];try omega
 have s1:(aJ GateGrant.mark x.grants (aJ GateObject.mark x.objects k).2).2=k+0+cy GateObject.lv x.objects+cy GateGrant.lv x.grants:=by rw[s0,df (l:=GateGrant.lv) GateGrant.mark_val GateGrant.lv_nn x.grants _ (by omega) (by omega)];try omega
 have s2:(aJ GateLedger.mark x.ledgers (aJ GateGrant.mark x.grants (aJ GateObject.mark x.objects k).2).2).2=k+0+cy GateObject.lv x.objects+cy GateGrant.lv x.grants+cy GateLedger.lv x.ledgers:=by rw[s1,df (l:=GateLedger.lv) GateLedger.mark_val GateLedger.lv_nn x.ledgers _ (by omega) (by omega)];try omega
 have s3:(aJ GatePurse.mark x.purses (aJ GateLedger.mark x.ledgers (aJ GateGrant.mark x.grants (aJ GateObject.mark x.objects k).2).2).2).2=k+0+cy GateObject.lv x.objects+cy GateGrant.lv x.grants+cy GateLedger.lv x.ledgers+cy GatePurse.lv x.purses:=by rw[s2,df (l:=GatePurse.lv) GatePurse.mark_val GatePurse.lv_nn x.purses _ (by omega) (by omega)];try omega
 show (aJ GatePurse.mark x.purses (aJ GateLedger.mark x.ledgers (aJ GateGrant.mark x.grants (aJ GateObject.mark x.objects k).2).2).2).2=_
 rw[s3];try omega
end Go.Vc
end
section
namespace Go.Vc
open Go.Proofs
set_option maxRecDepth 100000
set_option maxHeartbeats 8000000 in
theorem iR (xs:List Bs) (k:Int):FSpec P 138 [.own 0,.d (.int .i64 k)] ⟨[(0,.tree 9 1 [.leaf] (xs.map eB))],1,1⟩ (.d (.int .i64 (aJ gC xs k).2)) ⟨[(0,.tree 9 1 [.leaf] ((aJ gC xs k).1.map eB))],1,1⟩:=by
 refine FSpec.of_vc dY au [.tmp 4] Tryz.func138 rfl rfl rfl rfl rfl (fun hok hob=>?_)
 have hs:xs.length≤ap:=by have:=(hob 0 _ rfl).1;rwa [List.length_map] at this
 repeat refine ai ?_
 refine ⟨fun m l h=>∃i:Nat,m=xs.length - i∧i≤xs.length∧l=[(0,.own 0),(1,.d (.int .i64 (mn gC xs k i))),(5,.d (.int .i64 i))]∧h=⟨[(0,.tree 9 1 [.leaf] (sC gC eB xs k i))],1,1⟩,
  ⟨_,_,_,⟨0,rfl,Nat.zero_le _,rfl,rfl⟩,rfl,rfl,⟨rfl,rfl,rfl,trivial⟩,⟨rfl,trivial⟩,⟨rfl,trivial⟩⟩,?_⟩
 rintro m l h1 ⟨i,rfl,hi,rfl,rfl⟩
 refine aj ?_ ?_<;>intro h1
 ·have hlt:i<xs.length:=by
   have:=of_decide_eq_true h1
   rw[bT _ hi] at this;omega
  repeat' first
   |refine ai ?_
   |refine aj (Int.natCast_nonneg _) (aj (Int.ofNat_lt.2 (by (try simp only[List.length_set]);exact be hlt)) ?_)
   |refine Exists.intro _ (aj (aO hlt) (aj (Nat.le_of_ble_eq_true rfl) ?_))
   |refine Exists.intro _ (aj (fX (by (try simp only[List.length_set]);exact be hlt)) (aj (Nat.le_of_ble_eq_true rfl) ?_))
   |refine Exists.intro _ (aj (aO hlt) (aj rfl ?_))
   |refine aj (show (3:Int)≠0 by decide) ?_
   |refine Or.inl (Exists.intro _ (aj (pL _) ?_))
   |refine Exists.intro _ (aj (aO hlt) ?_)
   |refine Exists.intro _ (aj (fX (by (try simp only[List.length_set]);exact be hlt)) ?_)
  refine ⟨_,_,_,⟨i+1,rfl,hlt,rfl,rfl⟩,by omega,rfl,rfl,⟨rfl,nd (dI (f:=gC) hlt k),nd (Y hlt hs),trivial⟩,⟨rfl,trivial⟩,⟨?_,trivial⟩⟩
  refine congrArg some (congrArg (AO.tree _ _ _) ?_)
  try simp only[List.set_set]
  exact eb hlt rfl
 ·have hge:xs.length≤i:=by
   have:=of_decide_eq_false h1
   rw[bT _ hi] at this;omega
  refine aj (nd (eV hge)) (aj rfl (aj rfl (aj rfl (aj trivial (aj ⟨rfl,trivial⟩ ⟨?_,trivial⟩)))))
  exact congrArg some (congrArg (AO.tree _ _ _) (fy hge))
set_option maxHeartbeats 8000000 in
theorem uC (xs:List Int) (k:Int):FSpec P 22 [.own 0,.d (.int .i64 k)] ⟨[(0,.tree 3 1 [.leaf] (xs.map eN))],1,1⟩ (.d (.int .i64 (aJ jh xs k).2)) ⟨[(0,.tree 3 1 [.leaf] ((aJ jh xs k).1.map eN))],1,1⟩:=by
 refine FSpec.of_vc dY au [.tmp 4] Tryz.func22 rfl rfl rfl rfl rfl (fun hok hob=>?_)
 have hs:xs.length≤ap:=by have:=(hob 0 _ rfl).1;rwa [List.length_map] at this
 repeat refine ai ?_
 refine ⟨fun m l h=>∃i:Nat,m=xs.length - i∧i≤xs.length∧l=[(0,.own 0),(1,.d (.int .i64 (mn jh xs k i))),(5,.d (.int .i64 i))]∧h=⟨[(0,.tree 3 1 [.leaf] (sC jh eN xs k i))],1,1⟩,
  ⟨_,_,_,⟨0,rfl,Nat.zero_le _,rfl,rfl⟩,rfl,rfl,⟨rfl,rfl,rfl,trivial⟩,⟨rfl,trivial⟩,⟨rfl,trivial⟩⟩,?_⟩
 rintro m l h1 ⟨i,rfl,hi,rfl,rfl⟩
 refine aj ?_ ?_<;>intro h1
 ·have hlt:i<xs.length:=by
   have:=of_decide_eq_true h1
   rw[bT _ hi] at this;omega
  repeat' first
   |refine ai ?_
   |refine aj (Int.natCast_nonneg _) (aj (Int.ofNat_lt.2 (by (try simp only[List.length_set]);exact be hlt)) ?_)
   |refine Exists.intro _ (aj (aO hlt) (aj (Nat.le_of_ble_eq_true rfl) ?_))
   |refine Exists.intro _ (aj (fX (by (try simp only[List.length_set]);exact be hlt)) (aj (Nat.le_of_ble_eq_true rfl) ?_))
   |refine Exists.intro _ (aj (aO hlt) (aj rfl ?_))
   |refine aj (show (3:Int)≠0 by decide) ?_
   |refine Or.inl (Exists.intro _ (aj (pL _) ?_))
   |refine Exists.intro _ (aj (aO hlt) ?_)
   |refine Exists.intro _ (aj (fX (by (try simp only[List.length_set]);exact be hlt)) ?_)
  refine ⟨_,_,_,⟨i+1,rfl,hlt,rfl,rfl⟩,by omega,rfl,rfl,⟨rfl,nd (dI (f:=jh) hlt k),nd (Y hlt hs),trivial⟩,⟨rfl,trivial⟩,⟨?_,trivial⟩⟩
  refine congrArg some (congrArg (AO.tree _ _ _) ?_)
  try simp only[List.set_set]
  exact eb hlt rfl
 ·have hge:xs.length≤i:=by
   have:=of_decide_eq_false h1
   rw[bT _ hi] at this;omega
  refine aj (nd (eV hge)) (aj rfl (aj rfl (aj rfl (aj trivial (aj ⟨rfl,trivial⟩ ⟨?_,trivial⟩)))))
  exact congrArg some (congrArg (AO.tree _ _ _) (fy hge))
set_option maxHeartbeats 8000000 in
theorem kr (xs:List GateField) (k:Int):FSpec P 137 [.own 0,.d (.int .i64 k)] ⟨[(0,.tree 138 11 GateField.n (xs.map GateField.e))],1,1⟩ (.d (.int .i64 (aJ GateField.mark xs k).2)) ⟨[(0,.tree 138 11 GateField.n ((aJ GateField.mark xs k).1.map GateField.e))],1,1⟩:=by
 refine FSpec.of_vc dY au [.tmp 4] Tryz.func137 rfl rfl rfl rfl rfl (fun hok hob=>?_)
 have hs:xs.length≤ap:=by have:=(hob 0 _ rfl).1;rwa [List.length_map] at this
 repeat refine ai ?_
 refine ⟨fun m l h=>∃i:Nat,m=xs.length - i∧i≤xs.length∧l=[(0,.own 0),(1,.d (.int .i64 (mn GateField.mark xs k i))),(5,.d (.int .i64 i))]∧h=⟨[(0,.tree 138 11 GateField.n (sC GateField.mark GateField.e xs k i))],1,1⟩,
  ⟨_,_,_,⟨0,rfl,Nat.zero_le _,rfl,rfl⟩,rfl,rfl,⟨rfl,rfl,rfl,trivial⟩,⟨rfl,trivial⟩,⟨rfl,trivial⟩⟩,?_⟩
 rintro m l h1 ⟨i,rfl,hi,rfl,rfl⟩
 refine aj ?_ ?_<;>intro h1
 ·have hlt:i<xs.length:=by
   have:=of_decide_eq_true h1
   rw[bT _ hi] at this;omega
  repeat' first
   |refine ai ?_
   |refine aj (Int.natCast_nonneg _) (aj (Int.ofNat_lt.2 (by (try simp only[List.length_set]);exact be hlt)) ?_)
   |refine Exists.intro _ (aj (aO hlt) (aj (Nat.le_of_ble_eq_true rfl) ?_))
   |refine Exists.intro _ (aj (fX (by (try simp only[List.length_set]);exact be hlt)) (aj (Nat.le_of_ble_eq_true rfl) ?_))
   |refine Exists.intro _ (aj (aO hlt) (aj rfl ?_))
   |refine aj (show (3:Int)≠0 by decide) ?_
   |refine Or.inl (Exists.intro _ (aj (pL _) ?_))
   |refine Or.inr (Or.inr (Or.inr (Or.inr (Or.inr (Or.inr (Or.inr (Or.inr (aj rfl (Exists.intro _ (Exists.intro _ (aj (fX (by (try simp only[List.length_set]);exact be hlt)) (aj rfl (Exists.intro _ (Exists.intro _ (aj rfl (aj (iR _ _) (Exists.intro _ (aj rfl ?_))))))))))))))))))
   |refine Or.inr (Or.inr (Or.inr (Or.inr (Or.inr (Or.inr (Or.inr (Or.inr (aj rfl (Exists.intro _ (Exists.intro _ (aj (aO hlt) (aj rfl (Exists.intro _ (Exists.intro _ (aj rfl (aj (iR _ _) (Exists.intro _ (aj rfl ?_))))))))))))))))))
   |refine Exists.intro _ (aj (aO hlt) ?_)
   |refine Exists.intro _ (aj (fX (by (try simp only[List.length_set]);exact be hlt)) ?_)
  refine ⟨_,_,_,⟨i+1,rfl,hlt,rfl,rfl⟩,by omega,rfl,rfl,⟨rfl,nd (dI (f:=GateField.mark) hlt k),nd (Y hlt hs),trivial⟩,⟨rfl,trivial⟩,⟨?_,trivial⟩⟩
  refine congrArg some (congrArg (AO.tree _ _ _) ?_)
  try simp only[List.set_set]
  exact eb hlt rfl
 ·have hge:xs.length≤i:=by
   have:=of_decide_eq_false h1
   rw[bT _ hi] at this;omega
  refine aj (nd (eV hge)) (aj rfl (aj rfl (aj rfl (aj trivial (aj ⟨rfl,trivial⟩ ⟨?_,trivial⟩)))))
  exact congrArg some (congrArg (AO.tree _ _ _) (fy hge))
set_option maxHeartbeats 8000000 in
theorem rK (xs:List GateShape) (k:Int):FSpec P 64 [.own 0,.d (.int .i64 k)] ⟨[(0,.tree 164 2 GateShape.n (xs.map GateShape.e))],1,1⟩ (.d (.int .i64 (aJ GateShape.mark xs k).2)) ⟨[(0,.tree 164 2 GateShape.n ((aJ GateShape.mark xs k).1.map GateShape.e))],1,1⟩:=by
 refine FSpec.of_vc dY au [.tmp 4] Tryz.func64 rfl rfl rfl rfl rfl (fun hok hob=>?_)
 have hs:xs.length≤ap:=by have:=(hob 0 _ rfl).1;rwa [List.length_map] at this
 repeat refine ai ?_
 refine ⟨fun m l h=>∃i:Nat,m=xs.length - i∧i≤xs.length∧l=[(0,.own 0),(1,.d (.int .i64 (mn GateShape.mark xs k i))),(5,.d (.int .i64 i))]∧h=⟨[(0,.tree 164 2 GateShape.n (sC GateShape.mark GateShape.e xs k i))],1,1⟩,
  ⟨_,_,_,⟨0,rfl,Nat.zero_le _,rfl,rfl⟩,rfl,rfl,⟨rfl,rfl,rfl,trivial⟩,⟨rfl,trivial⟩,⟨rfl,trivial⟩⟩,?_⟩
 rintro m l h1 ⟨i,rfl,hi,rfl,rfl⟩
 refine aj ?_ ?_<;>intro h1
 ·have hlt:i<xs.length:=by
   have:=of_decide_eq_true h1
   rw[bT _ hi] at this;omega
  repeat' first
   |refine ai ?_
   |refine aj (Int.natCast_nonneg _) (aj (Int.ofNat_lt.2 (by (try simp only[List.length_set]);exact be hlt)) ?_)
   |refine Exists.intro _ (aj (aO hlt) (aj (Nat.le_of_ble_eq_true rfl) ?_))
   |refine Exists.intro _ (aj (fX (by (try simp only[List.length_set]);exact be hlt)) (aj (Nat.le_of_ble_eq_true rfl) ?_))
   |refine Exists.intro _ (aj (aO hlt) (aj rfl ?_))
   |refine aj (show (3:Int)≠0 by decide) ?_
   |refine Or.inl (Exists.intro _ (aj (pL _) ?_))
   |refine Or.inr (Or.inr (Or.inr (Or.inr (Or.inr (Or.inr (Or.inr (Or.inr (aj rfl (Exists.intro _ (Exists.intro _ (aj (fX (by (try simp only[List.length_set]);exact be hlt)) (aj rfl (Exists.intro _ (Exists.intro _ (aj rfl (aj (kr _ _) (Exists.intro _ (aj rfl ?_))))))))))))))))))
   |refine Or.inr (Or.inr (Or.inr (Or.inr (Or.inr (Or.inr (Or.inr (Or.inr (aj rfl (Exists.intro _ (Exists.intro _ (aj (aO hlt) (aj rfl (Exists.intro _ (Exists.intro _ (aj rfl (aj (kr _ _) (Exists.intro _ (aj rfl ?_))))))))))))))))))
   |refine Exists.intro _ (aj (aO hlt) ?_)
   |refine Exists.intro _ (aj (fX (by (try simp only[List.length_set]);exact be hlt)) ?_)
  refine ⟨_,_,_,⟨i+1,rfl,hlt,rfl,rfl⟩,by omega,rfl,rfl,⟨rfl,nd (dI (f:=GateShape.mark) hlt k),nd (Y hlt hs),trivial⟩,⟨rfl,trivial⟩,⟨?_,trivial⟩⟩
  refine congrArg some (congrArg (AO.tree _ _ _) ?_)
  try simp only[List.set_set]
  exact eb hlt rfl
 ·have hge:xs.length≤i:=by
   have:=of_decide_eq_false h1
   rw[bT _ hi] at this;omega
  refine aj (nd (eV hge)) (aj rfl (aj rfl (aj rfl (aj trivial (aj ⟨rfl,trivial⟩ ⟨?_,trivial⟩)))))
  exact congrArg some (congrArg (AO.tree _ _ _) (fy hge))
set_option maxHeartbeats 8000000 in
theorem uE (xs:List GateMend) (k:Int):FSpec P 65 [.own 0,.d (.int .i64 k)] ⟨[(0,.tree 166 6 GateMend.n (xs.map GateMend.e))],1,1⟩ (.d (.int .i64 (aJ GateMend.mark xs k).2)) ⟨[(0,.tree 166 6 GateMend.n ((aJ GateMend.mark xs k).1.map GateMend.e))],1,1⟩:=by
 refine FSpec.of_vc dY au [.tmp 4] Tryz.func65 rfl rfl rfl rfl rfl (fun hok hob=>?_)
 have hs:xs.length≤ap:=by have:=(hob 0 _ rfl).1;rwa [List.length_map] at this
 repeat refine ai ?_
 refine ⟨fun m l h=>∃i:Nat,m=xs.length - i∧i≤xs.length∧l=[(0,.own 0),(1,.d (.int .i64 (mn GateMend.mark xs k i))),(5,.d (.int .i64 i))]∧h=⟨[(0,.tree 166 6 GateMend.n (sC GateMend.mark GateMend.e xs k i))],1,1⟩,
  ⟨_,_,_,⟨0,rfl,Nat.zero_le _,rfl,rfl⟩,rfl,rfl,⟨rfl,rfl,rfl,trivial⟩,⟨rfl,trivial⟩,⟨rfl,trivial⟩⟩,?_⟩
 rintro m l h1 ⟨i,rfl,hi,rfl,rfl⟩
 refine aj ?_ ?_<;>intro h1
 ·have hlt:i<xs.length:=by
   have:=of_decide_eq_true h1
   rw[bT _ hi] at this;omega
  repeat' first
   |refine ai ?_
   |refine aj (Int.natCast_nonneg _) (aj (Int.ofNat_lt.2 (by (try simp only[List.length_set]);exact be hlt)) ?_)
   |refine Exists.intro _ (aj (aO hlt) (aj (Nat.le_of_ble_eq_true rfl) ?_))
   |refine Exists.intro _ (aj (fX (by (try simp only[List.length_set]);exact be hlt)) (aj (Nat.le_of_ble_eq_true rfl) ?_))
   |refine Exists.intro _ (aj (aO hlt) (aj rfl ?_))
   |refine aj (show (3:Int)≠0 by decide) ?_
   |refine Or.inl (Exists.intro _ (aj (pL _) ?_))
   |refine Exists.intro _ (aj (aO hlt) ?_)
   |refine Exists.intro _ (aj (fX (by (try simp only[List.length_set]);exact be hlt)) ?_)
  refine ⟨_,_,_,⟨i+1,rfl,hlt,rfl,rfl⟩,by omega,rfl,rfl,⟨rfl,nd (dI (f:=GateMend.mark) hlt k),nd (Y hlt hs),trivial⟩,⟨rfl,trivial⟩,⟨?_,trivial⟩⟩
  refine congrArg some (congrArg (AO.tree _ _ _) ?_)
  try simp only[List.set_set]
  exact eb hlt rfl
 ·have hge:xs.length≤i:=by
   have:=of_decide_eq_false h1
   rw[bT _ hi] at this;omega
  refine aj (nd (eV hge)) (aj rfl (aj rfl (aj rfl (aj trivial (aj ⟨rfl,trivial⟩ ⟨?_,trivial⟩)))))
  exact congrArg some (congrArg (AO.tree _ _ _) (fy hge))
set_option maxHeartbeats 8000000 in
theorem uD (xs:List GateTeam) (k:Int):FSpec P 66 [.own 0,.d (.int .i64 k)] ⟨[(0,.tree 168 2 GateTeam.n (xs.map GateTeam.e))],1,1⟩ (.d (.int .i64 (aJ GateTeam.mark xs k).2)) ⟨[(0,.tree 168 2 GateTeam.n ((aJ GateTeam.mark xs k).1.map GateTeam.e))],1,1⟩:=by
 refine FSpec.of_vc dY au [.tmp 4] Tryz.func66 rfl rfl rfl rfl rfl (fun hok hob=>?_)
 have hs:xs.length≤ap:=by have:=(hob 0 _ rfl).1;rwa [List.length_map] at this
 repeat refine ai ?_
 refine ⟨fun m l h=>∃i:Nat,m=xs.length - i∧i≤xs.length∧l=[(0,.own 0),(1,.d (.int .i64 (mn GateTeam.mark xs k i))),(5,.d (.int .i64 i))]∧h=⟨[(0,.tree 168 2 GateTeam.n (sC GateTeam.mark GateTeam.e xs k i))],1,1⟩,
  ⟨_,_,_,⟨0,rfl,Nat.zero_le _,rfl,rfl⟩,rfl,rfl,⟨rfl,rfl,rfl,trivial⟩,⟨rfl,trivial⟩,⟨rfl,trivial⟩⟩,?_⟩
 rintro m l h1 ⟨i,rfl,hi,rfl,rfl⟩
 refine aj ?_ ?_<;>intro h1
 ·have hlt:i<xs.length:=by
   have:=of_decide_eq_true h1
   rw[bT _ hi] at this;omega
  repeat' first
   |refine ai ?_
   |refine aj (Int.natCast_nonneg _) (aj (Int.ofNat_lt.2 (by (try simp only[List.length_set]);exact be hlt)) ?_)
   |refine Exists.intro _ (aj (aO hlt) (aj (Nat.le_of_ble_eq_true rfl) ?_))
   |refine Exists.intro _ (aj (fX (by (try simp only[List.length_set]);exact be hlt)) (aj (Nat.le_of_ble_eq_true rfl) ?_))
   |refine Exists.intro _ (aj (aO hlt) (aj rfl ?_))
   |refine aj (show (3:Int)≠0 by decide) ?_
   |refine Or.inl (Exists.intro _ (aj (pL _) ?_))
   |refine Exists.intro _ (aj (aO hlt) ?_)
   |refine Exists.intro _ (aj (fX (by (try simp only[List.length_set]);exact be hlt)) ?_)
  refine ⟨_,_,_,⟨i+1,rfl,hlt,rfl,rfl⟩,by omega,rfl,rfl,⟨rfl,nd (dI (f:=GateTeam.mark) hlt k),nd (Y hlt hs),trivial⟩,⟨rfl,trivial⟩,⟨?_,trivial⟩⟩
  refine congrArg some (congrArg (AO.tree _ _ _) ?_)
  try simp only[List.set_set]
  exact eb hlt rfl
 ·have hge:xs.length≤i:=by
   have:=of_decide_eq_false h1
   rw[bT _ hi] at this;omega
  refine aj (nd (eV hge)) (aj rfl (aj rfl (aj rfl (aj trivial (aj ⟨rfl,trivial⟩ ⟨?_,trivial⟩)))))
  exact congrArg some (congrArg (AO.tree _ _ _) (fy hge))
set_option maxHeartbeats 8000000 in
theorem xW (x:GateLaw) (k:Int):FSpec P 20 [.agg x.a,.d (.int .i64 k)] ⟨x.o,3,3⟩ (.d (.int .i64 (GateLaw.marks x k).2)) ⟨(GateLaw.marks x k).1.o,3,3⟩:=by
 refine FSpec.of_vc dY au [.tmp 4] Tryz.func20 rfl rfl rfl rfl rfl (fun hok hob=>?_)
 repeat refine ai ?_
 refine om [0] (rK _ _) ?_
 repeat refine ai ?_
 refine om [1] (uE _ _) ?_
 repeat refine ai ?_
 refine om [2] (uD _ _) ?_
 repeat refine ai ?_
 repeat' first|exact rfl|exact trivial|refine aj ?_ ?_
set_option maxHeartbeats 8000000 in
theorem qd (xs:List GateObject) (k:Int):FSpec P 67 [.own 0,.d (.int .i64 k)] ⟨[(0,.tree 103 7 GateObject.n (xs.map GateObject.e))],1,1⟩ (.d (.int .i64 (aJ GateObject.mark xs k).2)) ⟨[(0,.tree 103 7 GateObject.n ((aJ GateObject.mark xs k).1.map GateObject.e))],1,1⟩:=by
 refine FSpec.of_vc dY au [.tmp 4] Tryz.func67 rfl rfl rfl rfl rfl (fun hok hob=>?_)
 have hs:xs.length≤ap:=by have:=(hob 0 _ rfl).1;rwa [List.length_map] at this
 repeat refine ai ?_
 refine ⟨fun m l h=>∃i:Nat,m=xs.length - i∧i≤xs.length∧l=[(0,.own 0),(1,.d (.int .i64 (mn GateObject.mark xs k i))),(5,.d (.int .i64 i))]∧h=⟨[(0,.tree 103 7 GateObject.n (sC GateObject.mark GateObject.e xs k i))],1,1⟩,
  ⟨_,_,_,⟨0,rfl,Nat.zero_le _,rfl,rfl⟩,rfl,rfl,⟨rfl,rfl,rfl,trivial⟩,⟨rfl,trivial⟩,⟨rfl,trivial⟩⟩,?_⟩
 rintro m l h1 ⟨i,rfl,hi,rfl,rfl⟩
 refine aj ?_ ?_<;>intro h1
 ·have hlt:i<xs.length:=by
   have:=of_decide_eq_true h1
   rw[bT _ hi] at this;omega
  repeat' first
   |refine ai ?_
   |refine aj (Int.natCast_nonneg _) (aj (Int.ofNat_lt.2 (by (try simp only[List.length_set]);exact be hlt)) ?_)
   |refine Exists.intro _ (aj (aO hlt) (aj (Nat.le_of_ble_eq_true rfl) ?_))
   |refine Exists.intro _ (aj (fX (by (try simp only[List.length_set]);exact be hlt)) (aj (Nat.le_of_ble_eq_true rfl) ?_))
   |refine Exists.intro _ (aj (aO hlt) (aj rfl ?_))
   |refine aj (show (3:Int)≠0 by decide) ?_
   |refine Or.inl (Exists.intro _ (aj (pL _) ?_))
   |refine Or.inr (Or.inr (Or.inr (Or.inr (Or.inr (Or.inr (Or.inr (Or.inr (aj rfl (Exists.intro _ (Exists.intro _ (aj (fX (by (try simp only[List.length_set]);exact be hlt)) (aj rfl (Exists.intro _ (Exists.intro _ (aj rfl (aj (iR _ _) (Exists.intro _ (aj rfl ?_))))))))))))))))))
   |refine Or.inr (Or.inr (Or.inr (Or.inr (Or.inr (Or.inr (Or.inr (Or.inr (aj rfl (Exists.intro _ (Exists.intro _ (aj (aO hlt) (aj rfl (Exists.intro _ (Exists.intro _ (aj rfl (aj (iR _ _) (Exists.intro _ (aj rfl ?_))))))))))))))))))
   |refine Exists.intro _ (aj (aO hlt) ?_)
   |refine Exists.intro _ (aj (fX (by (try simp only[List.length_set]);exact be hlt)) ?_)
  refine ⟨_,_,_,⟨i+1,rfl,hlt,rfl,rfl⟩,by omega,rfl,rfl,⟨rfl,nd (dI (f:=GateObject.mark) hlt k),nd (Y hlt hs),trivial⟩,⟨rfl,trivial⟩,⟨?_,trivial⟩⟩
  refine congrArg some (congrArg (AO.tree _ _ _) ?_)
  try simp only[List.set_set]
  exact eb hlt rfl
 ·have hge:xs.length≤i:=by
   have:=of_decide_eq_false h1
   rw[bT _ hi] at this;omega
  refine aj (nd (eV hge)) (aj rfl (aj rfl (aj rfl (aj trivial (aj ⟨rfl,trivial⟩ ⟨?_,trivial⟩)))))
  exact congrArg some (congrArg (AO.tree _ _ _) (fy hge))
set_option maxHeartbeats 8000000 in
theorem rM (xs:List GateGrant) (k:Int):FSpec P 68 [.own 0,.d (.int .i64 k)] ⟨[(0,.tree 173 7 GateGrant.n (xs.map GateGrant.e))],1,1⟩ (.d (.int .i64 (aJ GateGrant.mark xs k).2)) ⟨[(0,.tree 173 7 GateGrant.n ((aJ GateGrant.mark xs k).1.map GateGrant.e))],1,1⟩:=by
 refine FSpec.of_vc dY au [.tmp 4] Tryz.func68 rfl rfl rfl rfl rfl (fun hok hob=>?_)
 have hs:xs.length≤ap:=by have:=(hob 0 _ rfl).1;rwa [List.length_map] at this
 repeat refine ai ?_
 refine ⟨fun m l h=>∃i:Nat,m=xs.length - i∧i≤xs.length∧l=[(0,.own 0),(1,.d (.int .i64 (mn GateGrant.mark xs k i))),(5,.d (.int .i64 i))]∧h=⟨[(0,.tree 173 7 GateGrant.n (sC GateGrant.mark GateGrant.e xs k i))],1,1⟩,
  ⟨_,_,_,⟨0,rfl,Nat.zero_le _,rfl,rfl⟩,rfl,rfl,⟨rfl,rfl,rfl,trivial⟩,⟨rfl,trivial⟩,⟨rfl,trivial⟩⟩,?_⟩
 rintro m l h1 ⟨i,rfl,hi,rfl,rfl⟩
 refine aj ?_ ?_<;>intro h1
 ·have hlt:i<xs.length:=by
   have:=of_decide_eq_true h1
   rw[bT _ hi] at this;omega
  repeat' first
   |refine ai ?_
   |refine aj (Int.natCast_nonneg _) (aj (Int.ofNat_lt.2 (by (try simp only[List.length_set]);exact be hlt)) ?_)
   |refine Exists.intro _ (aj (aO hlt) (aj (Nat.le_of_ble_eq_true rfl) ?_))
   |refine Exists.intro _ (aj (fX (by (try simp only[List.length_set]);exact be hlt)) (aj (Nat.le_of_ble_eq_true rfl) ?_))
   |refine Exists.intro _ (aj (aO hlt) (aj rfl ?_))
   |refine aj (show (3:Int)≠0 by decide) ?_
   |refine Or.inl (Exists.intro _ (aj (pL _) ?_))
   |refine Or.inr (Or.inr (Or.inr (Or.inr (Or.inr (Or.inr (Or.inr (Or.inr (aj rfl (Exists.intro _ (Exists.intro _ (aj (fX (by (try simp only[List.length_set]);exact be hlt)) (aj rfl (Exists.intro _ (Exists.intro _ (aj rfl (aj (uC _ _) (Exists.intro _ (aj rfl ?_))))))))))))))))))
   |refine Or.inr (Or.inr (Or.inr (Or.inr (Or.inr (Or.inr (Or.inr (Or.inr (aj rfl (Exists.intro _ (Exists.intro _ (aj (aO hlt) (aj rfl (Exists.intro _ (Exists.intro _ (aj rfl (aj (uC _ _) (Exists.intro _ (aj rfl ?_))))))))))))))))))
   |refine Exists.intro _ (aj (aO hlt) ?_)
   |refine Exists.intro _ (aj (fX (by (try simp only[List.length_set]);exact be hlt)) ?_)
  refine ⟨_,_,_,⟨i+1,rfl,hlt,rfl,rfl⟩,by omega,rfl,rfl,⟨rfl,nd (dI (f:=GateGrant.mark) hlt k),nd (Y hlt hs),trivial⟩,⟨rfl,trivial⟩,⟨?_,trivial⟩⟩
  refine congrArg some (congrArg (AO.tree _ _ _) ?_)
  try simp only[List.set_set]
  exact eb hlt rfl
 ·have hge:xs.length≤i:=by
   have:=of_decide_eq_false h1
   rw[bT _ hi] at this;omega
  refine aj (nd (eV hge)) (aj rfl (aj rfl (aj rfl (aj trivial (aj ⟨rfl,trivial⟩ ⟨?_,trivial⟩)))))
  exact congrArg some (congrArg (AO.tree _ _ _) (fy hge))
set_option maxHeartbeats 8000000 in
theorem qe (xs:List GateLedger) (k:Int):FSpec P 69 [.own 0,.d (.int .i64 k)] ⟨[(0,.tree 119 4 GateLedger.n (xs.map GateLedger.e))],1,1⟩ (.d (.int .i64 (aJ GateLedger.mark xs k).2)) ⟨[(0,.tree 119 4 GateLedger.n ((aJ GateLedger.mark xs k).1.map GateLedger.e))],1,1⟩:=by
 refine FSpec.of_vc dY au [.tmp 4] Tryz.func69 rfl rfl rfl rfl rfl (fun hok hob=>?_)
 have hs:xs.length≤ap:=by have:=(hob 0 _ rfl).1;rwa [List.length_map] at this
 repeat refine ai ?_
 refine ⟨fun m l h=>∃i:Nat,m=xs.length - i∧i≤xs.length∧l=[(0,.own 0),(1,.d (.int .i64 (mn GateLedger.mark xs k i))),(5,.d (.int .i64 i))]∧h=⟨[(0,.tree 119 4 GateLedger.n (sC GateLedger.mark GateLedger.e xs k i))],1,1⟩,
  ⟨_,_,_,⟨0,rfl,Nat.zero_le _,rfl,rfl⟩,rfl,rfl,⟨rfl,rfl,rfl,trivial⟩,⟨rfl,trivial⟩,⟨rfl,trivial⟩⟩,?_⟩
 rintro m l h1 ⟨i,rfl,hi,rfl,rfl⟩
 refine aj ?_ ?_<;>intro h1
 ·have hlt:i<xs.length:=by
   have:=of_decide_eq_true h1
   rw[bT _ hi] at this;omega
  repeat' first
   |refine ai ?_
   |refine aj (Int.natCast_nonneg _) (aj (Int.ofNat_lt.2 (by (try simp only[List.length_set]);exact be hlt)) ?_)
   |refine Exists.intro _ (aj (aO hlt) (aj (Nat.le_of_ble_eq_true rfl) ?_))
   |refine Exists.intro _ (aj (fX (by (try simp only[List.length_set]);exact be hlt)) (aj (Nat.le_of_ble_eq_true rfl) ?_))
   |refine Exists.intro _ (aj (aO hlt) (aj rfl ?_))
   |refine aj (show (3:Int)≠0 by decide) ?_
   |refine Or.inl (Exists.intro _ (aj (pL _) ?_))
   |refine Exists.intro _ (aj (aO hlt) ?_)
   |refine Exists.intro _ (aj (fX (by (try simp only[List.length_set]);exact be hlt)) ?_)
  refine ⟨_,_,_,⟨i+1,rfl,hlt,rfl,rfl⟩,by omega,rfl,rfl,⟨rfl,nd (dI (f:=GateLedger.mark) hlt k),nd (Y hlt hs),trivial⟩,⟨rfl,trivial⟩,⟨?_,trivial⟩⟩
  refine congrArg some (congrArg (AO.tree _ _ _) ?_)
  try simp only[List.set_set]
  exact eb hlt rfl
 ·have hge:xs.length≤i:=by
   have:=of_decide_eq_false h1
   rw[bT _ hi] at this;omega
  refine aj (nd (eV hge)) (aj rfl (aj rfl (aj rfl (aj trivial (aj ⟨rfl,trivial⟩ ⟨?_,trivial⟩)))))
  exact congrArg some (congrArg (AO.tree _ _ _) (fy hge))
set_option maxHeartbeats 8000000 in
theorem rL (xs:List GatePurse) (k:Int):FSpec P 70 [.own 0,.d (.int .i64 k)] ⟨[(0,.tree 109 5 GatePurse.n (xs.map GatePurse.e))],1,1⟩ (.d (.int .i64 (aJ GatePurse.mark xs k).2)) ⟨[(0,.tree 109 5 GatePurse.n ((aJ GatePurse.mark xs k).1.map GatePurse.e))],1,1⟩:=by
 refine FSpec.of_vc dY au [.tmp 4] Tryz.func70 rfl rfl rfl rfl rfl (fun hok hob=>?_)
 have hs:xs.length≤ap:=by have:=(hob 0 _ rfl).1;rwa [List.length_map] at this
 repeat refine ai ?_
 refine ⟨fun m l h=>∃i:Nat,m=xs.length - i∧i≤xs.length∧l=[(0,.own 0),(1,.d (.int .i64 (mn GatePurse.mark xs k i))),(5,.d (.int .i64 i))]∧h=⟨[(0,.tree 109 5 GatePurse.n (sC GatePurse.mark GatePurse.e xs k i))],1,1⟩,
  ⟨_,_,_,⟨0,rfl,Nat.zero_le _,rfl,rfl⟩,rfl,rfl,⟨rfl,rfl,rfl,trivial⟩,⟨rfl,trivial⟩,⟨rfl,trivial⟩⟩,?_⟩
 rintro m l h1 ⟨i,rfl,hi,rfl,rfl⟩
 refine aj ?_ ?_<;>intro h1
 ·have hlt:i<xs.length:=by
   have:=of_decide_eq_true h1
   rw[bT _ hi] at this;omega
  repeat' first
   |refine ai ?_
   |refine aj (Int.natCast_nonneg _) (aj (Int.ofNat_lt.2 (by (try simp only[List.length_set]);exact be hlt)) ?_)
   |refine Exists.intro _ (aj (aO hlt) (aj (Nat.le_of_ble_eq_true rfl) ?_))
   |refine Exists.intro _ (aj (fX (by (try simp only[List.length_set]);exact be hlt)) (aj (Nat.le_of_ble_eq_true rfl) ?_))
   |refine Exists.intro _ (aj (aO hlt) (aj rfl ?_))
   |refine aj (show (3:Int)≠0 by decide) ?_
   |refine Or.inl (Exists.intro _ (aj (pL _) ?_))
   |refine Exists.intro _ (aj (aO hlt) ?_)
   |refine Exists.intro _ (aj (fX (by (try simp only[List.length_set]);exact be hlt)) ?_)
  refine ⟨_,_,_,⟨i+1,rfl,hlt,rfl,rfl⟩,by omega,rfl,rfl,⟨rfl,nd (dI (f:=GatePurse.mark) hlt k),nd (Y hlt hs),trivial⟩,⟨rfl,trivial⟩,⟨?_,trivial⟩⟩
  refine congrArg some (congrArg (AO.tree _ _ _) ?_)
  try simp only[List.set_set]
  exact eb hlt rfl
 ·have hge:xs.length≤i:=by
   have:=of_decide_eq_false h1
   rw[bT _ hi] at this;omega
  refine aj (nd (eV hge)) (aj rfl (aj rfl (aj rfl (aj trivial (aj ⟨rfl,trivial⟩ ⟨?_,trivial⟩)))))
  exact congrArg some (congrArg (AO.tree _ _ _) (fy hge))
set_option maxHeartbeats 8000000 in
theorem wu (x:GateBook) (k:Int):FSpec P 21 [.agg x.a,.d (.int .i64 k)] ⟨x.o,4,4⟩ (.d (.int .i64 (GateBook.marks x k).2)) ⟨(GateBook.marks x k).1.o,4,4⟩:=by
 refine FSpec.of_vc dY au [.tmp 4] Tryz.func21 rfl rfl rfl rfl rfl (fun hok hob=>?_)
 repeat refine ai ?_
 refine om [0] (qd _ _) ?_
 repeat refine ai ?_
 refine om [1] (rM _ _) ?_
 repeat refine ai ?_
 refine om [2] (qe _ _) ?_
 repeat refine ai ?_
 refine om [3] (rL _ _) ?_
 repeat refine ai ?_
 repeat' first|exact rfl|exact trivial|refine aj ?_ ?_
set_option maxHeartbeats 8000000 in
theorem zf (xs:List Int) (k:Int) (h0:0≤k) (hB:k+cy gk xs≤1099511627776):Spec P 23 [.d (lI (aJ jh xs k).1),.d (.int .i64 k)] (.d (.int .i64 (aJ jh xs k).2)):=by
 refine Spec.of_vc aG au [.tmp 4] Tryz.func23 rfl rfl rfl rfl (fun hok=>?_)
 have hs:xs.length≤ap:=by have:=hok.1.1;rwa [List.length_map,fA] at this
 repeat refine ai ?_
 refine ⟨fun m l h=>∃i:Nat,m=xs.length - i∧i≤xs.length∧l=[(0,.d (lI (aJ jh xs k).1)),(1,.d (.int .i64 (mn jh xs k i))),(5,.d (.int .i64 i))]∧h=hp0,
  ⟨_,_,_,⟨0,rfl,Nat.zero_le _,rfl,rfl⟩,rfl,rfl,⟨rfl,rfl,rfl,trivial⟩,trivial,trivial⟩,?_⟩
 rintro m l h1 ⟨i,rfl,hi,rfl,rfl⟩
 refine aj ?_ ?_<;>intro h1
 ·have hlt:i<xs.length:=by
   have:=of_decide_eq_true h1
   rw[List.length_map,fA] at this;omega
  have hK:=C5 (l:=gk) uG dW h0 hB hlt
  have hstep:=dI (f:=jh) hlt k
  have hix:∀{sz:Nat} {Kp:List D→Prop},(eN (jh xs[i] (mn jh xs k i)).1).length=sz→Kp (eN (jh xs[i] (mn jh xs k i)).1)→(0:Int)≤(i:Int)∧∃b,(((aJ jh xs k).1).map eN)[(i:Int).toNat]? =some b∧b.length=sz∧Kp b:=fun hs h=>DI hlt hs h
  generalize mn jh xs k i=K at*
  simp only[gk] at hK
  have s0:(wk K)=K+1:=aP (by omega) (by omega)
  repeat' first
   |refine ai ?_
   |refine hix rfl ?_
   |refine aj (show (3:Int)≠0 by decide) ?_
   |refine Or.inl (Exists.intro _ (aj (pL _) ?_))
   |skip;fail
   |refine aj (fun h=>absurd h (by simp[jh,mi,mb,wk])) (fun _=>?_)
   |refine aj (by kernel_rfl) ?_
  exact ⟨_,_,_,⟨i+1,rfl,hlt,rfl,rfl⟩,by omega,rfl,rfl,⟨rfl,nd hstep,nd (Y hlt hs),trivial⟩,trivial,trivial⟩
 ·have hge:xs.length≤i:=by
   have:=of_decide_eq_false h1
   rw[List.length_map,fA] at this;omega
  exact nd (eV hge)
end Go.Vc
end
section
namespace Go.Vc
open Go.Proofs
theorem aQ {a:Int} {k:Int→Int} (h:0≤aE a k):0≤a∧aE a k=k a:=by
 unfold aE at h ⊢
 cases hd:decide (a<0) with
 |true=>rw[hd] at h;simp at h
 |false=>have:=of_decide_eq_false hd;exact ⟨by omega,rfl⟩
theorem ba {n:Int} {l:Nat} (h:n≤1048576) (hl:l≤ap) (h0: -1≤n):IntKind.i64.wrap (n - (l:Int))=n - l:=by
 unfold ap at hl
 rw[IntKind.wrap_i64];omega
theorem AS {α:Type} {m:α→Int→Int} {el:α→Int} {ok:α→Prop} (hm:∀x n,ok x→0≤n→n≤1048576→0≤m x n→m x n+el x≤n) (he:∀x,0≤el x):∀(xs:List α) (n:Int),(∀x∈xs,ok x)→0≤n→n≤1048576→0≤gA m xs n→gA m xs n+ji el xs≤n+xs.length
 |[],n,_,_,_,_=>by simp[gA,ji]
 |x::xs,n,hx,h0,hn,h=>by
  simp only[gA] at h
  obtain ⟨h1,h2⟩:=aQ h
  have h3:=hm x n (hx x (List.mem_cons_self ..)) h0 hn h1
  have h4:=he x
  rw[h2] at h
  have:=AS hm he xs (m x n) (fun y hy=>hx y (List.mem_cons_of_mem _ hy)) h1 (by omega) h
  simp only[gA,ji,List.length_cons]
  rw[h2];omega
theorem iE {α:Type} {e:α→List D} {m:α→Int→Int} {el:α→Int} {ok:α→Prop} (hm:∀x n,ok x→0≤n→n≤1048576→0≤m x n→m x n+el x≤n) (he:∀x,0≤el x) (xs:List α) (n:Int) (hl:xs.length≤ap) (hx:∀x∈xs,ok x) (h0:0≤n) (hn:n≤1048576)
 (h:0≤aE (IntKind.i64.wrap (n - ((xs.map e).length:Int))) fun n=>gA m xs n):(aE (IntKind.i64.wrap (n - ((xs.map e).length:Int))) fun n=>gA m xs n)+ji el xs≤n:=by
 obtain ⟨h1,h2⟩:=aQ h
 rw[h2] at h ⊢
 rw[List.length_map] at*
 rw[ba hn hl (by omega)] at*
 have:=AS hm he xs _ hx h1 (by omega) h
 omega
theorem d9 {α:Type} {e:α→List D} {xs:List α} (h:(D.list (xs.map e)).ok):xs.length≤ap∧∀x∈xs,bz (e x):=by
 simp only[D.ok] at h
 refine ⟨by have:=h.1;rwa [List.length_map] at this,fun x hx=>okRows_iff.1 h.2 _ (List.mem_map.2 ⟨x,hx,rfl⟩)⟩
theorem zn:∀xs:List Int,ji zo xs=xs.length
 |[]=>rfl
 |x::xs=>by simp only[ji,zn xs,zo,List.length_cons];omega
theorem cA:∀{ds:List D},bz ds→∀d∈ds,d.ok
 |[],_,d,hd=>by cases hd
 |x::ds,h,d,hd=>by
  rcases List.mem_cons.1 hd with rfl|hd
  ·exact h.1
  ·exact cA h.2 d hd
theorem wn:∀{ds:List D},(∀d∈ds,d.ok)→bz ds
 |[],_=>trivial
 |x::ds,h=>⟨h x (List.mem_cons_self ..),wn fun d hd=>h d (List.mem_cons_of_mem _ hd)⟩
theorem gt (xs:List Bs) (n:Int) (hx:(lS xs).ok) (h0:0≤n) (hn:n≤1048576) (h:0≤aX xs n):aX xs n+ji zo xs≤n:=by
 obtain ⟨hl,hr⟩:=d9 hx
 refine iE (ok:=fun s:Bs=>bz (eB s)) (fun s n hs h0 hn h=>?_) gZ xs n hl hr h0 hn h
 have hs:s.length≤ap:=by simpa [eB,bz,D.ok] using hs
 rw[ba hn hs (by omega)] at*
 simp only[zo];omega
theorem vU (xs:List Int) (n:Int) (hx:(lI xs).ok) (h0:0≤n) (hn:n≤1048576) (h:0≤dk xs n):dk xs n+ji zo xs≤n:=by
 obtain ⟨hl,_⟩:=d9 hx
 unfold dk at h ⊢
 obtain ⟨h1,h2⟩:=aQ h
 rw[h2] at h ⊢
 rw[List.length_map] at*
 rw[ba hn hl (by omega)] at*
 rw[zn];omega
theorem mZ (x:GateField) (n:Int) (hx:bz x.e) (h0:0≤n) (hn:n≤1048576) (h:0≤cn x n):cn x n+x.el≤n:=by
 have hx:=cA hx
 unfold cn at h ⊢
 unfold GateField.el
 obtain ⟨a0,e0⟩:=aQ h
 rw[e0] at h ⊢
 have l0:x.name.length≤ap:=hx (.str x.name) (by simp[GateField.e])
 have b0:IntKind.i64.wrap (n - (x.name.length:Int))=n - x.name.length:=ba (by omega) l0 (by omega)
 obtain ⟨a1,e1⟩:=aQ h
 rw[e1] at h ⊢
 have b1:=gt x.words (IntKind.i64.wrap (n - (x.name.length:Int))) (hx _ (by simp[GateField.e])) (by omega) (by omega) a1
 have q1:=bF gZ x.words
 obtain ⟨a2,e2⟩:=aQ h
 rw[e2] at h ⊢
 have l2:x.to_.length≤ap:=hx (.str x.to_) (by simp[GateField.e])
 have b2:IntKind.i64.wrap (aX x.words (IntKind.i64.wrap (n - (x.name.length:Int))) - (x.to_.length:Int))=aX x.words (IntKind.i64.wrap (n - (x.name.length:Int))) - x.to_.length:=ba (by omega) l2 (by omega)
 obtain ⟨a3,e3⟩:=aQ h
 rw[e3] at h ⊢
 have l3:x.default_.length≤ap:=hx (.str x.default_) (by simp[GateField.e])
 have b3:IntKind.i64.wrap (IntKind.i64.wrap (aX x.words (IntKind.i64.wrap (n - (x.name.length:Int))) - (x.to_.length:Int)) - (x.default_.length:Int))=IntKind.i64.wrap (aX x.words (IntKind.i64.wrap (n - (x.name.length:Int))) - (x.to_.length:Int)) - x.default_.length:=ba (by omega) l3 (by omega)
 obtain ⟨a4,e4⟩:=aQ h
 rw[e4] at h ⊢
 have l4:x.weighs.length≤ap:=hx (.str x.weighs) (by simp[GateField.e])
 have b4:IntKind.i64.wrap (IntKind.i64.wrap (IntKind.i64.wrap (aX x.words (IntKind.i64.wrap (n - (x.name.length:Int))) - (x.to_.length:Int)) - (x.default_.length:Int)) - (x.weighs.length:Int))=IntKind.i64.wrap (IntKind.i64.wrap (aX x.words (IntKind.i64.wrap (n - (x.name.length:Int))) - (x.to_.length:Int)) - (x.default_.length:Int)) - x.weighs.length:=ba (by omega) l4 (by omega)
 omega
theorem lG (xs:List GateField) (n:Int) (hx:(ab xs).ok) (h0:0≤n) (hn:n≤1048576) (h:0≤dF xs n):dF xs n+ji GateField.el xs≤n:=by
 obtain ⟨hl,hr⟩:=d9 hx
 exact iE (ok:=fun x:GateField=>bz x.e) mZ GateField.el_nn xs n hl hr h0 hn h
theorem mV (x:GateShape) (n:Int) (hx:bz x.e) (h0:0≤n) (hn:n≤1048576) (h:0≤cj x n):cj x n+x.el≤n:=by
 have hx:=cA hx
 unfold cj at h ⊢
 unfold GateShape.el
 obtain ⟨a0,e0⟩:=aQ h
 rw[e0] at h ⊢
 have l0:x.kind.length≤ap:=hx (.str x.kind) (by simp[GateShape.e])
 have b0:IntKind.i64.wrap (n - (x.kind.length:Int))=n - x.kind.length:=ba (by omega) l0 (by omega)
 obtain ⟨a1,e1⟩:=aQ h
 rw[e1] at h ⊢
 have b1:=lG x.fields (IntKind.i64.wrap (n - (x.kind.length:Int))) (hx _ (by simp[GateShape.e])) (by omega) (by omega) a1
 have q1:=bF GateField.el_nn x.fields
 omega
theorem lB (xs:List GateShape) (n:Int) (hx:(aa xs).ok) (h0:0≤n) (hn:n≤1048576) (h:0≤cq xs n):cq xs n+ji GateShape.el xs≤n:=by
 obtain ⟨hl,hr⟩:=d9 hx
 exact iE (ok:=fun x:GateShape=>bz x.e) mV GateShape.el_nn xs n hl hr h0 hn h
theorem og (x:GateMend) (n:Int) (hx:bz x.e) (h0:0≤n) (hn:n≤1048576) (h:0≤cC x n):cC x n+x.el≤n:=by
 have hx:=cA hx
 unfold cC at h ⊢
 unfold GateMend.el
 obtain ⟨a0,e0⟩:=aQ h
 rw[e0] at h ⊢
 have l0:x.kind.length≤ap:=hx (.str x.kind) (by simp[GateMend.e])
 have b0:IntKind.i64.wrap (n - (x.kind.length:Int))=n - x.kind.length:=ba (by omega) l0 (by omega)
 obtain ⟨a1,e1⟩:=aQ h
 rw[e1] at h ⊢
 have l1:x.field.length≤ap:=hx (.str x.field) (by simp[GateMend.e])
 have b1:IntKind.i64.wrap (IntKind.i64.wrap (n - (x.kind.length:Int)) - (x.field.length:Int))=IntKind.i64.wrap (n - (x.kind.length:Int)) - x.field.length:=ba (by omega) l1 (by omega)
 obtain ⟨a2,e2⟩:=aQ h
 rw[e2] at h ⊢
 have l2:x.when_.length≤ap:=hx (.str x.when_) (by simp[GateMend.e])
 have b2:IntKind.i64.wrap (IntKind.i64.wrap (IntKind.i64.wrap (n - (x.kind.length:Int)) - (x.field.length:Int)) - (x.when_.length:Int))=IntKind.i64.wrap (IntKind.i64.wrap (n - (x.kind.length:Int)) - (x.field.length:Int)) - x.when_.length:=ba (by omega) l2 (by omega)
 obtain ⟨a3,e3⟩:=aQ h
 rw[e3] at h ⊢
 have l3:x.is_.length≤ap:=hx (.str x.is_) (by simp[GateMend.e])
 have b3:IntKind.i64.wrap (IntKind.i64.wrap (IntKind.i64.wrap (IntKind.i64.wrap (n - (x.kind.length:Int)) - (x.field.length:Int)) - (x.when_.length:Int)) - (x.is_.length:Int))=IntKind.i64.wrap (IntKind.i64.wrap (IntKind.i64.wrap (n - (x.kind.length:Int)) - (x.field.length:Int)) - (x.when_.length:Int)) - x.is_.length:=ba (by omega) l3 (by omega)
 obtain ⟨a4,e4⟩:=aQ h
 rw[e4] at h ⊢
 have l4:x.put.length≤ap:=hx (.str x.put) (by simp[GateMend.e])
 have b4:IntKind.i64.wrap (IntKind.i64.wrap (IntKind.i64.wrap (IntKind.i64.wrap (IntKind.i64.wrap (n - (x.kind.length:Int)) - (x.field.length:Int)) - (x.when_.length:Int)) - (x.is_.length:Int)) - (x.put.length:Int))=IntKind.i64.wrap (IntKind.i64.wrap (IntKind.i64.wrap (IntKind.i64.wrap (n - (x.kind.length:Int)) - (x.field.length:Int)) - (x.when_.length:Int)) - (x.is_.length:Int)) - x.put.length:=ba (by omega) l4 (by omega)
 obtain ⟨a5,e5⟩:=aQ h
 rw[e5] at h ⊢
 have l5:x.from_.length≤ap:=hx (.str x.from_) (by simp[GateMend.e])
 have b5:IntKind.i64.wrap (IntKind.i64.wrap (IntKind.i64.wrap (IntKind.i64.wrap (IntKind.i64.wrap (IntKind.i64.wrap (n - (x.kind.length:Int)) - (x.field.length:Int)) - (x.when_.length:Int)) - (x.is_.length:Int)) - (x.put.length:Int)) - (x.from_.length:Int))=IntKind.i64.wrap (IntKind.i64.wrap (IntKind.i64.wrap (IntKind.i64.wrap (IntKind.i64.wrap (n - (x.kind.length:Int)) - (x.field.length:Int)) - (x.when_.length:Int)) - (x.is_.length:Int)) - (x.put.length:Int)) - x.from_.length:=ba (by omega) l5 (by omega)
 omega
theorem mX (xs:List GateMend) (n:Int) (hx:(af xs).ok) (h0:0≤n) (hn:n≤1048576) (h:0≤dp xs n):dp xs n+ji GateMend.el xs≤n:=by
 obtain ⟨hl,hr⟩:=d9 hx
 exact iE (ok:=fun x:GateMend=>bz x.e) og GateMend.el_nn xs n hl hr h0 hn h
theorem oa (x:GateTeam) (n:Int) (hx:bz x.e) (h0:0≤n) (hn:n≤1048576) (h:0≤cB x n):cB x n+x.el≤n:=by
 have hx:=cA hx
 unfold cB at h ⊢
 unfold GateTeam.el
 obtain ⟨a0,e0⟩:=aQ h
 rw[e0] at h ⊢
 have l0:x.name.length≤ap:=hx (.str x.name) (by simp[GateTeam.e])
 have b0:IntKind.i64.wrap (n - (x.name.length:Int))=n - x.name.length:=ba (by omega) l0 (by omega)
 obtain ⟨a1,e1⟩:=aQ h
 rw[e1] at h ⊢
 have l1:x.over.length≤ap:=hx (.str x.over) (by simp[GateTeam.e])
 have b1:IntKind.i64.wrap (IntKind.i64.wrap (n - (x.name.length:Int)) - (x.over.length:Int))=IntKind.i64.wrap (n - (x.name.length:Int)) - x.over.length:=ba (by omega) l1 (by omega)
 omega
theorem mU (xs:List GateTeam) (n:Int) (hx:(al xs).ok) (h0:0≤n) (hn:n≤1048576) (h:0≤d6 xs n):d6 xs n+ji GateTeam.el xs≤n:=by
 obtain ⟨hl,hr⟩:=d9 hx
 exact iE (ok:=fun x:GateTeam=>bz x.e) oa GateTeam.el_nn xs n hl hr h0 hn h
theorem pH (x:GateLaw) (n:Int) (hx:bz x.e) (h0:0≤n) (hn:n≤1048576) (h:0≤eG x n):eG x n+x.el≤n:=by
 have hx:=cA hx
 unfold eG at h ⊢
 unfold GateLaw.el
 obtain ⟨a0,e0⟩:=aQ h
 rw[e0] at h ⊢
 have b0:=lB x.shapes (n) (hx _ (by simp[GateLaw.e])) (by omega) (by omega) a0
 have q0:=bF GateShape.el_nn x.shapes
 obtain ⟨a1,e1⟩:=aQ h
 rw[e1] at h ⊢
 have b1:=mX x.mends (cq x.shapes (n)) (hx _ (by simp[GateLaw.e])) (by omega) (by omega) a1
 have q1:=bF GateMend.el_nn x.mends
 obtain ⟨a2,e2⟩:=aQ h
 rw[e2] at h ⊢
 have b2:=mU x.teams (dp x.mends (cq x.shapes (n))) (hx _ (by simp[GateLaw.e])) (by omega) (by omega) a2
 have q2:=bF GateTeam.el_nn x.teams
 omega
theorem lD (x:GateObject) (n:Int) (hx:bz x.e) (h0:0≤n) (hn:n≤1048576) (h:0≤bV x n):bV x n+x.el≤n:=by
 have hx:=cA hx
 unfold bV at h ⊢
 unfold GateObject.el
 obtain ⟨a0,e0⟩:=aQ h
 rw[e0] at h ⊢
 have l0:x.kind.length≤ap:=hx (.str x.kind) (by simp[GateObject.e])
 have b0:IntKind.i64.wrap (n - (x.kind.length:Int))=n - x.kind.length:=ba (by omega) l0 (by omega)
 obtain ⟨a1,e1⟩:=aQ h
 rw[e1] at h ⊢
 have l1:x.name.length≤ap:=hx (.str x.name) (by simp[GateObject.e])
 have b1:IntKind.i64.wrap (IntKind.i64.wrap (n - (x.kind.length:Int)) - (x.name.length:Int))=IntKind.i64.wrap (n - (x.kind.length:Int)) - x.name.length:=ba (by omega) l1 (by omega)
 obtain ⟨a2,e2⟩:=aQ h
 rw[e2] at h ⊢
 have l2:x.team.length≤ap:=hx (.str x.team) (by simp[GateObject.e])
 have b2:IntKind.i64.wrap (IntKind.i64.wrap (IntKind.i64.wrap (n - (x.kind.length:Int)) - (x.name.length:Int)) - (x.team.length:Int))=IntKind.i64.wrap (IntKind.i64.wrap (n - (x.kind.length:Int)) - (x.name.length:Int)) - x.team.length:=ba (by omega) l2 (by omega)
 obtain ⟨a3,e3⟩:=aQ h
 rw[e3] at h ⊢
 have b3:=gt x.values (IntKind.i64.wrap (IntKind.i64.wrap (IntKind.i64.wrap (n - (x.kind.length:Int)) - (x.name.length:Int)) - (x.team.length:Int))) (hx _ (by simp[GateObject.e])) (by omega) (by omega) a3
 have q3:=bF gZ x.values
 obtain ⟨a4,e4⟩:=aQ h
 rw[e4] at h ⊢
 have b4:=gt x.holds (aX x.values (IntKind.i64.wrap (IntKind.i64.wrap (IntKind.i64.wrap (n - (x.kind.length:Int)) - (x.name.length:Int)) - (x.team.length:Int)))) (hx _ (by simp[GateObject.e])) (by omega) (by omega) a4
 have q4:=bF gZ x.holds
 omega
theorem kK (xs:List GateObject) (n:Int) (hx:(aF xs).ok) (h0:0≤n) (hn:n≤1048576) (h:0≤bI xs n):bI xs n+ji GateObject.el xs≤n:=by
 obtain ⟨hl,hr⟩:=d9 hx
 exact iE (ok:=fun x:GateObject=>bz x.e) lD GateObject.el_nn xs n hl hr h0 hn h
theorem od (x:GateRule) (n:Int) (hx:bz x.e) (h0:0≤n) (hn:n≤1048576) (h:0≤dN x n):dN x n+x.el≤n:=by
 have hx:=cA hx
 unfold dN at h ⊢
 unfold GateRule.el
 obtain ⟨a0,e0⟩:=aQ h
 rw[e0] at h ⊢
 have b0:=vU x.verbs (n) (hx _ (by simp[GateRule.e])) (by omega) (by omega) a0
 have q0:=bF gZ x.verbs
 obtain ⟨a1,e1⟩:=aQ h
 rw[e1] at h ⊢
 have l1:x.kind.length≤ap:=hx (.str x.kind) (by simp[GateRule.e])
 have b1:IntKind.i64.wrap (dk x.verbs (n) - (x.kind.length:Int))=dk x.verbs (n) - x.kind.length:=ba (by omega) l1 (by omega)
 obtain ⟨a2,e2⟩:=aQ h
 rw[e2] at h ⊢
 have l2:x.team.length≤ap:=hx (.str x.team) (by simp[GateRule.e])
 have b2:IntKind.i64.wrap (IntKind.i64.wrap (dk x.verbs (n) - (x.kind.length:Int)) - (x.team.length:Int))=IntKind.i64.wrap (dk x.verbs (n) - (x.kind.length:Int)) - x.team.length:=ba (by omega) l2 (by omega)
 obtain ⟨a3,e3⟩:=aQ h
 rw[e3] at h ⊢
 have l3:x.prefix_.length≤ap:=hx (.str x.prefix_) (by simp[GateRule.e])
 have b3:IntKind.i64.wrap (IntKind.i64.wrap (IntKind.i64.wrap (dk x.verbs (n) - (x.kind.length:Int)) - (x.team.length:Int)) - (x.prefix_.length:Int))=IntKind.i64.wrap (IntKind.i64.wrap (dk x.verbs (n) - (x.kind.length:Int)) - (x.team.length:Int)) - x.prefix_.length:=ba (by omega) l3 (by omega)
 omega
theorem mY (x:GateGrant) (n:Int) (hx:bz x.e) (h0:0≤n) (hn:n≤1048576) (h:0≤cm x n):cm x n+x.el≤n:=by
 have hx:=cA hx
 unfold cm at h ⊢
 unfold GateGrant.el
 obtain ⟨a0,e0⟩:=aQ h
 rw[e0] at h ⊢
 have l0:x.to_.length≤ap:=hx (.str x.to_) (by simp[GateGrant.e])
 have b0:IntKind.i64.wrap (n - (x.to_.length:Int))=n - x.to_.length:=ba (by omega) l0 (by omega)
 obtain ⟨a1,e1⟩:=aQ h
 rw[e1] at h ⊢
 have l1:x.by_.length≤ap:=hx (.str x.by_) (by simp[GateGrant.e])
 have b1:IntKind.i64.wrap (IntKind.i64.wrap (n - (x.to_.length:Int)) - (x.by_.length:Int))=IntKind.i64.wrap (n - (x.to_.length:Int)) - x.by_.length:=ba (by omega) l1 (by omega)
 obtain ⟨a2,e2⟩:=aQ h
 rw[e2] at h ⊢
 have b2:=od x.rule (IntKind.i64.wrap (IntKind.i64.wrap (n - (x.to_.length:Int)) - (x.by_.length:Int))) (wn fun d hd=>hx d (by simp[GateGrant.e,GateRule.e] at hd ⊢;simp[hd])) (by omega) (by omega) a2
 have q2:=GateRule.el_nn x.rule
 unfold GateRule.el at b2 q2
 omega
theorem lF (xs:List GateGrant) (n:Int) (hx:(bn xs).ok) (h0:0≤n) (hn:n≤1048576) (h:0≤cr xs n):cr xs n+ji GateGrant.el xs≤n:=by
 obtain ⟨hl,hr⟩:=d9 hx
 exact iE (ok:=fun x:GateGrant=>bz x.e) mY GateGrant.el_nn xs n hl hr h0 hn h
theorem lE (x:GateLedger) (n:Int) (hx:bz x.e) (h0:0≤n) (hn:n≤1048576) (h:0≤bW x n):bW x n+x.el≤n:=by
 have hx:=cA hx
 unfold bW at h ⊢
 unfold GateLedger.el
 obtain ⟨a0,e0⟩:=aQ h
 rw[e0] at h ⊢
 have l0:x.team.length≤ap:=hx (.str x.team) (by simp[GateLedger.e])
 have b0:IntKind.i64.wrap (n - (x.team.length:Int))=n - x.team.length:=ba (by omega) l0 (by omega)
 obtain ⟨a1,e1⟩:=aQ h
 rw[e1] at h ⊢
 have l1:x.resource.length≤ap:=hx (.str x.resource) (by simp[GateLedger.e])
 have b1:IntKind.i64.wrap (IntKind.i64.wrap (n - (x.team.length:Int)) - (x.resource.length:Int))=IntKind.i64.wrap (n - (x.team.length:Int)) - x.resource.length:=ba (by omega) l1 (by omega)
 omega
theorem kL (xs:List GateLedger) (n:Int) (hx:(aV xs).ok) (h0:0≤n) (hn:n≤1048576) (h:0≤cz xs n):cz xs n+ji GateLedger.el xs≤n:=by
 obtain ⟨hl,hr⟩:=d9 hx
 exact iE (ok:=fun x:GateLedger=>bz x.e) lE GateLedger.el_nn xs n hl hr h0 hn h
theorem mW (x:GatePurse) (n:Int) (hx:bz x.e) (h0:0≤n) (hn:n≤1048576) (h:0≤cl x n):cl x n+x.el≤n:=by
 have hx:=cA hx
 unfold cl at h ⊢
 unfold GatePurse.el
 obtain ⟨a0,e0⟩:=aQ h
 rw[e0] at h ⊢
 have l0:x.door.length≤ap:=hx (.str x.door) (by simp[GatePurse.e])
 have b0:IntKind.i64.wrap (n - (x.door.length:Int))=n - x.door.length:=ba (by omega) l0 (by omega)
 obtain ⟨a1,e1⟩:=aQ h
 rw[e1] at h ⊢
 have l1:x.team.length≤ap:=hx (.str x.team) (by simp[GatePurse.e])
 have b1:IntKind.i64.wrap (IntKind.i64.wrap (n - (x.door.length:Int)) - (x.team.length:Int))=IntKind.i64.wrap (n - (x.door.length:Int)) - x.team.length:=ba (by omega) l1 (by omega)
 obtain ⟨a2,e2⟩:=aQ h
 rw[e2] at h ⊢
 have l2:x.resource.length≤ap:=hx (.str x.resource) (by simp[GatePurse.e])
 have b2:IntKind.i64.wrap (IntKind.i64.wrap (IntKind.i64.wrap (n - (x.door.length:Int)) - (x.team.length:Int)) - (x.resource.length:Int))=IntKind.i64.wrap (IntKind.i64.wrap (n - (x.door.length:Int)) - (x.team.length:Int)) - x.resource.length:=ba (by omega) l2 (by omega)
 omega
theorem lC (xs:List GatePurse) (n:Int) (hx:(bk xs).ok) (h0:0≤n) (hn:n≤1048576) (h:0≤dE xs n):dE xs n+ji GatePurse.el xs≤n:=by
 obtain ⟨hl,hr⟩:=d9 hx
 exact iE (ok:=fun x:GatePurse=>bz x.e) mW GatePurse.el_nn xs n hl hr h0 hn h
theorem oo (x:GateBook) (n:Int) (hx:bz x.e) (h0:0≤n) (hn:n≤1048576) (h:0≤eQ x n):eQ x n+x.el≤n:=by
 have hx:=cA hx
 unfold eQ at h ⊢
 unfold GateBook.el
 obtain ⟨a0,e0⟩:=aQ h
 rw[e0] at h ⊢
 have b0:=kK x.objects (n) (hx _ (by simp[GateBook.e])) (by omega) (by omega) a0
 have q0:=bF GateObject.el_nn x.objects
 obtain ⟨a1,e1⟩:=aQ h
 rw[e1] at h ⊢
 have b1:=lF x.grants (bI x.objects (n)) (hx _ (by simp[GateBook.e])) (by omega) (by omega) a1
 have q1:=bF GateGrant.el_nn x.grants
 obtain ⟨a2,e2⟩:=aQ h
 rw[e2] at h ⊢
 have b2:=kL x.ledgers (cr x.grants (bI x.objects (n))) (hx _ (by simp[GateBook.e])) (by omega) (by omega) a2
 have q2:=bF GateLedger.el_nn x.ledgers
 obtain ⟨a3,e3⟩:=aQ h
 rw[e3] at h ⊢
 have b3:=lC x.purses (cz x.ledgers (cr x.grants (bI x.objects (n)))) (hx _ (by simp[GateBook.e])) (by omega) (by omega) a3
 have q3:=bF GatePurse.el_nn x.purses
 omega
end Go.Vc
end
section
namespace Go.Vc
open Go.Proofs
theorem GateLaw.marks_le (x:GateLaw) (k:Int) (h0:0≤k) (hB:k+x.lv≤1099511627776):k≤(GateLaw.marks x k).2∧(GateLaw.marks x k).2≤k+x.lv:=by
 have p0:=aY GateShape.lv_nn x.shapes
 have p1:=aY GateMend.lv_nn x.mends
 have p2:=aY GateTeam.lv_nn x.teams
 unfold GateLaw.lv at*
 have:=GateLaw.marks_val x k h0 (by omega)
 omega
theorem GateBook.marks_le (x:GateBook) (k:Int) (h0:0≤k) (hB:k+x.lv≤1099511627776):k≤(GateBook.marks x k).2∧(GateBook.marks x k).2≤k+x.lv:=by
 have p0:=aY GateObject.lv_nn x.objects
 have p1:=aY GateGrant.lv_nn x.grants
 have p2:=aY GateLedger.lv_nn x.ledgers
 have p3:=aY GatePurse.lv_nn x.purses
 unfold GateBook.lv at*
 have:=GateBook.marks_val x k h0 (by omega)
 omega
end Go.Vc
end
section
namespace Go.Vc
theorem CK {ds:List D} (h:AV.ok (st ds)):bz ds:=by
 unfold st at h
 simp only[AV.ok] at h
 induction ds with
 |nil=>exact trivial
 |cons d ds ih=>exact ⟨h.1,ih h.2⟩
theorem BU {α:Type} {f:α→Int} (h:∀x,0≤f x):∀xs:List α,(xs.length:Int)≤ji f xs
 |[]=>Int.le_refl _
 |x::xs=>by
  have:=h x
  have:=BU h xs
  simp only[ji,List.length_cons];omega
theorem y6 {α:Type}:∀xs:List α,cy gk xs=xs.length
 |[]=>rfl
 |x::xs=>by simp only[cy,y6 xs,gk,List.length_cons];omega
end Go.Vc
end
