/- Part 4 of a proof: Code with places between its statements, with panics, and wi -/
import Derived.Test.YteongcjplmbkgaaGreatDoorSwa
import Derived.Test.YteongcjplmbkgaaGreatDoorSwb
import Derived.Test.YteongcjplmbkgaaGreatDoorSwc
open Option.some renaming injEq → Qaa
open Nat renaming eq_of_beq_eq_true → Qab, ble → Qac, le_refl → Qag, beq → Qah, le_of_ble_eq_true → Qaj, le_succ → Qak
open Array renaming getElem?_push → Qad
open List renaming length_set → Qae, getElem?_append_right → Qaf, getElem?_cons_succ → Qai, nodup_append → Qal, getElem?_toArray → Qam, append_assoc → Qan
open Bool renaming and_eq_true → Qao
open Option renaming map_some → Qap
set_option linter.unusedVariables false
set_option linter.unusedSimpArgs false
section
namespace Go.Vc
def Like (x y:Value):Prop:=y=x∨∃xs ys,x= .tuple xs∧y= .tuple ys∧ac y=ac x∧∀(k:Nat) (β:Value),xs[k]? =some β→∃β',ys[k]? =some β'∧ac β'=ac β
theorem Like.root {x y:Value} (h:Like x y):ac y=ac x:=by
 rcases h with h|⟨_,_,_,_,h,_⟩
 ·rw[h]
 ·exact h
theorem Like.plain {x y:Value} (h:Like x y) (hx:∀xs,x≠ .tuple xs):y=x:=by
 rcases h with h|⟨xs,_,h,_⟩
 ·exact h
 ·exact absurd h (hx xs)
section
variable {w w':World} {N N':Nat→Prop} {ν ν':Nat→Value}
theorem Rv.like (m:Mv w N w' N') (hν:∀id,ν id≠undef→Like (ν id) (ν' id)) {as:List AV} {vs:List Value} (h:Rv w N ν as vs):Rv w' N' ν' as vs:=by
 induction h with
 |nil=>exact .nil
 |any v _ ih=>exact .any v ih
 |d h _ ih=>exact .d (h.mv m) ih
 |nils _ ih=>exact .nils ih
 |val v _ ih=>exact .val v ih
 |agg xs _ _ ih1 ih2=>exact .agg xs ih1 ih2
 |tup xs _ _ ih1 ih2=>exact .tup xs ih1 ih2
 |ptr off h _ ih=>exact .ptr off (by rw[(hν _ (by rw[h];simp[undef])).plain (by rw[h];simp),h]) ih
 |at_ A cells h0 h1 h2 _ ih=>exact .at_ A cells h0 (h1.mv m) (h2.mv m) ih
 |rptr i off sz h hi _ ih=>exact .rptr i off sz (by rw[(hν _ (dc h)).root,h]) hi ih
 |own h _ ih=>exact .own (by rw[(hν _ (dc h)).root,h]) ih
 |nest i off m' j h1 h2 h3 _ ih=>
  rcases hν _ (xy h1 h2) with e|⟨xs,ys,e1,e2,_,e4⟩
  ·exact .nest i off m' j (by rw[e,h1]) h2 h3 ih
  ·rw[h1] at e1
   injection e1 with e1
   subst e1;obtain ⟨β',g1,g2⟩:=e4 _ _ h2
   exact .nest i off m' j e2 g1 (by rw[g2,h3]) ih
 |mapr h _ ih=>exact .mapr (by rw[(hν _ (by rw[h];simp[undef])).plain (by rw[h];simp),h]) ih
 |fn f xs _ _ ih1 ih2=>exact .fn f xs ih1 ih2
 |bfn f xs _ _ ih1 ih2=>exact .bfn f xs ih1 ih2
 |iface t _ _ ih1 ih2=>exact .iface t ih1 ih2
theorem Km.like (m:Mv w N w' N') (hν:∀id,ν id≠undef→Like (ν id) (ν' id)) {tk:TK} {es:List (List D×AV)} {l:List MapEntry} (h:Km w N ν tk es l):Km w' N' ν' tk es l:=by
 induction h with
 |nil=>exact .nil
 |cons h1 h2 h3 _ ih=>exact .cons h1 h2 (h3.like m hν) ih
theorem Ro.like (m:Mv w N w' N') (hν:∀id,ν id≠undef→Like (ν id) (ν' id)) {j:Nat} {o:AO} (e:ν' j=ν j) (hb:∀b,Ow (ν j) b→w'.heap[b]? =w.heap[b]?) (hr:Ro w N ν j o):Ro w' N' ν' j o:=by
 cases o with
 |cells t cs=>
  obtain ⟨b,arr,e',h1,h2,h3⟩:=hr
  exact ⟨b,arr,e',by rw[e,h1],by rw[hb b (by rw[h1];exact .leaf rfl)];exact h2,h3.like m hν⟩
 |row t sz rows=>
  obtain ⟨A,c,cells,h1,h2,h3,h4,h5,h6⟩:=hr;refine ⟨A,c,cells,by rw[e,h1],h2.mv m,h3,h4,h5,?_⟩;rw[e]
  exact ez h6 fun b h=>hb b (.leaf h)
 |tree t sz fs rows=>
  obtain ⟨bs,h1,h2⟩:=hr;refine ⟨bs,?_,h2⟩;rw[e]
  exact h1.keep fun b g=>hb b ((h1.ow b).2 g)
 |map t tk es=>
  obtain ⟨r,arr,clock,h1,h2,h3,hB⟩:=hr;exact ⟨r,arr,clock,by rw[e,h1],by rw[hb r (by rw[h1];exact .leaf rfl)];exact h2,h3.like m hν,hB⟩
end
theorem HJ {α:Type} {l1 l2:List α} {x y:α} {k:Nat} {b:α} (h:(l1++x::l2)[k]? =some b):(k=l1.length∧b=x)∨(l1++y::l2)[k]? =some b:=by
 rcases Nat.lt_trichotomy k l1.length with g|g|g
 ·right;rw[List.getElem?_append_left g] at h ⊢;exact h
 ·left
  subst g;rw[Qaf (Qag _),Nat.sub_self] at h;exact ⟨rfl,by simpa using h.symm⟩
 ·right
  rw[Qaf (Nat.le_of_lt g)] at h ⊢;obtain ⟨j,hj⟩:∃j,k - l1.length=j+1:=⟨k - l1.length - 1,by omega⟩;rw[hj] at h ⊢;exact h
theorem Tb.kill {w:World} {t sz t' sz':Nat} {fs fs':List NT} {rows rn:List (List D)} {γ:Value} {bs:List Nat} {i off:Nat} {row:List D} (h:Tb w t sz fs rows γ bs) (hi:rows[i]? =some row) (ho:row[off]? =some (.list rn)) (hf:fs[off]? =some (.list t' sz' fs')):
 ∃ys β b1 bm b2 A m c,bs=b1++(bm++b2)∧Tb w t' sz' fs' rn β bm∧ac β= .slice A m c∧ys[1+(i*nl fs+nl (fs.take off))]? =some (.agg #[.slice A m c])∧
  Tb w t sz fs (rows.set i (row.set off (.raw (.slice A m c)))) (.tuple ys) (b1++b2)∧Like γ (.tuple ys):=by
 obtain ⟨A,cap,cells,βs,bs',rfl,rfl,h1,h2,h3,h4,h5,h6⟩:=h;have hin:i<rows.length:=(List.getElem?_eq_some_iff.1 hi).1;have hoff:off<fs.length:=(List.getElem?_eq_some_iff.1 hf).1;have hoff':off<sz:=by omega
 have k1:((List.replicate rows.length fs).flatten)[i*sz+off]? =some (.list t' sz' fs'):=by rw[←h3,BZ fs _ _ _ hin hoff,hf]
 have k2:rows.flatten[i*sz+off]? =some (.list rn):=by rw[yJ h2 hi hoff',ho]
 obtain ⟨β1,β,β2,b1,bm,b2,A',m,c,rfl,g2,rfl,g4,g5,g6⟩:=h1.kill k1 k2;have g2':β1.length=i*nl fs+nl (fs.take off):=by rw[g2,←h3,ot fs _ _ _ hin (Nat.le_of_lt hoff)]
 refine ⟨(.slice A rows.length cap::(β1++ .agg #[.slice A' m c]::β2)).toArray,β,(bG (.slice A rows.length cap)).toList++b1,bm,b2,A',m,c,by simp only[Qan],g4,g5,?_,?_,.inr ⟨_,_,rfl,rfl,rfl,fun k x hk=>?_⟩⟩
 ·rw[Qam,Nat.add_comm 1,Qai,Qaf (by omega),g2']
  simp
 ·refine ⟨A,cap,cells,_,b1++b2,by rw[Qae],by rw[Qae];simp only[Qan],?_,?_,h3,h4,by rw[Qae];exact h5,by rw[Qae];exact h6⟩
  ·rw[Qae,uk h2 hi hoff']
   exact g6
  ·intro r hr
   rcases List.mem_or_eq_of_mem_set hr with hr|rfl
   ·exact h2 r hr
   ·rw[Qae];exact h2 row (List.mem_of_getElem? hi)
 ·rw[Qam] at hk ⊢
  cases k with
  |zero=>exact ⟨x,hk,rfl⟩
  |succ k=>
   rw[Qai] at hk ⊢;rcases HJ (y:= .agg #[.slice A' m c]) hk with ⟨e1,e2⟩|g
   ·refine ⟨.agg #[.slice A' m c],?_,?_⟩
    ·subst e1;simp
    ·subst e2;rw[g5];rfl
   ·exact ⟨x,g,rfl⟩
section
variable {P:Program} {ro:Option Nat} {q:Md} {T:List (Nat×TI)} {N0 Nf:Nat→Prop} {w0 w w':World} {n:Nat} {σ σ':Env} {h h':Heap} {a:Act} {ν ν' ν0:Nat→Value}
theorem St.take (s:St q N0 w0 Nf n ν0 σ h a w ν) {id i off t sz t' sz':Nat} {fs fs':List NT} {rows rn:List (List D)} {row:List D} (hid:look h.objs id=some (.tree t sz fs rows)) (hf:fs[off]? =some (.list t' sz' fs')) (hi:rows[i]? =some row) (ho:row[off]? =some (.list rn)):
 ∃ν' A m c,St q N0 w0 Nf n ν0 σ ⟨(h.nx,.tree t' sz' fs' rn)::gm id (.tree t sz fs (rows.set i (row.set off (.raw (.slice A m c))))) h.objs,h.nx+1,h.lo⟩ a w ν'∧ac (ν' h.nx)= .slice A m c∧
  ∀v,Rv w (nN N0 ν') ν' [.nest id i off (nl fs) (nl (fs.take off))] [v]→v= .slice A m c:=by
 obtain ⟨bs,hT,hnd⟩:=s.hp.objs _ _ hid;obtain ⟨ys,β,b1,bm,b2,A,m,c,rfl,hTn,hr,hy,hT',hlk⟩:=hT.kill hi ho hf
 have hidlt:id<h.nx:=by
  rcases Nat.lt_or_ge id h.nx with g|g
  ·exact g
  ·exact absurd (s.hp.dom id g) hT.ne
 have hne:id≠h.nx:=by omega
 have hnx:ν h.nx=undef:=s.hp.dom _ (Qag _)
 let ν':Nat→Value:=fun k=>if k=id then .tuple ys else if k=h.nx then β else ν k
 have e1:ν' id= .tuple ys:=by simp[ν']
 have hne':¬h.nx=id:=fun g=>hne g.symm;have e2:ν' h.nx=β:=by simp[ν',hne']
 have e3:∀k,k≠id→k≠h.nx→ν' k=ν k:=fun k g1 g2=>by simp[ν',g1,g2]
 have hν:∀k,ν k≠undef→Like (ν k) (ν' k):=fun k g=>by
  by_cases q1:k=id
  ·subst q1;rw[e1];exact hlk
  ·by_cases q2:k=h.nx
   ·subst q2;exact absurd hnx g
   ·rw[e3 k q1 q2];exact .inl rfl
 have how:∀b,Ow (ν id) b↔b∈b1++(bm++b2):=hT.ow
 have hcase:∀k b,Ow (ν' k) b→(k=id∧b∈b1++b2)∨(k=h.nx∧b∈bm)∨(k≠id∧k≠h.nx∧Ow (ν k) b):=fun k b g=>by
  by_cases q1:k=id
  ·subst q1;rw[e1] at g;exact .inl ⟨rfl,(hT'.ow b).1 g⟩
  ·by_cases q2:k=h.nx
   ·subst q2;rw[e2] at g;exact .inr (.inl ⟨rfl,(hTn.ow b).1 g⟩)
   ·rw[e3 k q1 q2] at g;exact .inr (.inr ⟨q1,q2,g⟩)
 have hin12:∀b,b∈b1++b2→Ow (ν id) b:=fun b g=>(how b).2 (by rcases List.mem_append.1 g with g|g<;>simp[g]);have hinm:∀b,b∈bm→Ow (ν id) b:=fun b g=>(how b).2 (by simp[g])
 have hdis:∀b,b∈b1++b2→b∈bm→False:=fun b g1 g2=>by
  rw[Qal] at hnd;obtain ⟨_,q2,q3⟩:=hnd;rw[Qal] at q2;rcases List.mem_append.1 g1 with g|g
  ·exact q3 b g b (List.mem_append_left _ g2) rfl
  ·exact q2.2.2 b g2 b g rfl
 have hnd12:(b1++b2).Nodup:=by
  rw[Qal] at hnd ⊢;obtain ⟨q1,q2,q3⟩:=hnd;exact ⟨q1,(List.nodup_append.1 q2).2.1,fun x hx y hy=>q3 x hx y (List.mem_append_right _ hy)⟩
 have hndm:bm.Nodup:=(List.nodup_append.1 (List.nodup_append.1 hnd).2.1).1;refine ⟨ν',A,m,c,s.turn (fun _=>False) (fun _ g=>g.elim) (Kp.refl _ _) (fun mv k=>(s.slots k).like mv hν) (fun mv j o hj=>?_) (fun i j b g1 g2=>?_) (fun j b g=>?_) (fun j hj=>?_) rfl rfl ⟨fun j g1 g2=>?_,fun hfx j g=>?_⟩ rfl (Qak _),by rw[e2,hr],fun v hv=>?_⟩
 ·simp only[look] at hj
  by_cases q2:j=h.nx
  ·subst q2
   rw[ga] at hj;simp only[cond_true,Qaa] at hj;subst hj;exact ⟨bm,by rw[e2];exact hTn,hndm⟩
  ·rw[eQ q2,cond_false,gw] at hj
   by_cases q1:j=id
   ·subst q1
    rw[if_pos rfl,hid] at hj;simp only[Qap,Qaa] at hj;subst hj;exact ⟨b1++b2,by rw[e1];exact hT',hnd12⟩
   ·rw[if_neg q1] at hj
    exact Ro.like mv hν (e3 j q1 q2) (fun _ _=>rfl) (s.hp.objs j o hj)
 ·rcases hcase i b g1 with ⟨i1,m1⟩|⟨i1,m1⟩|⟨i1,i2,m1⟩<;>rcases hcase j b g2 with ⟨j1,m2⟩|⟨j1,m2⟩|⟨j1,j2,m2⟩
  ·rw[i1,j1]
  ·exact (hdis b m1 m2).elim
  ·exact absurd (s.hp.inj _ _ b (hin12 b m1) m2).symm j1
  ·exact (hdis b m2 m1).elim
  ·rw[i1,j1]
  ·exact absurd (s.hp.inj _ _ b (hinm b m1) m2).symm j1
  ·exact absurd (s.hp.inj _ _ b (hin12 b m2) m1).symm i1
  ·exact absurd (s.hp.inj _ _ b (hinm b m2) m1).symm i1
  ·exact s.hp.inj i j b m1 m2
 ·rcases hcase j b g with ⟨_,m1⟩|⟨_,m1⟩|⟨_,_,m1⟩
  ·exact ⟨s.hp.bnd _ b (hin12 b m1),.inl ⟨_,hin12 b m1⟩⟩
  ·exact ⟨s.hp.bnd _ b (hinm b m1),.inl ⟨_,hinm b m1⟩⟩
  ·exact ⟨s.hp.bnd _ b m1,.inl ⟨_,m1⟩⟩
 ·simp only at hj
  rw[e3 j (by omega) (by omega)];exact s.hp.dom j (by omega)
 ·have h0:=s.keep.1 j g1 g2
  by_cases q1:j=id
  ·subst q1
   obtain ⟨A',c',e⟩:=hT.root;rw[h0] at e;exact absurd e (g2 _ _ _)
  ·by_cases q2:j=h.nx
   ·subst q2;rw[hnx] at h0;exact absurd h0.symm g1
   ·rw[e3 j q1 q2,h0]
 ·have h0:=s.keep.2 hfx j g
  by_cases q1:j=id
  ·subst q1;rw[e1,hlk.root,h0]
  ·by_cases q2:j=h.nx
   ·subst q2;exact absurd (s.low.2 _ s.low.1) g
   ·rw[e3 j q1 q2,h0]
 ·cases hv with
  |nest i off m' j g1 g2 g3 _=>
   rw[e1] at g1;injection g1 with g1
   subst g1;rw[hy] at g2;simp only[Qaa] at g2;subst g2;exact g3.symm
theorem Rv.setAt {w:World} {N:Nat→Prop} {x y:AV} (hxy:∀v,Rv w N ν [x] [v]→Rv w N ν [y] [v]):∀{as:List AV} {vs:List Value} {k:Nat},Rv w N ν as vs→as[k]? =some x→Rv w N ν (as.set k y) vs
 |[],vs,k,h,hk=>by simp at hk
 |a::as,vs,0,h,hk=>by
  obtain ⟨v,r,rfl,h1,h2⟩:=h.cons_inv;simp only[List.getElem?_cons_zero,Qaa] at hk;subst hk;rw[List.set_cons_zero]
  exact (hxy v h1).cons h2
 |a::as,vs,k+1,h,hk=>by
  obtain ⟨v,r,rfl,h1,h2⟩:=h.cons_inv;simp only[Qai] at hk;rw[List.set_cons_succ];exact h1.cons (Rv.setAt hxy h2 hk)
theorem St.slot (s:St q N0 w0 Nf n ν0 σ h a w ν) {k:Nat} {y:AV} (hy:∀v,Rv w (nN N0 ν) ν [σ k] [v]→Rv w (nN N0 ν) ν [y] [v]):St q N0 w0 Nf n ν0 (σ.put k y) h a w ν:=by
 refine ⟨fun j=>?_,s.hp,s.kp,s.fresh,s.size,s.defers,s.keep,s.low⟩;by_cases e:j=k
 ·subst e
  rw[show σ.put j y j=y from by simp only[Env.put,ga,cond_true]];exact hy _ (s.slots j)
 ·rw[show σ.put k y j=σ j from by simp only[Env.put,eQ e,cond_false]]
  exact s.slots j
theorem St.cell (s:St q N0 w0 Nf n ν0 σ h a w ν) {c t k:Nat} {cs:List AV} {x y:AV} (hc:look h.objs c=some (.cells t cs)) (hk:cs[k]? =some x) (hy:∀v,Rv w (nN N0 ν) ν [x] [v]→Rv w (nN N0 ν) ν [y] [v]):
 St q N0 w0 Nf n ν0 σ ⟨gm c (.cells t (cs.set k y)) h.objs,h.nx,h.lo⟩ a w ν:=by
 refine ⟨s.slots,⟨fun j o hj=>?_,s.hp.inj,s.hp.bnd,s.hp.dom,s.hp.n0,s.hp.dis,s.hp.lw⟩,s.kp,s.fresh,s.size,s.defers,s.keep,s.low⟩;rw[gw] at hj;by_cases e:j=c
 ·subst e
  rw[if_pos rfl,hc] at hj;simp only[Qap,Qaa] at hj;subst hj;obtain ⟨b,arr,e',h1,h2,h3⟩:=s.hp.objs _ _ hc;exact ⟨b,arr,e',h1,h2,h3.setAt hy hk⟩
 ·rw[if_neg e] at hj
  exact s.hp.objs j o hj
end
def JN (x y i:Nat):Option Nat:=bif Qah i x then some y else some i
def JM (x y:Nat):List (Nat×AO)→List (Nat×AO)
 |[]=>[]
 |(k,o)::r=>(bif Qah k x then y else k,o.map' (JN x y))::JM x y r
def II:AO→Bool
 | .row _ _ _=>true
 | .tree _ _ _ _=>true
 |_=>false
inductive Stp (K:Env→Heap→Prop):Env→Heap→Prop
 |go {σ:Env} {h:Heap}:K σ h→Stp K σ h
 |weak {σ:Env} {h:Heap} (l:List (Nat×AV)) (h':Heap):fZ σ h l h'→Stp K (Env.of l) h'→Stp K σ h
 |pub {σ:Env} {h:Heap} (ids:List Nat) (l:List (Nat×AO)) (m:List (Nat×AV)):pubs ids h.objs=(l,m)→Stp K (Env.subs m σ) ⟨l,h.nx,h.lo⟩→Stp K σ h
 |ren {σ:Env} {h:Heap} (x:Nat) (o:AO):look h.objs x=some o→II o=true→Stp K (fun k=>AV.map (JN x h.nx) (σ k)) ⟨JM x h.nx h.objs,h.nx+1,h.lo⟩→Stp K σ h
 |takeS {σ:Env} {h:Heap} (k p id i off m j t sz t' sz':Nat) (cs:List AV) (fs fs':List NT) (rows rn:List (List D)) (row:List D):σ k= .agg cs→cs[p]? =some (.nest id i off m j)→look h.objs id=some (.tree t sz fs rows)→
   fs[off]? =some (.list t' sz' fs')→(Qah m (nl fs)&&Qah j (nl (fs.take off)))=true→rows[i]? =some row→row[off]? =some (.list rn)→
   (∀A z c,Stp K (σ.put k (.agg (cs.set p (.own h.nx)))) ⟨(h.nx,.tree t' sz' fs' rn)::gm id (.tree t sz fs (rows.set i (row.set off (.raw (.slice A z c))))) h.objs,h.nx+1,h.lo⟩)→Stp K σ h
 |takeC {σ:Env} {h:Heap} (d p id i off m j t sz t' sz' td:Nat) (cs:List AV) (fs fs':List NT) (rows rn:List (List D)) (row:List D):look h.objs d=some (.cells td cs)→cs[p]? =some (.nest id i off m j)→look h.objs id=some (.tree t sz fs rows)→
   fs[off]? =some (.list t' sz' fs')→(Qah m (nl fs)&&Qah j (nl (fs.take off)))=true→rows[i]? =some row→row[off]? =some (.list rn)→
   (∀A z c,Stp K σ ⟨(h.nx,.tree t' sz' fs' rn)::gm id (.tree t sz fs (rows.set i (row.set off (.raw (.slice A z c))))) (gm d (.cells td (cs.set p (.own h.nx))) h.objs),h.nx+1,h.lo⟩)→Stp K σ h
theorem ug {K:Env→Heap→Prop} {σ:Env} {h:Heap} (k:K σ h):Stp K σ h:= .go k
section
variable {P:Program} {ro:Option Nat} {q:Md} {T:List (Nat×TI)} {N0 Nf:Nat→Prop} {w0 w w':World} {n:Nat} {σ σ':Env} {h h':Heap} {a:Act} {ν ν' ν0:Nat→Value}
theorem Gz {x y:Nat} {l:List (Nat×AO)} (hy:∀o,look l y≠some o) {j:Nat} {o:AO} (hj:look (JM x y l) j=some o):∃i o',look l i=some o'∧o=o'.map' (JN x y)∧((i=x∧j=y)∨(i≠x∧j=i)):=by
 induction l with
 |nil=>simp[JM,look] at hj
 |cons p l ih=>
  obtain ⟨k,z⟩:=p;have hyk:y≠k:=fun e=>hy z (by simp only[look,e,ga,cond_true]);have hy':∀o,look l y≠some o:=fun o g=>hy o (by simp only[look,eQ hyk,cond_false,g]);simp only[JM,look] at hj;by_cases ek:k=x
  ·subst ek
   rw[ga] at hj;simp only[cond_true] at hj;by_cases e:j=y
   ·subst e
    rw[ga] at hj;simp only[cond_true,Qaa] at hj;exact ⟨k,z,by simp only[look,ga,cond_true],hj.symm,.inl ⟨rfl,rfl⟩⟩
   ·rw[eQ e,cond_false] at hj
    obtain ⟨i,o',h1,h2,h3⟩:=ih hy' hj;rcases h3 with ⟨h3,h4⟩|⟨h3,h4⟩
    ·exact absurd h4 e
    ·exact ⟨i,o',by simp only[look,eQ h3,cond_false,h1],h2,.inr ⟨h3,h4⟩⟩
  ·rw[eQ ek,cond_false] at hj
   by_cases e:j=k
   ·subst e
    rw[ga] at hj;simp only[cond_true,Qaa] at hj;exact ⟨j,z,by simp only[look,ga,cond_true],hj.symm,.inr ⟨ek,rfl⟩⟩
   ·rw[eQ e,cond_false] at hj
    obtain ⟨i,o',h1,h2,h3⟩:=ih hy' hj
    have hik:i≠k:=by
      rcases h3 with ⟨h3,h4⟩|⟨_,h4⟩
      ·rw[h3];exact fun g=>ek g.symm
      ·rw[←h4];exact e
    exact ⟨i,o',by simp only[look,eQ hik,cond_false,h1],h2,h3⟩
theorem St.rename (s:St q N0 w0 Nf n ν0 σ h a w ν) {x:Nat} {o:AO} (hx:look h.objs x=some o) (ho:II o=true):
 ∃ν',St q N0 w0 Nf n ν0 (fun k=>AV.map (JN x h.nx) (σ k)) ⟨JM x h.nx h.objs,h.nx+1,h.lo⟩ a w ν':=by
 have hne:ν x≠undef:=(s.hp.objs x o hx).ne
 have hsl:∃A m c,ac (ν x)= .slice A m c:=by
  have:=s.hp.objs x o hx
  cases o with
  |row t sz rows=>obtain ⟨A,c,cells,h1,_⟩:=this;exact ⟨A,_,c,by rw[h1];rfl⟩
  |tree t sz fs rows=>obtain ⟨bs,h1,_⟩:=this;obtain ⟨A,c,e⟩:=h1.root;exact ⟨A,_,c,e⟩
  |cells _ _=>cases ho
  |map _ _ _=>cases ho
 have hlt:x<h.nx:=by
  rcases Nat.lt_or_ge x h.nx with g|g
  ·exact g
  ·exact absurd (s.hp.dom x g) hne
 have hnx:ν h.nx=undef:=s.hp.dom _ (Qag _)
 let ν':Nat→Value:=fun i=>if i=x then gh (ν x) else if i=h.nx then ν x else ν i
 have h1:ν' x=gh (ν x):=by simp[ν']
 have hxn:¬h.nx=x:=by omega
 have h2:ν' h.nx=ν x:=by simp[ν',hxn]
 have h3:∀i,i≠x→i≠h.nx→ν' i=ν i:=fun i e1 e2=>by simp[ν',e1,e2]
 have hS:∀i j,JN x h.nx i=some j→ν i≠undef→Same (ν i) (ν' j):=fun i j e g=>by
  unfold JN at e;by_cases q1:i=x
  ·subst q1
   rw[ga] at e;simp only[cond_true,Qaa] at e;subst e;exact .inl h2
  ·rw[eQ q1] at e
   simp only[cond_false,Qaa] at e;subst e;exact .inl (h3 i q1 (fun g'=>g (by rw[g'];exact hnx)))
 have hnone:∀o,look h.objs h.nx≠some o:=fun o g=>(s.hp.objs _ _ g).ne hnx
 have hcase:∀i b,Ow (ν' i) b→(i=h.nx∧Ow (ν x) b)∨(i≠x∧i≠h.nx∧Ow (ν i) b):=fun i b g=>by
  by_cases q1:i=x
  ·subst q1;rw[h1] at g;exact absurd g IA
  ·by_cases q2:i=h.nx
   ·subst q2;rw[h2] at g;exact .inl ⟨rfl,g⟩
   ·rw[h3 i q1 q2] at g;exact .inr ⟨q1,q2,g⟩
 refine ⟨ν',s.turn (fun _=>False) (fun _ g=>g.elim) (Kp.refl _ _) (fun m k=>?_) (fun m j o' hj=>?_) (fun i j b g1 g2=>?_) (fun i b g=>?_) (fun i hi=>?_) rfl rfl ⟨fun i g1 g2=>?_,fun hfx i g1=>?_⟩ rfl (Qak _)⟩
 ·have:=(s.slots k).map m hS
  simpa only[aG] using this
 ·obtain ⟨i,o'',e1,rfl,e2⟩:=Gz hnone hj
  refine Ro.map m hS ?_ (fun _ _=>rfl) (s.hp.objs i o'' e1);rcases e2 with ⟨rfl,rfl⟩|⟨e2,rfl⟩
  ·exact h2
  ·exact h3 j e2 (fun g=>by rw[g] at e1;exact hnone _ e1)
 ·rcases hcase i b g1 with ⟨i1,m1⟩|⟨i1,i2,m1⟩<;>rcases hcase j b g2 with ⟨j1,m2⟩|⟨j1,j2,m2⟩
  ·rw[i1,j1]
  ·exact absurd (s.hp.inj _ _ b m2 m1) j1
  ·exact absurd (s.hp.inj _ _ b m1 m2) i1
  ·exact s.hp.inj i j b m1 m2
 ·rcases hcase i b g with ⟨_,m1⟩|⟨_,_,m1⟩
  ·exact ⟨s.hp.bnd _ b m1,.inl ⟨_,m1⟩⟩
  ·exact ⟨s.hp.bnd _ b m1,.inl ⟨_,m1⟩⟩
 ·simp only at hi
  rw[h3 i (by omega) (by omega)];exact s.hp.dom i (by omega)
 ·have h0:=s.keep.1 i g1 g2
  by_cases q1:i=x
  ·subst q1
   obtain ⟨A,m,c,e⟩:=hsl;rw[h0] at e;exact absurd e (g2 _ _ _)
  ·by_cases q2:i=h.nx
   ·subst q2;exact absurd (s.low.2 _ s.low.1) g1
   ·rw[h3 i q1 q2,h0]
 ·have h0:=s.keep.2 hfx i g1
  by_cases q1:i=x
  ·subst q1;rw[h1,rG,h0]
  ·by_cases q2:i=h.nx
   ·subst q2;exact absurd (s.low.2 _ s.low.1) g1
   ·rw[h3 i q1 q2,h0]
theorem Stp.sound {K:Env→Heap→Prop} {G:Prop} (hs:Stp K σ h):∀{ν:Nat→Value},St q N0 w0 Nf n ν0 σ h a w ν→(∀σ h ν,K σ h→St q N0 w0 Nf n ν0 σ h a w ν→G)→G:=by
 induction hs with
 |go k=>intro ν s hK;exact hK _ _ _ k s
 |weak l h' hw _ ih=>intro ν s hK;obtain ⟨ν1,s1,_⟩:=s.weak hw;exact ih s1 hK
 |pub ids l m e _ ih=>
  intro ν s hK;obtain ⟨ν1,s1,_⟩:=St.pubs ids (l:=_) (x:=_) (y:=_) s e
  exact ih s1 hK
 |ren x o hx ho _ ih=>intro ν s hK;obtain ⟨ν1,s1⟩:=s.rename hx ho;exact ih s1 hK
 |takeS k p id i off m j t sz t' sz' cs fs fs' rows rn row e1 e2 e3 e4 e5 e6 e7 _ ih=>
  intro ν s hK;simp only[Qao] at e5;have em:=Qab e5.1;have ej:=Qab e5.2;subst em ej;obtain ⟨ν1,A,z,c,s1,g1,g2⟩:=s.take e3 e4 e6 e7;refine ih A z c (s1.slot fun v hv=>?_) hK;rw[e1] at hv;obtain ⟨xs,rfl,h1⟩:=je hv
  exact .agg xs (h1.setAt (fun v hv=>by rw[g2 v hv];exact .own g1 .nil) e2) .nil
 |takeC d p id i off m j t sz t' sz' td cs fs fs' rows rn row e1 e2 e3 e4 e5 e6 e7 _ ih=>
  intro ν s hK;simp only[Qao] at e5;have em:=Qab e5.1;have ej:=Qab e5.2;subst em ej;obtain ⟨ν1,A,z,c,s1,g1,g2⟩:=s.take e3 e4 e6 e7;have hdi:d≠id:=fun e=>by subst e;rw[e1] at e3;cases e3
  rename_i h2 _
  have hdn:d≠h2.nx:=fun e=>by
   have:=(s.hp.objs _ _ e1).ne;exact this (s.hp.dom d (Nat.le_of_eq e.symm))
  have hl:look ((h2.nx,AO.tree t' sz' fs' rn)::gm id (.tree t sz fs (rows.set i (row.set off (.raw (.slice A z c))))) h2.objs) d=some (.cells td cs):=by
   simp only[look,eQ hdn,cond_false];rw[gw,if_neg hdi,e1]
  have s2:=s1.cell hl e2 (y:= .own h2.nx) (fun v hv=>by rw[g2 v hv];exact .own g1 .nil)
  have hcomm:∀l:List (Nat×AO),gm d (.cells td (cs.set p (.own h2.nx))) (gm id (.tree t sz fs (rows.set i (row.set off (.raw (.slice A z c))))) l)=gm id (.tree t sz fs (rows.set i (row.set off (.raw (.slice A z c))))) (gm d (.cells td (cs.set p (.own h2.nx))) l):=by
   intro l
   induction l with
   |nil=>rfl
   |cons x l ih=>
    obtain ⟨k,o⟩:=x;by_cases h1:k=d
    ·subst h1
     simp only[gm,ga,eQ hdi,cond_true,cond_false]
    ·by_cases h2:k=id
     ·subst h2
      simp only[gm,ga,eQ h1,cond_true,cond_false]
     ·simp only[gm,eQ h1,eQ h2,cond_false,ih]
  simp only[gm,eQ (fun e=>hdn e.symm),cond_false] at s2;rw[hcomm] at s2;exact ih A z c s2 hK
end
end Go.Vc
end
section
namespace Go.Vc
abbrev Lf:=Option (Exit×Heap)
abbrev Hv:=List AV→Heap→(Lf→Heap→Prop)→Prop
def IN (lo:Nat) (K:Lf→Heap→Prop):Exit→Env→Heap→Prop
 | .normal,_,h=>Qac lo h.nx=true∧K none ⟨h.objs,h.nx,lo⟩
 | .ret,_,h=>Qac lo h.nx=true∧K (some (.ret,⟨h.objs,h.nx,lo⟩)) hp0
 | .exit id,_,h=>Qac lo h.nx=true∧K (some (.exit id,⟨h.objs,h.nx,lo⟩)) hp0
 |_,_,_=>False
def Lk (body:vK) (lo:Nat) (K:Lf→Heap→Prop):Exit→Env→Heap→Prop
 | .normal,σ,h=>body σ ⟨h.objs,h.nx,h.nx⟩ (IN lo K)
 |_,_,_=>False
def J0 (n:Nat) (ps:Array Nat) (assign body:vK) (σ:Env):Hv:=fun args h K=>
 Qah args.length ps.size=true∧assign (iN n ps.toList args σ) ⟨h.objs,h.nx,h.nx⟩ (Lk body h.lo K)
abbrev JW:=Lf→Env→Heap→(Exit→Lf→Env→Heap→Prop)→Prop
noncomputable def KZ (σ:Env) (n:Nat) (d:Option Nat) (K:Lf→Env→Heap→Prop):Lf→Heap→Prop
 |none,h=>j9 σ (.tsub []) n d (.val (.bool true)) fun σ'=>cq h fun h=>K none σ' h
 |some x,_=>K (some x) (Env.putO (fun i=>(σ i).flat1) n d (.val (.bool false))) hp0
noncomputable def zm (T:List (Nat×TI)) (S:bg) (l:Nat) (rd:Hv) (n:Nat) (o:Oper) (k:Lf) (σ:Env) (h:Heap) (K:Lf→Env→Heap→Prop):Prop:=match k with
 |none=>match lO (ev σ) o.op with
  |some (l',args)=>l'=l∧rd args h (KZ σ n o.dst K)
  |none=>bq T S (ev σ) h o.op fun r h' m=>j9 σ m n o.dst r fun σ'=>qL o.op h' fun h''=>K none σ' h''
 |some x=>match xP (ev σ) o.op with
  |some r=>j9 σ (.sub []) n o.dst r fun σ'=>K (some x) σ' h
  |none=>False
noncomputable def xi (T:List (Nat×TI)) (S:bg) (l:Nat) (rd:Hv) (n:Nat) (ops:Array Oper) (o:Oper) (ih:Lf→Env→Heap→(Lf→Env→Heap→Prop)→Prop) (k:Lf) (σ:Env) (h:Heap) (K:Lf→Env→Heap→Prop):Prop:=
 match o.guard with
 |none=>zm T S l rd n o k σ h fun k σ h=>ih k σ h K
 |some (g,want)=>match (ops[g]?).bind (·.dst) with
  |none=>False
  |some gd=>match σ gd with
   | .d (.bool b)=>
     br want b (zm T S l rd n o k (σ.put gd (.val (.bool want))) h fun k σ h=>ih k σ h K)
        (ih k ((σ.put gd (.val (.bool (!want)))).putO n o.dst (.val undef)) h K)
   | .val (.bool b)=>match b==want with
     |true=>zm T S l rd n o k σ h fun k σ h=>ih k σ h K
     |false=>ih k (σ.putO n o.dst (.val undef)) h K
   | .val (.tuple _)=>ih k (σ.putO n o.dst (.val undef)) h K
   |_=>False
noncomputable def xj (T:List (Nat×TI)) (S:bg) (l:Nat) (rd:Hv) (n:Nat) (ops:Array Oper) (os:List Oper):Lf→Env→Heap→(Lf→Env→Heap→Prop)→Prop:=
 List.rec (motive:=fun _=>Lf→Env→Heap→(Lf→Env→Heap→Prop)→Prop) (fun k σ h K=>K k σ h) (fun o _ ih=>xi T S l rd n ops o ih) os
theorem zl {T:List (Nat×TI)} {S:bg} {l:Nat} {rd:Hv} {n:Nat} {ops:Array Oper} {o:Oper} {os:List Oper} {k:Lf} {σ:Env} {h:Heap} {K:Lf→Env→Heap→Prop}:
 xj T S l rd n ops (o::os) k σ h K=xi T S l rd n ops o (xj T S l rd n ops os) k σ h K:=rfl
def J6 (b:JW) (Q:Exit→Lf→Env→Heap→Prop) (e:Exit) (k:Lf) (σ:Env) (h:Heap):Prop:=match e with
 | .normal=>b k σ h Q
 |e=>Q e k σ h
def CP (id:Nat) (Q:Exit→Lf→Env→Heap→Prop) (e:Exit) (k:Lf) (σ:Env) (h:Heap):Prop:=match e with
 | .exit id'=>bif Qah id' id then Q .normal k σ h else Q (.exit id') k σ h
 |e=>Q e k σ h
def IZ (Q:Exit→Lf→Env→Heap→Prop):Exit→Lf→Env→Heap→Prop
 | .goto _,_,_,_=>False
 |e,k,σ,h=>Q e k σ h
def BV (I:Nat→List (Nat×AV)→Heap→Prop) (m:Nat) (Q:Exit→Lf→Env→Heap→Prop) (e:Exit) (k:Lf) (σ:Env) (h:Heap):Prop:=match e with
 | .normal=>k=none∧∃m' l' h'',I m' l' h''∧m'<m∧fZ σ h l' h''
 |e=>Q e k σ h
def xo (c:Operand) (t e:JW) (k:Lf) (σ:Env) (h:Heap) (Q:Exit→Lf→Env→Heap→Prop):Prop:=match ev σ c with
 | .d (.bool b)=>(b=true→t k σ h Q)∧(b=false→e k σ h Q)
 | .val (.bool b)=>match b with
   |true=>t k σ h Q
   |false=>e k σ h Q
 |_=>False
def HH (c:JW) (k:Lf) (σ:Env) (h:Heap) (Q:Exit→Lf→Env→Heap→Prop):Prop:=
 k=none∧∃I:Nat→List (Nat×AV)→Heap→Prop,(∃m l h',I m l h'∧fZ σ h l h')∧∀m l h1,I m l h1→c none (Env.of l) h1 (BV I m Q)
noncomputable def D9 (T:List (Nat×TI)) (S:bg) (l:Nat) (rd:Hv) (n:Nat) (ops:Array Oper) (draw:Bool) (k:Lf) (σ:Env) (h:Heap) (Q:Exit→Lf→Env→Heap→Prop):Prop:=match draw with
 |false=>xj T S l rd n ops ops.toList k σ h (Q .normal)
 |true=>match k with
  |none=>eX T S n ops true σ h fun e σ h=>Q e none σ h
  |some _=>False
noncomputable def KK (T:List (Nat×TI)) (S:bg) (l:Nat) (rd:Hv) (n:Nat) (c:Code):JW:=
 Code.rec (motive:=fun _=>JW) (skip:=fun k σ h Q=>Q .normal k σ h) (region:=fun _ ops draw=>D9 T S l rd n ops draw)
  (seq:=fun _ _ iha ihb k σ h Q=>iha k σ h (J6 ihb Q)) (cond:=fun c _ _ t e=>xo c t e)
  (block:=fun id _ ih k σ h Q=>ih k σ h (CP id Q)) (loop:=fun _ ih=>HH ih)
  (rangeFunc:=fun _ _ _ _ _ _ _ _ _ _=>False)
  (exit:=fun id k σ h Q=>Q (.exit id) k σ h) (scope:=fun _ ih k σ h Q=>ih k σ h (IZ Q)) (label:=fun _ k σ h Q=>Q .normal k σ h) (goto:=fun _ _ _ _ _=>False)
  (ret:=fun k σ h Q=>Q .ret k σ h) (refuse:=fun _ _ _ _ _=>False) c
def Ly (S:bg):bg:=⟨S.pure,S.heap,S.iter,S.fix,true,S.pan⟩
def Kz (lo:Nat) (σ:Env) (Q:Exit→Env→Heap→Prop):Exit→Lf→Env→Heap→Prop
 | .normal,none,_,h=>Qac lo h.nx=true∧Q .normal σ ⟨h.objs,h.nx,lo⟩
 | .ret,none,_,h=>Qac lo h.nx=true∧Q .normal σ ⟨h.objs,h.nx,lo⟩
 | .normal,some (e,h),_,_=>Qac lo h.nx=true∧Q e σ ⟨h.objs,h.nx,lo⟩
 | .ret,some (e,h),_,_=>Qac lo h.nx=true∧Q e σ ⟨h.objs,h.nx,lo⟩
 |_,_,_,_=>False
def CZ (P:Program) (f:FuncId) (n:Nat) (c:Code):Prop:=∃fn,P.funcs[f]? =some fn∧(fn.name== "runtime.NumGoroutine")=false∧fn.ntmps=n∧fn.body=some c∧fn.results= #[]
noncomputable def FF (CD:FuncId→Nat→Code→Prop) (T:List (Nat×TI)) (S:bg) (n:Nat) (g:Operand) (ps:Array Nat) (assign body:vK) (σ:Env) (h:Heap) (Q:Exit→Env→Heap→Prop):Prop:=match ev σ g with
 | .fn f caps=>∃n' c',CD f n' c'∧Qac (caps.length+1) n'=true∧∀l:Nat,
    KK T (Ly S) l (J0 n ps assign body (Env.ren (.tsub []) σ)) n' c' none (Env.args (.val (.func (.yield l) #[] #[])::caps)) ⟨h.objs,h.nx,h.nx⟩ (Kz h.lo (Env.ren (.tsub []) σ) Q)
 |_=>False
def J4 (b:vK) (Q:Exit→Env→Heap→Prop) (e:Exit) (σ:Env) (h:Heap):Prop:=match e with
 | .normal=>Stp (fun σ h=>b σ h Q) σ h
 |e=>Q e σ h
def Sx (rd:Bool) (S:bg):bg:=match rd with|true=>Ly S|false=>S
def Gb (E:EP) (σ:Env) (lo:Nat):EP:=fun r _ h=>Qac lo h.nx=true∧E r (Env.ren (.tsub []) σ) ⟨h.objs,h.nx,lo⟩
noncomputable def HA (CD:FuncId→Nat→Code→Prop) (T:List (Nat×TI)) (S:bg) (n:Nat) (c:Code):Bool→EP→vK:=
 Code.rec (motive:=fun _=>Bool→EP→vK) (skip:=fun _ _ σ h Q=>Q .normal σ h)
  (region:=fun _ ops draw rd E σ h Q=>Rg (eX T (Sx rd S) n ops draw σ h Q) (match draw with|false=>FE T (Sx rd S) n ops σ h E|true=>False))
  (seq:=fun _ _ iha ihb rd E σ h Q=>iha rd E σ h (J4 (ihb rd E) Q)) (cond:=fun c _ _ t e rd E=>jW c (t rd E) (e rd E))
  (block:=fun id _ ih rd E σ h Q=>ih rd E σ h (kw id Q)) (loop:=fun _ ih rd E=>mO (ih rd E))
  (rangeFunc:=fun g ps _ _ iha ihb rd E σ h Q=>match rd with
    |false=>FF CD T S n g ps (iha true fun _ _ _=>False) (ihb true (Gb E σ h.lo)) σ h Q
    |true=>False)
  (exit:=fun id _ _ σ h Q=>Q (.exit id) σ h) (scope:=fun _ ih rd E σ h Q=>ih rd E σ h (BJ Q)) (label:=fun _ _ _ σ h Q=>Q .normal σ h) (goto:=fun _ _ _ _ _ _=>False)
  (ret:=fun _ _ σ h Q=>Q .ret σ h) (refuse:=fun _ _ _ _ _ _=>False) c
end Go.Vc
end
section
namespace Go.Vc
structure Rel (l:Nat) (W:World) (ν:Nat→Value) (W':World) (ν':Nat→Value):Prop where
 os:W'.os=W.os
 tape:W'.tape=W.tape
 output:W'.output=W.output
 size:W.heap.size≤W'.heap.size
 blk:∀b,b<W.heap.size→¬jC ν b→b≠l→W'.heap[b]? =W.heap[b]?
 fresh:∀i b,Ow (ν' i) b→W.heap.size≤b∨jC ν b
 keep:∀i,ν i≠undef→((∀A m c,ac (ν i)≠ .slice A m c)→ν' i=ν i)∧ac (ν' i)=ac (ν i)
section
variable {P:Program} {ro:Option Nat} {q:Md} {T:List (Nat×TI)} {N0 Nf:Nat→Prop} {w0 w w' W W' W1 W2:World} {n:Nat} {σ σ':Env} {h h':Heap} {a:Act} {ν ν' ν0 ν1 ν2:Nat→Value} {l:Nat}
theorem Rel.ne (r:Rel l W ν W' ν') {i:Nat} (hn:ν i≠undef):ν' i≠undef:=by
 have h:=r.keep i hn;by_cases hs:∃A m c,ac (ν i)= .slice A m c
 ·obtain ⟨A,m,c,e⟩:=hs
  exact dc (h.2.trans e)
 ·rw[h.1 (fun A m c e=>hs ⟨A,m,c,e⟩)];exact hn
theorem Rel.trans (r:Rel l W ν W1 ν1) (r':Rel l W1 ν1 W2 ν2):Rel l W ν W2 ν2:=by
 refine ⟨r'.os.trans r.os,r'.tape.trans r.tape,r'.output.trans r.output,Nat.le_trans r.size r'.size,fun b hb hN hl=>?_,fun i b g=>?_,fun i g=>?_⟩
 ·refine (r'.blk b (Nat.lt_of_lt_of_le hb r.size) (fun ⟨i,g⟩=>?_) hl).trans (r.blk b hb hN hl)
  rcases r.fresh i b g with g|g
  ·omega
  ·exact hN g
 ·rcases r'.fresh i b g with g|⟨j,g⟩
  ·exact .inl (Nat.le_trans r.size g)
  ·exact r.fresh j b g
 ·obtain ⟨h1,h2⟩:=r.keep i g
  obtain ⟨h3,h4⟩:=r'.keep i (r.ne g);exact ⟨fun hs=>by rw[h3 (fun A m c e=>hs A m c (by rw[←h2];exact e)),h1 hs],h4.trans h2⟩
theorem pv (hq:q.fx=true) (s:St q N0 W (jC ν) n ν σ h a W' ν'):Rel l W ν W' ν':=
 ⟨s.kp.os,s.kp.tape,s.kp.output,s.kp.size,fun b hb hN _=>s.kp.blk b hb hN,fun i b g=>s.fresh i b g,fun i g=>⟨s.keep.1 i g,s.keep.2 hq i g⟩⟩
theorem Rel.put (o:Obj):Rel l W ν (W.putObj l o) ν:=
 ⟨rfl,rfl,rfl,by simp,fun b _ _ hl=>World.putObj_heap_other hl,fun i b g=> .inr ⟨i,g⟩,fun i _=>⟨fun _=>rfl,rfl⟩⟩
theorem Rel.alloc (o:Obj):Rel l W ν (W.alloc o) ν:=by
 refine ⟨rfl,rfl,rfl,by simp,fun b hb _ _=>?_,fun i b g=> .inr ⟨i,g⟩,fun i _=>⟨fun _=>rfl,rfl⟩⟩;show (W.heap.push o)[b]? =W.heap[b]?;rw[Qad,if_neg (Nat.ne_of_lt hb)]
theorem Rel.mv (r:Rel l W ν W' ν') (hl:l<W.heap.size→W'.heap[l]? =W.heap[l]?):Mv W (nN N0 ν) W' (nN N0 ν'):=by
 refine ⟨r.size,fun b hb hN=>⟨?_,?_⟩⟩
 ·rintro (g|⟨i,g⟩)
  ·exact hN (.inl g)
  ·rcases r.fresh i b g with g|g
   ·omega
   ·exact hN (.inr g)
 ·by_cases e:b=l
  ·subst e;exact hl hb
  ·exact r.blk b hb (fun g=>hN (.inr g)) e
theorem Rel.same (r:Rel l W ν W' ν'):∀i j,jK [] i=some j→ν i≠undef→Same (ν i) (ν' j):=fun i j e g=>by
 obtain ⟨rfl,_⟩:=nb e;obtain ⟨h1,h2⟩:=r.keep _ g;by_cases hs:∃A m c,ac (ν j)= .slice A m c
 ·obtain ⟨A,m,c,e⟩:=hs
  exact .inr ⟨A,m,c,e,h2.trans e⟩
 ·exact .inl (h1 fun A m c e=>hs ⟨A,m,c,e⟩)
theorem Rel.slot (r:Rel l W ν W' ν') (hl:l<W.heap.size→W'.heap[l]? =W.heap[l]?) {x:AV} {v:Value} (hx:Rv W (nN N0 ν) ν [x] [v]):Rv W' (nN N0 ν') ν' [AV.unn [] x] [v]:=by
 have:=hx.map (r.mv hl) r.same;simp only[aG] at this;exact this
theorem Hp.put (hp:Hp N0 W ν h) {o:Obj} (ho:W.heap[l]? =some o) (hc:o.isCells=false) (hn:∀i,¬Ow (ν i) l) (o':Obj):Hp N0 (W.putObj l o') ν h:=by
 have hb:=iI ho hc;have same:∀b,b≠l→(W.putObj l o').heap[b]? =W.heap[b]? :=fun b e=>World.putObj_heap_other e;have m:Mv W (fun b=>nN N0 ν b∨b=l) (W.putObj l o') (nN N0 ν):=⟨by simp,fun b _ hN=>⟨fun g=>hN (.inl g),same b (fun e=>hN (.inr e))⟩⟩;exact ⟨fun id o hl=>Ro.keep m (fun _ _=>rfl) (fun b g=>same b (fun e=>hn id (e▸g))) ((hp.objs id o hl).avoid hb),hp.inj,fun i b g=>by simpa using hp.bnd i b g,hp.dom,fun b g=>by simpa using hp.n0 b g,hp.dis,hp.lw.mv' hb same⟩
theorem Rv.put {N:Nat→Prop} {as:List AV} {vs:List Value} (hr:Rv W N ν as vs) {o:Obj} (ho:W.heap[l]? =some o) (hc:o.isCells=false) (o':Obj):Rv (W.putObj l o') N ν as vs:=by
 have hb:=iI ho hc;have m:Mv W (fun b=>N b∨b=l) (W.putObj l o') N:=⟨by simp,fun b _ hN=>⟨fun g=>hN (.inl g),World.putObj_heap_other (fun e=>hN (.inr e))⟩⟩;exact (hr.avoid hb).mv m (fun _ _=>rfl)
theorem y4 (hs:∀k,Rv W (nN N0 ν) ν [σ k] [a.tmps.getD k undef]) (hp:Hp N0 W ν h) (hz:a.tmps.size=n) (hd:a.defers=[]):St ⟨true,true,[]⟩ N0 W (jC ν) n ν σ ⟨h.objs,h.nx,h.nx⟩ a W ν:=
 ⟨hs,hp.lo _,Kp.refl _ _,fun i b g=> .inr ⟨i,g⟩,hz,by rw[hd];exact Dfr.nil _ _ _ _,⟨fun _ _ _=>rfl,fun _ _ _=>rfl⟩,Qag _,hp.dom⟩
def Is (N0:Nat→Prop) (W1:World) (νc:Nat→Value) (n:Nat) (PX:Exit→Heap→World→Prop) (k:Lf) (σ:Env) (h:Heap) (a:Act) (W:World):Prop:=match k with
 |none=>∃ν,St ⟨true,true,[]⟩ N0 W1 (jC νc) n νc σ h a W ν
 |some x=>Zs n σ a∧PX x.1 x.2 W
variable {νc:Nat→Value} {PX:Exit→Heap→World→Prop} {PP:List PanicEntry→World→Prop} {k:Lf}
theorem Is.slot (s:Is N0 W1 νc n PX k σ h a w) (i:Nat):∃w N ν,Rv w N ν [σ i] [a.tmps.getD i undef]:=by
 cases k with
 |none=>obtain ⟨ν,s⟩:=s;exact ⟨_,_,_,s.slots i⟩
 |some x=>exact ⟨w,fun _=>False,fun _=>undef,s.1.1 i _ _ _⟩
theorem Is.ev (s:Is N0 W1 νc n PX k σ h a w) (x:Operand):∃w N ν,Rv w N ν [ev σ x] [a.eval x]:=by
 cases k with
 |none=>obtain ⟨ν,s⟩:=s;exact ⟨_,_,_,aD s x⟩
 |some x=>exact ⟨w,fun _=>False,fun _=>undef,s.1.ev _ _ _ _⟩
theorem Is.know (s:Is N0 W1 νc n PX k σ h a w) {i:Nat} {x:AV} (hx:∀w N ν,Rv w N ν [x] [a.tmps.getD i undef]):Is N0 W1 νc n PX k (σ.put i x) h a w:=by
 cases k with
 |none=>obtain ⟨ν,s⟩:=s;exact ⟨ν,s.know (hx _ _ _)⟩
 |some x=>exact ⟨s.1.know hx,s.2⟩
theorem Is.skip (s:Is N0 W1 νc n PX k σ h a w) (d:Option Nat):Is N0 W1 νc n PX k (σ.putO n d (.val undef)) h (a.put d undef) w:=by
 cases k with
 |none=>obtain ⟨ν,s⟩:=s;exact ⟨ν,s.skip d⟩
 |some x=>exact ⟨s.1.put d (fun _ _ _=> .val _ .nil),s.2⟩
def Hw (P:Program) (N0:Nat→Prop) (W1:World) (νc:Nat→Value) (n:Nat) (PX:Exit→Heap→World→Prop) (PP:List PanicEntry→World→Prop) (l:Nat) (rd:Hv):Prop:=
 ∀(σ:Env) (h:Heap) (a:Act) (W:World) (ν:Nat→Value) (args:List AV) (vs:List Value) (K:Lf→Heap→Prop),St ⟨true,true,[]⟩ N0 W1 (jC νc) n νc σ h a W ν→Rv W (nN N0 ν) ν args vs→rd args h K→
  YieldAt (G none) 0 P l vs.toArray W fun e W'=>match e with
    | .returned v=>(v= .bool true∧∃h' ν',K none h'∧St ⟨true,true,[]⟩ N0 W1 (jC νc) n νc (Env.ren (.tsub []) σ) h' a W' ν')∨(v= .bool false∧∃x,K (some x) hp0∧PX x.1 x.2 W')
    | .panicked ch=>PP ch W'
    | .outgrown=>False
theorem kT (hT:bi P T=true) {rd:Hv} (hR:Hw P N0 W1 νc n PX PP l rd) {o:Oper} {K:Lf→Env→Heap→Prop} {next:Act→World→Prop} {Q:Exit→Act→World→Prop}
 (hP:∀ch a w,PP ch w→a.defers=[]→Q (.panic ch) a w) (hn:∀k σ h a w,K k σ h→Is N0 W1 νc n PX k σ h a w→next a w)
 (s:Is N0 W1 νc n PX k σ h a w) (hv:zm T (am P true) l rd n o k σ h K):o.wpIn (G none) 0 P a w next Q:=by
 unfold zm at hv
 cases k with
 |none=>
  obtain ⟨ν,s⟩:=s;simp only at hv;split at hv
  ·rename_i l' args hy
   obtain ⟨rfl,hv⟩:=hv;obtain ⟨vs,hvs,hr⟩:=ny (P:=P) hy s;refine DX hr (hR _ _ _ _ _ _ _ _ s hvs hv) (fun v w' hk=>?_) (fun ch w' hk=>hP ch a w' hk (s.defers.1 rfl)) (fun _ h=>h);rcases hk with ⟨rfl,h',ν',hk,s'⟩|⟨rfl,x,hk,hx⟩
   ·have hk:j9 σ (.tsub []) n o.dst (.val (.bool true)) fun σ'=>cq h' fun h=>K none σ' h:=hk
    exact hn _ _ _ _ _ (forceH_iff.1 (putK_iff.1 hk)) ⟨ν',s'.seen (Kp.refl _ _) o.dst (.val _ .nil)⟩
   ·exact hn _ _ _ _ _ hk ⟨⟨fun i w N ν'=>dA (fun i=>A3 (s.slots i) w N ν') s.size o.dst (.val _ .nil) i,by rw[e9,s.size],by rw[dq];exact s.defers.1 rfl⟩,hx⟩
  ·exact dK (q:=⟨true,true,[]⟩) hT s hv fun r h' m a' w' ν' hk hs=>hn _ _ _ _ _ (heapK_iff.1 (putK_iff.1 hk)) ⟨ν',hs⟩
 |some x=>
  simp only at hv;split at hv
  ·rename_i r hs
   obtain ⟨v,h1,h2⟩:=vY (P:=P) hs s.1 w;exact bD h1 (hn _ _ _ _ _ (putK_iff.1 hv) ⟨s.1.put o.dst h2,s.2⟩)
  ·exact hv.elim
theorem dL (hT:bi P T=true) {rd:Hv} (hR:Hw P N0 W1 νc n PX PP l rd) {ops:Array Oper} {K:Lf→Env→Heap→Prop} {Q:Exit→Act→World→Prop}
 (hP:∀ch a w,PP ch w→a.defers=[]→Q (.panic ch) a w) (hK:∀k σ h a w,K k σ h→Is N0 W1 νc n PX k σ h a w→Q .normal a w):∀(rest:List Oper) {k:Lf} {σ:Env} {h:Heap} {a:Act} {w:World},
 Is N0 W1 νc n PX k σ h a w→xj T (am P true) l rd n ops rest k σ h K→wpListIn (G none) 0 P ops Q rest a w
 |[],k,σ,h,a,w,s,hv=>hK _ _ _ _ _ hv s
 |o::rest,k,σ,h,a,w,s,hv=>by
  rw[zl] at hv;unfold xi at hv;unfold wpListIn;split at hv
  ·rename_i hg
   rw[if_pos (by simp[Region.wanted,hg])];exact kT hT hR hP (fun k σ h a w hk hs=>dL hT hR hP hK rest hs hk) s hv
  ·rename_i g want hg
   split at hv
   ·exact hv.elim
   ·rename_i gd hd
    obtain ⟨wx,Nx,νx,hsl⟩:=s.slot gd;split at hv
    ·rename_i b hb
     rw[hb] at hsl;have hw:=dY (ops:=ops) hg hd (iK hsl);have hval:∀c,b=c→∀w N ν,Rv w N ν [.val (.bool c)] [a.tmps.getD gd undef]:=fun c e w N ν=>by rw[bU hsl,e];exact .val _ .nil
     by_cases e:b=want
     ·rw[if_pos (by rw[hw];simp[e])]
      exact kT hT hR hP (fun k σ h a w hk hs=>dL hT hR hP hK rest hs hk) (s.know (hval _ e)) (y3 hv e)
     ·have e':b= !want:=by cases b<;>cases want<;>simp_all
      rw[if_neg (by rw[hw];simp[e])];exact ⟨fun _ _=>trivial,dL hT hR hP hK rest ((s.know (hval _ e')).skip o.dst) (DT hv e')⟩
    ·rename_i b hb
     rw[hb] at hsl;have hw:=dY (ops:=ops) hg hd (jL hsl);cases hbw:(b==want)<;>rw[hbw] at hv hw
     ·rw[if_neg (by rw[hw];simp)]
      exact ⟨fun _ _=>trivial,dL hT hR hP hK rest (s.skip o.dst) hv⟩
     ·rw[if_pos hw]
      exact kT hT hR hP (fun k σ h a w hk hs=>dL hT hR hP hK rest hs hk) s hv
    ·rename_i ys hb
     rw[hb] at hsl;rw[if_neg (by rw[ig hg hd hsl];simp)];exact ⟨fun _ _=>trivial,dL hT hR hP hK rest (s.skip o.dst) hv⟩
    ·exact hv.elim
theorem Is.weak {l':List (Nat×AV)} (hw:fZ σ h l' h') (s:Is N0 W1 νc n PX none σ h a w):Is N0 W1 νc n PX none (Env.of l') h' a w:=by
 obtain ⟨ν,s⟩:=s;obtain ⟨ν1,s1,_⟩:=s.weak hw;exact ⟨ν1,s1⟩
theorem Eb (hT:bi P T=true) (hm:P.follows .mixedOrders=true) {rd:Hv} (hR:Hw P N0 W1 νc n PX PP l rd):
 ∀(c:Code) {k:Lf} {σ:Env} {h:Heap} {a:Act} {w:World} {Qa:Exit→Lf→Env→Heap→Prop} {Q:Exit→Act→World→Prop},
 KK T (am P true) l rd n c k σ h Qa→(∀ch a w,PP ch w→a.defers=[]→Q (.panic ch) a w)→(∀e k σ h a w,Qa e k σ h→Is N0 W1 νc n PX k σ h a w→Q e a w)→Is N0 W1 νc n PX k σ h a w→c.wpIn (G none) 0 P Q a w:=by
 intro c
 induction c with
 |skip=>intro k σ h a w Qa Q hv hP hQ s;exact wpIn_skip (hQ _ _ _ _ _ _ hv s)
 |region id ops draw=>
  intro k σ h a w Qa Q hv hP hQ s
  cases draw with
  |false=>exact wpIn_region_list (dL hT hR hP (fun k σ h a w hk hs=>hQ _ _ _ _ _ _ hk hs) ops.toList s hv)
  |true=>
   cases k with
   |some x=>exact hv.elim
   |none=>
    obtain ⟨ν,s⟩:=s
    replace hv:eX T (am P true) n ops true σ h fun e σ h=>Qa e none σ h:=hv
    exact fK (q:=⟨true,true,[]⟩) hT hm (fun σ h a w ν hk hs=>hQ _ none _ _ _ _ hk ⟨ν,hs⟩) s hv
 |seq x y ihx ihy=>
  intro k σ h a w Qa Q hv hP hQ s;refine wpIn_seq (ihx hv (fun ch a w g1 g2=>hP ch a w g1 g2) ?_ s);intro e k' σ' h' a' w' hk hs
  cases e with
  |normal=>exact ihy hk hP hQ hs
  |_=>exact hQ _ _ _ _ _ _ hk hs
 |cond c x y ihx ihy=>
  intro k σ h a w Qa Q hv hP hQ s
  replace hv:xo c (KK T (am P true) l rd n x) (KK T (am P true) l rd n y) k σ h Qa:=hv
  unfold xo at hv;obtain ⟨wx,Nx,νx,hc⟩:=s.ev c;split at hv
  ·rename_i b e
   rw[e] at hc;refine wpIn_cond (bU hc) ?_
   cases b with
   |true=>exact ihx (hv.1 rfl) hP hQ s
   |false=>exact ihy (hv.2 rfl) hP hQ s
  ·rename_i b e
   rw[e] at hc;refine wpIn_cond (eu hc) ?_
   cases b with
   |true=>exact ihx hv hP hQ s
   |false=>exact ihy hv hP hQ s
  ·exact hv.elim
 |block id c ih=>
  intro k σ h a w Qa Q hv hP hQ s;refine wpIn_block (ih hv (fun ch a w g1 g2=>hP ch a w g1 g2) ?_ s);intro e k' σ' h' a' w' hk hs
  cases e with
  |exit id'=>
   simp only[Exit.inBlock];by_cases e:id'=id
   ·subst e
    rw[if_pos rfl];simp only[CP,ga,cond_true] at hk;exact hQ _ _ _ _ _ _ hk hs
   ·rw[if_neg e]
    simp only[CP,eQ e,cond_false] at hk
    exact hQ _ _ _ _ _ _ hk hs
  |_=>exact hQ _ _ _ _ _ _ hk hs
 |loop c ih=>
  intro k σ h a w Qa Q hv hP hQ s;obtain ⟨rfl,I,⟨m,l1,h1,hI,hw⟩,hr⟩:=hv;refine nz (fun m a w=>∃l1 h1,I m l1 h1∧Is N0 W1 νc n PX none (Env.of l1) h1 a w) ?_ m a w ⟨l1,h1,hI,s.weak hw⟩;intro m a w ⟨l1,h1,hI,s1⟩;refine ih (hr m l1 h1 hI) (fun ch a w g1 g2=>hP ch a w g1 g2) ?_ s1;intro e k' σ' h' a' w' hk hs
  cases e with
  |normal=>
   obtain ⟨rfl,m',l',h'',hI',hlt,hw'⟩:=hk
   exact ⟨m',hlt,l',h'',hI',hs.weak hw'⟩
  |_=>exact hQ _ _ _ _ _ _ hk hs
 |exit id=>intro k σ h a w Qa Q hv hP hQ s;exact wpIn_exit (hQ _ _ _ _ _ _ hv s)
 |ret=>intro k σ h a w Qa Q hv hP hQ s;exact wpIn_ret (hQ _ _ _ _ _ _ hv s)
 |rangeFunc g ps x y ihx ihy=>intro k σ h a w Qa Q hv;exact hv.elim
 |scope c ih=>
  intro k σ h a w Qa Q hv hP hQ s;refine iR (ih hv (fun ch a w g1 g2=>hP ch a w g1 g2) ?_ s);intro e k' σ' h' a' w' hk hs
  cases e with
  |goto l=>exact hk.elim
  |_=>exact hQ _ _ _ _ _ _ hk hs
 |label l=>intro k σ h a w Qa Q hv hP hQ s;exact wpIn_label (hQ _ _ _ _ _ _ hv s)
 |goto l=>intro k σ h a w Qa Q hv;exact hv.elim
 |refuse why=>intro k σ h a w Qa Q hv;exact hv.elim
end
end Go.Vc
end
section
namespace Go.Vc
section
variable {P:Program} {ro:Option Nat} {q:Md} {T:List (Nat×TI)} {N0 Nf:Nat→Prop} {w0 w w' W W' W1 W2:World} {n:Nat} {σ σ':Env} {h h':Heap} {a:Act} {ν ν' ν0 ν1 ν2:Nat→Value}
structure Cf (N0:Nat→Prop) (l:Nat) (w:World) (ν:Nat→Value) (D:Nat) (W:World) (ν3:Nat→Value) (hx:Heap):Prop where
 hp:Hp N0 W ν3 hx
 rel:Rel l w ν W ν3
 mark:W.heap[D]? =some (.deferred (some []))
 own:∀i,¬Ow (ν3 i) D∧¬Ow (ν3 i) l
theorem Cf.st (s:St q N0 w0 Nf n ν0 σ h a w ν) (hq:q.nd=false) {l D:Nat} {W:World} {ν3:Nat→Value} {hx:Heap} (c:Cf N0 l w ν D W ν3 hx) (hl:w.heap.size≤l) (hD:w.heap.size≤D) (hlo:Qac h.lo hx.nx=true):
 St q N0 w0 Nf n ν0 (Env.ren (.tsub []) σ) ⟨hx.objs,hx.nx,h.lo⟩ {a with defers:={target:= .collected D,args:= #[]}::a.defers} W ν3:=by
 obtain ⟨_,Ds,hds,hnd,hDs⟩:=s.defers;have hlt:∀D'∈Ds,D'<w.heap.size:=fun D' g=>(Array.getElem?_eq_some_iff.1 (hDs D' g).2.1).1
 have hdf:Dfr q w0 W ν3 ({target:= .collected D,args:= #[]}::a.defers):=by
  refine ⟨fun e=>(by rw[hq] at e;cases e),D::Ds,by simp only[hds,List.map_cons,List.cons_append,Aq],List.nodup_cons.2 ⟨fun g=>by have:=hlt D g;omega,hnd⟩,fun D' hd=>?_⟩;rcases List.mem_cons.1 hd with e|hd
  ·subst e
   exact ⟨by have:=s.kp.size;omega,c.mark,fun i=>(c.own i).1⟩
  ·obtain ⟨g1,g2,g3⟩:=hDs D' hd
   have:=hlt D' hd;refine ⟨g1,(c.rel.blk D' this (fun ⟨i,g⟩=>g3 i g) (by omega)).trans g2,fun i g=>?_⟩;rcases c.rel.fresh i D' g with g|⟨j,g⟩
   ·omega
   ·exact g3 j g
 have hkp:Kp Nf w0 W:=by
  refine s.kp.trans (Ng:=jC ν) ⟨c.rel.os,c.rel.tape,c.rel.output,c.rel.size,fun b hb hN=>c.rel.blk b hb hN (by omega)⟩ (fun b hb ⟨i,g⟩=>?_);rcases s.fresh i b g with g|g
  ·omega
  ·exact g
 refine ⟨fun k=>c.rel.slot (fun g=>by omega) (s.slots k),c.hp.lo _,hkp,fun i b g=>?_,s.size,hdf,⟨fun i g1 g2=>?_,fun hf i g=>?_⟩,⟨Qaj hlo,s.low.2⟩⟩
 ·rcases c.rel.fresh i b g with g|⟨j,g⟩
  ·have:=s.kp.size;left;omega
  ·exact s.fresh j b g
 ·have h0:=s.keep.1 i g1 g2
  have hne:ν i≠undef:=by rw[h0];exact g1
  rw[(c.rel.keep i hne).1 (fun A m k e=>g2 A m k (by rw[←h0];exact e)),h0]
 ·have h0:=s.keep.2 hf i g
  have hne:ν i≠undef:=by
   by_cases hs:∃A m k,ac (ν0 i)= .slice A m k
   ·obtain ⟨A,m,k,e⟩:=hs
    exact dc (h0.trans e)
   ·rw[s.keep.1 i g (fun A m k e=>hs ⟨A,m,k,e⟩)];exact g
  rw[(c.rel.keep i hne).2,h0]
theorem Cf.put {l D:Nat} {ν3:Nat→Value} {hx:Heap} (c:Cf N0 l w ν D W ν3 hx) (hlD:l≠D) {o:Obj} (ho:W.heap[l]? =some o) (hc:o.isCells=false) (o':Obj):Cf N0 l w ν D (W.putObj l o') ν3 hx:=
 ⟨c.hp.put ho hc (fun i=>(c.own i).2) o',c.rel.trans (Rel.put o'),(World.putObj_heap_other (fun e=>hlD e.symm)).trans c.mark,c.own⟩
def Hu (CD:FuncId→Nat→Code→Prop) (P:Program) (T:List (Nat×TI)) (fx:Bool) (n:Nat) (x:Code) (rd:Bool):Prop:=
 ∀{N0:Nat→Prop} {w0:World} {Nf:Nat→Prop} {ν0:Nat→Value} {q:Md} {ro:Option Nat} {E:EP} {σ:Env} {h:Heap} {a:Act} {w:World} {ν:Nat→Value} {Qa:Exit→Env→Heap→Prop} {Q:Exit→Act→World→Prop},
  (rd=false→q.nd=false∧ro=none∧q.fx=fx)→(rd=true→q.fx=true)→HA CD T (am P fx) n x rd E σ h Qa→(∀e σ h a w ν,Qa e σ h→St q N0 w0 Nf n ν0 σ h a w ν→Q e a w)→
  (∀r σ h a w ν v,E r σ h→St q N0 w0 Nf n ν0 σ h a w ν→Rv w (nN N0 ν) ν [r] [v]→Q (.panic [{v:=v,recovered:=false}]) a w)→St q N0 w0 Nf n ν0 σ h a w ν→w9 ro P x Q a w
variable {CD:FuncId→Nat→Code→Prop} {fx:Bool} {x y:Code} {l D:Nat} {ps:Array Nat} {E:EP}
theorem F2 (ihx:Hu CD P T fx n x true) (ihy:Hu CD P T fx n y true) (s:St q N0 w0 Nf n ν0 σ h a w ν) {fn:FuncId} (hfn:∃f,P.funcs[fn]? =some f) {rec:LoopState→Option Code→Loop}
 (hrec:rec=fun st pe=>{state:=st,pending:=pe,fn:=fn,tmps:=a.tmps,params:=ps,assign:=x,body:=y,defers:=w.heap.size})
 (hW1:(w.alloc (.deferred (some []))).alloc (.loop (rec .ready none))=W1) {n':Nat}:
 Hw P N0 W1 ν n' (fun e hx W=>∃ν3 c,Cf N0 (w.heap.size+1) w ν w.heap.size W ν3 hx∧W.heap[w.heap.size+1]? =some (.loop (rec .done (some c)))∧((c= .ret∧e= .ret)∨∃id,c= .exit id∧e= .exit id))
  (fun ch W=>∃r v ν3 hx,ch=[{v:=v,recovered:=false}]∧Qac h.lo hx.nx=true∧E r (Env.ren (.tsub []) σ) ⟨hx.objs,hx.nx,h.lo⟩∧Cf N0 (w.heap.size+1) w ν w.heap.size W ν3 hx∧Rv W (nN N0 ν3) ν3 [r] [v])
  (w.heap.size+1) (J0 n ps (HA CD T (am P fx) n x true fun _ _ _=>False) (HA CD T (am P fx) n y true (Gb E σ h.lo)) (Env.ren (.tsub []) σ)):=by
 rintro σi hi ai W νi args vs K si hvs ⟨hlen,hv⟩;generalize hl:w.heap.size+1=l;have hsz1:W1.heap.size=l+1:=by rw[←hW1];simp[←hl]
 have hrL1:W1.heap[l]? =some (.loop (rec .ready none)):=by
  rw[←hW1,←hl];have:=World.alloc_heap_new (w.alloc (.deferred (some []))) (.loop (rec .ready none));rwa [World.size_alloc] at this
 have hrD1:W1.heap[w.heap.size]? =some (.deferred (some [])):=by
  rw[←hW1]
  have e:((w.alloc (.deferred (some []))).alloc (.loop (rec .ready none))).heap[w.heap.size]? =(w.alloc (.deferred (some []))).heap[w.heap.size]? :=by
   show ((w.heap.push _).push _)[w.heap.size]? =(w.heap.push _)[w.heap.size]?;rw[Qad,if_neg (by simp)]
  rw[e];exact World.alloc_heap_new w _
 have r01:Rel l w ν W1 ν:=by rw[←hW1];exact (Rel.alloc _).trans (Rel.alloc _)
 have hown0:∀i b,Ow (ν i) b→b<w.heap.size:=fun i b g=>s.hp.bnd i b g;have hnl:¬jC ν l:=fun ⟨i,g⟩=>by have:=hown0 i l g;omega
 have hnD:¬jC ν w.heap.size:=fun ⟨i,g⟩=>by have:=hown0 i _ g;omega
 have hnli:∀i,¬Ow (νi i) l:=fun i g=>by
  rcases si.fresh i l g with g|g
  ·omega
  ·exact hnl g
 have hnDi:∀i,¬Ow (νi i) w.heap.size:=fun i g=>by
  rcases si.fresh i _ g with g|g
  ·omega
  ·exact hnD g
 have r1:Rel l W1 ν W νi:=pv rfl si;have hszW:=si.kp.size;have hL:W.heap[l]? =some (.loop (rec .ready none)):=(si.kp.blk l (by omega) hnl).trans hrL1;have hD:W.heap[w.heap.size]? =some (.deferred (some [])):=(si.kp.blk _ (by omega) hnD).trans hrD1;have hlen':=Qab hlen;have hvl:=hvs.length;have hy:=run_yield (P:=P) (args:=vs.toArray) hL (by rw[hrec];simp only[List.size_toArray];rw[hvl];exact hlen');rw[hrec] at hy;refine ⟨fn,_,x,y,hy,sZ hfn ?_⟩;clear hy
 have hz:(ps.zip vs.toArray).foldl (fun t (p:Nat×Value)=>t.setIfInBounds p.1 p.2) a.tmps=(ps.toList.zip vs).foldl (fun t (p:Nat×Value)=>t.setIfInBounds p.1 p.2) a.tmps:=by
  rw[←Array.foldl_toList,Array.toList_zip]
 obtain ⟨p1,p2⟩:=m5 (n:=n) (ps:=ps.toList) (fun k=>(r01.trans r1).slot (fun g=>by omega) (s.slots k)) s.size hvs (by rw[Array.length_toList];exact hlen');have sA:=y4 (a:={tmps:=(ps.zip vs.toArray).foldl (fun t (p:Nat×Value)=>t.setIfInBounds p.1 p.2) a.tmps,defers:=[]}) (by simp only[hz];exact p1) si.hp (by simp only[hz];exact p2) rfl;refine ihx (q:=⟨true,true,[]⟩) (E:=fun _ _ _=>False) (fun e=>by cases e) (fun _=>rfl) hv ?_ (fun _ _ _ _ _ _ _ h=>h.elim) sA;intro e σ' h' a' w1 ν1 hk s'
 cases e with
 |exit id=>exact hk.elim
 |goto t=>exact hk.elim
 |ret=>exact hk.elim
 |panic ch=>exact hk.elim
 |outgrown=>exact hk.elim
 |normal=>
  replace hk:HA CD T (am P fx) n y true (Gb E σ h.lo) σ' ⟨h'.objs,h'.nx,h'.nx⟩ (IN hi.lo K):=hk
  have r2:Rel l W νi w1 ν1:=pv rfl s'
  have hnl1:∀i,¬Ow (ν1 i) l:=fun i g=>by
   rcases s'.fresh i l g with g|⟨j,g⟩
   ·omega
   ·exact hnli j g
  have hnD1:∀i,¬Ow (ν1 i) w.heap.size:=fun i g=>by
   rcases s'.fresh i _ g with g|⟨j,g⟩
   ·omega
   ·exact hnDi j g
  have hL1:w1.heap[l]? =some (.loop (rec .ready none)):=(s'.kp.blk l (by omega) (fun ⟨i,g⟩=>hnli i g)).trans hL;have hsz2:=s'.kp.size;have hD1:w1.heap[w.heap.size]? =some (.deferred (some [])):=(s'.kp.blk _ (by omega) (fun ⟨i,g⟩=>hnDi i g)).trans hD;refine ⟨_,run_beginRound hL1 (by rw[hrec]),?_⟩;obtain ⟨bz,hbz⟩:∃bz:Obj,Obj.loop {rec .ready none with state:= .busy}=bz:=⟨_,rfl⟩;rw[hbz];have hd':a'.defers=[]:=s'.defers.1 rfl;have sB:=y4 (a:=a') (W:=w1.putObj l bz) (fun k=>(s'.slots k).put hL1 rfl bz) (s'.hp.put hL1 rfl hnl1 bz) s'.size hd';have r3:Rel l w1 ν1 (w1.putObj l bz) ν1:=Rel.put bz;have hszB:(w1.putObj l bz).heap.size=w1.heap.size:=by simp
  have hLB:(w1.putObj l bz).heap[l]? =some bz:=World.putObj_heap_same (by omega);have hDB:(w1.putObj l bz).heap[w.heap.size]? =some (.deferred (some [])):=(World.putObj_heap_other (by omega)).trans hD1
  have post:∀{σ2:Env} {h2:Heap} {a2:Act} {w3:World} {ν3:Nat→Value},St ⟨true,true,[]⟩ N0 (w1.putObj l bz) (jC ν1) n ν1 σ2 h2 a2 w3 ν3→
   Rel l (w1.putObj l bz) ν1 w3 ν3∧w3.heap[l]? =some bz∧w3.heap[w.heap.size]? =some (.deferred (some []))∧∀i,¬Ow (ν3 i) w.heap.size∧¬Ow (ν3 i) l:=fun {σ2 h2 a2 w3 ν3} s3=>by
   refine ⟨pv rfl s3,(s3.kp.blk l (by omega) (fun ⟨i,g⟩=>hnl1 i g)).trans hLB,(s3.kp.blk _ (by omega) (fun ⟨i,g⟩=>hnD1 i g)).trans hDB,fun i=>⟨fun g=>?_,fun g=>?_⟩⟩
   ·rcases s3.fresh i _ g with g|⟨j,g⟩
    ·omega
    ·exact hnD1 j g
   ·rcases s3.fresh i _ g with g|⟨j,g⟩
    ·omega
    ·exact hnl1 j g
  refine ihy (q:=⟨true,true,[]⟩) (E:=Gb E σ h.lo) (fun e=>by cases e) (fun _=>rfl) hk ?_ ?_ sB
  ·intro e σ2 h2 a2 w3 ν3 hk s3
   obtain ⟨r4,hL3,hD3,hn3⟩:=post s3
   have hr3:∀jump:Option Code,(Instr.endRound l jump).run P w3= .ok (.bool jump.isNone) (w3.putObj l (.loop (rec (if jump.isNone then .ready else .done) jump))):=fun jump=>by
    rw[←hbz] at hL3;have:=run_endRound (P:=P) jump hL3;rw[hrec] at this ⊢;exact this
   have cf:∀o':Obj,Cf N0 l w ν w.heap.size (w3.putObj l o') ν3 h2:=fun o'=>
    ⟨s3.hp.put hL3 (by rw[←hbz];rfl) (fun i=>(hn3 i).2) o',((((r01.trans r1).trans r2).trans r3).trans r4).trans (Rel.put o'),(World.putObj_heap_other (by omega)).trans hD3,hn3⟩
   have hlt3:l<w3.heap.size:=(Array.getElem?_eq_some_iff.1 hL3).1
   cases e with
   |normal=>
    obtain ⟨hb,hk⟩:=hk;refine ⟨_,_,hr3 none,.inl ⟨rfl,⟨h2.objs,h2.nx,hi.lo⟩,ν3,hk,?_⟩⟩;obtain ⟨w4,hw4⟩:∃w4,w3.putObj l (.loop (rec (if (none:Option Code).isNone then .ready else .done) none))=w4:=⟨_,rfl⟩;rw[hw4];have hL4:w4.heap[l]? =some (.loop (rec .ready none)):=by rw[←hw4];exact World.putObj_heap_same hlt3
    have r5:Rel l W νi w4 ν3:=by rw[←hw4];exact ((r2.trans r3).trans r4).trans (Rel.put _)
    have hsame:l<W.heap.size→w4.heap[l]? =W.heap[l]? :=fun _=>hL4.trans hL.symm;have rr:=r1.trans r5;have hd:=si.defers.1 rfl;refine ⟨fun k=>r5.slot hsame (si.slots k),?_,⟨rr.os,rr.tape,rr.output,rr.size,fun b hb hN=>?_⟩,fun i b g=>rr.fresh i b g,si.size,?_,⟨fun i g1 g2=>(rr.keep i g1).1 g2,fun _ i g=>(rr.keep i g).2⟩,⟨Qaj hb,si.low.2⟩⟩
    ·have:=(cf (.loop (rec (if (none:Option Code).isNone then .ready else .done) none))).hp.lo hi.lo
     rw[hw4] at this;exact this
    ·by_cases e:b=l
     ·subst e;exact hL4.trans hrL1.symm
     ·exact rr.blk b hb hN e
    ·rw[hd];exact Dfr.nil _ _ _ _
   |ret=>
    obtain ⟨hb,hk⟩:=hk;refine ⟨_,_,hr3 (some .ret),.inr ⟨rfl,_,hk,ν3,.ret,?_,World.putObj_heap_same hlt3,.inl ⟨rfl,rfl⟩⟩⟩;have c:=cf (.loop (rec (if (some Code.ret).isNone then .ready else .done) (some .ret)))
    exact ⟨c.hp.lo _,c.rel,c.mark,c.own⟩
   |exit id=>
    obtain ⟨hb,hk⟩:=hk;refine ⟨_,_,hr3 (some (.exit id)),.inr ⟨rfl,_,hk,ν3,.exit id,?_,World.putObj_heap_same hlt3,.inr ⟨id,rfl,rfl⟩⟩⟩;have c:=cf (.loop (rec (if (some (Code.exit id)).isNone then .ready else .done) (some (.exit id))))
    exact ⟨c.hp.lo _,c.rel,c.mark,c.own⟩
   |goto t=>exact hk.elim
   |panic ch=>exact hk.elim
   |outgrown=>exact hk.elim
  ·intro r σ2 h2 a2 w3 ν3 v ⟨hb,hE⟩ s3 hr
   obtain ⟨r4,hL3,hD3,hn3⟩:=post s3;refine ⟨s3.defers.1 rfl,r,v,ν3,h2,rfl,hb,hE,⟨s3.hp,(((r01.trans r1).trans r2).trans r3).trans r4,hD3,hn3⟩,hr⟩
theorem E7 (hT:bi P T=true) (hm:P.follows .mixedOrders=true) (ihx:Hu CD P T fx n x true) (ihy:Hu CD P T fx n y true) (hCD:∀f n c,CD f n c→CZ P f n c) {g:Operand} {Qa:Exit→Env→Heap→Prop} {Q:Exit→Act→World→Prop} (hq:q.nd=false)
 (hv:FF CD T (am P fx) n g ps (HA CD T (am P fx) n x true fun _ _ _=>False) (HA CD T (am P fx) n y true (Gb E σ h.lo)) σ h Qa) (hQ:∀e σ h a w ν,Qa e σ h→St q N0 w0 Nf n ν0 σ h a w ν→Q e a w)
 (hE:∀r σ h a w ν v,E r σ h→St q N0 w0 Nf n ν0 σ h a w ν→Rv w (nN N0 ν) ν [r] [v]→Q (.panic [{v:=v,recovered:=false}]) a w) (s:St q N0 w0 Nf n ν0 σ h a w ν):w9 none P (.rangeFunc g ps x y) Q a w:=by
 unfold FF at hv;split at hv
 case h_2=>exact hv.elim
 rename_i f caps e;obtain ⟨n',c',hcd,hble,hv⟩:=hv;obtain ⟨fnc,hf,hname,hn',hbody,hres⟩:=hCD _ _ _ hcd;have hent:uI P f:=⟨fnc,hf,hname,by rw[hbody];rfl⟩;have hg:=aD s g;rw[e] at hg
 obtain ⟨lb,hev,hlb⟩:∃lb:List Value,a.eval g= .func (.func f) #[] lb.toArray∧Rv w (nN N0 ν) ν caps lb:=by
  generalize a.eval g=u at hg
  cases hg with
  |fn f xs h1 h2=>exact ⟨xs,rfl,h1⟩
 refine DZ ?_;intro fn hfn;obtain ⟨rec,hrec⟩:∃rec:LoopState→Option Code→Loop,rec=fun st pe=>{state:=st,pending:=pe,fn,tmps:=a.tmps,params:=ps,assign:=x,body:=y,defers:=w.heap.size}:=⟨_,rfl⟩;obtain ⟨W1,hW1⟩:∃W1,(w.alloc (.deferred (some []))).alloc (.loop (rec .ready none))=W1:=⟨_,rfl⟩;have r01:Rel (w.heap.size+1) w ν W1 ν:=by rw[←hW1];exact (Rel.alloc _).trans (Rel.alloc _)
 have hsz1:W1.heap.size=w.heap.size+2:=by rw[←hW1];simp
 have hown0:∀i b,Ow (ν i) b→b<w.heap.size:=fun i b g=>s.hp.bnd i b g;have m01:Mv w (nN N0 ν) W1 (nN N0 ν):=r01.mv (fun g=>by omega)
 have hp1:Hp N0 W1 ν h:=by
  have same:∀b,b<w.heap.size→W1.heap[b]? =w.heap[b]? :=fun b hb=>by
   rw[←hW1];show ((w.heap.push _).push _)[b]? =w.heap[b]?;rw[Qad,if_neg (by simp;omega),Qad,if_neg (by omega)]
  exact ⟨fun id o hl=>Ro.keep m01 (fun _ _=>rfl) (fun b g=>same b (hown0 id b g)) (s.hp.objs id o hl),s.hp.inj,fun i b g=>by have:=hown0 i b g;omega,s.hp.dom,fun b g=>by have:=s.hp.n0 b g;omega,s.hp.dis,s.hp.lw.mv (fun b _ hlt=>same b hlt)⟩
 refine ⟨w.heap.size+1,[{target:= .collected w.heap.size,args:= #[]}],W1,{target:= .fn (.func f) lb.toArray,args:= #[.func (.yield (w.heap.size+1)) #[] #[]]},f,#[.func (.yield (w.heap.size+1)) #[] #[]]++lb.toArray,?_,?_,?_,?_⟩
 ·rw[←hW1,hrec];exact run_enterLoop_outer _ _ _ _ _
 ·simp only[resolve,hev]
  simp[go_sem]
 ·simp[invoke,go_sem,fP hent]
 have hres':∀tmps w',∃v,(results fnc tmps).run P w'= .ok v w':=fun tmps w'=>⟨_,results_none hres _ _ _⟩;have earr: #[Value.func (.yield (w.heap.size+1)) #[] #[]]++lb.toArray=(Value.func (.yield (w.heap.size+1)) #[] #[]::lb).toArray:=by apply Array.ext';simp
 rw[earr];have hall:Rv W1 (nN N0 ν) ν (.val (.func (.yield (w.heap.size+1)) #[] #[])::caps) (.func (.yield (w.heap.size+1)) #[] #[]::lb):= .val _ (hlb.mv m01 (fun _ _=>rfl));have hble:=Qaj hble;have hll:=hall.length;have hR:Hw P N0 W1 ν n' _ _ _ _:=F2 (E:=E) ihx ihy s hfn (ps:=ps) hrec hW1
 have hrL1:W1.heap[w.heap.size+1]? =some (.loop (rec .ready none)):=by
  rw[←hW1];have:=World.alloc_heap_new (w.alloc (.deferred (some []))) (.loop (rec .ready none));rwa [World.size_alloc] at this
 have hrD1:W1.heap[w.heap.size]? =some (.deferred (some [])):=by
  rw[←hW1]
  have e:((w.alloc (.deferred (some []))).alloc (.loop (rec .ready none))).heap[w.heap.size]? =(w.alloc (.deferred (some []))).heap[w.heap.size]? :=by
   show ((w.heap.push _).push _)[w.heap.size]? =(w.heap.push _)[w.heap.size]?;rw[Qad,if_neg (by simp)]
  rw[e];exact World.alloc_heap_new w _
 have hnl:¬jC ν (w.heap.size+1):=fun ⟨i,g⟩=>by have:=hown0 i _ g;omega
 have hnD:¬jC ν w.heap.size:=fun ⟨i,g⟩=>by have:=hown0 i _ g;omega
 refine callsIn_of_wp (F:=G none) hf hbody trivial ?_;obtain ⟨as,has⟩:∃as,(AV.val (.func (.yield (w.heap.size+1)) #[] #[])::caps)=as:=⟨_,rfl⟩;obtain ⟨us,hus⟩:∃us,(Value.func (.yield (w.heap.size+1)) #[] #[]::lb)=us:=⟨_,rfl⟩;have hvl:=hv (w.heap.size+1);have hlen:us.length=caps.length+1:=by rw[←hus];simp[hlb.length]
 rw[has] at hvl hall;rw[hus] at hall ⊢;have s1:=y4 (n:=n') (σ:=Env.args as) (a:={tmps:=us.toArray++Array.replicate (fnc.ntmps - us.toArray.size) undef,defers:=[]}) (fun k=>CU hall) hp1 (by simp;omega) rfl;refine Eb hT hm hR c' hvl ?_ ?_ (show Is N0 W1 ν n' _ none _ _ _ _ from ⟨ν,s1⟩)
 ·rintro ch a' w' ⟨r,v,ν3,hx,rfl,hb,hEr,cf,hr⟩ hd
  exact ⟨hd,hE _ _ _ _ _ _ _ hEr (cf.st s hq (Qak _) (Qag _) hb) hr⟩
 ·intro e k σ' h' a' W hk hs
  have fin:Kz h.lo (Env.ren (.tsub []) σ) Qa e k σ' h'→((e= .normal∨e= .ret)→a'.defers=[]∧∃v,(results fnc a'.tmps).run P W= .ok v W∧∃jump w4,(Instr.endLoop (w.heap.size+1)).run P W= .ok jump w4∧(match jump with
   |none=>Q .normal {a with defers:={target:= .collected w.heap.size,args:= #[]}::a.defers} w4
   |some .ret=>Q .ret {a with defers:={target:= .collected w.heap.size,args:= #[]}::a.defers} w4
   |some (.exit id)=>Q (.exit id) {a with defers:={target:= .collected w.heap.size,args:= #[]}::a.defers} w4
   |_=>False)):=by
   intro hk he
   cases k with
   |none=>
    obtain ⟨ν2,s2⟩:=hs;have r1:Rel (w.heap.size+1) W1 ν W ν2:=pv rfl s2;have hL:W.heap[w.heap.size+1]? =some (.loop (rec .ready none)):=(s2.kp.blk _ (by omega) hnl).trans hrL1;have hD:W.heap[w.heap.size]? =some (.deferred (some [])):=(s2.kp.blk _ (by omega) hnD).trans hrD1
    have cf:Cf N0 (w.heap.size+1) w ν w.heap.size W ν2 h':=⟨s2.hp,r01.trans r1,hD,fun i=>⟨fun g=>by
     rcases s2.fresh i _ g with g|g
     ·omega
     ·exact hnD g,fun g=>by
     rcases s2.fresh i _ g with g|g
     ·omega
     ·exact hnl g⟩⟩
    have hrun:=run_endLoop (P:=P) hL (by rw[hrec];simp)
    have hk':Qac h.lo h'.nx=true∧Qa .normal (Env.ren (.tsub []) σ) ⟨h'.objs,h'.nx,h.lo⟩:=by
     rcases he with rfl|rfl<;>exact hk
    obtain ⟨v,hv⟩:=hres' a'.tmps W;refine ⟨s2.defers.1 rfl,v,hv,_,_,hrun,?_⟩;rw[hrec]
    exact hQ _ _ _ _ _ _ hk'.2 ((cf.put (by omega) hL rfl _).st s hq (Qak _) (Qag _) hk'.1)
   |some p=>
    obtain ⟨ex,hx⟩:=p;obtain ⟨hz,ν3,c,cf,hL,hc⟩:=hs;have hrun:=run_endLoop (P:=P) hL (by rw[hrec];simp);obtain ⟨Z,hZ⟩:∃Z:Obj,Obj.loop {rec .done (some c) with state:= .exhausted}=Z:=⟨_,rfl⟩;rw[hZ,show (rec .done (some c)).pending=some c from by rw[hrec]] at hrun
    have hk':Qac h.lo hx.nx=true∧Qa ex (Env.ren (.tsub []) σ) ⟨hx.objs,hx.nx,h.lo⟩:=by
     rcases he with rfl|rfl<;>exact hk
    obtain ⟨v,hv⟩:=hres' a'.tmps W;refine ⟨hz.2.2,v,hv,_,_,hrun,?_⟩;have st:=(cf.put (by omega) hL rfl Z).st s hq (Qak _) (Qag _) hk'.1;rcases hc with ⟨rfl,he'⟩|⟨id,rfl,he'⟩
    ·have he':ex= .ret:=he'
     subst he';exact hQ _ _ _ _ _ _ hk'.2 st
    ·have he':ex= .exit id:=he'
     subst he';exact hQ _ _ _ _ _ _ hk'.2 st
  cases e with
  |normal=>exact fin hk (.inl rfl)
  |ret=>exact fin hk (.inr rfl)
  |exit id=>cases k<;>exact hk.elim
  |goto t=>cases k<;>exact hk.elim
  |panic ch=>cases k<;>exact hk.elim
  |outgrown=>cases k<;>exact hk.elim
theorem D6 (hT:bi P T=true) (hm:P.follows .mixedOrders=true) (hCD:∀f n c,CD f n c→CZ P f n c):∀(c:Code) (rd:Bool),Hu CD P T fx n c rd:=by
 intro c
 induction c with
 |skip=>intro rd N0 w0 Nf ν0 q ro E σ h a w ν Qa Q hr1 hr2 hv hQ hE s;exact pz (wpIn_skip (hQ _ _ _ _ _ _ hv s))
 |region id ops draw=>
  intro rd N0 w0 Nf ν0 q ro E σ h a w ν Qa Q hr1 hr2 hv hQ hE s
  have hS:Sx rd (am P fx)=am P q.fx:=by
   cases rd with
   |true=>rw[hr2 rfl];rfl
   |false=>rw[(hr1 rfl).2.2];rfl
  replace hv:Rg (eX T (Sx rd (am P fx)) n ops draw σ h Qa) (match (generalizing:=false) draw with|false=>FE T (Sx rd (am P fx)) n ops σ h E|true=>False):=hv
  rw[hS] at hv;refine pz ?_
  cases hv with
  |go hv=>
   cases draw with
   |false=>exact wpIn_region_list (kS (ops:=ops) hT (fun σ h a w ν hk hs=>hQ _ _ _ _ _ _ hk hs) ops.toList s hv)
   |true=>exact fK hT hm (fun σ h a w ν hk hs=>hQ _ _ _ _ _ _ hk hs) s hv
  |pan hv=>
   cases draw with
   |true=>exact hv.elim
   |false=>
    obtain ⟨k,hv⟩:=hv;split at hv
    ·rename_i o t ht
     obtain ⟨hg,hv⟩:=hv;simp only[Option.isNone_iff_eq_none] at hg;refine wpIn_region_list ?_;rw[←List.take_append_drop k ops.toList,ht];refine c8 (ops:=ops) hT (fun σ1 h1 a1 w1 ν1 hk s1=>?_) (ops.toList.take k) s hv;unfold wpListIn;rw[if_pos (by simp[Region.wanted,hg])];exact xh hT s1 hk hE
    ·exact hv.elim
 |seq x y ihx ihy=>
  intro rd N0 w0 Nf ν0 q ro E σ h a w ν Qa Q hr1 hr2 hv hQ hE s;refine HE (ihx rd hr1 hr2 hv ?_ (fun r σ h a w ν v e1 e2 e3=>hE r σ h a w ν v e1 e2 e3) s);intro e σ' h' a' w' ν' hk hs
  cases e with
  |normal=>exact Stp.sound (K:=fun σ h=>HA CD T (am P fx) n y rd E σ h Qa) hk hs (fun σ h ν hk hs=>ihy rd hr1 hr2 hk hQ hE hs)
  |exit id=>exact hQ _ _ _ _ _ _ hk hs
  |goto l=>exact hQ _ _ _ _ _ _ hk hs
  |ret=>exact hQ _ _ _ _ _ _ hk hs
  |panic ch=>exact hQ _ _ _ _ _ _ hk hs
  |outgrown=>exact hQ _ _ _ _ _ _ hk hs
 |cond c x y ihx ihy=>
  intro rd N0 w0 Nf ν0 q ro E σ h a w ν Qa Q hr1 hr2 hv hQ hE s
  replace hv:jW c (HA CD T (am P fx) n x rd E) (HA CD T (am P fx) n y rd E) σ h Qa:=hv
  unfold jW at hv;split at hv
  ·rename_i b e
   have hc:=aD s c;rw[e] at hc;refine za (bU hc) ?_
   cases b with
   |true=>exact ihx rd hr1 hr2 (hv.1 rfl) hQ hE s
   |false=>exact ihy rd hr1 hr2 (hv.2 rfl) hQ hE s
  ·rename_i b e
   have hc:=aD s c;rw[e] at hc;refine za (eu hc) ?_
   cases b with
   |true=>exact ihx rd hr1 hr2 hv hQ hE s
   |false=>exact ihy rd hr1 hr2 hv hQ hE s
  ·exact hv.elim
 |block id c ih=>
  intro rd N0 w0 Nf ν0 q ro E σ h a w ν Qa Q hr1 hr2 hv hQ hE s;refine D2 (ih rd hr1 hr2 hv ?_ (fun r σ h a w ν v e1 e2 e3=>hE r σ h a w ν v e1 e2 e3) s);intro e σ' h' a' w' ν' hk hs
  cases e with
  |exit id'=>
   simp only[Exit.inBlock];by_cases e:id'=id
   ·subst e
    rw[if_pos rfl];simp only[kw,ga,cond_true] at hk;exact hQ _ _ _ _ _ _ hk hs
   ·rw[if_neg e]
    simp only[kw,eQ e,cond_false] at hk
    exact hQ _ _ _ _ _ _ hk hs
  |normal=>exact hQ _ _ _ _ _ _ hk hs
  |goto l=>exact hQ _ _ _ _ _ _ hk hs
  |ret=>exact hQ _ _ _ _ _ _ hk hs
  |panic ch=>exact hQ _ _ _ _ _ _ hk hs
  |outgrown=>exact hQ _ _ _ _ _ _ hk hs
 |loop c ih=>
  intro rd N0 w0 Nf ν0 q ro E σ h a w ν Qa Q hr1 hr2 hv hQ hE s;obtain ⟨I,⟨k,l,h1,hI,hw⟩,hr⟩:=hv;obtain ⟨ν1,s1,_⟩:=s.weak hw;refine D0 (fun k a w=>∃l h1 ν1,I k l h1∧St q N0 w0 Nf n ν0 (Env.of l) h1 a w ν1) ?_ k a w ⟨l,h1,ν1,hI,s1⟩;intro k a w ⟨l,h1,ν1,hI,s1⟩;refine ih rd hr1 hr2 (hr k l h1 hI) ?_ (fun r σ h a w ν v e1 e2 e3=>hE r σ h a w ν v e1 e2 e3) s1;intro e σ' h' a' w' ν' hk hs
  cases e with
  |normal=>
   obtain ⟨k',l',h'',hI',hlt,hw'⟩:=hk;obtain ⟨ν'',s'',_⟩:=hs.weak hw'
   exact ⟨k',hlt,l',h'',ν'',hI',s''⟩
  |exit id=>exact hQ _ _ _ _ _ _ hk hs
  |goto l=>exact hQ _ _ _ _ _ _ hk hs
  |ret=>exact hQ _ _ _ _ _ _ hk hs
  |panic ch=>exact hQ _ _ _ _ _ _ hk hs
  |outgrown=>exact hQ _ _ _ _ _ _ hk hs
 |exit id=>intro rd N0 w0 Nf ν0 q ro E σ h a w ν Qa Q hr1 hr2 hv hQ hE s;exact pz (wpIn_exit (hQ _ _ _ _ _ _ hv s))
 |ret=>intro rd N0 w0 Nf ν0 q ro E σ h a w ν Qa Q hr1 hr2 hv hQ hE s;exact pz (wpIn_ret (hQ _ _ _ _ _ _ hv s))
 |rangeFunc g ps x y ihx ihy=>
  intro rd N0 w0 Nf ν0 q ro E σ h a w ν Qa Q hr1 hr2 hv hQ hE s
  cases rd with
  |true=>exact hv.elim
  |false=>
   obtain ⟨hq,rfl,hfx⟩:=hr1 rfl
   exact E7 hT hm (ihx true) (ihy true) hCD hq hv hQ hE s
 |scope c ih=>
  intro rd N0 w0 Nf ν0 q ro E σ h a w ν Qa Q hr1 hr2 hv hQ hE s;refine Bw (ih rd hr1 hr2 hv ?_ (fun r σ h a w ν v e1 e2 e3=>hE r σ h a w ν v e1 e2 e3) s);intro e σ' h' a' w' ν' hk hs
  cases e with
  |goto l=>exact hk.elim
  |normal=>exact hQ _ _ _ _ _ _ hk hs
  |exit id=>exact hQ _ _ _ _ _ _ hk hs
  |ret=>exact hQ _ _ _ _ _ _ hk hs
  |panic ch=>exact hQ _ _ _ _ _ _ hk hs
  |outgrown=>exact hQ _ _ _ _ _ _ hk hs
 |label l=>intro rd N0 w0 Nf ν0 q ro E σ h a w ν Qa Q hr1 hr2 hv hQ hE s;exact pz (wpIn_label (hQ _ _ _ _ _ _ hv s))
 |goto l=>intro rd N0 w0 Nf ν0 q ro E σ h a w ν Qa Q hr1 hr2 hv;exact hv.elim
 |refuse why=>intro rd N0 w0 Nf ν0 q ro E σ h a w ν Qa Q hr1 hr2 hv;exact hv.elim
end
end Go.Vc
end
section
namespace Go.Vc
def Lu:EP:=fun _ _ _=>False
def FD (P:Program) (T:List (Nat×TI)) (fx:Bool) (n:Nat) (c:Code) (E:EP) (σ:Env) (h:Heap) (Q:Exit→Env→Heap→Prop):Prop:=Stp (fun σ h=>HA (CZ P) T (am P fx) n c false E σ h Q) σ h
theorem IT {P:Program} {fx:Bool} {T:List (Nat×TI)} {n:Nat} (hT:bi P T=true) (hm:P.follows .mixedOrders=true) {c:Code} {σ:Env} {h:Heap} {Qa:Exit→Env→Heap→Prop} (hv:FD P T fx n c Lu σ h Qa):JV P fx n c σ h Qa:=
 fun N0 Nf w0 w ν0 ν a Q hQ s=>Stp.sound hv s fun σ h ν hk hs=>D6 hT hm (fun _ _ _ h=>h) c false (fun _=>⟨rfl,rfl,rfl⟩) (fun e=>by cases e) hk hQ (fun _ _ _ _ _ _ _ h=>h.elim) hs
section
variable {P:Program} {T:List (Nat×TI)} (hT:bi P T=true) (hm:P.follows .mixedOrders=true) {f:FuncId} {fn:Func} {c:Code} {args:List AV} {r:AV} (rs:List ResultVar)
 (hf:P.funcs[f]? =some fn) (hn:(fn.name== "runtime.NumGoroutine")=false) (hb:fn.body=some c) (hres:fn.results.toList=rs) (hlen:Qac args.length fn.ntmps=true)
include hT hm hf hn hb hres hlen
theorem vL {l1:List (Nat×AO)} {k:Nat} (hv:dQ args→FD P T false fn.ntmps c Lu (Env.args args) hp0 (JG T rs r l1 k)):HSpec P f args hp0 r ⟨l1,k,0⟩:=
 pw hT hm rs hf hn hb hres hlen fun h=>IT hT hm (hv h)
end
end Go.Vc
end
section
namespace Go.Vc
section
variable {K:Env→Heap→Prop} {σ:Env} {h:Heap}
theorem Lq (d p:Nat) (H:match look h.objs d with
 |some (.cells td cs)=>match cs[p]? with
  |some (.nest id i off m j)=>match look h.objs id with
   |some (.tree t sz fs rows)=>match fs[off]? with
    |some (.list t' sz' fs')=>(Qah m (nl fs)&&Qah j (nl (fs.take off)))=true∧∃row rn,rows[i]? =some row∧row[off]? =some (.list rn)∧∀A z c,
         rP (row.set off (.raw (.slice A z c))) fun row'=>cq ⟨(h.nx,.tree t' sz' fs' rn)::gm id (.tree t sz fs (rows.set i row')) (gm d (.cells td (cs.set p (.own h.nx))) h.objs),h.nx+1,h.lo⟩ fun h1=>Stp K σ h1
    |_=>False
   |_=>False
  |_=>False
 |_=>False):Stp K σ h:=by
 split at H
 ·rename_i td cs e1
  split at H
  ·rename_i id i off m j e2
   split at H
   ·rename_i t sz fs rows e3
    split at H
    ·rename_i t' sz' fs' e4
     obtain ⟨hb,row,rn,e5,e6,H⟩:=H;exact .takeC d p id i off m j t sz t' sz' td cs fs fs' rows rn row e1 e2 e3 e4 hb e5 e6 fun A z c=>forceH_iff.1 (forceDs_iff.1 (H A z c))
    ·exact H.elim
   ·exact H.elim
  ·exact H.elim
 ·exact H.elim
end
section
universe u v w x
variable {α:Sort u} {β:Sort v} {γ:Sort w} {a:α} {b:β}
theorem on.{z} {D:α→Prop} {A:α→β→γ→Prop} {ζ:Sort z} {B:α→ζ→β→γ→Prop} {b:β} {c:γ} {P P2 P3 P4 P5 P6 P7 P8 P9 R:Prop} (a:α) (p:ζ) (h:A a b c) (k:B a p b c) (d:D a:=by rfl):P∨P2∨P3∨P4∨P5∨P6∨P7∨P8∨P9∨(∃x p y z,D x∧A x y z∧B x p y z)∨R:= .inr (.inr (.inr (.inr (.inr (.inr (.inr (.inr (.inr (.inl ⟨a,p,b,c,d,h,k⟩)))))))))
theorem La {C B:β→Prop} {D:α→Prop} {A:α→β→Prop} {P P2 P3 P4 P5 P6 P7 P8 P9 P10:Prop} (h:A a b) (d:D a) (k:B b) (c:C b:=by rfl):P∨P2∨P3∨P4∨P5∨P6∨P7∨P8∨P9∨P10∨(∃x y,C y∧D x∧A x y∧B y):= .inr (.inr (.inr (.inr (.inr (.inr (.inr (.inr (.inr (.inr ⟨a,b,c,d,h,k⟩)))))))))
end
section
variable {α A B C:Type} {σ:Env} {h:Heap} {c:JW} {Q:Exit→Lf→Env→Heap→Prop}
theorem K9 (xs:List α) (J:Nat→A→B→Prop) (f:Nat→A→B→List (Nat×AV)) (g:Nat→A→B→Heap) {a:A} {b:B} (j:J 0 a b) (H:∀i a b,i≤xs.length→J i a b→c none (Env.of (f i a b)) (g i a b) (BV (I2 xs J f g) (xs.length - i) Q))
 (w:fZ σ h (f 0 a b) (g 0 a b):=by repeat' first|exact rfl|exact trivial|refine aj ?_ ?_):∃I:Nat→List (Nat×AV)→Heap→Prop,(∃m l h',I m l h'∧fZ σ h l h')∧∀m l h1,I m l h1→c none (Env.of l) h1 (BV I m Q):=
 ⟨I2 xs J f g,⟨_,_,_,⟨0,a,b,rfl,Nat.zero_le _,j,rfl,rfl⟩,w⟩,fun _ _ _ ⟨i,a,b,e,hi,hj,el,eh⟩=>by subst e el eh;exact H i a b hi hj⟩
end
end Go.Vc
end
