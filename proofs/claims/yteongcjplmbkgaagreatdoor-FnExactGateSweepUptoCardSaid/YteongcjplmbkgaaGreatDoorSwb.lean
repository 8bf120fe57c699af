/- Part 2 of a proof: Structs and slices that are put together. The soundness of w -/
import Derived.Test.YteongcjplmbkgaaGreatDoorSwa
import Derived.Laws.Tables
import Derived.Stop.IfaceNil
import Derived.Laws.BytesString
import Derived.Laws.StructEq
import Derived.Laws.MakeOwn
import Derived.Tactics
import Derived.Orders
import Derived.Still
open Option.some renaming injEq → Qaa
open Go.Result renaming andThen_ok → Qab
open Prod.mk renaming injEq → Qac
open Nat renaming eq_of_beq_eq_true → Qad, le_of_ble_eq_true → Qaj, add_mul → Qak, le_refl → Qam, zero_le → Qay, zero_add → QaG, mul_le_mul_right → QaH, beq → QaS, add_sub_cancel_left → QaT, add_assoc → Qa3, lt_or_ge → Qa6, le_mul_of_pos_right → Qa8, mul_one → Qb, zero_mul → Qbd, succ_mul → Qbe, lt_of_lt_of_le → Qbj, le_succ → QbG, lt_succ_self → QbI
open List renaming length_append → Qae, flatten_cons → Qaf, length_take → Qai, mem_cons_of_mem → Qal, length_drop → Qan, mem_cons_self → Qao, take_append_of_le_length → Qap, length_cons → Qaq, replicate_succ → Qar, getElem?_take → Qas, getElem?_cons_zero → Qat, replicate_append_replicate → Qau, flatten_append → Qav, mem_append_right → Qaw, map_cons → Qax, take_left → Qaz, mem_of_mem_take → QaA, size_toArray → QaB, nil_append → QaC, drop_length_add_append → QaD, drop_append_of_le_length → QaI, map_congr_left → QaJ, drop_of_length_le → QaK, take_of_length_le → QaL, getElem?_drop → QaM, take_append_drop → QaN, length_set → QaO, getElem?_append_right → QaP, getElem?_append_left → QaQ, mem_of_getElem? → QaR, getElem?_cons_succ → QaU, sum_replicate_nat → QaW, ext_getElem? → QaX, append_assoc → QaY, getElem?_eq_none → QaZ, mem_append_left → Qa2, length_flatten → Qa4, mem_or_eq_of_mem_set → Qa5, map_replicate → Qa7, getElem?_set → Qa9, drop_append → Qba, map_toArray → Qbb, getElem?_toArray → Qbc, eq_nil_of_length_eq_zero → Qbf, nodup_nil → Qbg, take_length_add_append → Qbk, drop_eq_getElem_cons → Qbn, map_nil → Qbp, mem_toArray → Qbq, drop_drop → Qbs, singleton_append → Qbt, drop_left → Qbu, take_zero → Qbv, length_replicate → Qbx, mem_of_mem_drop → Qby, getElem?_range → QbA, mem_map → QbC, getElem?_map → QbD, take_append → QbJ, foldl_cons → QbM, append_nil → QbN, mem_append → QbO
open Bool renaming and_eq_true → Qag, false_eq_true → QbB, not_eq_true' → QbE
open Option renaming map_some → Qah, map_eq_some_iff → QaV, toList_some → Qbh, isSome_none → Qbi, mem_toList → Qbl, map_none → Qbr, getD_some → QbK, bind_some → QbL
open Array renaming length_toList → QaE, getElem?_setIfInBounds → Qa0, getD_eq_getD_getElem? → Qa1, getElem?_eq_getElem → Qbo, getElem?_modify → Qbw, getElem?_push → Qbz, toList_push → QbF, toList_map → QbH
open List.cons renaming injEq → QaF
open Int renaming toNat_natCast → Qbm
set_option linter.unusedVariables false
set_option linter.unusedSimpArgs false
section
namespace Go.Vc
section
variable {P:Program} {T:List (Nat×TI)} {N:Nat→Prop} {w:World} {ν:Nat→Value}
theorem wL (off:Nat):∀(vs:List Value) (i:Nat) (cells:Array Value),off+i+vs.length≤cells.size→
 ((vs.zipIdx i).foldl (fun cs (p:Value×Nat)=>cs.setIfInBounds (off+p.2) p.1) cells).toList=cells.toList.take (off+i)++vs++cells.toList.drop (off+i+vs.length)
 |[],i,cells,h=>by simp
 |v::vs,i,cells,h=>by
  simp only[List.zipIdx_cons,QbM];rw[wL off vs (i+1) _ (by simp at h ⊢;omega)];simp only[Array.toList_setIfInBounds,Qaq];simp only[Qaq] at h;have hl:off+i<cells.toList.length:=by simp;omega
  have h1:(cells.toList.set (off+i) v).take (off+(i+1))=cells.toList.take (off+i)++[v]:=by
   apply QaX;intro j;simp only[Qas,Qa9,List.getElem?_append,Qai];have hm:min (off+i) cells.toList.length=off+i:=by omega
   rw[hm];by_cases h1:j<off+i
   ·simp[h1,show j<off+(i+1) from by omega,show ¬off+i=j from by omega]
   ·by_cases h2:j=off+i
    ·subst h2;simp[show off+i<off+(i+1) from by omega];simpa using hl
    ·simp[h1,show ¬j<off+(i+1) from by omega,show j - (off+i)≠0 from by omega]
  have h2:(cells.toList.set (off+i) v).drop (off+(i+1)+vs.length)=cells.toList.drop (off+i+(vs.length+1)):=by
   apply QaX;intro j;simp only[QaM,Qa9];rw[if_neg (by omega)]
   congr 1
   omega
  rw[h1,h2];simp
theorem qj (v:Value) (off:Nat) (cells:Array Value) (h:off+v.cells.size≤cells.size):
 (v.cells.zipIdx.foldl (fun cs (c,j)=>cs.setIfInBounds (off+j) c) cells)=(cells.toList.take off++v.cells.toList++cells.toList.drop (off+v.cells.size)).toArray:=by
 have e:=wL off v.cells.toList 0 cells (by simpa using h);apply Array.ext';rw[←Array.foldl_toList,Array.toList_zipIdx];simpa using e
theorem Ay {fields:List Field} (h:∀f∈fields,∃ti,look T f.type=some ti) (hT:bi P T=true):
 ∃places,fields.mapM (fun f=>(P.info? f.type).map fun i=>(f.offset,i.size))=some places∧
  ∀(i:Nat) f ti,fields[i]? =some f→look T f.type=some ti→places[i]? =some (f.offset,ti.size):=by
 induction fields with
 |nil=>exact ⟨[],rfl,by simp⟩
 |cons f fs ih=>
  obtain ⟨places,h1,h2⟩:=ih (fun g hg=>h g (Qal _ hg));obtain ⟨ti,ht⟩:=h f Qao;obtain ⟨i,z,hi,hs,_⟩:=(ah hT ht).info;refine ⟨(f.offset,i.size)::places,by simp[List.mapM_cons,hi,h1],?_⟩;intro j g tj hj hg
  cases j with
  |zero=>
   simp only[Qat,Qaa] at hj;subst hj;rw[ht] at hg;simp only[Qaa] at hg;subst hg
   simp[hs]
  |succ j=>simpa using h2 j g tj (by simpa using hj) hg
theorem un (hT:bi P T=true) {fs:List (Nat×TypeId)} {place:Nat→Option (Nat×Nat)} (hp:∀(i off:Nat) t ti,fs[i]? =some (off,t)→look T t=some ti→place i=some (off,ti.size)):
 ∀{parts:List (Nat×AV)} {vparts:List (Nat×Value)} {cs out:List AV} {xs:Array Value},mH fs T cs parts=some out→parts.map (·.1)=vparts.map (·.1)→Rv w N ν (parts.map (·.2)) (vparts.map (·.2))→
  Rv w N ν cs xs.toList→∃ys,Instr.fill place xs vparts=some ys∧Rv w N ν out ys.toList
 |[],[],cs,out,xs,h,_,_,hr=>by
  simp only[mH,Qaa] at h;subst h
  exact ⟨xs,rfl,hr⟩
 |[],_::_,_,_,_,_,h,_,_=>by simp at h
 |_::_,[],_,_,_,_,h,_,_=>by simp at h
 |(i,x)::parts,(i',v)::vparts,cs,out,xs,h,he,hv,hr=>by
  simp only[Qax,QaF] at he;obtain ⟨rfl,he⟩:=he;simp only[Qax] at hv;obtain ⟨v',r',e,hx,hv'⟩:=hv.cons_inv;simp only[QaF] at e;obtain ⟨rfl,rfl⟩:=e;unfold mH at h;split at h
  ·rename_i off t hi
   split at h
   ·rename_i ti ht
    split at h
    ·rename_i new hc
     cases hb:Nat.ble (off+new.length) cs.length<;>rw[hb] at h
     ·cases h
     ·simp only[cond_true] at h
      rw[Fb] at h;obtain ⟨h1,h2,h3,h4⟩:=gD hx hc (ah hT ht).one;have hb':=Qaj hb;have hlen:=hr.length
      have hsz:off+v.cells.size≤xs.size:=by
       have:xs.toList.length=xs.size:=by simp
       omega
      simp only[Instr.fill,hp i off t ti hi ht];rw[if_neg (by simp[h2];have:xs.toList.length=xs.size:=(by simp);omega),qj v off xs hsz];refine un hT hp h he hv' ?_;unfold over;have e1:v.cells.size=new.length:=by omega
      rw[e1];exact ((hr.take off).append h1).append (hr.drop _)
    ·cases h
   ·cases h
  ·cases h
theorem Hf (hT:bi P T=true) {t:TypeId} {ti:TI} (ht:look T t=some ti) {fs:List (Nat×TypeId)} (hk:ti.kind= .struct fs) (hall:fs.all (fun p=>(look T p.2).isSome)=true)
 {parts:List (Nat×AV)} {vparts:Array (Nat×Value)} {out:List AV} (h:mH fs T ti.zero parts=some out) (he:parts.map (·.1)=vparts.toList.map (·.1)) (hv:Rv w N ν (parts.map (·.2)) (vparts.toList.map (·.2))):
 ∃ys,(Instr.build t vparts).run P w= .ok (.agg ys) w∧Rv w N ν out ys.toList:=by
 have k:=ah hT ht;obtain ⟨fields,hu,hf⟩:=pI k hk;obtain ⟨i,z,hi,_,_,hz,hzz,_,_⟩:=k.info
 obtain ⟨places,hp1,hp2⟩:=Ay (fields:=fields.toList) (fun f hf'=>by
  have hm:(f.offset,f.type)∈fs:=by rw[←hf];exact List.mem_map.2 ⟨f,hf',rfl⟩
  have:=List.all_eq_true.1 hall _ hm;exact Option.isSome_iff_exists.1 this) hT
 obtain ⟨ys,h1,h2⟩:=un (w:=w) (N:=N) (ν:=ν) hT (place:=fun x=>places.toArray[x]?) (fun j off t' tj hj hg=>by
  obtain ⟨f,hf1,rfl,rfl⟩:=uo hf hj;have:=hp2 j f tj (by simpa using hf1) hg;simpa using this) h he hv (gk hzz)
 refine ⟨ys,run_build w t vparts ys ?_,h2⟩;unfold Program.built;simp only[hi,hu,hz,hp1];exact h1
theorem Fk (hT:bi P T=true) {t:TypeId} {ti te:TI} (ht:look T t=some ti) {m e:Nat} (hk:ti.kind= .array m e) (hte:look T e=some te)
 {parts:List (Nat×AV)} {vparts:Array (Nat×Value)} {out:List AV} (h:mH (It te.size e m) T ti.zero parts=some out) (he:parts.map (·.1)=vparts.toList.map (·.1)) (hv:Rv w N ν (parts.map (·.2)) (vparts.toList.map (·.2))):
 ∃ys,(Instr.build t vparts).run P w= .ok (.agg ys) w∧Rv w N ν out ys.toList:=by
 have k:=ah hT ht;have hu:=Bn k hk;obtain ⟨i,z,hi,_,_,hz,hzz,_,_⟩:=k.info;obtain ⟨ie,ze,hie,hsz,_⟩:=(ah hT hte).info
 obtain ⟨ys,h1,h2⟩:=un (w:=w) (N:=N) (ν:=ν) hT (place:=fun j=>some (j*ie.size,ie.size)) (fun j off t' tj hj hg=>by
  unfold It at hj;rw[QbD] at hj;obtain ⟨j',hj',e1⟩:=Option.map_eq_some_iff.1 hj;have hj2:=List.getElem?_eq_some_iff.1 hj';obtain ⟨hlt,e2⟩:=hj2;rw[List.getElem_range] at e2;subst e2;injection e1 with e1 e3
  subst e1;subst e3;rw[hte] at hg;injection hg with hg
  subst hg;rw[hsz]) h he hv (gk hzz)
 refine ⟨ys,run_build w t vparts ys ?_,h2⟩;unfold Program.built;simp only[hi,hu,hz,hie];exact h1
theorem v7 {te:TI} (k1:te.isAgg=false→te.size=1) {l:List (Nat×AO)} {xs:List (Nat×AV)}:∀{parts:List (Nat×AV)} {vparts:List (Nat×Value)} {i:Nat} {rows:List (List D)} {cells:Array Value},
 pQ te l i parts=some rows→parts.map (·.1)=vparts.map (·.1)→Rv w N ν (parts.map (fun p=>AV.view l p.2)) (vparts.map (·.2))→(i+parts.length)*te.size≤cells.size→
  ∃ys new,Instr.fill (fun j=>some (j*te.size,te.size)) cells vparts=some ys∧Rd w N rows.flatten new∧(∀r∈rows,r.length=te.size)∧rows.length=parts.length∧
   ys.toList=cells.toList.take (i*te.size)++new++cells.toList.drop ((i+parts.length)*te.size)
 |[],[],i,rows,cells,h,_,_,hsz=>by
  simp only[pQ,Qaa] at h;subst h
  exact ⟨cells,[],rfl,.nil,by simp,rfl,by simp⟩
 |[],_::_,_,_,_,_,h,_,_=>by simp at h
 |_::_,[],_,_,_,_,h,_,_=>by simp at h
 |(j,x)::parts,(j',v)::vparts,i,rows,cells,h,he,hv,hsz=>by
  simp only[Qax,QaF] at he;obtain ⟨rfl,he⟩:=he;simp only[Qax] at hv;obtain ⟨v',r',e,hx,hv'⟩:=hv.cons_inv;simp only[QaF] at e;obtain ⟨rfl,rfl⟩:=e;unfold pQ at h;cases hb:QaS j i<;>rw[hb] at h
  ·cases h
  ·simp only[cond_true] at h
   have:=Qad hb;subst this;split at h
   ·rename_i cs hc
    split at h
    ·rename_i ds hd
     obtain ⟨h1,h2,h3,h4⟩:=gD hx hc k1
     cases hr:pQ te l (j+1) parts with
     |none=>rw[hr] at h;cases h
     |some rows'=>
      rw[hr] at h;simp only[Qah,Qaa] at h;subst h;simp only[Qaq] at hsz
      have hmul:(j+(parts.length+1))*te.size=j*te.size+te.size+parts.length*te.size:=by
       rw[Qak,Qak];omega
      have hsz':j*te.size+v.cells.size≤cells.size:=by rw[h2];omega
      have hf:=qj v (j*te.size) cells hsz';have hvl:v.cells.toList.length=te.size:=by simpa using h2
      have htl:(cells.toList.take (j*te.size)).length=j*te.size:=by simp;omega
      have hsize:(cells.toList.take (j*te.size)++v.cells.toList++cells.toList.drop (j*te.size+v.cells.size)).length=cells.size:=by
       simp only[Qae,htl,hvl,Qan,QaE,h2];omega
      have hm1:(j+1)*te.size=j*te.size+te.size:=by rw[Qak];omega
      obtain ⟨ys,new,g1,g2,g3,g4,g5⟩:=v7 k1 (xs:=xs) (cells:=(cells.toList.take (j*te.size)++v.cells.toList++cells.toList.drop (j*te.size+v.cells.size)).toArray) hr he hv' (by
       rw[QaB,hsize];have:(j+1+parts.length)*te.size=j*te.size+te.size+parts.length*te.size:=by rw[Qak,Qak];omega
       omega)
      refine ⟨ys,v.cells.toList++new,?_,?_,?_,by simp[g4],?_⟩
      ·simp only[Instr.fill]
       rw[if_neg (by simp[h2];omega),hf];exact g1
      ·simp only[Qaf]
       exact (h1.dsOf hd).append g2
      ·intro r hr'
       rcases List.mem_cons.1 hr' with rfl|hr'
       ·have:=(h1.dsOf hd).length;omega
       ·exact g3 r hr'
      ·rw[g5]
       simp only[Qaq]
       have e1:(cells.toList.take (j*te.size)++v.cells.toList++cells.toList.drop (j*te.size+v.cells.size)).take ((j+1)*te.size)=cells.toList.take (j*te.size)++v.cells.toList:=by
        rw[hm1];have:(cells.toList.take (j*te.size)++v.cells.toList).length=j*te.size+te.size:=by rw[Qae,htl,hvl]
        rw[←this];exact Qaz
       have e2:(cells.toList.take (j*te.size)++v.cells.toList++cells.toList.drop (j*te.size+v.cells.size)).drop ((j+1+parts.length)*te.size)=cells.toList.drop ((j+(parts.length+1))*te.size):=by
        have hl:(cells.toList.take (j*te.size)++v.cells.toList).length=j*te.size+te.size:=by rw[Qae,htl,hvl]
        have:(j+1+parts.length)*te.size=(cells.toList.take (j*te.size)++v.cells.toList).length+parts.length*te.size:=by rw[hl,Qak,Qak];omega
        rw[this,Qba,QaK (by omega),QaC,h2,Qbs]
        congr 1
        omega
       rw[e1,e2];simp
    ·cases h
   ·cases h
end
end Go.Vc
end
section
namespace Go.Vc
section
variable {P:Program} {ro:Option Nat} {q:Md} {T:List (Nat×TI)} {N0 Nf:Nat→Prop} {w0 w w':World} {n:Nat} {σ:Env} {h:Heap} {a:Act} {ν ν' ν0:Nat→Value} {Q:Exit→Act→World→Prop} {next:Act→World→Prop}
theorem dp (w:World) (o:Obj):(w.alloc o).heap[w.heap.size]? =some o:=by
 show (w.heap.push o)[w.heap.size]? =_;simp
theorem gL (w:World) (o:Obj) (i:Nat) (h:i<w.heap.size):(w.alloc o).heap[i]? =w.heap[i]? :=by
 show (w.heap.push o)[i]? =w.heap[i]?;rw[Qbz,if_neg (Nat.ne_of_lt h)]
theorem size_alloc (w:World) (o:Obj):(w.alloc o).heap.size=w.heap.size+1:=by
 show (w.heap.push o).size=_;simp
theorem Kp.alloc (w:World) (o:Obj):Kp (fun _=>False) w (w.alloc o):=
 ⟨rfl,rfl,rfl,by rw[size_alloc];omega,fun b hb _=>gL w o b hb⟩
theorem vR (l:List (Nat×AO)):∀as:List AV,aU l as=as.map (AV.view l)
 |[]=>by simp only[aU];rfl
 |a::as=>by simp only[aU,vR l as];rfl
theorem St.box (s:St q N0 w0 Nf n ν0 σ h a w ν) {t t':TypeId} {cs:List AV} {arr:Array Value} (hr:Rv w (nN N0 ν) ν cs arr.toList) (d:Option Nat):
 ∃ν',St q N0 w0 Nf n ν0 (σ.putO n d (.ptr h.nx 0)) (h.new (.cells t cs)) (a.put d (.pointer (some ⟨w.heap.size,0,none⟩))) (w.alloc (.cells arr t')) ν':=by
 refine ⟨_,s.new (val:= .pointer (some ⟨w.heap.size,0,none⟩)) (Kp.alloc w _) (by simp[undef]) (fun b hb=>?_) (fun m hν=>?_) d ?_⟩
 ·rw[B4] at hb
  simp only[bG,Qaa] at hb;subst hb;rw[size_alloc];omega
 ·exact ⟨w.heap.size,arr,t',by simp[dw],dp w _,hr.mv m hν⟩
 ·exact .ptr 0 (by simp[dw]) .nil
theorem aq {ρ:Operand→Value} {o:Oper} {S:Sem Value} {v:Value} (he:execOp ρ o=(do pure (Next.value (←S)))) (hr:S.run P w= .ok v w'):(execOp ρ o).run P w= .ok (.value v) w':=by
 rw[he];simp only[Sem.run_bind,hr,Qab,Sem.run_pure]
theorem Ba (op:BinOp) (t:TypeId) (x:Operand) (u:Value):(eqGuard op t x (.const .nilIface) u .nilIface).run P w= .ok () w:=by
 unfold eqGuard
 cases hm:(!(op matches .eql| .neq)) with
 |true=>simp
 |false=>
  simp only[QbB,if_false,Sem.run_bind,Sem.run_pure,Qab];cases u<;>simp
theorem t8 (hT:bi P T=true) (s:St q N0 w0 Nf n ν0 σ h a w ν) {o:Oper} {op:BinOp} {xt yt:TypeId} {x:Operand} {d:D} (hop:o.op= .binOp op xt x (.const .nilIface) yt) (hb:o6 T xt op (ev σ x)=some d):
 Looks P a w (nN N0 ν) ν o (.d d):=by
 have hx:=aD s x;have he:execOp a.eval o=(do pure (Next.value (←(do eqGuard op xt x (.const .nilIface) (a.eval x) .nilIface;binOp op xt (a.eval x) .nilIface)))):=by unfold execOp;rw[hop];rfl
 unfold o6 at hb;split at hb
 ·rename_i ti hti
  have hif:ti.kind= .iface→P.isIface xt=true:=fun hk=>by
   obtain ⟨d,h1,h2⟩:=(ah hT hti).kind;rw[hk] at h2;unfold Program.isIface;cases d<;>simp[eD] at h2;rw[h1]
  have guard:∀(u:Value),(eqGuard op xt x (.const .nilIface) u .nilIface).run P w= .ok () w:=fun u=>Ba op xt x u;split at hb<;>try (cases hb;done)
  ·rename_i hk hxe
   cases hb;rw[hxe] at hx;generalize a.eval x=u at hx he
   cases hx with
   |iface t h1 h2=>
    refine ⟨.bool false,aq he ?_,.d (.bool _ .nil) .nil⟩;simp only[Sem.run_bind,guard,Qab,run_eql_iface_nil w xt (hif hk)]
  ·rename_i hk hxe
   cases hb;rw[hxe] at hx;generalize a.eval x=u at hx he
   cases hx with
   |iface t h1 h2=>
    refine ⟨.bool true,aq he ?_,.d (.bool _ .nil) .nil⟩;simp only[Sem.run_bind,guard,Qab,run_neq_iface_nil w xt (hif hk)]
  ·rename_i hk hxe
   cases hb;rw[hxe] at hx;rw[eu hx] at he;refine ⟨.bool true,aq he ?_,.d (.bool _ .nil) .nil⟩;simp only[Sem.run_bind,guard,Qab,run_eql_nil_nil_at w xt (hif hk)]
  ·rename_i hk hxe
   cases hb;rw[hxe] at hx;rw[eu hx] at he;refine ⟨.bool false,aq he ?_,.d (.bool _ .nil) .nil⟩;simp only[Sem.run_bind,guard,Qab,run_neq_nil_nil_at w xt (hif hk)]
 ·cases hb
theorem Fl (hT:bi P T=true) (s:St q N0 w0 Nf n ν0 σ h a w ν) {o:Oper} {op:BinOp} {xt yt:TypeId} {x y:Operand} {d:D} (hop:o.op= .binOp op xt x y yt) (hb:KX T xt op (mj (ev σ x)) (mj (ev σ y))=some d):
 Looks P a w (nN N0 ν) ν o (.d d):=by
 have hx:=i5 (aD s x);have hy:=i5 (aD s y);have he:execOp a.eval o=(do pure (Next.value (←(do eqGuard op xt x y (a.eval x) (a.eval y);binOp op xt (a.eval x) (a.eval y))))):=by unfold execOp;rw[hop]
 unfold KX at hb;split at hb
 ·rename_i k p k' q e1 e2
  rw[e1] at hx;rw[e2] at hy;rw[dj hx,dj hy] at he;cases hk:fv k k'<;>rw[hk] at hb
  ·cases hb
  ·rw[kindEq_iff] at hk
   subst hk;obtain ⟨v,h1,h2⟩:=Fn (P:=P) (w:=w) hb xt;refine ⟨v,aq he ?_,h2 _ _⟩;simp only[Sem.run_bind,ea op xt x y (.int k p) (.int k q) (by simp) (by simp),Qab,h1]
 ·rename_i p q e1 e2
  rw[e1] at hx;rw[e2] at hy;rw[(fN hx).1,(fN hy).1] at he;obtain ⟨v,h1,h2⟩:=Fm (P:=P) (w:=w) hb xt;refine ⟨v,aq he ?_,h2 _ _⟩;simp only[Sem.run_bind,ea op xt x y (.string (fI p)) (.string (fI q)) (by simp) (by simp),Qab,h1]
 ·rename_i p q e1 e2
  rw[e1] at hx;rw[e2] at hy;rw[bU hx,bU hy] at he;split at hb
  ·rename_i ti ht
   split at hb
   ·rename_i hk
    obtain ⟨v,h1,h2⟩:=CS (P:=P) (w:=w) (Io (ah hT ht) hk) hb;refine ⟨v,aq he ?_,h2 _ _⟩;simp only[Sem.run_bind,ea op xt x y (.bool p) (.bool q) (by simp) (by simp),Qab,h1]
   ·cases hb
  ·cases hb
 ·cases hb
theorem Ch (hT:bi P T=true) (s:St q N0 w0 Nf n ν0 σ h a w ν) {o:Oper} {t:TypeId} {x:Operand} {r:AV} {h':Heap} {m:Rn} (hop:o.op= .load t x) (hf:bB T (ev σ) h (.load t x)=some (r,h',m)):
 h'=h∧m= .sub []∧Looks P a w (nN N0 ν) ν o r:=by
 have hx:=aD s x;unfold bB at hf;simp only at hf;split at hf
 ·rename_i ti ht
  have k:=ah hT ht
  have fin:∀(b off:Nat) (cells:List Value) (v:Value),a.eval x= .pointer (some ⟨b,off,none⟩)→(cells.take ti.size).length=ti.size→(∀(j:Nat) u,cells[j]? =some u→w.cell? ⟨b,off+j,none⟩=some u)→
   v=(if ti.isAgg then .agg (cells.take ti.size).toArray else (cells.take ti.size).getD 0 undef)→(execOp a.eval o).run P w= .ok (.value v) w:=by
   intro b off cells v he hlen hc hv;have hx:execOp a.eval o=(do pure (Next.value (←Instr.loadAt t (a.eval x)))):=by unfold execOp;rw[hop]
   refine aq hx ?_;simp only[Instr.loadAt,he,Instr.sureAddr,Sem.run_bind,Sem.run_pure,Qab];rw[j7 k b off (cells.take ti.size) hlen (fun j u hu=>hc j u (by rw[Qas] at hu;split at hu;exact hu;cases hu)),←hv]
  split at hf
  ·rename_i id off e
   rw[e] at hx;obtain ⟨b,he,hν⟩:=pO hx;split at hf
   ·rename_i t' cs hl
    obtain ⟨b',arr,e',h1,h2,h3⟩:=s.hp.objs _ _ hl;rw[hν] at h1;obtain rfl:b=b':=by injection h1 with h1;injection h1 with h1;injection h1
    cases hq:kF ti (cs.drop off) with
    |none=>rw[hq] at hf;cases hf
    |some r'=>
     rw[hq] at hf;simp only[Qah,Qaa,Qac] at hf;obtain ⟨rfl,rfl,rfl⟩:=hf;obtain ⟨g1,g2⟩:=jI k.one (h3.drop off) hq;refine ⟨rfl,rfl,_,fin b off (arr.toList.drop off) _ he g1 (fun j u hu=>?_) rfl,g2⟩;rw[QaM] at hu;simpa [World.cell?,h2] using hu
   ·cases hf
  ·rename_i ds e
   rw[e] at hx;obtain ⟨b,off,cells,he,h0,h1,h2,h3⟩:=FX hx
   cases hq:qH ti ds with
   |none=>rw[hq] at hf;cases hf
   |some r'=>
    rw[hq] at hf;simp only[Qah,Qaa,Qac] at hf;obtain ⟨rfl,rfl,rfl⟩:=hf;obtain ⟨g1,g2⟩:=AE k.one h2 hq;exact ⟨rfl,rfl,_,fin b off cells _ he g1 h3 rfl,g2⟩
  ·rename_i id i sz off e
   rw[e] at hx;obtain ⟨b,mm,c,he,hν,hi⟩:=oa hx;split at hf
   ·rename_i t' sz' rows hl
    rw[s.hp.root hl] at hν;cases hs:QaS sz sz'<;>rw[hs] at hf
    ·cases hf
    ·have:=Qad hs
     subst this;simp only[cond_true] at hf;split at hf
     ·rename_i row hrow
      obtain ⟨A,c',cells,h1,h2,h3,h4,h5,h6⟩:=s.hp.objs _ _ hl;rw[hν] at h1;injection h1 with e1 e2 e3
      subst e1 e2 e3;rcases h6.2 with ⟨g,_⟩|⟨g,cap,cur,g1,_,g2,g3,_,g4,g5⟩
      ·rw[hν] at g;cases g
      ·rw[hν] at g1
       injection g1 with e1 e2 e3
       injection e1 with e1
       injection e1 with e1
       subst e1
       cases hq:qH ti (row.drop off) with
       |none=>rw[hq] at hf;cases hf
       |some r'=>
        rw[hq] at hf;simp only[Qah,Qaa,Qac] at hf;obtain ⟨rfl,rfl,rfl⟩:=hf
        have hsplit:rows.flatten=(rows.take i).flatten++(row++(rows.drop (i+1)).flatten):=by
          have hd:rows.drop i=row::rows.drop (i+1):=by
            have hlt:i<rows.length:=(List.getElem?_eq_some_iff.1 hrow).1;rw[Qbn hlt,(List.getElem?_eq_some_iff.1 hrow).2]
          conv=>lhs;rw[←QaN i rows,Qav,hd,Qaf]
        have h2':Rd w (nN N0 ν) ((rows.take i).flatten++(row++(rows.drop (i+1)).flatten)) cells:=by rw[←hsplit];exact h2
        obtain ⟨c1,c2,rfl,k1,k2⟩:=Rd.split h2';obtain ⟨c3,c4,rfl,k3,k4⟩:=Rd.split k2
        have hc1:c1.length=i*sz:=by
          rw[k1.length]
          have:∀(l:List (List D)),(∀r∈l,r.length=sz)→l.flatten.length=l.length*sz:=by
            intro l hl
            induction l with
            |nil=>simp
            |cons r l ih=>simp only[Qaf,Qae,Qaq];rw[hl r Qao,ih (fun x hx=>hl x (Qal _ hx)),Qak];omega
          rw[this _ (fun r hr=>h3 r (QaA hr)),Qai];rw[Nat.min_eq_left (by omega)]
        obtain ⟨g6,g7⟩:=AE (ν:=ν) k.one (k3.drop off) hq;refine ⟨rfl,rfl,_,fin b (i*sz+off) (c3.drop off) _ he g6 (fun j u hu=>?_) rfl,g7⟩;rw[QaM] at hu
        have hcur:cur.toList[i*sz+(off+j)]? =some u:=by
          have hlt:off+j<c3.length:=by
            rcases Qa6 (off+j) c3.length with g|g
            ·exact g
            ·rw[QaZ g] at hu;cases hu
          have:(c1++(c3++c4))[i*sz+(off+j)]? =some u:=by
            rw[QaP (by omega),hc1,QaT,QaQ hlt];exact hu
          rw[←g5,Qas] at this;split at this
          ·exact this
          ·cases this
        simp only[World.cell?,g2];rw[Qa3];simpa using hcur
     ·cases hf
   ·cases hf
  ·cases hf
 ·cases hf
end
end Go.Vc
end
section
namespace Go.Vc
section
variable {P:Program} {ro:Option Nat} {q:Md} {T:List (Nat×TI)} {N0 Nf:Nat→Prop} {w0 w w':World} {n:Nat} {σ:Env} {h:Heap} {a:Act} {ν ν' ν0:Nat→Value} {Q:Exit→Act→World→Prop} {next:Act→World→Prop}
theorem Hy:∀{f g:NT},NT.eq f g=true→f=g:=by
 have key:∀(k:Nat),(∀f g:NT,SizeOf.sizeOf f≤k→NT.eq f g=true→f=g)∧(∀fs gs:List NT,SizeOf.sizeOf fs≤k→iM fs gs=true→fs=gs):=by
  intro k
  induction k with
  |zero=>
   refine ⟨fun f g hs=>?_,fun fs gs hs=>?_⟩
   ·cases f<;>simp at hs
   ·cases fs<;>simp at hs
  |succ k ih=>
   refine ⟨fun f g hs he=>?_,fun fs gs hs he=>?_⟩
   ·cases f with
    |leaf=>cases g with
     |leaf=>rfl
     |list _ _ _=>simp[NT.eq] at he
    |list t sz fs=>cases g with
     |leaf=>simp[NT.eq] at he
     |list t' sz' gs=>
      simp only[NT.eq,Qag] at he;rw[Qad he.1.1,Qad he.1.2,ih.2 fs gs (by simp at hs;omega) he.2]
   ·cases fs with
    |nil=>cases gs with
     |nil=>rfl
     |cons _ _=>simp[iM] at he
    |cons f fs=>cases gs with
     |nil=>simp[iM] at he
     |cons g gs=>
      simp only[iM,Qag] at he;rw[ih.1 f g (by simp at hs;omega) he.1,ih.2 fs gs (by simp at hs;omega) he.2]
 intro f g he;exact (key (SizeOf.sizeOf f)).1 f g (Qam _) he
theorem w6 {fs gs:List NT} (he:iM fs gs=true):fs=gs:=by
 have:=Hy (f:= .list 0 0 fs) (g:= .list 0 0 gs) (by simp[NT.eq,he]);injection this
theorem xG {w:World} {t sz:Nat} {fs:List NT} (h1:fs.length=sz) (h2:0<sz):Tb w t sz fs [] (.tuple #[.slice none 0 0]) []:=
 ⟨none,0,[],[],[],rfl,rfl,.nil,by simp,h1,h2,Qay _,by simp,.inl ⟨rfl,rfl⟩⟩
theorem E3 (hp:Hp N0 w ν h) {k t sz:Nat} {fs:List NT} {rows:List (List D)} (hl:look h.objs k=some (.tree t sz fs rows)):∃A n c,ac (ν k)= .slice A n c:=by
 obtain ⟨bs,h1,_⟩:=hp.objs _ _ hl;obtain ⟨A,c,e⟩:=h1.root;exact ⟨A,_,c,e⟩
structure Taken (N0:Nat→Prop) (w:World) (ν:Nat→Value) (ks:List Nat) (bs:List Nat):Prop where
 own:∀b∈bs,∃k∈ks,Ow (ν k) b
 root:∀k∈ks,∃A n c,ac (ν k)= .slice A n c
 nodup:ks.Nodup→bs.Nodup
theorem Taken.nil:Taken N0 w ν [] []:=⟨by simp,by simp,fun _=>Qbg⟩
theorem Taken.append (hp:Hp N0 w ν h) {ks ks' bs bs':List Nat} (g:Taken N0 w ν ks bs) (g':Taken N0 w ν ks' bs'):Taken N0 w ν (ks++ks') (bs++bs'):=by
 refine ⟨fun b hb=>?_,fun k hk=>?_,fun hn=>?_⟩
 ·rcases List.mem_append.1 hb with hb|hb
  ·obtain ⟨k,h1,h2⟩:=g.own b hb;exact ⟨k,Qa2 _ h1,h2⟩
  ·obtain ⟨k,h1,h2⟩:=g'.own b hb;exact ⟨k,Qaw _ h1,h2⟩
 ·rcases List.mem_append.1 hk with hk|hk
  ·exact g.root k hk
  ·exact g'.root k hk
 ·obtain ⟨n1,n2,n3⟩:=List.nodup_append.1 hn
  refine List.nodup_append.2 ⟨g.nodup n1,g'.nodup n2,fun b hb c hc e=>?_⟩;subst e;obtain ⟨k,h1,h2⟩:=g.own b hb;obtain ⟨k',h3,h4⟩:=g'.own b hc;exact n3 k h1 k' h3 (hp.inj _ _ b h2 h4)
theorem FL (hp:Hp N0 w ν h) {f:NT} {x:AV} {v:Value} {d:D} {ks:List Nat} (ht:takeC h.objs f x=some (d,ks)) (hr:Rv w (nN N0 ν) ν [x] [v]) (hf:∀t sz fs,f= .list t sz fs→fs.length=sz∧0<sz):
 ∃βs bs,Tr w [f] [d] [v] βs bs∧Taken N0 w ν ks bs:=by
 cases f with
 |leaf=>
  have hr:=i5 hr
  have ht:(match mj x with
   | .d (.int k n)=>some (D.int k n,([]:List Nat))
   | .d (.bool b)=>some (.bool b,[])
   | .d (.str x)=>some (.str x,[])
   |_=>none)=some (d,ks):=by
   rw[←ht]
   cases x with
   |val v=>cases v<;>rfl
   |d x=>cases x<;>rfl
   |_=>rfl
  split at ht
  ·rename_i k m e
   rw[e] at hr;simp only[Qaa,Qac] at ht;obtain ⟨rfl,rfl⟩:=ht;rw[dj hr];exact ⟨[],[],.leaf _ _ rfl (fun _ _=> .int k m .nil) .nil,.nil⟩
  ·rename_i b e
   rw[e] at hr;simp only[Qaa,Qac] at ht;obtain ⟨rfl,rfl⟩:=ht;rw[bU hr];exact ⟨[],[],.leaf _ _ rfl (fun _ _=> .bool b .nil) .nil,.nil⟩
  ·rename_i b e
   rw[e] at hr;simp only[Qaa,Qac] at ht;obtain ⟨rfl,rfl⟩:=ht;obtain ⟨e1,e2⟩:=fN hr;rw[e1];exact ⟨[],[],.leaf _ _ rfl (fun _ _=> .str b e2 .nil) .nil,.nil⟩
  ·cases ht
 |list t sz fs=>
  simp only[takeC] at ht;obtain ⟨hf1,hf2⟩:=hf t sz fs rfl;split at ht
  ·simp only[Qaa,Qac] at ht
   obtain ⟨rfl,rfl⟩:=ht;rw[fO hr];exact ⟨_,_,jY (xG hf1 hf2) rfl .nil,.nil⟩
  ·rename_i id
   split at ht
   ·rename_i t' sz' fs' rows hid
    cases hc:(QaS t t'&&QaS sz sz'&&iM fs fs')<;>rw[hc] at ht
    ·cases ht
    ·simp only[cond_true,Qaa,Qac] at ht
     obtain ⟨rfl,rfl⟩:=ht;simp only[Qag] at hc;have e1:=Qad hc.1.1;have e2:=Qad hc.1.2;have e3:=w6 hc.2;subst e1 e2 e3;obtain ⟨bs,h1,h2⟩:=hp.objs _ _ hid
     have hv:ac (ν id)=v:=by
      cases hr with
      |own h3 _=>exact h3
     refine ⟨_,_,jY h1 hv .nil,⟨fun b hb=>⟨id,List.mem_singleton.2 rfl,(h1.ow b).2 (by simpa using hb)⟩,fun k hk=>?_,fun _=>by simpa using h2⟩⟩;rw[List.mem_singleton.1 hk];exact E3 hp hid
   ·cases ht
  ·cases ht
theorem Aj {fs:List NT} (h:B9 fs=true):∀t sz gs,NT.list t sz gs∈fs→gs.length=sz∧0<sz:=by
 induction fs with
 |nil=>intro t sz gs hm;cases hm
 |cons f fs ih=>
  intro t sz gs hm
  cases f with
  |leaf=>
   simp only[B9] at h;rcases List.mem_cons.1 hm with e|hm
   ·cases e
   ·exact ih h _ _ _ hm
  |list t' sz' gs'=>
   simp only[B9,Qag] at h;rcases List.mem_cons.1 hm with e|hm
   ·injection e with e1 e2 e3
    subst e1 e2 e3;exact ⟨Qad h.1.1,Qaj h.1.2⟩
   ·exact ih h.2 _ _ _ hm
theorem sv (hp:Hp N0 w ν h):∀{fs:List NT} {new:List AV} {vs:List Value} {ds:List D} {ks:List Nat},qw h.objs fs new=some (ds,ks)→Rv w (nN N0 ν) ν new vs→(∀t sz gs,NT.list t sz gs∈fs→gs.length=sz∧0<sz)→
 ∃βs bs,Tr w fs ds vs βs bs∧Taken N0 w ν ks bs
 |[],[],vs,ds,ks,ht,hr,_=>by
  simp only[qw,Qaa,Qac] at ht;obtain ⟨rfl,rfl⟩:=ht;cases hr
  exact ⟨[],[],.nil,.nil⟩
 |[],_::_,vs,ds,ks,ht,hr,_=>by simp[qw] at ht
 |_::_,[],vs,ds,ks,ht,hr,_=>by simp[qw] at ht
 |f::fs,x::new,vs,ds,ks,ht,hr,hf=>by
  obtain ⟨v,r,rfl,h1,h2⟩:=hr.cons_inv;simp only[qw] at ht;split at ht
  ·rename_i d i hd
   split at ht
   ·rename_i ds' is hds
    simp only[Qaa,Qac] at ht;obtain ⟨rfl,rfl⟩:=ht;obtain ⟨β1,b1,g1,g2⟩:=FL hp hd h1 (fun t sz gs e=>hf t sz gs (by rw[e];exact Qao ..));obtain ⟨β2,b2,g3,g4⟩:=sv hp hds h2 (fun t sz gs hm=>hf t sz gs (Qal _ hm));exact ⟨_,_,g1.append g3,g2.append hp g4⟩
   ·cases ht
  ·cases ht
theorem qr (hp:Hp N0 w ν h) {te:TI} (k1:te.isAgg=false→te.size=1) (hf:∀t sz gs,NT.list t sz gs∈te.nts→gs.length=sz∧0<sz):∀{parts:List (Nat×AV)} {vparts:List (Nat×Value)} {i:Nat} {rows:List (List D)} {ks:List Nat} {cells:Array Value},
 kW te h.objs i parts=some (rows,ks)→parts.map (·.1)=vparts.map (·.1)→Rv w (nN N0 ν) ν (parts.map (·.2)) (vparts.map (·.2))→(i+parts.length)*te.size≤cells.size→
  ∃ys new βs bs,Instr.fill (fun j=>some (j*te.size,te.size)) cells vparts=some ys∧Tr w (List.replicate rows.length te.nts).flatten rows.flatten new βs bs∧Taken N0 w ν ks bs∧(∀r∈rows,r.length=te.size)∧rows.length=parts.length∧
   (parts≠[]→te.nts.length=te.size)∧ys.toList=cells.toList.take (i*te.size)++new++cells.toList.drop ((i+parts.length)*te.size)
 |[],[],i,rows,ks,cells,h,_,_,hsz=>by
  simp only[kW] at h;split at h
  ·cases h
  ·simp only[Qaa,Qac] at h
   obtain ⟨rfl,rfl⟩:=h
   exact ⟨cells,[],[],[],rfl,.nil,.nil,by simp,rfl,by simp,by simp⟩
 |[],_::_,_,_,_,_,_,h,_,_=>by simp at h
 |_::_,[],_,_,_,_,_,h,_,_=>by simp at h
 |(j,x)::parts,(j',v)::vparts,i,rows,ks,cells,h,he,hv,hsz=>by
  simp only[Qax,QaF] at he;obtain ⟨rfl,he⟩:=he;simp only[Qax] at hv;obtain ⟨v',r',e,hx,hv'⟩:=hv.cons_inv;simp only[QaF] at e;obtain ⟨rfl,rfl⟩:=e;unfold kW at h;cases hb:QaS j i<;>rw[hb] at h
  ·cases h
  ·simp only[cond_true] at h
   have:=Qad hb;subst this;split at h
   ·rename_i cs hc
    split at h
    ·rename_i ds ks1 hd
     obtain ⟨h1,h2,h3,h4⟩:=gD hx hc k1;split at h
     ·rename_i rows' ks2 hr
      simp only[Qaa,Qac] at h;obtain ⟨rfl,rfl⟩:=h;obtain ⟨β1,b1,t1,t2⟩:=sv hp hd h1 hf;simp only[Qaq] at hsz
      have hmul:(j+(parts.length+1))*te.size=j*te.size+te.size+parts.length*te.size:=by
       rw[Qak,Qak];omega
      have hsz':j*te.size+v.cells.size≤cells.size:=by rw[h2];omega
      have hf':=qj v (j*te.size) cells hsz';have hvl:v.cells.toList.length=te.size:=by simpa using h2
      have htl:(cells.toList.take (j*te.size)).length=j*te.size:=by simp;omega
      have hsize:(cells.toList.take (j*te.size)++v.cells.toList++cells.toList.drop (j*te.size+v.cells.size)).length=cells.size:=by
       simp only[Qae,htl,hvl,Qan,QaE,h2];omega
      have hm1:(j+1)*te.size=j*te.size+te.size:=by rw[Qak];omega
      obtain ⟨ys,new,β2,b2,g1,g2,g2',g3,g4,_,g5⟩:=qr hp k1 hf (cells:=(cells.toList.take (j*te.size)++v.cells.toList++cells.toList.drop (j*te.size+v.cells.size)).toArray) hr he hv' (by
       rw[QaB,hsize];have:(j+1+parts.length)*te.size=j*te.size+te.size+parts.length*te.size:=by rw[Qak,Qak];omega
       omega)
      refine ⟨ys,v.cells.toList++new,β1++β2,b1++b2,?_,?_,t2.append hp g2',?_,by simp[g4],fun _=>?_,?_⟩
      ·simp only[Instr.fill]
       rw[if_neg (by simp[h2];omega),hf'];exact g1
      ·rw[Qaq,Qar,Qaf,Qaf]
       exact t1.append g2
      ·intro r hr'
       rcases List.mem_cons.1 hr' with rfl|hr'
       ·have:=t1.len;omega
       ·exact g3 r hr'
      ·have:=t1.len;omega
      ·rw[g5]
       simp only[Qaq]
       have e1:(cells.toList.take (j*te.size)++v.cells.toList++cells.toList.drop (j*te.size+v.cells.size)).take ((j+1)*te.size)=cells.toList.take (j*te.size)++v.cells.toList:=by
        rw[hm1];have:(cells.toList.take (j*te.size)++v.cells.toList).length=j*te.size+te.size:=by rw[Qae,htl,hvl]
        rw[←this];exact Qaz
       have e2:(cells.toList.take (j*te.size)++v.cells.toList++cells.toList.drop (j*te.size+v.cells.size)).drop ((j+1+parts.length)*te.size)=cells.toList.drop ((j+(parts.length+1))*te.size):=by
        have hl:(cells.toList.take (j*te.size)++v.cells.toList).length=j*te.size+te.size:=by rw[Qae,htl,hvl]
        have:(j+1+parts.length)*te.size=(cells.toList.take (j*te.size)++v.cells.toList).length+parts.length*te.size:=by rw[hl,Qak,Qak];omega
        rw[this,Qba,QaK (by omega),QaC,h2,Qbs]
        congr 1
        omega
       rw[e1,e2];simp
     ·cases h
    ·cases h
   ·cases h
theorem nw {w:World} {N:Nat→Prop} {ν:Nat→Value}:∀{fs:List NT} {zs:List AV} {vs:List Value} {ds:List D},w8 fs zs=true→Rv w N ν zs vs→dsOf zs=some ds→(∀t sz gs,NT.list t sz gs∈fs→gs.length=sz∧0<sz)→
 ∃βs,Tr w fs ds vs βs []
 |[],[],vs,ds,h,hr,hd,_=>by
  cases hr;simp only[dsOf,Qaa] at hd;subst hd
  exact ⟨[],.nil⟩
 |[],_::_,vs,ds,h,hr,hd,_=>by simp[w8] at h
 |_::_,[],vs,ds,h,hr,hd,_=>by simp[w8] at h
 |f::fs,z::zs,vs,ds,h,hr,hd,hf=>by
  obtain ⟨v,r,rfl,h1,h2⟩:=hr.cons_inv;have hf':=fun t sz gs hm=>hf t sz gs (Qal f hm);unfold w8 at h;split at h
  ·rename_i e1 e2;cases e1
  ·rename_i e1 e2
   injection e1 with e1 e1';injection e2 with e2 e2';subst e1 e1' e2 e2'
   simp only[dsOf,QaV] at hd;obtain ⟨ds',hd,rfl⟩:=hd;obtain ⟨βs,g⟩:=nw h h2 hd hf';rw[dj h1];exact ⟨βs,.leaf _ _ rfl (fun _ _=> .int _ _ .nil) g⟩
  ·rename_i e1 e2
   injection e1 with e1 e1';injection e2 with e2 e2';subst e1 e1' e2 e2'
   simp only[dsOf,QaV] at hd;obtain ⟨ds',hd,rfl⟩:=hd;obtain ⟨βs,g⟩:=nw h h2 hd hf';rw[bU h1];exact ⟨βs,.leaf _ _ rfl (fun _ _=> .bool _ .nil) g⟩
  ·rename_i e1 e2
   injection e1 with e1 e1';injection e2 with e2 e2';subst e1 e1' e2 e2'
   simp only[dsOf,QaV] at hd;obtain ⟨ds',hd,rfl⟩:=hd;obtain ⟨βs,g⟩:=nw h h2 hd hf';obtain ⟨q1,q2⟩:=fN h1;rw[q1];exact ⟨βs,.leaf _ _ rfl (fun _ _=> .str _ q2 .nil) g⟩
  ·rename_i t sz gs _ _ e1 e2
   injection e1 with e1 e1';injection e2 with e2 e2';subst e1 e1' e2 e2'
   simp only[dsOf,QaV] at hd;obtain ⟨ds',hd,rfl⟩:=hd;obtain ⟨βs,g⟩:=nw h h2 hd hf';obtain ⟨f1,f2⟩:=hf t sz gs (Qao ..);rw[fO h1];have:=jY (xG (w:=w) (t:=t) f1 f2) rfl g;exact ⟨_,this⟩
  ·cases h
theorem FJ {w:World} {fs:List NT} {ds:List D} {vs βs:List Value} (h:Tr w fs ds vs βs []):∀k:Nat,∃γs,Tr w (List.replicate k fs).flatten (List.replicate k ds).flatten (List.replicate k vs).flatten γs []
 |0=>⟨[],.nil⟩
 |k+1=>by
  obtain ⟨γs,g⟩:=FJ h k;rw[Qar,Qar,Qar,Qaf,Qaf,Qaf];exact ⟨_,by simpa using h.append g⟩
theorem rQ {w:World} {N:Nat→Prop}:∀{fs:List NT} {ds:List D} {vs:List Value},bk fs=true→ds.length=fs.length→(∀d∈ds,d.flat=true)→Rd w N ds vs→Tr w fs ds vs [] []
 |[],[],vs,_,_,_,hr=>by cases hr;exact .nil
 |[],_::_,vs,_,h,_,_=>by simp at h
 |_::_,[],vs,_,h,_,_=>by simp at h
 | .list _ _ _::_,_::_,vs,h,_,_,_=>by simp[bk] at h
 | .leaf::fs,d::ds,vs,h,hl,hd,hr=>by
   have hd0:=hd d (Qao ..);have hd':∀x∈ds,x.flat=true:=fun x hx=>hd x (Qal _ hx);have hl':ds.length=fs.length:=by simpa using hl
   cases hr with
   |int k n hr=>exact .leaf _ _ hd0 (fun _ _=> .int k n .nil) (rQ h hl' hd' hr)
   |bool b hr=>exact .leaf _ _ hd0 (fun _ _=> .bool b .nil) (rQ h hl' hd' hr)
   |str s hs hr=>exact .leaf _ _ hd0 (fun _ _=> .str s hs .nil) (rQ h hl' hd' hr)
   |fn f hr=>simp[D.flat] at hd0
   |raw v hv hr=>simp[D.flat] at hd0
   |list rows A cap sz cells _ _ _ _ _ hr=>simp[D.flat] at hd0
theorem pg {w:World} {N:Nat→Prop} {fs:List NT} (hf:bk fs=true) {sz:Nat} (hs:fs.length=sz):∀{rows:List (List D)} {vs:List Value},(∀r∈rows,gM sz r)→Rd w N rows.flatten vs→Tr w (List.replicate rows.length fs).flatten rows.flatten vs [] []
 |[],vs,_,hr=>by
  rw[List.flatten_nil] at hr ⊢;cases hr
  exact .nil
 |r::rows,vs,hl,hr=>by
  rw[Qaf] at hr ⊢;obtain ⟨c1,c2,rfl,h1,h2⟩:=hr.split;rw[Qaq,Qar,Qaf];obtain ⟨g1,g2⟩:=hl r (Qao ..);have:=(rQ hf (by omega) g2 h1).append (pg hf hs (fun x hx=>hl x (Qal _ hx)) h2);simpa using this
end
end Go.Vc
end
section
namespace Go.Vc
section
variable {P:Program} {ro:Option Nat} {q:Md} {T:List (Nat×TI)} {N0 Nf:Nat→Prop} {w0 w w':World} {n:Nat} {σ:Env} {h:Heap} {a:Act} {ν ν' ν0:Nat→Value} {Q:Exit→Act→World→Prop} {next:Act→World→Prop}
theorem Dh {N:Nat→Prop} {t:Bool} {x y:AV} {u v:Value} (hx:Rv w N ν [x] [u]) (hy:Rv w N ν [y] [v]):Rv w N ν [yc t x y] [if t=true then u else v]:=by
 have hx:=i5 hx;have hy:=i5 hy;unfold yc;split
 ·rename_i e1 e2
  rw[e1] at hx;rw[e2] at hy;rw[bU hx,bU hy];cases t<;>exact .d (.bool _ .nil) .nil
 ·cases t
  ·exact hy
  ·exact hx
theorem oE (s:St q N0 w0 Nf n ν0 σ h a w ν) (parts:Array (Nat×Operand)):
 ((parts.toList.map fun p=>(p.1,ev σ p.2)).map (·.1)=((parts.map fun (i,x)=>(i,a.eval x)).toList).map (·.1))∧
 Rv w (nN N0 ν) ν ((parts.toList.map fun p=>(p.1,ev σ p.2)).map (·.2)) (((parts.map fun (i,x)=>(i,a.eval x)).toList).map (·.2)):=by
 rw[QbH];generalize parts.toList=l
 induction l with
 |nil=>exact ⟨rfl,.nil⟩
 |cons p l ih=>
  obtain ⟨i,x⟩:=p;exact ⟨by simp only[Qax,ih.1],(aD s x).cons ih.2⟩
theorem St.newRow (s:St q N0 w0 Nf n ν0 σ h a w ν) (hk:Kp (fun _=>False) w w') {val:Value} (hval:val≠undef) (hblk:∀b,Ow val b→w.heap.size≤b∧b<w'.heap.size)
 {t sz:Nat} {rows:List (List D)} {cells:List Value} {A:Option Addr} {c:Nat} (hv:val= .slice A rows.length c) (hr:Rd w (nN N0 ν) rows.flatten cells) (hl:∀r∈rows,r.length=sz) (hb:rows.length≤big) (hsz:0<sz)
 (ho:w'.ownRow 0 t sz val rows.length cells) (d:Option Nat):
 ∃ν',St q N0 w0 Nf n ν0 (σ.putO n d (.own h.nx)) (h.new (.row t sz rows)) (a.put d val) w' ν':=by
 refine ⟨_,s.new hk hval hblk (fun m hν=>?_) d ?_⟩
 ·exact ⟨A,c,cells,by simp[dw,hv],hr.mv m,hl,hb,hsz,by simpa [dw] using ho⟩
 ·rw[hv];exact .own (by simp[dw,hv,ac]) .nil
theorem St.newObj (s:St q N0 w0 Nf n ν0 σ h a w ν) (hk:Kp (fun _=>False) w w') {te:TI} {e:TypeId} {rows:List (List D)} {cells:List Value} {A:Option Addr} {c:Nat}
 (hblk:∀b,bG (.slice A rows.length c)=some b→w.heap.size≤b∧b<w'.heap.size) (hr:Rd w (nN N0 ν) rows.flatten cells) (hl:∀r∈rows,r.length=te.size) (hb:rows.length≤big) (hsz:0<te.size)
 (ho:w'.ownRow 0 e te.size (.slice A rows.length c) rows.length cells) (htr:∀f fs,te.nts=f::fs→te.nts.length=te.size∧∃βs,Tr w' (List.replicate rows.length te.nts).flatten rows.flatten cells βs []) (d:Option Nat):
 ∃ν',St q N0 w0 Nf n ν0 (σ.putO n d (.own h.nx)) (h.new (te.obj e rows)) (a.put d (.slice A rows.length c)) w' ν':=by
 cases hn:te.nts with
 |nil=>
  have:te.obj e rows= .row e te.size rows:=by unfold TI.obj;rw[hn]
  rw[this]
  exact s.newRow hk (by simp[undef]) (fun b g=>hblk b (ow_slice.1 g)) rfl hr hl hb hsz ho d
 |cons f fs=>
  have:te.obj e rows= .tree e te.size te.nts rows:=by unfold TI.obj;rw[hn]
  rw[this];obtain ⟨g1,βs,g2⟩:=htr f fs hn;have hT:Tb w' e te.size te.nts rows (.tuple (.slice A rows.length c::βs).toArray) ((bG (.slice A rows.length c)).toList++[]):=⟨A,c,cells,βs,[],rfl,rfl,g2,hl,g1,hsz,hb,ho⟩;refine ⟨_,s.new (val:= .tuple (.slice A rows.length c::βs).toArray) (o:= .tree e te.size te.nts rows) hk hT.ne (fun b g=>?_) (fun m hν=>⟨_,by simpa [dw] using hT,?_⟩) d ?_⟩
  ·have g:=(hT.ow b).1 g
   simp only[QbN,Qbl] at g;exact hblk b g
  ·cases bG (.slice A rows.length c)<;>simp
  ·exact .own (by simp[dw,ac]) .nil
theorem qz (hT:bi P T=true) (s:St q N0 w0 Nf n ν0 σ h a w ν) {o:Oper} {r:AV} {h':Heap} {m:Rn} (hf:bB T (ev σ) h o.op=some (r,h',m))
 (hn:∀a' w' ν',St q N0 w0 Nf n ν0 ((σ.ren m).putO n o.dst r) h' a' w' ν'→next a' w'):o.wpIn (G ro) 0 P a w next Q:=by
 cases hop:o.op<;>rw[hop] at hf
 case move x=>
  simp only[bB,Qaa,Qac] at hf;obtain ⟨rfl,rfl,rfl⟩:=hf;exact au s ⟨a.eval x,by unfold execOp;rw[hop];rfl,aD s x⟩ (fun a' w' hs=>hn a' w' ν hs)
 case assign x=>
  simp only[bB,Qaa,Qac] at hf;obtain ⟨rfl,rfl,rfl⟩:=hf;exact au s ⟨a.eval x,by unfold execOp;rw[hop];rfl,aD s x⟩ (fun a' w' hs=>hn a' w' ν hs)
 case pick c x y=>
  simp only[bB] at hf;split at hf
  ·rename_i t e
   simp only[Qaa,Qac] at hf;obtain ⟨rfl,rfl,rfl⟩:=hf;have hc:=aD s c;rw[e] at hc;refine au s ⟨if t=true then a.eval x else a.eval y,?_,Dh (aD s x) (aD s y)⟩ (fun a' w' hs=>hn a' w' ν hs);have he:execOp a.eval o=(do pure (Next.value (if←asBool (a.eval c) then a.eval x else a.eval y))):=by unfold execOp;rw[hop]
   rw[he,bU hc];rfl
  ·rename_i t e
   simp only[Qaa,Qac] at hf;obtain ⟨rfl,rfl,rfl⟩:=hf;have hc:=aD s c;rw[e] at hc;refine au s ⟨if t=true then a.eval x else a.eval y,?_,?_⟩ (fun a' w' hs=>hn a' w' ν hs)
   ·have he:execOp a.eval o=(do pure (Next.value (if←asBool (a.eval c) then a.eval x else a.eval y))):=by unfold execOp;rw[hop]
    rw[he,eu hc];rfl
   ·cases t
    ·exact aD s y
    ·exact aD s x
  ·cases hf
 case load t x=>
  obtain ⟨rfl,rfl,hl⟩:=Ch hT s hop hf;exact au s hl (fun a' w' hs=>hn a' w' ν hs)
 case binOp op xt x y yt=>
  simp only[bB] at hf;split at hf
  ·cases hb:o6 T xt op (ev σ x) with
   |none=>rw[hb] at hf;cases hf
   |some d=>
    rw[hb] at hf;simp only[Qah,Qaa,Qac] at hf;obtain ⟨rfl,rfl,rfl⟩:=hf;exact au s (t8 hT s hop hb) (fun a' w' hs=>hn a' w' ν hs)
  ·cases hb:KX T xt op (mj (ev σ x)) (mj (ev σ y)) with
   |none=>rw[hb] at hf;cases hf
   |some d=>
    rw[hb] at hf;simp only[Qah,Qaa,Qac] at hf;obtain ⟨rfl,rfl,rfl⟩:=hf;exact au s (Fl hT s hop hb) (fun a' w' hs=>hn a' w' ν hs)
 case unOp op xt x=>
  cases op<;>simp only[bB] at hf<;>try (cases hf;done)
  split at hf
  ·rename_i b e
   simp only[Qaa,Qac] at hf;obtain ⟨rfl,rfl,rfl⟩:=hf;have hx:=aD s x;rw[e] at hx;have he:execOp a.eval o=(do pure (Next.value (←Op.unary .not (a.eval x)))):=by unfold execOp;rw[hop]
   rw[bU hx] at he;exact au s ⟨.bool (!b),aq he rfl,.d (.bool _ .nil) .nil⟩ (fun a' w' hs=>hn a' w' ν hs)
  ·rename_i b e
   simp only[Qaa,Qac] at hf;obtain ⟨rfl,rfl,rfl⟩:=hf;have hx:=aD s x;rw[e] at hx;have he:execOp a.eval o=(do pure (Next.value (←Op.unary .not (a.eval x)))):=by unfold execOp;rw[hop]
   rw[eu hx] at he;exact au s ⟨.bool (!b),aq he rfl,.val _ .nil⟩ (fun a' w' hs=>hn a' w' ν hs)
  ·cases hf
 case extract x i=>
  simp only[bB] at hf;split at hf
  ·rename_i vs e
   cases hi:vs[i]? with
   |none=>rw[hi] at hf;cases hf
   |some r'=>
    rw[hi] at hf;simp only[Qah,Qaa,Qac] at hf;obtain ⟨rfl,rfl,rfl⟩:=hf;have hx:=aD s x;rw[e] at hx;obtain ⟨xs,h1,h2⟩:=I4 hx;obtain ⟨v,h3,h4⟩:=h2.get hi;have he:execOp a.eval o=(do pure (Next.value (←Instr.extract (a.eval x) i))):=by unfold execOp;rw[hop]
    rw[h1] at he;refine au s ⟨v,aq he ?_,h4⟩ (fun a' w' hs=>hn a' w' ν hs);unfold Instr.extract;simp[h3]
  ·cases hf
 case nilCheck x=>
  simp only[bB] at hf;have hx:=aD s x;have he:∀A,a.eval x= .pointer (some A)→execOp a.eval o=pure (Next.value (.pointer (some A))):=fun A hA=>by unfold execOp;rw[hop];simp only[hA]
  split at hf
  ·rename_i ds e
   simp only[Qaa,Qac] at hf;obtain ⟨rfl,rfl,rfl⟩:=hf;rw[e] at hx;obtain ⟨b,o',cells,h1,_⟩:=FX hx;rw[h1] at hx;exact au s ⟨_,by rw[he _ h1];rfl,hx⟩ (fun a' w' hs=>hn a' w' ν hs)
  ·rename_i id off e
   simp only[Qaa,Qac] at hf;obtain ⟨rfl,rfl,rfl⟩:=hf;rw[e] at hx;obtain ⟨b,h1,_⟩:=pO hx;rw[h1] at hx;exact au s ⟨_,by rw[he _ h1];rfl,hx⟩ (fun a' w' hs=>hn a' w' ν hs)
  ·rename_i id i sz off e
   simp only[Qaa,Qac] at hf;obtain ⟨rfl,rfl,rfl⟩:=hf;rw[e] at hx;obtain ⟨b,mm,c,h1,_⟩:=oa hx;rw[h1] at hx;exact au s ⟨_,by rw[he _ h1];rfl,hx⟩ (fun a' w' hs=>hn a' w' ν hs)
  ·cases hf
 case makeFunc fn first caps=>
  cases fn<;>simp only[bB] at hf<;>try (cases hf;done)
  rename_i f;have he:execOp a.eval o=(do pure (Next.value (←Instr.makeFunc (.func f) (first.map a.eval) (caps.map a.eval)))):=by unfold execOp;rw[hop]
  cases hb:first.toList.isEmpty<;>rw[hb] at hf
  ·cases hb2:caps.toList.isEmpty<;>rw[hb2] at hf
   ·cases hf
   ·simp only[cond_true,cond_false,Qaa,Qac] at hf
    obtain ⟨rfl,rfl,rfl⟩:=hf;have hcaps:caps= #[]:=by simpa using hb2
    refine au s ⟨.func (.func f) (first.map a.eval) #[],aq he (by rw[hcaps];simp[Instr.makeFunc]),?_⟩ (fun a' w' hs=>hn a' w' ν hs);have:=iL s first.toList;have e:first.map a.eval=(first.toList.map a.eval).toArray:=by apply Array.ext';simp
    rw[e];exact .bfn f _ this .nil
  ·simp only[cond_true,Qaa,Qac] at hf
   obtain ⟨rfl,rfl,rfl⟩:=hf;have hfirst:first= #[]:=by simpa using hb
   refine au s ⟨.func (.func f) #[] (caps.map a.eval),aq he (by rw[hfirst];simp[Instr.makeFunc]),?_⟩ (fun a' w' hs=>hn a' w' ν hs);have:=iL s caps.toList;have e:caps.map a.eval=(caps.toList.map a.eval).toArray:=by apply Array.ext';simp
   rw[e];exact .fn f _ this .nil
 case makeInterface t x=>
  simp only[bB] at hf;split at hf
  ·rename_i ti ht
   split at hf
   ·cases hf
   ·rename_i hk
    simp only[Qaa,Qac] at hf;obtain ⟨rfl,rfl,rfl⟩:=hf;have he:execOp a.eval o=(do pure (Next.value (←Instr.makeInterface t (a.eval x)))):=by unfold execOp;rw[hop]
    refine au s ⟨.iface t (a.eval x),aq he ?_,.iface t (aD s x) .nil⟩ (fun a' w' hs=>hn a' w' ν hs);obtain ⟨d,h1,h2⟩:=(ah hT ht).kind;unfold Instr.makeInterface;simp only[Sem.run_bind,run_underlying h1,Qab];cases d<;>first|rfl|(exfalso;unfold eD at h2;split at h2<;>simp_all)
  ·cases hf
 case convert src dst x=>
  simp only[bB] at hf;split at hf
  ·rename_i ts ti hts ht
   split at hf
   ·rename_i k k' q hk e
    simp only[Qaa,Qac] at hf;obtain ⟨rfl,rfl,rfl⟩:=hf;have hx:=aD s x;rw[e] at hx;have he:execOp a.eval o=(do pure (Next.value (←convert src dst (a.eval x)))):=by unfold execOp;rw[hop]
    rw[dj hx] at he;refine au s ⟨_,aq he ?_,.d (.int k _ .nil) .nil⟩ (fun a' w' hs=>hn a' w' ν hs);obtain ⟨d,h1,_⟩:=(ah hT hts).kind;unfold convert;simp only[Sem.run_bind,run_underlying h1,run_underlying (Cl (ah hT ht) hk),Qab];rfl
   ·cases hf
  ·cases hf
 case fieldAddr t x f=>
  simp only[bB] at hf;split at hf
  ·rename_i ti ht
   split at hf
   ·rename_i fs hk
    split at hf
    ·rename_i off t' hi
     split at hf
     ·rename_i tf htf
      cases hz:QaS tf.size 0<;>rw[hz] at hf
      ·simp only[cond_false] at hf
       have hz':tf.size≠0:=fun e=>by rw[e] at hz;cases hz
       have hx:=aD s x;have he:execOp a.eval o=(do pure (Next.value (←Instr.fieldAt t (a.eval x) f))):=by unfold execOp;rw[hop]
       have hrun:=fun b o'=>zO (P:=P) (w:=w) (ah hT ht) (ah hT htf) hk hi hz' b o';split at hf
       ·rename_i id o' e
        simp only[Qaa,Qac] at hf;obtain ⟨rfl,rfl,rfl⟩:=hf;rw[e] at hx;obtain ⟨b,h1,h2⟩:=pO hx;rw[h1] at he;exact au s ⟨_,aq he (hrun _ _),.ptr _ h2 .nil⟩ (fun a' w' hs=>hn a' w' ν hs)
       ·rename_i ds e
        rw[e] at hx;obtain ⟨b,o',cells,h1,h2,h3,h4,h5⟩:=FX hx;rw[h1] at he;split at hf
        ·cases hf
        ·rename_i d ds' hd
         simp only[Qaa,Qac] at hf;obtain ⟨rfl,rfl,rfl⟩:=hf;have h6:=h4.drop off;rw[hd] at h6;refine au s ⟨_,aq he (hrun _ _),.at_ _ (cells.drop off) (fun g=>?_) h6 (.inr ⟨b,o'+off,rfl,h3,fun j v hv=>?_⟩) .nil⟩ (fun a' w' hs=>hn a' w' ν hs)
         ·have:=h6.length
          rw[g] at this;simp at this
         ·rw[QaM] at hv
          rw[Qa3];exact h5 _ v hv
       ·rename_i id i sz o' e
        simp only[Qaa,Qac] at hf;obtain ⟨rfl,rfl,rfl⟩:=hf;rw[e] at hx;obtain ⟨b,mm,c,h1,h2,h3⟩:=oa hx;rw[h1] at he;have:=hrun b (i*sz+o');rw[Qa3] at this;exact au s ⟨_,aq he this,.rptr i _ sz h2 h3 .nil⟩ (fun a' w' hs=>hn a' w' ν hs)
       ·cases hf
      ·cases hf
     ·cases hf
    ·cases hf
   ·cases hf
  ·cases hf
 case field t x f=>
  simp only[bB] at hf;split at hf
  ·rename_i ti ht
   split at hf
   ·rename_i fs hk
    split at hf
    ·rename_i off t' hi
     split at hf
     ·rename_i tf cs htf e
      cases hl:kF tf (cs.drop off) with
      |none=>rw[hl] at hf;cases hf
      |some r'=>
       rw[hl] at hf;simp only[Qah,Qaa,Qac] at hf;obtain ⟨rfl,rfl,rfl⟩:=hf;have hx:=aD s x;rw[e] at hx;obtain ⟨xs,h1,h2⟩:=je hx;have k':=ah hT htf;obtain ⟨g1,g2⟩:=jI k'.one (h2.drop off) hl;obtain ⟨fields,h3,h4⟩:=pI (ah hT ht) hk;obtain ⟨fd,h5,rfl,rfl⟩:=uo h4 hi;have he:execOp a.eval o=(do pure (Next.value (←Instr.field t (a.eval x) f))):=by unfold execOp;rw[hop]
       rw[h1] at he;refine au s ⟨_,aq he ?_,g2⟩ (fun a' w' hs=>hn a' w' ν hs);unfold Instr.field;simp only[Sem.run_bind,run_underlying h3,Qab,h5,asAgg,Sem.run_pure];exact zN k' g1
     ·cases hf
    ·cases hf
   ·cases hf
  ·cases hf
 case box t x=>
  simp only[bB] at hf;split at hf
  ·rename_i ti ht
   split at hf
   ·rename_i cs hc
    simp only[Qaa,Qac] at hf;obtain ⟨rfl,rfl,rfl⟩:=hf;obtain ⟨h1,_,_,_⟩:=gD (aD s x) hc (ah hT ht).one;obtain ⟨ν',hs⟩:=s.box (t:=t) (t':=t) h1 o.dst;have he:execOp a.eval o=(do pure (Next.value (←Instr.box t (a.eval x)))):=by unfold execOp;rw[hop]
    exact bD (aq he rfl) (hn _ _ ν' hs)
   ·cases hf
  ·cases hf
 case alloc t=>
  simp only[bB] at hf;split at hf
  ·rename_i ti ht
   simp only[Qaa,Qac] at hf;obtain ⟨rfl,rfl,rfl⟩:=hf;obtain ⟨z,h1,h2,_⟩:=sT (w:=w) (ah hT ht);obtain ⟨ν',hs⟩:=s.box (t:=t) (t':=t) (arr:=z.cells) (gk h2) o.dst;have he:execOp a.eval o=(do pure (Next.value (←Instr.alloc t true (.tuple #[])))):=by unfold execOp;rw[hop]
   refine bD (aq he ?_) (hn _ _ ν' hs);unfold Instr.alloc;simp only[Sem.run_bind,h1,Qab];rfl
  ·cases hf
 case build t parts=>
  simp only[bB] at hf;split at hf
  ·rename_i ti ht
   split at hf
   ·rename_i fs hk
    cases hall:fs.all (fun p=>(look T p.2).isSome)<;>rw[hall] at hf
    ·cases hf
    ·simp only[cond_true] at hf
     cases hfl:mH fs T ti.zero (parts.toList.map fun p=>(p.1,ev σ p.2)) with
     |none=>rw[hfl] at hf;cases hf
     |some cs=>
      rw[hfl] at hf;simp only[Qah,Qaa,Qac] at hf;obtain ⟨rfl,rfl,rfl⟩:=hf;obtain ⟨p1,p2⟩:=oE s parts;obtain ⟨ys,h1,h2⟩:=Hf (w:=w) hT ht hk hall hfl p1 p2;have he:execOp a.eval o=(do pure (Next.value (←Instr.build t (parts.map fun (i,x)=>(i,a.eval x))))):=by unfold execOp;rw[hop]
      refine au s ⟨.agg ys,aq he h1,?_⟩ (fun a' w' hs=>hn a' w' ν hs);have:ys=ys.toList.toArray:=by simp
      rw[this];exact .agg _ h2 .nil
   ·rename_i m e hk
    split at hf
    ·rename_i te hte
     cases hfl:mH (It te.size e m) T ti.zero (parts.toList.map fun p=>(p.1,ev σ p.2)) with
     |none=>rw[hfl] at hf;cases hf
     |some cs=>
      rw[hfl] at hf;simp only[Qah,Qaa,Qac] at hf;obtain ⟨rfl,rfl,rfl⟩:=hf;obtain ⟨p1,p2⟩:=oE s parts;obtain ⟨ys,h1,h2⟩:=Fk (w:=w) hT ht hk hte hfl p1 p2;have he:execOp a.eval o=(do pure (Next.value (←Instr.build t (parts.map fun (i,x)=>(i,a.eval x))))):=by unfold execOp;rw[hop]
      refine au s ⟨.agg ys,aq he h1,?_⟩ (fun a' w' hs=>hn a' w' ν hs);have:ys=ys.toList.toArray:=by simp
      rw[this];exact .agg _ h2 .nil
    ·cases hf
   ·cases hf
  ·cases hf
 case makeMap t r=>
  simp only[bB] at hf;split at hf
  ·rename_i ti ht
   split at hf
   ·rename_i kt vt hk
    split at hf
    ·rename_i tk htk
     simp only[Qaa,Qac] at hf;obtain ⟨rfl,rfl,rfl⟩:=hf;have he:execOp a.eval o=(do pure (Next.value (←Instr.makeMap t (Option.map a.eval none)))):=by unfold execOp;rw[hop]
     have hs:=s.new (val:= .map (some w.heap.size)) (Kp.alloc w (.map #[] 0)) (by simp[undef]) (fun b hb=>by
      simp only[ow_slice,Gf,B4,bG,Qaa] at hb;subst hb;rw[size_alloc];omega) (o:= .map t tk.key []) (fun m hν=>⟨w.heap.size,#[],0,by simp[dw],dp w _,.nil,fun _=>⟨rfl,fun j e he=>by simp at he⟩⟩) o.dst (r:= .mapr h.nx) (v:= .map (some w.heap.size)) (.mapr (by simp[dw]) .nil)
     exact bD (aq he rfl) (hn _ _ _ hs)
    ·cases hf
   ·cases hf
  ·cases hf
 case buildSlice t len parts=>
  simp only[bB] at hf;split at hf
  ·rename_i ti ht
   split at hf
   ·rename_i e hk
    split at hf
    ·rename_i te hte
     have hu:=db (ah hT ht) hk;have ke:=ah hT hte;have he:execOp a.eval o=(do pure (Next.value (←Instr.buildSlice t len (parts.map fun (i,x)=>(i,a.eval x))))):=by unfold execOp;rw[hop]
     cases h0:QaS len 0<;>rw[h0] at hf
     ·simp only[cond_false] at hf
      cases hc:(QaS parts.toList.length len&&Nat.ble (len*te.size) 16777216&&Nat.ble 1 te.size)<;>rw[hc] at hf
      ·cases hf
      ·simp only[cond_true] at hf
       simp only[Qag] at hc;obtain ⟨⟨c1,c2⟩,c3⟩:=hc;have c1:=Qad c1;have c2:=Qaj c2;have c3:=Qaj c3;have h0':len≠0:=fun e=>by rw[e] at h0;cases h0
       split at hf
       ·rename_i rows ks hrows
        cases hnd:gu ks<;>rw[hnd] at hf
        ·cases hf
        ·simp only[cond_true,Qaa,Qac] at hf
         obtain ⟨rfl,rfl,rfl⟩:=hf;have hnd:=jE hnd;obtain ⟨p1,p2⟩:=oE s parts;obtain ⟨z,z1,z2,z3⟩:=sT (w:=w) ke;have hpl:(parts.toList.map fun p=>(p.1,ev σ p.2)).length=len:=by simpa using c1
         obtain ⟨ys,new,βs,bs,r1,hTr,hTk,r3,r4,r6,r5⟩:=qr s.hp ke.one (Aj ke.nts) (cells:=(Array.range (len*te.size)).map (z.cells[·%z.cells.size]!)) hrows p1 p2 (by rw[hpl];simp);rw[hpl] at r4 r5;have hnts:=r6 (fun e=>by rw[e] at hpl;simp at hpl;exact h0' hpl.symm)
         have hys:ys.toList=new:=by
          rw[r5];simp
         have hnewlen:new.length=rows.length*te.size:=by
          have:=hTr.len.2.1;rw[this,Qa4,Qa7,QaW,hnts]
         have hk:Kp (fun _=>False) w (w.alloc (.cells ys e)):=Kp.alloc w _;have e1:len=rows.length:=r4.symm
         have hTb:Tb (w.alloc (.cells ys e)) e te.size te.nts rows (.tuple (.slice (some ⟨w.heap.size,0,none⟩) rows.length rows.length::βs).toArray) ((bG (.slice (some ⟨w.heap.size,0,none⟩) rows.length rows.length)).toList++bs):=by
          refine ⟨_,_,new,βs,bs,rfl,rfl,hTr.keep (fun b g=>gL w _ b (hTr.bnd b g)),r3,hnts,c3,?_,hnewlen,.inr ⟨w.heap.size,rows.length,ys,rfl,Qay _,dp w _,Qam _,?_,?_,?_⟩⟩
          ·have:rows.length≤rows.length*te.size:=Qa8 _ c3
           unfold big;rw[←e1] at this ⊢;omega
          ·have:rows.length≤rows.length*te.size:=Qa8 _ c3
           unfold maxLen;rw[←e1] at this ⊢;omega
          ·have:ys.size=new.length:=by rw[←hys];simp
           omega
          ·rw[hys,←hnewlen];exact List.take_length
         have hlt:∀b∈bs,b<w.heap.size:=hTr.bnd
         have hnx:h.nx ∉ ks:=fun g=>by
          obtain ⟨A,m,c,e⟩:=hTk.root _ g;exact dc e (s.hp.dom _ (Qam _))
         refine bD (w':=w.alloc (.cells ys e)) (v:= .slice (some ⟨w.heap.size,0,none⟩) len len) (aq he ?_) (hn _ _ _ (s.absorb (id:=h.nx) (nx:=h.nx+1) (ks:=ks) (fz:=ks) (o:= .tree e te.size te.nts rows)
          (val:= .tuple (.slice (some ⟨w.heap.size,0,none⟩) rows.length rows.length::βs).toArray) (QbG _) (QbI _) ⟨hk.os,hk.tape,hk.output,hk.size,fun b hb _=>hk.blk b hb (fun g=>g)⟩ (fun b g=>?_) hTk.root hnx (.inr (.inl (s.hp.dom _ (Qam _)))) (fun hu=>absurd (s.low.2 _ s.low.1) hu)
          (fun m=>⟨_,by rw[ee];exact hTb,?_⟩) (fun j o' ho=>?_) o.dst (fun m=>?_)))
         ·unfold Instr.buildSlice
          simp only[Sem.run_bind,run_underlying hu,Qab,bI ke];rw[if_neg (show ¬(len*te.size>2 ^ 24) from by omega)]
          have hne:¬(len*te.size=0):=by
             intro g;rcases Nat.mul_eq_zero.1 g with g|g
             ·exact h0' g
             ·omega
          simp only[hne,if_false,Sem.run_bind,z1,Qab,Sem.run_pure,r1];rfl
         ·have g:=(hTb.ow b).1 g
          refine ⟨hTb.bnd b g,?_⟩;simp only[bG,Qbh,Qbt,List.mem_cons] at g;rcases g with g|g
          ·exact .inr (.inr (Nat.le_of_eq g.symm))
          ·exact .inr (.inl (hTk.own b g))
         ·simp only[bG,Qbh,Qbt,List.nodup_cons]
          exact ⟨fun g=>Nat.lt_irrefl _ (hlt _ g),hTk.nodup hnd⟩
         ·simp only[look,lY] at ho
          by_cases ej:j=h.nx
          ·subst ej
           rw[ga] at ho;simp only[cond_true,Qaa] at ho;exact .inl ⟨rfl,ho.symm⟩
          ·rw[eQ ej] at ho
           simp only[cond_false] at ho
           cases hk:ks.any (QaS j) with
           |true=>rw[hk] at ho;cases ho
           |false=>
            rw[hk] at ho;simp only[cond_false] at ho
            cases hq:look h.objs j with
            |none=>rw[hq] at ho;cases ho
            |some o''=>
             rw[hq] at ho;simp only[Qah,Qaa] at ho;exact .inr ⟨ej,(fun g=>by rw[anyN.2 g] at hk;cases hk),o'',rfl,ho.symm⟩
         ·rw[e1]
          exact .own (by rw[ee];rfl) .nil
       ·split at hf
        ·rename_i rows hrows
         generalize hq:pubs (aF (parts.toList.map fun p=>ev σ p.2)) h.objs=q at hf;obtain ⟨l,m'⟩:=q;simp only[Qaa,Qac] at hf;obtain ⟨rfl,rfl,rfl⟩:=hf;obtain ⟨p1,p2⟩:=oE s parts
         have p2':Rv w (nN N0 ν) ν (parts.toList.map fun p=>ev σ p.2) (((parts.map fun (i,x)=>(i,a.eval x)).toList).map (·.2)):=by
          have:(parts.toList.map fun p=>(p.1,ev σ p.2)).map (·.2)=parts.toList.map fun p=>ev σ p.2:=by simp
          rw[←this];exact p2
         obtain ⟨ν',s',g1,g2⟩:=St.pubs (ν:=ν) (x:=h.nx) (y:=h.lo) _ s hq
         have hsub:∀b,nN N0 ν' b→nN N0 ν b:=by
          rintro b (g|⟨j,g⟩)
          ·exact .inl g
          ·rcases g1 j with e|e
           ·exact .inr ⟨j,by rw[←e];exact g⟩
           ·exact absurd g (e b)
         have hview:Rv w (nN N0 ν') ν' (aU h.objs (parts.toList.map fun p=>ev σ p.2)) (((parts.map fun (i,x)=>(i,a.eval x)).toList).map (·.2)):=by
          refine xc s.hp hsub p2' (fun id hid b hb hrow g=>?_);have hu:=g2 id hid hrow;rcases g with g|⟨j,g⟩
          ·exact s.hp.dis id b hb g
          ·rcases g1 j with e|e
           ·have hj:j=id:=s.hp.inj j id b (by rw[←e];exact g) hb
            subst hj;exact absurd g (hu b)
           ·exact absurd g (e b)
         rw[vR] at hview
         have hview':Rv w (nN N0 ν') ν' ((parts.toList.map fun p=>(p.1,ev σ p.2)).map (fun p=>AV.view h.objs p.2)) (((parts.map fun (i,x)=>(i,a.eval x)).toList).map (·.2)):=by
          have:(parts.toList.map fun p=>(p.1,ev σ p.2)).map (fun p=>AV.view h.objs p.2)=(parts.toList.map fun p=>ev σ p.2).map (AV.view h.objs):=by simp
          rw[this];exact hview
         obtain ⟨z,z1,z2,z3⟩:=sT (w:=w) ke;have hpl:(parts.toList.map fun p=>(p.1,ev σ p.2)).length=len:=by simpa using c1
         obtain ⟨ys,new,r1,r2,r3,r4,r5⟩:=v7 (xs:=[]) ke.one (cells:=(Array.range (len*te.size)).map (z.cells[·%z.cells.size]!)) hrows p1 hview' (by rw[hpl];simp);rw[hpl] at r4 r5
         have hys:ys.toList=new:=by
          rw[r5];simp
         have hnewlen:new.length=rows.flatten.length:=r2.length;have hk:Kp (fun _=>False) w (w.alloc (.cells ys e)):=Kp.alloc w _;refine bD (w':=w.alloc (.cells ys e)) (v:= .slice (some ⟨w.heap.size,0,none⟩) len len) (aq he ?_) (hn _ _ ν' (s'.seen hk o.dst ?_))
         ·unfold Instr.buildSlice
          simp only[Sem.run_bind,run_underlying hu,Qab,bI ke];rw[if_neg (show ¬(len*te.size>2 ^ 24) from by omega)]
          have hne:¬(len*te.size=0):=by
             intro g;rcases Nat.mul_eq_zero.1 g with g|g
             ·exact h0' g
             ·omega
          simp only[hne,if_false,Sem.run_bind,z1,Qab,Sem.run_pure,r1];rfl
         ·have hmv:Mv w (nN N0 ν') (w.alloc (.cells ys e)) (nN N0 ν'):=⟨hk.size,fun b hb hN=>⟨hN,gL w _ b hb⟩⟩
          have e1:len=rows.length:=r4.symm;subst e1;refine .d (.list rows _ _ te.size new (r2.mv hmv) r3 (.inr ⟨w.heap.size,0,rfl,?_,fun j v hv=>?_⟩) (Qam _) ?_ .nil) .nil
          ·rintro (g|⟨j,g⟩)
           ·have:=s'.hp.n0 _ g;omega
           ·have:=s'.hp.bnd _ _ g;omega
          ·rw[←hys] at hv
           simp only[World.cell?,dp,QaG];simpa using hv
          ·have:rows.length≤rows.length*te.size:=Qa8 _ c3
           unfold big;omega
        ·cases hf
     ·simp only[cond_true] at hf
      have h0':=Qad h0;subst h0';cases hc:(Nat.ble 1 te.size&&parts.toList.isEmpty&&te.fits)<;>rw[hc] at hf
      ·cases hf
      ·simp only[cond_true,Qaa,Qac] at hf
       obtain ⟨rfl,rfl,rfl⟩:=hf;simp only[Qag] at hc;have c3:=Qaj hc.1.1;have hpe:parts= #[]:=by simpa using hc.1.2
       have hfit:=hc.2;subst hpe
       obtain ⟨ν',hs⟩:=s.newObj (Kp.alloc w (.cells #[] e)) (te:=te) (e:=e) (A:=some ⟨w.heap.size,0,none⟩) (c:=0) (rows:=[]) (cells:=[]) (fun b hb=>by
        simp only[bG,Qaa] at hb;subst hb;rw[size_alloc];omega) .nil (by simp) (Qay _) c3
        ⟨by simp,.inr ⟨w.heap.size,0,#[],rfl,Qay _,dp w _,Qam _,Qay _,by simp,by simp⟩⟩ (fun f fs hn=>by
          unfold TI.fits at hfit;rw[hn] at hfit ⊢;simp only[Qag] at hfit;exact ⟨Qad hfit.2,[],.nil⟩) o.dst
       refine bD (aq he ?_) (hn _ _ ν' hs);unfold Instr.buildSlice;simp only[Sem.run_bind,run_underlying hu,Qab,bI ke,Qbd];rw[if_neg (by decide)];have e0:Array.range 0= #[]:=by apply Array.ext';simp
       simp[Instr.fill,newRow,e0]
    ·cases hf
   ·cases hf
  ·cases hf
 all_goals (simp only[bB] at hf;cases hf)
end
end Go.Vc
end
section
namespace Go.Vc
section
variable {P:Program} {ro:Option Nat} {q:Md} {T:List (Nat×TI)} {N0 Nf:Nat→Prop} {w0 w w':World} {n:Nat} {σ:Env} {h:Heap} {a:Act} {ν ν' ν0:Nat→Value} {Q:Exit→Act→World→Prop} {next:Act→World→Prop}
theorem jO (s:St q N0 w0 Nf n ν0 σ h a w ν) {z l:Int} {x:Option Operand} (hb:du (ev σ) z x=some l):(x=none∧l=z)∨∃k,x.map a.eval=some (.int k l):=by
 cases x with
 |none=>exact .inl ⟨rfl,(Option.some.inj hb).symm⟩
 |some y=>
  right;have hy:=aD s y;simp only[du] at hb;split at hb
  ·rename_i k m e
   rw[e] at hy;cases hb;exact ⟨k,by rw[Qah,dj hy]⟩
  ·cases hb
theorem dN (k:IntKind) {i:Int} {y:Nat} (code:BoundsCode) (h0:0≤i) (h1:i≤y):(Instr.sliceBound (.int k i) y code).run P w= .ok i.toNat w:=by
 unfold Instr.sliceBound;simp only[asIntOf,Sem.run_bind,Sem.run_pure,Qab];rw[if_pos ⟨h0,h1⟩];rfl
theorem m3 (s:St q N0 w0 Nf n ν0 σ h a w ν) {b:Bool} {len cap:Nat} {l u:Int} {lo hi:Option Operand} (hlo:du (ev σ) 0 lo=some l) (hhi:du (ev σ) len hi=some u) (h0:0≤l) (h1:l≤u) (h2:u≤len) (hc:len≤cap):
 (Instr.sliceBounds b len cap (lo.map a.eval) (hi.map a.eval) none).run P w= .ok (l.toNat,u.toNat,cap) w:=by
 unfold Instr.sliceBounds;rcases jO s hhi with ⟨rfl,rfl⟩|⟨k,e⟩
 ·rcases jO s hlo with ⟨rfl,rfl⟩|⟨k',e'⟩
  ·simp[Sem.run_bind,Sem.run_pure]
  ·simp only[e',Qbr,Qbi,Sem.run_bind,Sem.run_pure,Qab]
   rw[dN k' _ h0 (by omega)];simp[Sem.run_pure]
 ·rcases jO s hlo with ⟨rfl,rfl⟩|⟨k',e'⟩
  ·simp only[e,Qbr,Sem.run_bind,Sem.run_pure,Qab]
   rw[dN k _ (by omega) (by omega)];simp[Sem.run_pure]
  ·simp only[e,e',Qbi,Sem.run_bind,Sem.run_pure,Qab]
   rw[dN k _ (by omega) (by omega)];simp only[Sem.run_bind,Sem.run_pure,Qab];rw[dN k' _ h0 (by omega)];simp[Sem.run_pure]
theorem An (s:Bs) (l u:Nat):(fI s).extract l u=fI ((s.take u).drop l):=by
 apply ByteArray.ext;apply Array.ext';simp[fI,List.drop_take]
theorem mC {sz:Nat}:∀(rows:List (List D)) (k:Nat),(∀r∈rows,r.length=sz)→(rows.take k).flatten=rows.flatten.take (k*sz)
 |[],k,_=>by simp
 |r::rows,0,_=>by simp
 |r::rows,k+1,h=>by
  have hr:=h r Qao;rw[List.take_succ_cons,Qaf,Qaf,mC rows k (fun x hx=>h x (Qal _ hx)),QbJ];rw[QaL (l:=r) (by rw[hr,Qbe];omega),show (k+1)*sz - r.length=k*sz from by rw[hr,Qbe];omega]
theorem mD {sz:Nat}:∀(rows:List (List D)) (k:Nat),(∀r∈rows,r.length=sz)→(rows.drop k).flatten=rows.flatten.drop (k*sz)
 |[],k,_=>by simp
 |r::rows,0,_=>by simp
 |r::rows,k+1,h=>by
  have hr:=h r Qao;rw[List.drop_succ_cons,Qaf,mD rows k (fun x hx=>h x (Qal _ hx)),Qba];rw[QaK (l:=r) (by rw[hr,Qbe];omega),show (k+1)*sz - r.length=k*sz from by rw[hr,Qbe];omega,QaC]
theorem AZ {sz:Nat}:∀(rows:List (List D)),(∀r∈rows,r.length=sz)→rows.flatten.length=rows.length*sz
 |[],_=>by simp
 |r::rows,h=>by
  rw[Qaf,Qae,AZ rows (fun x hx=>h x (Qal _ hx)),h r Qao,Qaq,Qbe];omega
theorem Ce (a b:Bs):fI a++fI b=fI (a++b):=by
 apply ByteArray.ext;apply Array.ext';simp[fI,ByteArray.data_append]
theorem Am:∀(ns:List Int) (r:Bs),ns.foldl (fun r n=>r.push (UInt8.ofNat n.toNat)) (fI r)=fI (r++ns.map fun n=>UInt8.ofNat n.toNat)
 |[],r=>by simp
 |n::ns,r=>by
  have e:(fI r).push (UInt8.ofNat n.toNat)=fI (r++[UInt8.ofNat n.toNat]):=by
   apply ByteArray.ext;apply Array.ext';simp[fI,ByteArray.push]
  rw[QbM,e,Am ns];simp
theorem nr {w:World} {N:Nat→Prop}:∀{rows:List (List D)} {s:Bs} {cs:List Value},ma rows=some s→Rd w N rows.flatten cs→∃ns:List Int,cs=ns.map (Value.int .u8)∧s=(ns.map fun n=>UInt8.ofNat n.toNat)∧ns.length=rows.length
 |[],s,cs,h,hr=>by
  simp only[ma,Qaa] at h;subst h;cases hr
  exact ⟨[],rfl,rfl,rfl⟩
 |r::rows,s,cs,h,hr=>by
  unfold ma at h;split at h
  ·rename_i e;cases e
  ·rename_i n r' e
   injection e with e1 e2
   subst e1 e2;split at h
   ·rename_i s' hs
    simp only[Qaa] at h;subst h;rw[Qaf] at hr
    cases hr with
    |int _ _ hr=>
     obtain ⟨ns,rfl,rfl,h3⟩:=nr hs hr;exact ⟨n::ns,rfl,rfl,by simp[h3]⟩
   ·cases h
  ·cases h
theorem CN (s:St q N0 w0 Nf n ν0 σ h a w ν) {x:AV} {v:Value} {s0:Bs} (hb:yZ h x=some s0) (hx:Rv w (nN N0 ν) ν [x] [v]):
 ∃(A:Option Addr) (n0 cap:Nat) (ns:List Int),v= .slice A n0 cap∧(∃M:Nat→Prop,Placed w M A (ns.map (Value.int .u8)))∧ns.length=n0∧s0=(ns.map fun n:Int=>UInt8.ofNat n.toNat):=by
 unfold yZ at hb;split at hb
 ·obtain ⟨A,cap,sz,cells,hxe,hr,hsz,hpl,hcap,hbig⟩:=im hx
  obtain ⟨ns,rfl,rfl,hlen⟩:=nr hb hr;exact ⟨A,_,cap,ns,hxe,⟨_,hpl⟩,hlen,rfl⟩
 ·split at hb
  ·rename_i id t sz rows hid
   obtain ⟨A,c,cells,h1,h2,h3,h4,h5,h6⟩:=s.hp.objs _ _ hid;obtain ⟨ns,rfl,rfl,hlen⟩:=nr hb h2;rw[h1] at h6;refine ⟨A,_,c,ns,?_,⟨fun _=>False,(d5 h6 (fun _ _ g=>g)).1⟩,hlen,rfl⟩;rw[(gn hx).1,h1];rfl
  ·cases hb
 ·cases hb
theorem yd (hT:bi P T=true) (s:St q N0 w0 Nf n ν0 σ h a w ν) {o:Oper} {c:Prop} {r:AV} {h':Heap} {m:Rn} (hf:kc T (ev σ) h o.op=some (c,r,h',m)) (hc:c)
 (hn:∀a' w' ν',St q N0 w0 Nf n ν0 ((σ.ren m).putO n o.dst r) h' a' w' ν'→next a' w'):o.wpIn (G ro) 0 P a w next Q:=by
 unfold kc at hf;split at hf
 ·rename_i op xt x y yt hop
  cases hs:yw op<;>rw[hs] at hf
  ·rw[cond_false] at hf
   have hx:=aD s x;have hy:=aD s y;have he:execOp a.eval o=(do pure (Next.value (←(do eqGuard op xt x y (a.eval x) (a.eval y);binOp op xt (a.eval x) (a.eval y))))):=by unfold execOp;rw[hop]
   have two:∀{k k':IntKind} {p b:Int} {z:Value} {r:AV},ev σ x= .d (.int k p)→ev σ y= .d (.int k' b)→(binOp op xt (.int k p) (.int k' b)).run P w= .ok z w→Rv w (nN N0 ν) ν [r] [z]→Looks P a w (nN N0 ν) ν o r:=by
    intro k k' p b z r e1 e2 hrun hr;rw[e1] at hx;rw[e2] at hy;rw[dj hx,dj hy] at he;refine ⟨z,aq he ?_,hr⟩;simp only[Sem.run_bind,ea op xt x y (.int k p) (.int k' b) (by simp) (by simp),Qab];exact hrun
   split at hf
   ·split at hf
    ·rename_i k p k' b e1 e2
     cases hk:fv k k'<;>rw[hk] at hf
     ·cases hf
     ·simp only[cond_true,Qaa,Qac] at hf
      obtain ⟨rfl,rfl,rfl,rfl⟩:=hf;have:=kindEq_iff.1 hk;subst this;exact au s (two e1 e2 (z:= .int k (k.wrap (p.tdiv b))) (by simp only[binOp,ne_eq,not_true_eq_false,if_false,Op.intDiv];rw[if_neg hc];rfl) (.d (.int _ _ .nil) .nil)) (fun a' w' hs=>hn a' w' ν hs)
    ·cases hf
   ·split at hf
    ·rename_i k p k' b e1 e2
     cases hk:fv k k'<;>rw[hk] at hf
     ·cases hf
     ·simp only[cond_true,Qaa,Qac] at hf
      obtain ⟨rfl,rfl,rfl,rfl⟩:=hf;have:=kindEq_iff.1 hk;subst this;exact au s (two e1 e2 (z:= .int k (p.tmod b)) (by simp only[binOp,ne_eq,not_true_eq_false,if_false,Op.intDiv];rw[if_neg hc];rfl) (.d (.int _ _ .nil) .nil)) (fun a' w' hs=>hn a' w' ν hs)
    ·cases hf
   ·split at hf
    ·rename_i p b e1 e2
     simp only[Qaa,Qac] at hf;obtain ⟨rfl,rfl,rfl,rfl⟩:=hf;rw[e1] at hx;rw[e2] at hy;obtain ⟨x1,x2⟩:=fN hx;obtain ⟨y1,y2⟩:=fN hy;rw[x1,y1] at he;refine au s ⟨.string (fI (p++b)),aq he ?_,.d (.str _ (by rw[Qae];exact hc) .nil) .nil⟩ (fun a' w' hs=>hn a' w' ν hs);simp only[Sem.run_bind,ea .add xt x y (.string (fI p)) (.string (fI b)) (by simp) (by simp),Qab];simp only[binOp,Op.stringOp]
     rw[if_neg (by
       have e1:(fI p).size=p.length:=rfl;have e2:(fI b).size=b.length:=rfl;rw[e1,e2];have:IntKind.i64.max=9223372036854775807:=by decide
       rw[this];unfold big at hc;omega),Ce]
     rfl
    ·cases hf
   ·cases hf
  ·rw[cond_true] at hf
   split at hf
   ·rename_i k p k' b e1 e2
    simp only[Qaa,Qac] at hf;obtain ⟨rfl,rfl,rfl,rfl⟩:=hf;have hx:=aD s x;have hy:=aD s y;rw[e1] at hx;rw[e2] at hy;have he:execOp a.eval o=(do pure (Next.value (←(do eqGuard op xt x y (a.eval x) (a.eval y);binOp op xt (a.eval x) (a.eval y))))):=by unfold execOp;rw[hop]
    rw[dj hx,dj hy] at he;refine au s ⟨.int k (FS op k p b),aq he ?_,.d (.int _ _ .nil) .nil⟩ (fun a' w' hs=>hn a' w' ν hs);simp only[Sem.run_bind,ea op xt x y (.int k p) (.int k' b) (by simp) (by simp),Qab];cases op<;>simp only[yw,reduceCtorEq] at hs;all_goals (simp only[binOp,Op.shift];rw[if_neg (by omega)];rfl)
   ·cases hf
 ·rename_i src dst x hop
  split at hf
  ·rename_i ts td s0 hts htd hbs
   split at hf
   ·rename_i e hk1 hk2
    split at hf
    ·rename_i te hte
     split at hf
     ·rename_i hk3
      simp only[Qaa,Qac] at hf;obtain ⟨rfl,rfl,rfl,rfl⟩:=hf;have hx:=aD s x;obtain ⟨A,n0,cap,ns,hxe,⟨M,hpl⟩,hlen,rfl⟩:=CN s hbs hx;have he:execOp a.eval o=(do pure (Next.value (←convert src dst (a.eval x)))):=by unfold execOp;rw[hop]
      refine au s ⟨.string (fI (ns.map fun n:Int=>UInt8.ofNat n.toNat)),aq he ?_,.d (.str _ hc .nil) .nil⟩ (fun a' w' hs=>hn a' w' ν hs);unfold convert;simp only[Sem.run_bind,run_underlying (db (ah hT hts) hk1),run_underlying (pJ (ah hT htd) hk2),Qab,hxe]
      cases A with
      |none=>
       have:ns=[]:=by
        rcases hpl with g|⟨b,ofs,g,_⟩
        ·simpa using g
        ·cases g
       subst this;simp only[Sem.run_bind,run_underlying (Cl (ah hT hte) hk3),Qab]
       rfl
      |some A=>
       simp only[Sem.run_bind,run_underlying (Cl (ah hT hte) hk3),Qab]
       have hl:(loadCells A n0).run P w= .ok (ns.map (Value.int .u8)).toArray w:=by
        have hcell:∀(j:Nat) v,(ns.map (Value.int .u8))[j]? =some v→w.cell? (A.add j)=some v:=by
         intro j v hv;rcases hpl with g|⟨b,ofs,g,_,hc2⟩
         ·rw[g] at hv;simp at hv
         ·injection g with g
          subst g;rw[Addr.add_lit];exact hc2 j v hv
        have:=run_loadCells_list (P:=P) w A (ns.map (Value.int .u8)) hcell;rw[List.length_map,hlen] at this;exact this
       rw[run_bytesToString w A n0 cap ns hl];have:=Am ns [];rw[QaC] at this;rw[←this];rfl
     ·cases hf
    ·cases hf
   ·cases hf
  ·cases hf
 ·rename_i t x lo hi hop
  split at hf
  ·rename_i ti str hti e1
   split at hf
   ·rename_i l u hk hlo hhi
    simp only[Qaa,Qac] at hf;obtain ⟨rfl,rfl,rfl,rfl⟩:=hf;obtain ⟨h0,h1,h2⟩:=hc;have hx:=aD s x;rw[e1] at hx;obtain ⟨hxe,hbig⟩:=fN hx;have he:execOp a.eval o=(do pure (Next.value (←Instr.sliceAt t (a.eval x) (lo.map a.eval) (hi.map a.eval) none))):=by unfold execOp;rw[hop];rfl
    have hu:=pJ (ah hT hti) hk;refine au s ⟨.string (fI ((str.take u.toNat).drop l.toNat)),aq he ?_,.d (.str _ ?_ .nil) .nil⟩ (fun a' w' hs=>hn a' w' ν hs)
    ·unfold Instr.sliceAt
     simp only[Sem.run_bind,run_underlying hu,Qab];unfold Instr.slice;simp only[Sem.run_bind,run_underlying hu,Qab,hxe,Qbi];have hb:=m3 (P:=P) s (b:=false) (len:=str.length) (cap:=str.length) hlo hhi h0 h1 (by omega) (Qam _);rw[show (fI str).size=str.length from rfl];simp[Sem.run_bind,hb,Sem.run_pure,An]
    ·simp only[Qan,Qai];omega
   ·cases hf
  ·rename_i ti rows hti e1
   split at hf
   ·rename_i e l u hk hlo hhi
    split at hf
    ·rename_i te hte
     simp only[Qaa,Qac] at hf;obtain ⟨rfl,rfl,rfl,rfl⟩:=hf;obtain ⟨h0,h1,h2,h3⟩:=hc;have hx:=aD s x;rw[e1] at hx;obtain ⟨A,cap,sz,cells,hxe,hr,hsz,hpl,hcap,hbig⟩:=im hx;have he:execOp a.eval o=(do pure (Next.value (←Instr.sliceAt t (a.eval x) (lo.map a.eval) (hi.map a.eval) none))):=by unfold execOp;rw[hop];rfl
     have hu:=db (ah hT hti) hk;have hb:=m3 (P:=P) s (b:=true) (len:=rows.length) (cap:=cap) hlo hhi h0 h1 (by omega) hcap;have hlu:l.toNat≤u.toNat:=by omega
     have hun:u.toNat≤rows.length:=by omega
     have hlen:((rows.take u.toNat).drop l.toNat).length=u.toNat - l.toNat:=by rw[Qan,Qai];omega
     have hread:Rd w (nN N0 ν) ((rows.take u.toNat).drop l.toNat).flatten ((cells.take (u.toNat*te.size)).drop (l.toNat*te.size)):=by
      rw[mD _ _ (fun r hr=>h3 r (QaA hr)),mC _ _ h3];exact (hr.take _).drop _
     refine au s ⟨.slice (if cap=l.toNat then A else A.map (·.add (l.toNat*te.size))) ((rows.take u.toNat).drop l.toNat).length (cap - l.toNat),aq he ?_,.d (.list _ _ _ te.size _ hread (fun r hr=>h3 r (QaA (Qby hr))) ?_ (by rw[hlen];omega) (by rw[hlen];omega) .nil) .nil⟩ (fun a' w' hs=>hn a' w' ν hs)
     ·unfold Instr.sliceAt
      simp only[Sem.run_bind,run_underlying hu,Qab];unfold Instr.slice;simp only[Sem.run_bind,run_underlying hu,Qab,hxe];simp only[hb,Qab,bI (ah hT hte),Sem.run_pure,hlen]
     ·by_cases hz:(cells.take (u.toNat*te.size)).drop (l.toNat*te.size)=[]
      ·exact .inl hz
      ·have hcl:cells.length=rows.length*te.size:=by
        have h4:=hr.length;have h6:rows.flatten.length=rows.length*te.size:=AZ rows h3;omega
       have hpos:l.toNat*te.size<u.toNat*te.size:=by
        refine Nat.lt_of_not_le fun hle=>hz ?_;rw[QaK];rw[Qai];omega
       have hlt:l.toNat<u.toNat:=Nat.lt_of_mul_lt_mul_right hpos;rw[if_neg (by omega)];rcases hpl with hpl|⟨b,ofs,rfl,hN,hc2⟩
       ·rw[hpl] at hz;simp at hz
       ·refine .inr ⟨b,ofs+l.toNat*te.size,by simp[Addr.add_lit],hN,fun j v hv=>?_⟩
        rw[QaM,Qas] at hv;split at hv
        ·have:=hc2 _ _ hv
         rw[show ofs+l.toNat*te.size+j=ofs+(l.toNat*te.size+j) from by omega];exact this
        ·cases hv
    ·cases hf
   ·cases hf
  ·cases hf
 ·cases hf
end
end Go.Vc
end
section
namespace Go.Vc
section
variable {P:Program} {ro:Option Nat} {q:Md} {T:List (Nat×TI)} {N0 Nf:Nat→Prop} {w0 w w':World} {n:Nat} {σ:Env} {h:Heap} {a:Act} {ν ν' ν0:Nat→Value} {Q:Exit→Act→World→Prop} {next:Act→World→Prop}
theorem St.set (s:St q N0 w0 Nf n ν0 σ h a w ν) {id b:Nat} (hb:Ow (ν id) b) (hk:Kp (fun x=>x=b) w w') {o:AO} (hr:Ro w' (nN N0 ν) ν id o):
 St q N0 w0 Nf n ν0 σ (h.set id o) a w' ν:=by
 have hold:∀c,c<w.heap.size→c≠b→w'.heap[c]? =w.heap[c]? :=fun c hc hne=>hk.blk c hc hne;have m:Mv w (nN N0 ν) w' (nN N0 ν):=⟨hk.size,fun c hc hN=>⟨hN,hold c hc (fun e=>hN (.inr ⟨id,by rw[e];exact hb⟩))⟩⟩
 refine ⟨fun k=>(s.slots k).mv m (fun _ _=>rfl),⟨?_,s.hp.inj,fun i c g=>Qbj (s.hp.bnd i c g) hk.size,s.hp.dom,fun c g=>Qbj (s.hp.n0 c g) hk.size,s.hp.dis,s.hp.lw.mv (fun c g hlt=>hold c hlt (fun e=>s.hp.dis id b hb (e▸g)))⟩,
  s.kp.trans hk (fun x hx e=>?_),s.fresh,s.size,s.defers.mv (fun c hc hn=>hold c hc (fun e=>hn id (by rw[e];exact hb))) (fun i c g=> .inl ⟨i,g⟩),s.keep,s.low⟩
 ·intro j o' hl
  simp only[Heap.set,gw] at hl;by_cases e:j=id
  ·subst e
   rw[if_pos rfl] at hl
   cases hq:Vc.look h.objs j with
   |none=>rw[hq] at hl;cases hl
   |some o''=>
    rw[hq] at hl;simp only[Qah,Qaa] at hl;subst hl;exact hr
  ·rw[if_neg e] at hl
   exact Ro.keep m (fun _ _=>rfl) (fun c g=>hold c (s.hp.bnd j c g) (fun e'=>e (s.hp.inj j id b (by rw[←e'];exact g) hb))) (s.hp.objs j o' hl)
 ·subst e
  rcases s.fresh id x hb with g|g
  ·omega
  ·exact g
theorem ey (s:St q N0 w0 Nf n ν0 σ h a w ν) (d:Option Nat) {r:AV} {v:Value} (hr:Rv w (nN N0 ν) ν [r] [v]):St q N0 w0 Nf n ν0 (σ.putO n d r) h (a.put d v) w ν:=
 s.seen (Kp.refl _ _) d hr
theorem jv (w:World) (b:Nat) (cs:Array Value):Kp (fun x=>x=b) w (w.setRow b cs):=
 ⟨rfl,rfl,rfl,by simp[World.setRow],fun c _ hc=>setRow_other w b c cs hc⟩
theorem jg {t:TypeId} {ti:TI} (k:fH P t ti) {b o:Nat} {arr:Array Value} {e:TypeId} (hb:w.heap[b]? =some (.cells arr e (0,0))) (v:Value) (hv:v.cells.size=ti.size) (h1:∀u∈v.cells.toList,u.oneCell'=true)
 (hfit:o+ti.size≤arr.size):(storeVar t ⟨b,o,none⟩ v).run P w= .ok () (w.setRow b (arr.toList.take o++v.cells.toList++arr.toList.drop (o+v.cells.toList.length)).toArray):=by
 have hst:=run_storeCells_at P b o e v.cells.toList 0 arr w hb (by simpa [hv] using hfit) h1;simp only[Nat.add_zero] at hst;unfold storeVar;simp only[Sem.run_bind,bI k,Qab];rw[if_neg (by simp[hv])];exact hst
theorem HU {N:Nat→Prop} {cs new:List AV} {xs ys:List Value} (h:Rv w N ν cs xs) (k:Rv w N ν new ys) (off:Nat):Rv w N ν (over cs off new) (xs.take off++ys++xs.drop (off+ys.length)):=by
 unfold over;rw[k.length];exact ((h.take off).append k).append (h.drop _)
structure lN (w:World) (v:Value) (e sz k m:Nat) (cells new:List Value) (v':Value) (w':World):Prop where
 own:w'.ownRow 0 e sz v' (k+m) (cells++new)
 os:w'.os=w.os
 tape:w'.tape=w.tape
 output:w'.output=w.output
 size:w.heap.size≤w'.heap.size
 blk:∀b,b<w.heap.size→bG v≠some b→w'.heap[b]? =w.heap[b]?
 val:bG v'=bG v∨∃b,bG v'=some b∧w.heap.size≤b
 form:∃A c,v'= .slice A (k+m) c
theorem kE {t ty e:TypeId} {te:TI} (k:fH P e te) (ht:P.underlying t=some (.slice e)) (A b:Option Addr) (len cap c:Nat) (hc:len≤cap):
 (Builtin.append_ #[t,t] ty #[.slice b len cap,.slice A 0 c]).run P w= .ok (.slice b len cap) w:=by
 obtain ⟨i,z,hi,_⟩:=k.info;unfold Builtin.append_;simp only[Qbc,Qat,QaU,Sem.run_bind,run_underlying ht,Qab,bI k,Sem.run_pure];cases A<;>cases b<;>simp[Builtin.lenOf,hc,Builtin.firstCells,loadCells,loadCellsFrom,storeCells]
theorem mc {t ty e:TypeId} {te:TI} (k:fH P e te) (ht:P.underlying t=some (.slice e)) (hsz:0<te.size) (hby:te.bytes≤131072) {v:Value} {len:Nat} {cells:List Value} (hown:w.ownRow 0 e te.size v len cells)
 {A:Option Addr} {m c:Nat} {new:List Value} (hl:new.length=m*te.size) (hA:m=0∨∃b o,A=some ⟨b,o,none⟩∧∀(j:Nat) u,new[j]? =some u→w.cell? ⟨b,o+j,none⟩=some u)
 (h1:∀u∈new,u.oneCell'=true) (hbig:len+m≤big):
 ∃v' w',(Builtin.append_ #[t,t] ty #[v,.slice A m c]).run P w= .ok v' w'∧lN w v e te.size len m cells new v' w':=by
 obtain ⟨i,z,hi,hs,hb,hz,hzz,hzs,_⟩:=k.info
 have hmul:(len+m)*te.bytes≤140737488355328:=by
  have:(len+m)*te.bytes≤1073741824*131072:=Nat.mul_le_mul (by unfold big at hbig;exact hbig) hby;omega
 have hm63:((len+m:Nat):Int)≤9223372036854775807:=by unfold big at hbig;omega
 have hmax:len+m≤maxLen:=by unfold big at hbig;unfold maxLen;omega
 have hkeep:m=0→new=[]:=fun e=>Qbf (by rw[hl,e,Qbd])
 have same:m=0→lN w v e te.size len m cells new v w:=by
  intro hm;have hn:=hkeep hm;subst hm hn;refine ⟨by simpa using hown,rfl,rfl,rfl,Qam _,fun _ _ _=>rfl,.inl rfl,?_⟩;rcases hown.2 with ⟨rfl,rfl⟩|⟨g,cap,cur,rfl,_⟩
  ·exact ⟨_,_,rfl⟩
  ·exact ⟨_,_,rfl⟩
 have grown:∀(old:Nat),old<len+m→hown.1=hown.1→
  lN w v e te.size len m cells new (.slice (some ⟨w.heap.size,0,none⟩) (len+m) (grownCap w (len+m) old e))
   (w.drew.alloc (.cells (cells.toArray++new.toArray++Builtin.zeroCells z.cells (grownCap w (len+m) old e - (len+m))) e)):=by
  intro old ho _;have hge:=grownCap_ge w (len+m) old e;have hcm:grownCap w (len+m) old e≤maxLen:=grownCap_le_maxLen w (len+m) old e hmax;have hlen:(cells++new).length=(len+m)*te.size:=by rw[Qae,hown.1,hl,Qak]
  refine ⟨⟨hlen,.inr ⟨w.heap.size,_,_,rfl,Qay _,dp w.drew _,hge,hcm,?_,?_⟩⟩,rfl,rfl,rfl,by rw[size_alloc];exact QbG _,fun b hb _=>gL w.drew _ b hb,
   .inr ⟨w.heap.size,rfl,Qam _⟩,_,_,rfl⟩
  ·simp only[Array.size_append,QaB,size_zeroCells,hzs,hown.1,hl,←Qak]
   refine Nat.le_of_eq ?_
   congr 1
   omega
  ·simp only[Array.toList_append,QaY]
   rw[←QaY,←hlen];exact Qaz
 rcases hA with hm|⟨b,o,rfl,hcells⟩
 ·subst hm
  refine ⟨v,w,?_,same rfl⟩;rcases hown.2 with ⟨rfl,rfl⟩|⟨g,cap,cur,rfl,_,_,hcap,_⟩
  ·exact kE k ht _ _ _ _ _ (Qam _)
  ·exact kE k ht _ _ _ _ _ hcap
 ·have hnews:∀j u,new[j]? =some u→w.cell? ((⟨b,o,none⟩:Addr).add j)=some u:=fun j u hu=>by rw[Addr.add_lit];exact hcells j u hu
  rcases hown.2 with ⟨rfl,rfl⟩|⟨g,cap,cur,rfl,_,hg,hcap,hcm,hcs,htake⟩
  ·by_cases hm:m=0
   ·subst hm
    refine ⟨_,w,?_,same rfl⟩;have hn:=hkeep rfl;subst hn;simp[Builtin.append_,run_underlying ht,sizeOf,typeInfo,hi,Builtin.lenOf,Builtin.firstCells,loadCells,loadCellsFrom]
   ·have hx:cells=[]:=Qbf (by simpa using hown.1)
    have hr:=run_append_nil (P:=P) w t ty e i z ht hi hz ⟨b,o,none⟩ m c new (by rw[hs];exact hl) hnews (by omega) (by omega) (by rw[hb];have hb:=hmul;simp only[QaG] at hb;omega);have hgr:=grown 0 (by omega) rfl;subst hx;simp only[QaG,QaC,Array.empty_append] at hgr hr ⊢;exact ⟨_,_,hr,by simpa using hgr⟩
  ·by_cases hroom:len+m≤cap
   ·have hfit:len*te.size+new.length≤cur.size:=by rw[hl,←Qak];exact Nat.le_trans (QaH _ hroom) hcs
    have hr:=run_append_room (P:=P) w t ty e i ht hi g len cap cur hg ⟨b,o,none⟩ m c new (by rw[hs];exact hl) hnews h1 hroom (by rw[hs];exact hfit);rw[hs] at hr;refine ⟨_,_,hr,⟨?_,rfl,rfl,rfl,by simp[World.setRow],fun x hx hne=>setRow_other w g x _ (fun e=>hne (by simp[bG,e])),.inl rfl,_,_,rfl⟩⟩;have hlen:(cells++new).length=(len+m)*te.size:=by rw[Qae,hown.1,hl,Qak]
    refine ⟨hlen,.inr ⟨g,cap,_,rfl,Qay _,setRow_heap w g cur _ e _ hg,hroom,hcm,?_,?_⟩⟩
    ·simp only[QaB,Qae,Qai,Qan,QaE]
     omega
    ·rw[htake,←hlen]
     exact Qaz
   ·have holds:∀j u,cells[j]? =some u→w.cell? ((⟨g,0,none⟩:Addr).add j)=some u:=by
     intro j u hu;rw[Addr.add_lit,←htake,Qas] at*;split at hu
     ·simpa [World.cell?,hg] using hu
     ·cases hu
    have hr:=run_append_grow (P:=P) w t ty e i z ht hi hz ⟨g,0,none⟩ len cap cells (by rw[hs];exact hown.1) holds ⟨b,o,none⟩ m c new (by rw[hs];exact hl) hnews (by omega) hm63 (growslice_fits (by omega) (by rw[hb];exact hmul));exact ⟨_,_,hr,grown cap (by omega) rfl⟩
theorem St.grow (s:St q N0 w0 Nf n ν0 σ h a w ν) {id e sz:Nat} {rows new:List (List D)} {cells ncells:List Value} {v':Value} (hid:Vc.look h.objs id=some (.row e sz rows)) (hfx:q.fx=true→h.lo≤id)
 (ha:lN w (ν id) e sz rows.length new.length cells ncells v' w') (hcells:Rd w (nN N0 ν) (rows++new).flatten (cells++ncells)) (hl:∀r∈rows++new,r.length=sz) (hb:rows.length+new.length≤big) (hsz:0<sz) (hs:∃A k c,ν id= .slice A k c) (d:Option Nat):
 ∃ν',St q N0 w0 Nf n ν0 ((Env.sub id .any σ).putO n d (.own id)) ⟨gm id (.row e sz (rows++new)) (vh id .any h.objs),h.nx,h.lo⟩ (a.put d v') w' ν':=by
 obtain ⟨A',c',hform⟩:=ha.form;have hne:ν id≠undef:=by obtain ⟨A,k,c,e⟩:=hs;rw[e];simp[undef]
 have hlt:id<h.nx:=by
  rcases Qa6 id h.nx with g|g
  ·exact g
  ·exact absurd (s.hp.dom id g) hne
 have how:∀b,Ow (ν id) b↔bG (ν id)=some b:=by obtain ⟨A,k,c,e⟩:=hs;rw[e];exact fun b=>ow_slice
 have howv:∀b,Ow v' b↔bG v'=some b:=by rw[hform];exact fun b=>ow_slice
 have hup:∀j b,Ow (dw ν id v' j) b→(j=id∧bG v'=some b)∨(j≠id∧Ow (ν j) b):=by
  intro j b g;by_cases e:j=id
  ·exact .inl ⟨e,(howv b).1 (by simpa [dw,e] using g)⟩
  ·exact .inr ⟨e,by simpa [dw,e] using g⟩
 have hν:∀j,j≠id→ν j≠undef→dw ν id v' j=ν j:=fun j e _=>by simp[dw,e]
 have hk:Kp (fun b=>Ow (ν id) b) w w':=⟨ha.os,ha.tape,ha.output,ha.size,fun b hb hn=>ha.blk b hb (fun g=>hn ((how b).2 g))⟩;have hby:∀(m:Mv w (nN N0 ν) w' (nN N0 (dw ν id v'))) A k c,ac (ν id)= .slice A k c→Rv w' (nN N0 (dw ν id v')) (dw ν id v') [.any] [.slice A k c]:=fun _ _ _ _ _=> .any _ .nil
 have hvb:∀b,bG v'=some b→Ow (ν id) b∨w.heap.size≤b:=by
  intro b g;rcases ha.val with e|⟨b',e,hb'⟩
  ·rw[e] at g;exact .inl ((how b).2 g)
  ·rw[e] at g;injection g with g;right;omega
 refine ⟨dw ν id v',s.turn (fun b=>Ow (ν id) b) (fun b g=>⟨id,g⟩) hk (fun m=>?_) (fun m=>?_) ?_ ?_ ?_ (e9 _ _ _) (dq _ _ _) ⟨fun j h1 h2=>?_,fun hf j h1=>?_⟩ rfl (Qam _)⟩
 ·refine dA (fun k=>mJ m hν (hby m) (s.slots k)) s.size d ?_
  rw[hform];exact .own (by simp[dw,hform,ac]) .nil
 ·intro j o' hlk
  simp only[gw,p9] at hlk;by_cases e1:j=id
  ·subst e1
   rw[if_pos rfl,hid] at hlk;simp only[Qah,Qaa] at hlk;subst hlk;refine ⟨A',c',cells++ncells,by simp[dw,hform],hcells.mv m,hl,by simpa using hb,hsz,?_⟩;have:=ha.own;simpa [dw] using this
  ·rw[if_neg e1] at hlk
   cases hq:Vc.look h.objs j with
   |none=>rw[hq] at hlk;cases hlk
   |some o''=>
    rw[hq] at hlk;simp only[Qah,Qaa] at hlk;subst hlk;exact uG m hν (hby m) e1 (fun b g=>ha.blk b (s.hp.bnd j b g) (fun g'=>e1 (s.hp.inj j id b g ((how b).2 g')))) (s.hp.objs j o'' hq)
 ·intro i j b g1 g2
  rcases hup i b g1 with ⟨e1,g1⟩|⟨e1,g1⟩<;>rcases hup j b g2 with ⟨e2,g2⟩|⟨e2,g2⟩
  ·rw[e1,e2]
  ·rcases hvb b g1 with g|g
   ·rw[e1];exact s.hp.inj id j b g g2
   ·have:=s.hp.bnd j b g2;omega
  ·rcases hvb b g2 with g|g
   ·rw[e2];exact s.hp.inj i id b g1 g
   ·have:=s.hp.bnd i b g1;omega
  ·exact s.hp.inj i j b g1 g2
 ·intro j b g
  rcases hup j b g with ⟨_,g⟩|⟨_,g⟩
  ·refine ⟨i0 ha.own b g,?_⟩
   rcases hvb b g with g|g
   ·exact .inl ⟨id,g⟩
   ·exact .inr g
  ·exact ⟨Qbj (s.hp.bnd j b g) ha.size,.inl ⟨j,g⟩⟩
 ·intro j hj
  simp only at hj;have:j≠id:=by omega
  simpa [dw,this] using s.hp.dom j hj
 ·by_cases e:j=id
  ·subst e
   obtain ⟨A,k,c,e⟩:=hs;exact absurd (by rw[←s.keep.1 j h1 h2,e];rfl) (h2 _ _ _)
  ·simp only[dw,e,if_false]
   exact s.keep.1 j h1 h2
 ·by_cases e:j=id
  ·subst e
   exact absurd (s.low.2 j (hfx hf)) h1
  ·simp only[dw,e,if_false]
   exact s.keep.2 hf j h1
theorem St.growT (s:St q N0 w0 Nf n ν0 σ h a w ν) {id nx e sz:Nat} {fs:List NT} {rows new:List (List D)} {root v':Value} {cells ncells βs γs:List Value} {b1 b2 ks:List Nat} (hnx:h.nx≤nx) (hid:id<nx)
 (hbnd:∀b∈b1,b<w.heap.size) (hown1:∀b,bG root=some b∨b∈b1→Ow (ν id) b) (hrb:∀b,bG root=some b→b ∉ b1∧∀k∈ks,¬Ow (ν k) b) (hn1:b1.Nodup) (hT1:Tr w (List.replicate rows.length fs).flatten rows.flatten cells βs b1)
 (hT2:Tr w (List.replicate new.length fs).flatten new.flatten ncells γs b2) (hk2:Taken N0 w ν ks b2) (hn2:ks.Nodup) (hidk:id ∉ ks) (hfx:q.fx=true→h.lo≤id) (hk0:ν0 id≠undef→∃A n c,ac (ν0 id)= .slice A n c)
 (ha:lN w root e sz rows.length new.length cells ncells v' w') (hl:∀r∈rows++new,r.length=sz) (hf:fs.length=sz) (hb:rows.length+new.length≤big) (hsz:0<sz)
 {fz:List Nat} (hfz:id∈fz∨ν id=undef) {objs:List (Nat×AO)}
 (hobjs:∀j o',Vc.look objs j=some o'→(j=id∧o'= .tree e sz fs (rows++new))∨(j≠id∧j ∉ ks∧∃o'',Vc.look h.objs j=some o''∧o'=o''.map' (jK fz))) (d:Option Nat):
 ∃ν',St q N0 w0 Nf n ν0 ((Env.ren (.tsub fz) σ).putO n d (.own id)) ⟨objs,nx,h.lo⟩ (a.put d v') w' ν':=by
 obtain ⟨A',c',hform⟩:=ha.form
 have hvb:∀b,bG v'=some b→bG root=some b∨w.heap.size≤b:=by
  intro b g;rcases ha.val with e|⟨b',e,hb'⟩
  ·rw[e] at g;exact .inl g
  ·rw[e] at g;injection g with g;right;omega
 have hb2:∀b∈b2,b<w.heap.size:=hT2.bnd
 have hold:∀b,b∈b1∨b∈b2→w'.heap[b]? =w.heap[b]? :=fun b g=>ha.blk b (g.elim (hbnd b) (hb2 b)) (fun e=>by
  obtain ⟨h1,h2⟩:=hrb b e;rcases g with g|g
  ·exact h1 g
  ·obtain ⟨k,hk,ho⟩:=hk2.own b g
   exact h2 k hk ho)
 have hT:Tb w' e sz fs (rows++new) (.tuple (.slice A' (rows++new).length c'::(βs++γs)).toArray) ((bG (.slice A' (rows++new).length c')).toList++(b1++b2)):=by
  refine ⟨A',c',cells++ncells,_,_,rfl,rfl,?_,hl,hf,hsz,by rw[Qae];exact hb,?_⟩
  ·have:=(hT1.keep (w':=w') fun b g=>hold b (.inl g)).append (hT2.keep (w':=w') fun b g=>hold b (.inr g))
   rw[Qae,←Qau,Qav,Qav];exact this
  ·rw[Qae,←hform];exact ha.own
 have hdis:∀b∈b1,b ∉ b2:=fun b g1 g2=>by
  obtain ⟨k,hk,ho⟩:=hk2.own b g2;have:=s.hp.inj _ _ b (hown1 b (.inr g1)) ho;subst this;exact hidk hk
 have hv':v'= .slice A' (rows++new).length c':=by rw[hform,Qae]
 rw[←hv'] at hT
 refine ⟨_,s.absorb (id:=id) (nx:=nx) (ks:=ks) (fz:=fz) (o:= .tree e sz fs (rows++new)) hnx hid ⟨ha.os,ha.tape,ha.output,ha.size,fun b hb' hn=>ha.blk b hb' (fun g=>hn (hown1 b (.inl g)))⟩ (fun b g=>?_) hk2.root hidk (hfz.elim .inl (fun g=> .inr (.inl g)))
  (fun hu=>⟨hk0 hu,fun hf=>absurd (s.low.2 id (hfx hf)) hu⟩) (fun m=>⟨_,by rw[ee];exact hT,?_⟩) hobjs d (fun m=>?_)⟩
 ·have g:=(hT.ow b).1 g
  refine ⟨hT.bnd b g,?_⟩;simp only[QbO,Qbl] at g;rcases g with g|g|g
  ·rcases hvb b g with g|g
   ·exact .inl (hown1 b (.inl g))
   ·exact .inr (.inr g)
  ·exact .inl (hown1 b (.inr g))
  ·exact .inr (.inl (hk2.own b g))
 ·refine List.nodup_append.2 ⟨by cases bG v'<;>simp,List.nodup_append.2 ⟨hn1,hk2.nodup hn2,fun b g1 c g2 e=>hdis b g1 (e▸g2)⟩,fun b g1 c g2 e=>?_⟩
  subst e;simp only[Qbl] at g1;rcases hvb b g1 with g|g
  ·obtain ⟨h1,h2⟩:=hrb b g
   rcases List.mem_append.1 g2 with g2|g2
   ·exact h1 g2
   ·obtain ⟨k,hk,ho⟩:=hk2.own b g2
    exact h2 k hk ho
  ·rcases List.mem_append.1 g2 with g2|g2
   ·have:=hbnd b g2;omega
   ·have:=hb2 b g2;omega
 ·rw[hv']
  exact .own (by rw[ee];rfl) .nil
end
end Go.Vc
end
section
namespace Go.Vc
section
variable {P:Program} {ro:Option Nat} {q:Md} {T:List (Nat×TI)} {N0 Nf:Nat→Prop} {w0 w w':World} {n:Nat} {σ:Env} {h:Heap} {a:Act} {ν ν' ν0:Nat→Value} {Q:Exit→Act→World→Prop} {next:Act→World→Prop}
 {K:AV→Heap→Rn→Prop}
theorem Gw (l:Bs):(fI l).size=l.length:=rfl
theorem iq {o:Oper} {c:Call} {b:Builtin} (hop:o.op= .call c) (hc:c.callee= .builtin b):
 execOp a.eval o=builtin b c.argTypes o.type (c.args.map fun| .const _=>true|_=>false) (c.args.map a.eval):=by
 unfold execOp;rw[hop];simp only[resolve,hc];rfl
theorem Ez (s:St q N0 w0 Nf n ν0 σ h a w ν) {id e sz:Nat} {rows:List (List D)} (hid:Vc.look h.objs id=some (.row e sz rows)):∃A c,ν id= .slice A rows.length c:=by
 obtain ⟨A,c,cells,h1,_⟩:=s.hp.objs _ _ hid;exact ⟨A,c,h1⟩
theorem zk (hT:bi P T=true) (s:St q N0 w0 Nf n ν0 σ h a w ν) {o:Oper} {c:Call} {x:Operand} {t:TypeId} {ti:TI} (hop:o.op= .call c) (hc:c.callee= .builtin .len) (hx:c.args.toList=[x]) (ht:c.argTypes.toList=[t])
 (hti:Vc.look T t=some ti) (hv:C1 ti.kind h (ev σ x) K) (hn:∀r h' m a' w' ν',K r h' m→St q N0 w0 Nf n ν0 ((σ.ren m).putO n o.dst r) h' a' w' ν'→next a' w'):o.wpIn (G ro) 0 P a w next Q:=by
 have e1:c.args= #[x]:=by apply Array.ext';simpa using hx
 have e2:c.argTypes= #[t]:=by apply Array.ext';simpa using ht
 have he:∀v,(Builtin.len_ #[t] o.type #[a.eval x]).run P w= .ok v w→(execOp a.eval o).run P w= .ok (.value v) w:=by
  intro v hv;rw[iq hop hc,e1,e2];simp only[builtin,Sem.run_bind,Qbb,Qax,Qbp,hv,Qab,Sem.run_pure]
 have hxx:=aD s x;have k:=ah hT hti;unfold C1 at hv;split at hv
 ·rename_i l hk e
  rw[e] at hxx;obtain ⟨e3,_⟩:=fN hxx;refine au s ⟨_,he (.int .i64 l.length) ?_,.d (.int _ _ .nil) .nil⟩ (fun a' w' hs=>hn _ _ (.sub []) a' w' ν hv hs);rw[e3];unfold Builtin.len_;simp[run_underlying (pJ k hk),goInt,Gw]
 ·rename_i e' l hk e
  rw[e] at hxx;obtain ⟨A,cap,sz,cells,e3,_⟩:=im hxx;refine au s ⟨_,he (.int .i64 l.length) ?_,.d (.int _ _ .nil) .nil⟩ (fun a' w' hs=>hn _ _ (.sub []) a' w' ν hv hs);rw[e3];unfold Builtin.len_;simp[run_underlying (db k hk),goInt]
 ·rename_i e' hk e
  rw[e] at hxx;have e3:=fO hxx;refine au s ⟨_,he (.int .i64 0) ?_,.d (.int _ _ .nil) .nil⟩ (fun a' w' hs=>hn _ _ (.sub []) a' w' ν hv hs);rw[e3];unfold Builtin.len_;simp[run_underlying (db k hk),goInt]
 ·rename_i e' id hk e
  rw[e] at hxx;split at hv
  ·rename_i et sz rows hid
   obtain ⟨e3,_⟩:=gn hxx;obtain ⟨A,cap,e4⟩:=Ez s hid;refine au s ⟨_,he (.int .i64 rows.length) ?_,.d (.int _ _ .nil) .nil⟩ (fun a' w' hs=>hn _ _ (.sub []) a' w' ν hv hs);rw[e3,e4];simp only[ac];unfold Builtin.len_;simp[run_underlying (db k hk),goInt]
  ·rename_i et sz fs rows hid
   obtain ⟨e3,_⟩:=gn hxx;obtain ⟨bs,hT,_⟩:=s.hp.objs _ _ hid;obtain ⟨A,cap,e4⟩:=hT.root;refine au s ⟨_,he (.int .i64 rows.length) ?_,.d (.int _ _ .nil) .nil⟩ (fun a' w' hs=>hn _ _ (.sub []) a' w' ν hv hs);rw[e3,e4];unfold Builtin.len_;simp[run_underlying (db k hk),goInt]
  ·exact hv.elim
 ·rename_i e' A m cap hk e
  rw[e] at hxx;have e3:=eu hxx;refine au s ⟨_,he (.int .i64 m) ?_,.d (.int _ _ .nil) .nil⟩ (fun a' w' hs=>hn _ _ (.sub []) a' w' ν hv hs);rw[e3];unfold Builtin.len_;simp[run_underlying (db k hk),goInt]
 ·exact hv.elim
theorem CW (s:St q N0 w0 Nf n ν0 σ h a w ν) {x:AV} {v:Value} (hx:Rv w (nN N0 ν) ν [x] [v]) {new:List (List D)} (ha:y5 h.objs x=some new) {sz:Nat} (hsz:0<sz) (hl:∀r∈new,r.length=sz):
 ∃A c cells,v= .slice A new.length c∧Rd w (nN N0 ν) new.flatten cells∧cells.length=new.length*sz∧(new.length=0∨∃b o,A=some ⟨b,o,none⟩∧∀(j:Nat) u,cells[j]? =some u→w.cell? ⟨b,o+j,none⟩=some u):=by
 have hlen:∀(l:List (List D)),(∀r∈l,r.length=sz)→l.flatten.length=l.length*sz:=by
  intro l hl
  induction l with
  |nil=>simp
  |cons r l ih=>simp only[Qaf,Qae,Qaq];rw[hl r Qao,ih (fun x hx=>hl x (Qal _ hx)),Qak];omega
 unfold y5 at ha;split at ha
 ·rename_i rows
  simp only[Qaa] at ha;subst ha;obtain ⟨A,cap,sz',cells,h1,h2,h3,h4,h5,h6⟩:=im hx;have hc:cells.length=rows.length*sz:=by rw[h2.length,hlen _ hl]
  refine ⟨A,cap,cells,h1,h2,hc,?_⟩;rcases h4 with g|⟨b,o,g,_,g2⟩
  ·rw[g] at hc
   left;rcases Nat.mul_eq_zero.1 hc.symm with e|e
   ·exact e
   ·omega
  ·exact .inr ⟨b,o,g,g2⟩
 ·simp only[Qaa] at ha
  subst ha;have:=fO hx;exact ⟨none,0,[],this,.nil,by simp,.inl rfl⟩
 ·rename_i id
  split at ha
  ·rename_i e sz' rows hid
   simp only[Qaa] at ha;subst ha;obtain ⟨A,c,cells,h1,h2,h3,h4,h5,h6⟩:=s.hp.objs _ _ hid;obtain ⟨e3,_⟩:=gn hx;refine ⟨A,c,cells,by rw[e3,h1];rfl,h2,by rw[h2.length,hlen _ hl],?_⟩;rcases h6.2 with ⟨_,g⟩|⟨g,cap,cur,g1,_,g2,g3,_,g4,g5⟩
   ·exact .inl g
   ·rw[h1] at g1
    injection g1 with e1 e2 e3
    subst e1;refine .inr ⟨g,0,rfl,fun j u hu=>?_⟩;rw[←g5,Qas] at hu;split at hu
    ·simpa [World.cell?,g2] using hu
    ·cases hu
  ·cases ha
 ·cases ha
theorem Tb.split {w:World} {t sz:Nat} {fs:List NT} {rows:List (List D)} {β:Value} {bs:List Nat} (h:Tb w t sz fs rows β bs):
 ∃cells βs b1,bs=(bG (ac β)).toList++b1∧Tr w (List.replicate rows.length fs).flatten rows.flatten cells βs b1∧w.ownRow 0 t sz (ac β) rows.length cells∧(∃A c,ac β= .slice A rows.length c)∧
  fs.length=sz∧(∀r∈rows,r.length=sz)∧0<sz∧rows.length≤big:=by
 obtain ⟨A,cap,cells,βs',bs',rfl,rfl,h1,h2,h3,h4,h5,h6⟩:=h;exact ⟨cells,βs',bs',rfl,h1,h6,⟨A,cap,rfl⟩,h3,h2,h4,h5⟩
theorem Tb.splitV {w:World} {t sz:Nat} {fs:List NT} {rows:List (List D)} {β:Value} {bs:List Nat} (h:Tb w t sz fs rows β bs):
 ∃cells βs b1,β= .tuple (ac β::βs).toArray∧bs=(bG (ac β)).toList++b1∧Tr w (List.replicate rows.length fs).flatten rows.flatten cells βs b1∧w.ownRow 0 t sz (ac β) rows.length cells∧(∃A c,ac β= .slice A rows.length c)∧
  fs.length=sz∧(∀r∈rows,r.length=sz)∧0<sz∧rows.length≤big:=by
 obtain ⟨A,cap,cells,βs',bs',rfl,rfl,h1,h2,h3,h4,h5,h6⟩:=h;exact ⟨cells,βs',bs',rfl,rfl,h1,h6,⟨A,cap,rfl⟩,h3,h2,h4,h5⟩
theorem EM {w:World} {t sz k c:Nat} {A:Option Addr} {cells:List Value} (h:w.ownRow 0 t sz (.slice A k c) k cells):k=0∨∃b o,A=some ⟨b,o,none⟩∧∀(j:Nat) u,cells[j]? =some u→w.cell? ⟨b,o+j,none⟩=some u:=by
 obtain ⟨p1,p2⟩:=d5 (N:=fun _=>False) h (fun _ _ g=>g);rcases h.2 with ⟨_,g⟩|⟨g,cap,cur,e,_,g2,g3,_,g4,g5⟩
 ·exact .inl g
 ·injection e with e1 e2 e3
  subst e1;refine .inr ⟨g,0,rfl,fun j u hu=>?_⟩;rw[←g5,Qas] at hu;split at hu
  ·simpa [World.cell?,g2] using hu
  ·cases hu
theorem BE (hp:Hp N0 w ν h) {te:TI} {x y:AV} {v:Value} {fs:List NT} {new:List (List D)} {ks:List Nat} {cp:Bool} (ht:nI te h.objs x y=some (fs,new,ks,cp)) (hy:Rv w (nN N0 ν) ν [y] [v]) {sz:Nat} (hsz:0<sz) (hf:fs.length=sz)
 (hcp:cp=true→∀r∈new,gM sz r):
 ∃A c cells γs b2,v= .slice A new.length c∧Tr w (List.replicate new.length fs).flatten new.flatten cells γs b2∧Taken N0 w ν ks b2∧ks.Nodup∧(∀r∈new,r.length=sz)∧cells.length=new.length*sz∧
  (new.length=0∨∃b o,A=some ⟨b,o,none⟩∧∀(j:Nat) u,cells[j]? =some u→w.cell? ⟨b,o+j,none⟩=some u)∧
  (∀id,x= .own id→id ∉ ks∧∃t sz rows,look h.objs id=some (.tree t sz fs rows)):=by
 have tree:∀{k t' sz':Nat} {fs':List NT} {new:List (List D)},look h.objs k=some (.tree t' sz' fs' new)→fs'=fs→y= .own k→
  ∃A c cells γs b2,v= .slice A new.length c∧Tr w (List.replicate new.length fs).flatten new.flatten cells γs b2∧Taken N0 w ν [k] b2∧[k].Nodup∧(∀r∈new,r.length=sz)∧cells.length=new.length*sz∧
  (new.length=0∨∃b o,A=some ⟨b,o,none⟩∧∀(j:Nat) u,cells[j]? =some u→w.cell? ⟨b,o+j,none⟩=some u):=by
  rintro k t' sz' fs' new hk rfl rfl;obtain ⟨bs,hT,hnd⟩:=hp.objs _ _ hk;obtain ⟨cells,βs,b1,rfl,h1,h2,⟨A,c,h3⟩,h4,h5,h6,h7⟩:=hT.split;have hv:v=ac (ν k):=(gn hy).1;rw[h3] at h2;have e:sz'=sz:=by omega
  subst e;refine ⟨A,c,cells,βs,b1,by rw[hv,h3],h1,⟨fun b hb=>⟨k,List.mem_singleton.2 rfl,(hT.ow b).2 (Qaw _ hb)⟩,fun j hj=>?_,fun _=>(List.nodup_append.1 hnd).2.1⟩,by simp,h5,h2.1,EM h2⟩;rw[List.mem_singleton.1 hj];exact ⟨A,_,c,h3⟩
 have copy:∀{new:List (List D)},bk fs=true→y= .d (.list new)→(∀r∈new,gM sz r)→
  ∃A c cells γs b2,v= .slice A new.length c∧Tr w (List.replicate new.length fs).flatten new.flatten cells γs b2∧Taken N0 w ν [] b2∧([]:List Nat).Nodup∧(∀r∈new,r.length=sz)∧cells.length=new.length*sz∧
  (new.length=0∨∃b o,A=some ⟨b,o,none⟩∧∀(j:Nat) u,cells[j]? =some u→w.cell? ⟨b,o+j,none⟩=some u):=by
  rintro new hl rfl hfl;obtain ⟨A,cap,sz',cells,h1,h2,h3,h4,h5,h6⟩:=im hy
  have hlen:cells.length=new.length*sz:=by
   have:=(pg hl hf hfl h2).len.2.1;rw[this,Qa4,Qa7,QaW,hf]
  refine ⟨A,cap,cells,[],[],h1,pg hl hf hfl h2,.nil,Qbg,fun r hr=>(hfl r hr).1,hlen,?_⟩;rcases h4 with g|⟨b,o,g,_,g2⟩
  ·rw[g] at hlen
   left;rcases Nat.mul_eq_zero.1 hlen.symm with e|e
   ·exact e
   ·omega
  ·exact .inr ⟨b,o,g,g2⟩
 have none_:y= .nils→∃A c cells γs b2,v= .slice A ([]:List (List D)).length c∧Tr w (List.replicate ([]:List (List D)).length fs).flatten ([]:List (List D)).flatten cells γs b2∧Taken N0 w ν [] b2∧([]:List Nat).Nodup∧(∀r∈([]:List (List D)),r.length=sz)∧cells.length=([]:List (List D)).length*sz∧
  (([]:List (List D)).length=0∨∃b o,A=some ⟨b,o,none⟩∧∀(j:Nat) u,cells[j]? =some u→w.cell? ⟨b,o+j,none⟩=some u):=by
  rintro rfl;exact ⟨none,0,[],[],[],fO hy,.nil,.nil,Qbg,by simp,by simp,.inl rfl⟩
 cases y with
 |own k=>
  simp only[nI] at ht
  cases hk:look h.objs k with
  |none=>rw[hk] at ht;cases ht
  |some o=>
   rw[hk] at ht
   cases o with
   |tree t' sz' fs' new'=>
    simp only at ht
    cases x with
    |own id=>
     simp only at ht
     cases hid:look h.objs id with
     |none=>rw[hid] at ht;cases ht
     |some o1=>
      rw[hid] at ht
      cases o1 with
      |tree t1 sz1 fs1 rows1=>
       simp only at ht;cases hc:(iM fs1 fs'&& !(QaS k id))<;>rw[hc] at ht
       ·cases ht
       ·simp only[cond_true,Qaa,Qac] at ht
        obtain ⟨rfl,rfl,rfl,rfl⟩:=ht;simp only[Qag,QbE] at hc;have e:=w6 hc.1;obtain ⟨A,c,cells,γs,b2,g1,g2,g3,g4,g5,g6,g7⟩:=tree hk e.symm rfl;refine ⟨A,c,cells,γs,b2,g1,g2,g3,g4,g5,g6,g7,fun i hi=>?_⟩;injection hi with hi
        subst hi;refine ⟨fun g=>?_,_,_,_,hid⟩;rw[List.mem_singleton.1 g,ga] at hc
        cases hc.2
      |_=>cases ht
    |nils=>
     simp only[Qaa,Qac] at ht;obtain ⟨rfl,rfl,rfl,rfl⟩:=ht;obtain ⟨A,c,cells,γs,b2,g1,g2,g3,g4,g5,g6,g7⟩:=tree hk rfl rfl
     exact ⟨A,c,cells,γs,b2,g1,g2,g3,g4,g5,g6,g7,fun i hi=>by cases hi⟩
    |_=>cases ht
   |_=>cases ht
 |d z=>
  cases z with
  |list new'=>
   simp only[nI] at ht
   cases x with
   |own id=>
    simp only at ht
    cases hid:look h.objs id with
    |none=>rw[hid] at ht;cases ht
    |some o1=>
     rw[hid] at ht
     cases o1 with
     |tree t1 sz1 fs1 rows1=>
      simp only at ht;cases hc:bk fs1<;>rw[hc] at ht
      ·cases ht
      ·simp only[cond_true,Qaa,Qac] at ht
       obtain ⟨rfl,rfl,rfl,rfl⟩:=ht;obtain ⟨A,c,cells,γs,b2,g1,g2,g3,g4,g5,g6,g7⟩:=copy hc rfl (hcp rfl);refine ⟨A,c,cells,γs,b2,g1,g2,g3,g4,g5,g6,g7,fun i hi=>?_⟩;injection hi with hi
       subst hi
       exact ⟨by simp,_,_,_,hid⟩
     |_=>cases ht
   |nils=>
    simp only at ht
    cases hn:te.nts with
    |nil=>rw[hn] at ht;cases ht
    |cons f fs1=>
     rw[hn] at ht;simp only at ht;cases hc:bk (f::fs1)<;>rw[hc] at ht
     ·cases ht
     ·simp only[cond_true,Qaa,Qac] at ht
      obtain ⟨rfl,rfl,rfl,rfl⟩:=ht;obtain ⟨A,c,cells,γs,b2,g1,g2,g3,g4,g5,g6,g7⟩:=copy hc rfl (hcp rfl)
      exact ⟨A,c,cells,γs,b2,g1,g2,g3,g4,g5,g6,g7,fun i hi=>by cases hi⟩
   |_=>cases ht
  |_=>cases ht
 |nils=>
  simp only[nI] at ht
  cases x with
  |own id=>
   simp only at ht
   cases hid:look h.objs id with
   |none=>rw[hid] at ht;cases ht
   |some o1=>
    rw[hid] at ht
    cases o1 with
    |tree t1 sz1 fs1 rows1=>
     simp only[Qaa,Qac] at ht;obtain ⟨rfl,rfl,rfl,rfl⟩:=ht;obtain ⟨A,c,cells,γs,b2,g1,g2,g3,g4,g5,g6,g7⟩:=none_ rfl;refine ⟨A,c,cells,γs,b2,g1,g2,g3,g4,g5,g6,g7,fun i hi=>?_⟩;injection hi with hi
     subst hi
     exact ⟨by simp,_,_,_,hid⟩
    |_=>cases ht
  |nils=>
   simp only at ht
   cases hn:te.nts with
   |nil=>rw[hn] at ht;cases ht
   |cons f fs1=>
    rw[hn] at ht;simp only[Qaa,Qac] at ht;obtain ⟨rfl,rfl,rfl,rfl⟩:=ht;obtain ⟨A,c,cells,γs,b2,g1,g2,g3,g4,g5,g6,g7⟩:=none_ rfl
    exact ⟨A,c,cells,γs,b2,g1,g2,g3,g4,g5,g6,g7,fun i hi=>by cases hi⟩
  |_=>cases ht
 |_=>cases ht
theorem i7 {l:List (Nat×AO)} {id:Nat} {o:AO} {fz:List Nat} {j:Nat} {o':AO} (h:look ((id,o)::md fz l) j=some o'):(j=id∧o'=o)∨(j≠id∧j ∉ fz∧∃o'',look l j=some o''∧o'=o''.map' (jK fz)):=by
 simp only[look,lY] at h;by_cases ej:j=id
 ·subst ej
  rw[ga] at h;simp only[cond_true,Qaa] at h;exact .inl ⟨rfl,h.symm⟩
 ·rw[eQ ej] at h
  simp only[cond_false] at h
  cases hk:fz.any (QaS j) with
  |true=>rw[hk] at h;cases h
  |false=>
   rw[hk] at h;simp only[cond_false] at h
   cases hq:look l j with
   |none=>rw[hq] at h;cases h
   |some o''=>
    rw[hq] at h;simp only[Qah,Qaa] at h;exact .inr ⟨ej,(fun g=>by rw[anyN.2 g] at hk;cases hk),o'',rfl,h.symm⟩
theorem DC (s:St q N0 w0 Nf n ν0 σ h a w ν) {id:Nat} {A:Option Addr} {k c:Nat} (e:ac (ν id)= .slice A k c) (hu:ν0 id≠undef):∃A n c,ac (ν0 id)= .slice A n c:=by
 by_cases hsl:∃A k c,ac (ν0 id)= .slice A k c
 ·exact hsl
 ·have:=s.keep.1 id hu (fun A k c g=>hsl ⟨A,k,c,g⟩)
  rw[this] at e;exact ⟨_,_,_,e⟩
theorem sa (hT:bi P T=true) (s:St q N0 w0 Nf n ν0 σ h a w ν) {o:Oper} {c:Call} {x y:Operand} {t t2:TypeId} (hop:o.op= .call c) (hc:c.callee= .builtin .append) (hx:c.args.toList=[x,y]) (ht:c.argTypes.toList=[t,t2])
 (hv:jt T q.fx h t t2 (ev σ x) (ev σ y) K) (hn:∀r h' m a' w' ν',K r h' m→St q N0 w0 Nf n ν0 ((σ.ren m).putO n o.dst r) h' a' w' ν'→next a' w'):o.wpIn (G ro) 0 P a w next Q:=by
 have e1:c.args= #[x,y]:=by apply Array.ext';simpa using hx
 have e2:c.argTypes= #[t,t2]:=by apply Array.ext';simpa using ht
 have he:∀v w',(Builtin.append_ #[t,t2] o.type #[a.eval x,a.eval y]).run P w= .ok v w'→(execOp a.eval o).run P w= .ok (.value v) w':=by
  intro v w' hv;rw[iq hop hc,e1,e2];simp only[builtin,Sem.run_bind,Qbb,Qax,Qbp,hv,Qab,Sem.run_pure]
 have hxx:=aD s x;have hyy:=aD s y;unfold jt at hv;split at hv
 case h_2=>exact hv.elim
 rename_i ti hti;split at hv
 case h_2=>exact hv.elim
 rename_i e hk;split at hv
 case h_2=>exact hv.elim
 rename_i te hte;have hty:=db (ah hT hti) hk;have k:=ah hT hte;split at hv
 ·rename_i fs new ks cp htn
  obtain ⟨hc1,hcp,hv⟩:=hv;simp only[Qag] at hc1;obtain ⟨⟨⟨hc1,hc2⟩,hc3⟩,hc4⟩:=hc1;have:=Qad hc1;subst this;have hc2:=Qaj hc2;have hc3:0<te.size:=Qaj hc3;have hc4:=Qad hc4;obtain ⟨A,cc,ncells,γs,b2,f1,f2,f3,f4,f5,f6,f7,f8⟩:=BE s.hp htn hyy hc3 hc4 (fun e=>by rw[e] at hcp;exact hcp);have hone:=f2.one;split at hv
  ·rename_i id e3
   rw[e3] at hxx;obtain ⟨g1,A0,m0,c0,g2⟩:=gn hxx;obtain ⟨hidk,t1,sz1,rows1,hid1⟩:=f8 id e3;split at hv
   ·rename_i e' sz fs0 rows hid
    rw[hid] at hid1;injection hid1 with hid1
    injection hid1 with _ _ hfs _
    subst hfs;obtain ⟨hb1,hb2,hv⟩:=hv;have hv:=forceH_iff.1 hv;simp only[Qag] at hb1;have q1:=Qad hb1.1.1;have q2:=Qad hb1.1.2;subst q1 q2;have hfx:q.fx=true→h.lo≤id:=fun hf=>by have:=hb1.2;rw[hf] at this;exact Qaj (by simpa using this)
    obtain ⟨bs,hTb,hnd⟩:=s.hp.objs _ _ hid;obtain ⟨cells,βs,b1,rfl,h1,h2,⟨A',c',h3⟩,h4,h5,h6,h7⟩:=hTb.split;obtain ⟨v',w',r1,r2⟩:=mc (ty:=o.type) k hty hc3 hc2 h2 f6 f7 hone hb2
    have hid':id<h.nx:=by
     rcases Qa6 id h.nx with q|q
     ·exact q
     ·exact absurd (s.hp.dom id q) hTb.ne
    have hlk:∀k∈ks,k≠id:=fun k hk e=>hidk (e▸hk);obtain ⟨n1,n2,n3⟩:=List.nodup_append.1 hnd;have hbd:=hTb.bnd
    obtain ⟨ν',hs⟩:=s.growT (id:=id) (nx:=h.nx) (fz:=id::ks) (objs:=(id,.tree e te.size fs0 (rows++new))::md (id::ks) h.objs) (Qam _) hid' (fun b hb=>hbd b (Qaw _ hb))
     (fun b hb=>(hTb.ow b).2 (by rcases hb with hb|hb;exact Qa2 _ (by simp[hb]);exact Qaw _ hb))
     (fun b hb=>⟨fun g=>n3 b (by simp[hb]) b g rfl,fun k hk g=>hlk k hk (s.hp.inj _ _ b g ((hTb.ow b).2 (Qa2 _ (by simp[hb]))))⟩) n2 h1 f2 f3 f4 hidk hfx (DC s h3) r2
     (fun r hr=>(List.mem_append.1 hr).elim (h5 r) (f5 r)) hc4 hb2 hc3 (.inl (Qao ..)) (fun j o' ho=>by
       rcases i7 ho with g|⟨g1,g2,g3⟩
       ·exact .inl g
       ·exact .inr ⟨g1,fun g=>g2 (Qal _ g),g3⟩) o.dst
    refine bD (he v' w' ?_) (hn _ _ (.tsub (id::ks)) _ w' ν' hv hs);rw[g1,f1];exact r1
   ·exact hv.elim
  ·rename_i e3
   rw[e3] at hxx;have g1:=fO hxx;obtain ⟨hb2,hv⟩:=hv;have hv:=forceH_iff.1 hv;have hown:w.ownRow 0 e te.size (.slice none 0 0) 0 []:=⟨by simp,.inl ⟨rfl,rfl⟩⟩;obtain ⟨v',w',r1,r2⟩:=mc (ty:=o.type) k hty hc3 hc2 hown f6 f7 hone (by omega);have hu:=s.hp.dom h.nx (Qam _)
   have hnxk:h.nx ∉ ks:=fun g=>by
    obtain ⟨A,m,c,e⟩:=f3.root _ g;exact dc e hu
   obtain ⟨ν',hs⟩:=s.growT (id:=h.nx) (nx:=h.nx+1) (rows:=[]) (root:= .slice none 0 0) (cells:=[]) (βs:=[]) (b1:=[]) (fz:=ks) (objs:=(h.nx,.tree e te.size fs new)::md ks h.objs) (QbG _) (QbI _) (by simp)
    (by simp[bG]) (by simp[bG]) Qbg .nil f2 f3 f4 hnxk (fun _=>s.low.1) (fun hu'=>absurd (s.low.2 _ s.low.1) hu') r2 (by simpa using f5) hc4 (by simpa using hb2) hc3 (.inr hu) (fun j o' ho=>by
        rcases i7 ho with g|g
        ·exact .inl g
        ·exact .inr g) o.dst
   refine bD (he v' w' ?_) (hn _ _ (.tsub ks) _ w' ν' hv hs);rw[g1,f1];exact r1
  ·exact hv.elim
 ·split at hv
  case h_2=>exact hv.elim
  rename_i new hnew;obtain ⟨hc1,hl,hv⟩:=hv;simp only[Qag] at hc1;obtain ⟨⟨hc1,hc2⟩,hc3⟩:=hc1;have:=Qad hc1;subst this;have hc2:=Qaj hc2;have hc3:0<te.size:=Qaj hc3;obtain ⟨A,cc,ncells,f1,f2,f3,f4⟩:=CW s hyy hnew hc3 hl;split at hv
  ·rename_i id e3
   rw[e3] at hxx;obtain ⟨g1,A0,m0,c0,g2⟩:=gn hxx;split at hv
   ·rename_i e' sz rows hid
    obtain ⟨hb1,hb2,hv⟩:=hv;simp only[Qag] at hb1;have q1:=Qad hb1.1.1;have q2:=Qad hb1.1.2;subst q1 q2;have hfx:q.fx=true→h.lo≤id:=fun hf=>by have:=hb1.2;rw[hf] at this;exact Qaj (by simpa using this)
    obtain ⟨A',c',cells,h1,h2,h3,h4,h5,h6⟩:=s.hp.objs _ _ hid;obtain ⟨v',w',r1,r2⟩:=mc (ty:=o.type) k hty hc3 hc2 h6 f3 f4 f2.one hb2;obtain ⟨ν',hs⟩:=s.grow hid hfx r2 (by rw[Qav];exact h2.append f2) (fun r hr=>(List.mem_append.1 hr).elim (h3 r) (hl r)) hb2 hc3 ⟨_,_,_,h1⟩ o.dst;refine bD (he v' w' ?_) (hn _ _ (.sub [(id,.any)]) _ w' ν' hv hs);rw[g1,f1,s.hp.root hid];exact r1
   ·exact hv.elim
  ·rename_i e3
   rw[e3] at hxx;have g1:=fO hxx;obtain ⟨hb2,hv⟩:=hv;have hown:w.ownRow 0 e te.size (.slice none 0 0) 0 []:=⟨by simp,.inl ⟨rfl,rfl⟩⟩;obtain ⟨v',w',r1,r2⟩:=mc (ty:=o.type) k hty hc3 hc2 hown f3 f4 f2.one (by omega);obtain ⟨A',c',hf⟩:=r2.form;rw[QaG] at hf;have hk:Kp (fun _=>False) w w':=⟨r2.os,r2.tape,r2.output,r2.size,fun b hb _=>r2.blk b hb (by simp[bG])⟩;have hown':=r2.own;rw[QaG,QaC] at hown'
   obtain ⟨ν',hs⟩:=s.newRow hk (val:=v') (by rw[hf];simp[undef]) (fun b hb=>by
    have hb:bG v'=some b:=by rw[hf] at hb ⊢;exact ow_slice.1 hb
    refine ⟨?_,i0 hown' b hb⟩;rcases r2.val with g|⟨b',g,hb'⟩
    ·rw[g] at hb;cases hb
    ·rw[g] at hb;injection hb with hb;omega) hf f2 hl hb2 hc3 hown' o.dst
   refine bD (he v' w' ?_) (hn _ _ (.sub []) _ w' ν' hv hs);rw[g1,f1];exact r1
  ·exact hv.elim
end
end Go.Vc
end
section
namespace Go.Vc
section
variable {P:Program} {ro:Option Nat} {q:Md} {T:List (Nat×TI)} {N0 Nf:Nat→Prop} {w0 w w':World} {n:Nat} {σ:Env} {h:Heap} {a:Act} {ν ν' ν0:Nat→Value} {Q:Exit→Act→World→Prop} {next:Act→World→Prop}
 {K:AV→Heap→Rn→Prop}
theorem eE {sz:Nat}:∀(l:List (List D)),(∀r∈l,r.length=sz)→l.flatten.length=l.length*sz
 |[],_=>by simp
 |r::l,hl=>by
  simp only[Qaf,Qae,Qaq];rw[hl r Qao,eE l (fun x hx=>hl x (Qal _ hx)),Qak];omega
theorem jl (rows:List (List D)) {i:Nat} {row:List D} (hrow:rows[i]? =some row):rows.flatten=(rows.take i).flatten++(row++(rows.drop (i+1)).flatten):=by
 have hlt:i<rows.length:=(List.getElem?_eq_some_iff.1 hrow).1;have hd:rows.drop i=row::rows.drop (i+1):=by rw[Qbn hlt,(List.getElem?_eq_some_iff.1 hrow).2]
 conv=>lhs;rw[←QaN i rows,Qav,hd,Qaf]
theorem v8 {N:Nat→Prop} {rows:List (List D)} {cells:List Value} {sz:Nat} (h:Rd w N rows.flatten cells) (hl:∀r∈rows,r.length=sz) {i:Nat} {row:List D} (hrow:rows[i]? =some row):
 ∃c1 c3 c4,cells=c1++(c3++c4)∧c1.length=i*sz∧Rd w N (rows.take i).flatten c1∧Rd w N row c3∧Rd w N (rows.drop (i+1)).flatten c4∧c3.length=sz:=by
 rw[jl rows hrow] at h;obtain ⟨c1,c2,rfl,k1,k2⟩:=Rd.split h;obtain ⟨c3,c4,rfl,k3,k4⟩:=Rd.split k2;have hlt:i<rows.length:=(List.getElem?_eq_some_iff.1 hrow).1;refine ⟨c1,c3,c4,rfl,?_,k1,k3,k4,?_⟩
 ·rw[k1.length,eE _ (fun r hr=>hl r (QaA hr)),Qai,Nat.min_eq_left (by omega)]
 ·rw[k3.length];exact hl row (QaR hrow)
theorem Tr.none {w:World}:∀{k:Nat} {fs:List NT} {ds:List D} {cs βs:List Value} {bs:List Nat},Tr w (List.replicate k fs).flatten ds cs βs bs→bk fs=true→βs=[]∧bs=[]:=by
 have one:∀{gs:List NT} {ds:List D} {cs βs:List Value} {bs:List Nat},Tr w gs ds cs βs bs→bk gs=true→βs=[]∧bs=[]:=by
  intro gs ds cs βs bs h
  induction h with
  |nil=>intro _;exact ⟨rfl,rfl⟩
  |leaf d v h1 h2 _ ih=>intro hl;exact ih (by simpa [bk] using hl)
  |list _ _ _ _ _ _ _ _ _ _ _ _ _ _ _ _=>intro hl;simp[bk] at hl
  |dead _ _ _ _ _ _ _ _ _ _=>intro hl;simp[bk] at hl
 have app:∀{a b:List NT},bk a=true→bk b=true→bk (a++b)=true:=by
  intro a b ha hb
  induction a with
  |nil=>exact hb
  |cons f a ih=>
   cases f with
   |leaf=>simpa [bk] using ih (by simpa [bk] using ha)
   |list _ _ _=>simp[bk] at ha
 have repl:∀(k:Nat) {fs:List NT},bk fs=true→bk (List.replicate k fs).flatten=true:=by
  intro k fs hf
  induction k with
  |zero=>rfl
  |succ k ih=>rw[Qar,Qaf];exact app hf ih
 intro k fs ds cs βs bs h hf;exact one h (repl k hf)
theorem Tr.kinds {w:World} {fs:List NT} {ds:List D} {cs βs:List Value} {bs:List Nat} (h:Tr w fs ds cs βs bs):∀{t sz:Nat} {gs:List NT},NT.list t sz gs∈fs→gs.length=sz∧0<sz:=fun hm=>h.kindsL _ _ _ hm
theorem Tr.put {w:World} {fs:List NT} {ds:List D} {cs βs:List Value} {bs:List Nat} {p:Nat} (h:Tr w fs ds cs βs bs) {ds':List D} {vs' γs:List Value} {ns:List Nat} (hk:p+ds'.length≤fs.length)
 (h':Tr w ((fs.drop p).take ds'.length) ds' vs' γs ns):
 ∃β1 β2 b1 bm b2,bs=b1++(bm++b2)∧Tr w fs (ds.take p++ds'++ds.drop (p+ds'.length)) (cs.take p++vs'++cs.drop (p+ds'.length)) (β1++(γs++β2)) (b1++(ns++b2))∧(bk ((fs.drop p).take ds'.length)=true→βs=β1++(γs++β2)∧bs=b1++(ns++b2)):=by
 have e:fs=fs.take p++((fs.drop p).take ds'.length++fs.drop (p+ds'.length)):=by
  rw[←Qbs,QaN,QaN]
 have h0:=h;rw[e] at h0;obtain ⟨d1,d2,c1,c2,β1,βr,b1,br,rfl,rfl,rfl,rfl,t1,t2⟩:=h0.split;obtain ⟨d3,d4,c3,c4,β3,β4,b3,b4,rfl,rfl,rfl,rfl,t3,t4⟩:=t2.split;have l1:=t1.len;have l3:=t3.len;have e1:d1.length=p:=by rw[l1.1,Qai];omega
 have e2:c1.length=p:=by rw[l1.2.1,Qai];omega
 have e3:d3.length=ds'.length:=by rw[l3.1,Qai,Qan];omega
 have e4:c3.length=ds'.length:=by rw[l3.2.1,Qai,Qan];omega
 refine ⟨β1,β4,b1,b3,b4,rfl,?_,fun hl=>?_⟩
 rotate_left
 ·have n1:=Tr.none (k:=1) (fs:=(fs.drop p).take ds'.length) (by simpa using t3) hl
  have n2:=Tr.none (k:=1) (fs:=(fs.drop p).take ds'.length) (by simpa using h') hl;rw[n1.1,n1.2,n2.1,n2.2];exact ⟨rfl,rfl⟩
 have k1:(d1++(d3++d4)).take p=d1:=by rw[←e1];exact Qaz
 have k2:(c1++(c3++c4)).take p=c1:=by rw[←e2];exact Qaz
 have k3:(d1++(d3++d4)).drop (p+ds'.length)=d4:=by rw[←e1,←e3,QaD];exact Qbu
 have k4:(c1++(c3++c4)).drop (p+ds'.length)=c4:=by rw[←e2,←e4,QaD];exact Qbu
 rw[k1,k2,k3,k4];have:=t1.append (h'.append t4);rw[←e] at this;simpa only[QaY] using this
theorem De {α:Type} (fs:List α):∀(n i off k:Nat),i<n→off+k≤fs.length→((((List.replicate n fs).flatten).drop (i*fs.length+off)).take k)=(fs.drop off).take k
 |0,_,_,_,h,_=>absurd h (Nat.not_lt_zero _)
 |n+1,0,off,k,_,h2=>by
  rw[Qar,Qaf,Qbd,QaG,QaI (by omega),Qap (by rw[Qan];omega)]
 |n+1,i+1,off,k,h1,h2=>by
  have e:(i+1)*fs.length+off=fs.length+(i*fs.length+off):=by rw[Qak];omega
  rw[Qar,Qaf,e,QaD,De fs n i off k (by omega) h2]
theorem wM {sz:Nat} {ds:List D}:∀{rows:List (List D)} {i off:Nat} {row:List D},(∀r∈rows,r.length=sz)→rows[i]? =some row→off+ds.length≤row.length→
 (rows.set i (dW row off ds)).flatten=rows.flatten.take (i*sz+off)++ds++rows.flatten.drop (i*sz+off+ds.length)
 |[],i,off,row,_,h,_=>by simp at h
 |r::rows,0,off,row,hl,h,h2=>by
  simp only[Qat,Qaa] at h;subst h;rw[List.set_cons_zero,Qaf,Qaf,Qbd,QaG,Qap (by omega),QaI (by omega)];unfold dW
  simp only[QaY]
 |r::rows,i+1,off,row,hl,h,h2=>by
  simp only[QaU] at h;have hr:=hl r (Qao ..);have e:(i+1)*sz+off=r.length+(i*sz+off):=by rw[Qak,hr];omega
  rw[List.set_cons_succ,Qaf,Qaf,wM (fun x hx=>hl x (Qal _ hx)) h h2,e,Qbk,Qa3 r.length,QaD];simp only[QaY]
theorem Ei {α:Type} {cur vs:List α} {p n k:Nat} (hn:n≤cur.length) (hp:p+k≤n) (hk:vs.length=k):(cur.take p++vs++cur.drop (p+k)).take n=(cur.take n).take p++vs++(cur.take n).drop (p+k):=by
 have e1:(cur.take n).take p=cur.take p:=by rw[List.take_take];congr 1;omega
 have hl:(cur.take p++vs).length=p+k:=by rw[Qae,Qai,hk];omega
 rw[e1,QbJ,QaL (by omega),hl,List.drop_take]
theorem AN (hT:bi P T=true) (s:St q N0 w0 Nf n ν0 σ h a w ν) {o:Oper} {t:TypeId} {x i:Operand} (hop:o.op= .index t x i) (hv:bq T (am P q.fx) (ev σ) h (.index t x i) K)
 (hn:∀r h' m a' w' ν',K r h' m→St q N0 w0 Nf n ν0 ((σ.ren m).putO n o.dst r) h' a' w' ν'→next a' w'):o.wpIn (G ro) 0 P a w next Q:=by
 have hxx:=aD s x;have hii:=aD s i;simp only[bq] at hv;split at hv
 ·rename_i ti hti
  split at hv
  ·rename_i l k j hk e1 e2
   rw[e1] at hxx;rw[e2] at hii;obtain ⟨h0,b,hb,hv⟩:=hv;have he:execOp a.eval o=(do pure (Next.value (←Instr.index t (a.eval x) (a.eval i)))):=by unfold execOp;rw[hop]
   rw[(fN hxx).1,dj hii] at he;refine au s ⟨_,aq he ?_,.d (.int .u8 b.toNat .nil) .nil⟩ (fun a' w' hs=>hn _ _ (.sub []) a' w' ν hv hs);unfold Instr.index;have hlt:j.toNat<l.length:=(List.getElem?_eq_some_iff.1 hb).1
   have e3:(fI l)[j.toNat]? =some b:=by
    have:j.toNat<(fI l).size:=hlt;rw[getElem?_pos (fI l) j.toNat this]
    congr 1
    have h2:=(List.getElem?_eq_some_iff.1 hb).2;rw[←h2];rfl
   simp only[Sem.run_bind,run_underlying (pJ (ah hT hti) hk),Qab,asIntOf,Sem.run_pure,if_pos h0,e3]
  ·rename_i m e cs k j hk e1 e2
   rw[e1] at hxx;rw[e2] at hii;obtain ⟨⟨h0,h1⟩,hv⟩:=hv;split at hv
   ·rename_i te hte
    obtain ⟨r,hl,hv⟩:=hv;have he:execOp a.eval o=(do pure (Next.value (←Instr.index t (a.eval x) (a.eval i)))):=by unfold execOp;rw[hop]
    obtain ⟨xs,q1,q2⟩:=je hxx;rw[q1,dj hii] at he;have k':=ah hT hte;obtain ⟨g1,g2⟩:=jI k'.one (q2.drop (j.toNat*te.size)) hl;refine au s ⟨_,aq he ?_,g2⟩ (fun a' w' hs=>hn _ _ (.sub []) a' w' ν hv hs);unfold Instr.index;simp only[Sem.run_bind,run_underlying (Bn (ah hT hti) hk),Qab,asIntOf,Sem.run_pure,bI k'];rw[if_pos ⟨h0,h1⟩];simp only[Sem.run_bind,bI k',Qab];exact zN k' g1
   ·exact hv.elim
  ·exact hv.elim
 ·exact hv.elim
theorem j8 {t e:TypeId} {te:TI} (k:fH P e te) (ht:P.underlying t=some (.slice e)) {b o len cap:Nat} {kd:IntKind} {i:Int} (h0:0≤i) (h1:i<len):
 (Instr.indexAt t (.slice (some ⟨b,o,none⟩) len cap) (.int kd i)).run P w= .ok (.pointer (some ⟨b,o+i.toNat*te.size,none⟩)) w:=by
 unfold Instr.indexAt;simp only[Sem.run_bind,asIntOf,Sem.run_pure,Qab,run_underlying ht];simp[h0,h1,bI k,Addr.add_lit]
theorem rq (hT:bi P T=true) (s:St q N0 w0 Nf n ν0 σ h a w ν) {o:Oper} {t:TypeId} {x i:Operand} (hop:o.op= .indexAddr t x i) (hv:bq T (am P q.fx) (ev σ) h (.indexAddr t x i) K)
 (hn:∀r h' m a' w' ν',K r h' m→St q N0 w0 Nf n ν0 ((σ.ren m).putO n o.dst r) h' a' w' ν'→next a' w'):o.wpIn (G ro) 0 P a w next Q:=by
 have hxx:=aD s x;have hii:=aD s i;have he:execOp a.eval o=(do pure (Next.value (←Instr.indexAt t (a.eval x) (a.eval i)))):=by unfold execOp;rw[hop]
 simp only[bq] at hv;split at hv
 ·rename_i ti hti
  split at hv
  ·rename_i e hk
   split at hv
   ·rename_i te hte
    obtain ⟨hsz,hv⟩:=hv;have hsz:0<te.size:=Qaj hsz;have ht:=db (ah hT hti) hk;have k:=ah hT hte;split at hv
    ·rename_i l kd j e1 e2
     rw[e1] at hxx;rw[e2] at hii;obtain ⟨h0,row,hrow,hlen,hv⟩:=hv;obtain ⟨A,cap,sz,cells,g1,g2,g3,g4,g5,g6⟩:=im hxx;have hsz':sz=te.size:=by rw[←g3 row (QaR hrow),hlen]
     subst hsz';obtain ⟨c1,c3,c4,q1,q2,_,q3,_,q4⟩:=v8 g2 g3 hrow;have hlt:j.toNat<l.length:=(List.getElem?_eq_some_iff.1 hrow).1;rcases g4 with g4|⟨b,off,g4,hN,g7⟩
     ·rw[g4] at q1
      have:(c1++(c3++c4)).length=0:=by rw[←q1];rfl
      simp only[Qae] at this;omega
     ·rw[g1,g4,dj hii] at he
      refine au s ⟨_,aq he (j8 k ht h0 (by omega)),.at_ _ c3 (fun g=>by rw[g] at q4;simp at q4;omega) q3 (.inr ⟨b,off+j.toNat*te.size,rfl,hN,fun q u hu=>?_⟩) .nil⟩ (fun a' w' hs=>hn _ _ (.sub []) a' w' ν hv hs);rw[Qa3];refine g7 _ u ?_
      have hq:q<c3.length:=by
       rcases Qa6 q c3.length with g|g
       ·exact g
       ·rw[QaZ g] at hu;cases hu
      rw[q1,QaP (by omega),q2,QaT,QaQ hq];exact hu
    ·rename_i id kd j e1 e2
     rw[e1] at hxx;rw[e2] at hii;split at hv
     ·rename_i e' sz rows hid
      obtain ⟨hb,h0,h1,hv⟩:=hv;have:=Qad hb;subst this;obtain ⟨A,c,cells,g1,g2,g3,g4,g5,g6⟩:=s.hp.objs _ _ hid;obtain ⟨g7,_⟩:=gn hxx;rcases g6.2 with ⟨q1,q2⟩|⟨b,cap,cur,q1,_⟩
      ·rw[q2] at h1;omega
      ·have g1':=g1
       rw[q1] at g1;injection g1 with e1 e2 e3
       subst e1 e3;rw[g7,g1',dj hii] at he;simp only[ac] at he;have hr:=j8 (w:=w) (o:=0) (b:=b) (len:=rows.length) (cap:=cap) (kd:=kd) k ht h0 h1;refine au s ⟨_,aq he hr,?_⟩ (fun a' w' hs=>hn _ _ (.sub []) a' w' ν hv hs);have:(0:Nat)+j.toNat*te.size=j.toNat*te.size+0:=by omega
       rw[this];exact .rptr j.toNat 0 te.size (by rw[g1'];rfl) (by omega) .nil
     ·rename_i e' sz fs rows hid
      obtain ⟨hb,h0,h1,hv⟩:=hv;have:=Qad hb;subst this;obtain ⟨bs,hT,_⟩:=s.hp.objs _ _ hid;obtain ⟨cells,βs,b1,rfl,g1,g2,⟨A,c,g3⟩,_⟩:=hT.split;obtain ⟨g7,_⟩:=gn hxx;rcases g2.2 with ⟨q1,q2⟩|⟨b,cap,cur,q1,_⟩
      ·rw[q2] at h1;omega
      ·rw[g7,q1,dj hii] at he
       have hr:=j8 (w:=w) (o:=0) (b:=b) (len:=rows.length) (cap:=cap) (kd:=kd) k ht h0 h1;refine au s ⟨_,aq he hr,?_⟩ (fun a' w' hs=>hn _ _ (.sub []) a' w' ν hv hs);have:(0:Nat)+j.toNat*te.size=j.toNat*te.size+0:=by omega
       rw[this];exact .rptr j.toNat 0 te.size q1 (by omega) .nil
     ·exact hv.elim
    ·exact hv.elim
   ·exact hv.elim
  ·exact hv.elim
 ·exact hv.elim
theorem zG (hT:bi P T=true) (s:St q N0 w0 Nf n ν0 σ h a w ν) {o:Oper} {t:TypeId} {x y:Operand} (hop:o.op= .store t x y) (hv:bq T (am P q.fx) (ev σ) h (.store t x y) K)
 (hn:∀r h' m a' w' ν',K r h' m→St q N0 w0 Nf n ν0 ((σ.ren m).putO n o.dst r) h' a' w' ν'→next a' w'):o.wpIn (G ro) 0 P a w next Q:=by
 have hxx:=aD s x;have hyy:=aD s y;have he:execOp a.eval o=(do (Instr.storeAt t (a.eval x) (a.eval y));pure Next.skip):=by unfold execOp;rw[hop]
 simp only[bq] at hv;split at hv
 ·rename_i ti hti
  have k:=ah hT hti;split at hv
  ·rename_i new id off hc e1
   rw[e1] at hxx;obtain ⟨g1,g2,g3,g4⟩:=gD hyy hc k.one;obtain ⟨b,q1,q2⟩:=pO hxx;split at hv
   ·rename_i t' cs hid
    obtain ⟨hb,hv⟩:=hv;have hb:=Qaj hb;obtain ⟨b',arr,e,p1,p2,p3⟩:=s.hp.objs _ _ hid;rw[q2] at p1;obtain rfl:b=b':=by injection p1 with h1;injection h1 with h1;injection h1
    have hlen:=p3.length;have hst:=jg (w:=w) k p2 (a.eval y) g2 g4 (o:=off) (by have:arr.toList.length=arr.size:=(by simp);omega)
    have hro:Ro (w.setRow b (arr.toList.take off++(a.eval y).cells.toList++arr.toList.drop (off+(a.eval y).cells.toList.length)).toArray) (nN N0 ν) ν id (.cells t' (over cs off new)):=by
     refine ⟨b,_,e,q2,setRow_heap w b arr _ e _ p2,?_⟩
     have m:Mv w (nN N0 ν) (w.setRow b (arr.toList.take off++(a.eval y).cells.toList++arr.toList.drop (off+(a.eval y).cells.toList.length)).toArray) (nN N0 ν):=
      ⟨by simp[World.setRow],fun c hc hN=>⟨hN,setRow_other w b c _ (fun e=>hN (.inr ⟨id,by rw[q2,e];exact .leaf rfl⟩))⟩⟩
     simpa using (HU p3 g1 off).mv m (fun _ _=>rfl)
    have hs:=s.set (by rw[q2];exact .leaf rfl) (jv w b _) hro;refine jr ?_ (hn _ _ (.sub []) _ _ ν hv (ey hs o.dst (.val _ .nil)));rw[he];simp only[Instr.storeAt,q1,Instr.sureAddr,Sem.run_bind,Sem.run_pure,Qab,hst]
   ·exact hv.elim
  ·rename_i new id i sz' off hc e1
   rw[e1] at hxx;obtain ⟨g1,g2,g3,g4⟩:=gD hyy hc k.one;obtain ⟨b,mm,c,q1,q2,q3⟩:=oa hxx;split at hv
   ·rename_i e sz fs rows hid
    split at hv
    ·rename_i ds ks htk
     obtain ⟨hb,row,hrow,hfit,hv⟩:=hv;have hv:=forceDs_iff.1 hv;simp only[Qag] at hb;have:=Qad hb.1;subst this;have hnd:=jE hb.2;have hidk:id ∉ ks:=(List.nodup_cons.1 hnd).1;have hnk:ks.Nodup:=(List.nodup_cons.1 hnd).2;obtain ⟨bs,hT,hbs⟩:=s.hp.objs _ _ hid;obtain ⟨cells,βs,b0,hνt,rfl,t1,t2,⟨A,c',t3⟩,t4,t5,t6,t7⟩:=hT.splitV;have hlt:i<rows.length:=(List.getElem?_eq_some_iff.1 hrow).1;have hrl:=t5 row (QaR hrow)
     have hmul:i*sz'+sz'≤rows.length*sz':=by
      have:(i+1)*sz'≤rows.length*sz':=QaH _ hlt;rw[Qak] at this;omega
     have hFl:((List.replicate rows.length fs).flatten).length=rows.length*sz':=by rw[Qa4,Qa7,QaW,t4]
     have hfs:∀t sz gs,NT.list t sz gs∈fs→gs.length=sz∧0<sz:=fun t sz gs hm=>t1.kinds (List.mem_flatten.2 ⟨fs,List.mem_replicate.2 ⟨by omega,rfl⟩,hm⟩);obtain ⟨γs,ns,u1,u2⟩:=sv s.hp htk g1 (fun t sz gs hm=>hfs t sz gs (Qby (QaA hm)))
     have hdl:ds.length=new.length:=by
      have h1:=u1.len.1;have h2:=u1.len.2.1;have h3:=g1.length;omega
     have hvl:(a.eval y).cells.toList.length=ds.length:=by rw[g1.length,hdl]
     have hmid:((fs.drop off).take new.length)=(((List.replicate rows.length fs).flatten).drop (i*sz'+off)).take ds.length:=by
      rw[hdl,←t4,De fs _ _ _ _ hlt (by omega)]
     rw[hmid] at u1;have hleaf:bk ((fs.drop off).take new.length)=bk ((((List.replicate rows.length fs).flatten).drop (i*sz'+off)).take ds.length):=by rw[hmid]
     obtain ⟨β1,β2,b1,bm,b2,e4,v1,hsame⟩:=t1.put (p:=i*sz'+off) (by rw[hFl];omega) u1;rcases t2.2 with ⟨g,_⟩|⟨g,cap,cur,r1,_,r2,r3,r4,r5,r6⟩
     ·rw[q2] at g;cases g
     ·rw[q2] at r1
      injection r1 with f1 f2 f3
      injection f1 with f1
      injection f1 with f1
      subst f1 f3;have hcells:cells.length=rows.length*sz':=t2.1;have hcap:=QaH sz' r3
      have hst:=jg (w:=w) k r2 (a.eval y) g2 g4 (o:=i*sz'+off) (by
       have:(a.eval y).cells.toList.length=(a.eval y).cells.size:=by simp
       omega)
      have hset:(rows.set i (dW row off ds)).flatten=rows.flatten.take (i*sz'+off)++ds++rows.flatten.drop (i*sz'+off+ds.length):=wM t5 hrow hfit;have hrun:execOp a.eval o=(do (Instr.storeAt t (a.eval x) (a.eval y));pure Next.skip):=he;generalize hW:w.setRow b (cur.toList.take (i*sz'+off)++(a.eval y).cells.toList++cur.toList.drop (i*sz'+off+(a.eval y).cells.toList.length)).toArray=W at hst;have hkp:Kp (fun x=>x=b) w W:=hW▸jv w b _;have hroot:bG (ac (ν id))=some b:=by rw[q2];rfl
      have hb0:∀x∈b0,x≠b:=fun x hx e=>(List.nodup_append.1 hbs).2.2 b (by rw[hroot];simp) x hx e.symm;have hbo:Ow (ν id) b:=(hT.ow b).2 (by rw[hroot];simp)
      have hns:∀x∈ns,x≠b∧x ∉ b0:=fun x hx=>by
       obtain ⟨k',hk',ho⟩:=u2.own x hx;refine ⟨fun e=>?_,fun e=>?_⟩
       ·subst e
        exact hidk (s.hp.inj _ _ _ ho hbo▸hk')
       ·exact hidk (s.hp.inj _ _ _ ho ((hT.ow x).2 (Qaw _ e))▸hk')
      have hbd:=hT.bnd;have hv1b:=v1.bnd
      have v2:=v1.keep (w':=W) (fun x hx=>hkp.blk x (hv1b x hx) (fun e=>by
       rcases List.mem_append.1 hx with hx|hx
       ·exact hb0 x (by rw[e4];simp[hx]) e
       ·rcases List.mem_append.1 hx with hx|hx
        ·exact (hns x hx).1 e
        ·exact hb0 x (by rw[e4];simp[hx]) e))
      have hod:(dW row off ds).length=sz':=by
       unfold dW;simp only[Qae,Qai,Qan];omega
      have hT':Tb W e sz' fs (rows.set i (dW row off ds)) (.tuple (ac (ν id)::(β1++(γs++β2))).toArray) ((bG (ac (ν id))).toList++(b1++(ns++b2))):=by
       refine ⟨some ⟨b,0,none⟩,c,cells.take (i*sz'+off)++(a.eval y).cells.toList++cells.drop (i*sz'+off+ds.length),_,_,by rw[q2,f2,QaO],by rw[q2,f2,QaO],?_,?_,t4,t6,by rw[QaO];exact t7,?_⟩
       ·rw[QaO,hset];exact v2
       ·intro r hr
        rcases Qa5 hr with hr|rfl
        ·exact t5 r hr
        ·exact hod
       ·rw[QaO]
        refine ⟨?_,.inr ⟨b,c,_,rfl,Qay _,hW▸setRow_heap w b cur _ e _ r2,r3,r4,?_,?_⟩⟩
        ·simp only[Qae,Qai,Qan,hcells,hvl]
         omega
        ·rw[QaB]
         simp only[Qae,Qai,Qan,QaE,hvl];omega
        ·rw[←r6,hvl]
         exact Ei (by simp;omega) (by omega) hvl
      have hid':id<h.nx:=by
       rcases Qa6 id h.nx with q|q
       ·exact q
       ·exact absurd (s.hp.dom id q) hT.ne
      cases hal:bk ((fs.drop off).take new.length) with
      |true=>
       rw[hal] at hv;obtain ⟨es1,es2⟩:=hsame (hleaf▸hal);rw[←es1,←hνt,←es2] at hT';have hro:Ro W (nN N0 ν) ν id (.tree e sz' fs (rows.set i (dW row off ds))):=⟨_,hT',hbs⟩;refine jr ?_ (hn _ _ (.sub []) _ _ _ hv (ey (s.set hbo hkp hro) o.dst (.val _ .nil)));rw[hrun]
       simp only[Instr.storeAt,q1,Instr.sureAddr,Sem.run_bind,Sem.run_pure,Qab,hst]
      |false=>
      rw[hal] at hv
      have hs:=s.absorb (id:=id) (nx:=h.nx) (ks:=ks) (fz:=ks) (o:= .tree e sz' fs (rows.set i (dW row off ds))) (val:= .tuple (ac (ν id)::(β1++(γs++β2))).toArray) (w':=W) (objs:=gm id (.tree e sz' fs (rows.set i (dW row off ds))) (md ks h.objs))
       (Qam _) hid' ⟨hkp.os,hkp.tape,hkp.output,hkp.size,fun x hx hn=>hkp.blk x hx (fun e=>hn (e▸hbo))⟩ (fun x hx=>by
         have hx:=(hT'.ow x).1 hx;refine ⟨hT'.bnd x hx,?_⟩;simp only[QbO] at hx;rcases hx with hx|hx|hx|hx
         ·exact .inl ((hT.ow x).2 (Qa2 _ hx))
         ·exact .inl ((hT.ow x).2 (Qaw _ (by rw[e4];simp[hx])))
         ·exact .inr (.inl (u2.own x hx))
         ·exact .inl ((hT.ow x).2 (Qaw _ (by rw[e4];simp[hx])))) u2.root hidk (.inr (.inr (.inr ⟨_,_,_,q2,by rw[←q2];rfl⟩))) (fun hu=>⟨DC s q2 hu,fun hf=>by
          have:=s.keep.2 hf id hu;rw[←this];rfl⟩) (fun m=>⟨_,by rw[ee];exact hT',?_⟩) (fun j o' ho=>?_) o.dst (r:= .val undef) (v:=undef) (fun m=> .val _ .nil)
      ·refine jr ?_ (hn _ _ (.tsub ks) _ _ _ hv hs)
       rw[hrun];simp only[Instr.storeAt,q1,Instr.sureAddr,Sem.run_bind,Sem.run_pure,Qab,hst]
      ·rw[e4] at hbs
       obtain ⟨n1,n2,n3⟩:=List.nodup_append.1 hbs;obtain ⟨n4,n5,n6⟩:=List.nodup_append.1 n2;obtain ⟨n7,n8,n9⟩:=List.nodup_append.1 n5;refine List.nodup_append.2 ⟨n1,List.nodup_append.2 ⟨n4,List.nodup_append.2 ⟨u2.nodup hnk,n8,fun x hx z hz e=>?_⟩,fun x hx z hz e=>?_⟩,fun x hx z hz e=>?_⟩
       ·subst e;exact (hns x hx).2 (by rw[e4];simp[hz])
       ·subst e
        rcases List.mem_append.1 hz with hz|hz
        ·exact (hns x hz).2 (by rw[e4];simp[hx])
        ·exact n6 x hx x (by simp[hz]) rfl
       ·subst e
        rcases List.mem_append.1 hz with hz|hz
        ·exact n3 x hx x (by simp[hz]) rfl
        ·rcases List.mem_append.1 hz with hz|hz
         ·rw[hroot] at hx
          simp only[Qbh,List.mem_singleton] at hx;exact (hns x hz).1 hx
         ·exact n3 x hx x (by simp[hz]) rfl
      ·simp only[gw,lY] at ho
       by_cases ej:j=id
       ·subst ej
        rw[if_pos rfl] at ho
        have:ks.any (QaS j)=false:=by
          cases hk:ks.any (QaS j) with
          |false=>rfl
          |true=>exact absurd (anyN.1 hk) hidk
        rw[this,hid] at ho;simp only[cond_false,Qah,Qaa] at ho;exact .inl ⟨rfl,ho.symm⟩
       ·rw[if_neg ej] at ho
        cases hk:ks.any (QaS j) with
        |true=>rw[hk] at ho;cases ho
        |false=>
         rw[hk] at ho;simp only[cond_false] at ho
         cases hq:Vc.look h.objs j with
         |none=>rw[hq] at ho;cases ho
         |some o''=>
          rw[hq] at ho;simp only[Qah,Qaa] at ho;exact .inr ⟨ej,(fun g=>by rw[anyN.2 g] at hk;cases hk),o'',rfl,ho.symm⟩
    ·exact hv.elim
   ·rename_i e sz rows hid
    split at hv
    ·rename_i ds hds
     obtain ⟨hb,row,hrow,hfit,hv⟩:=hv;have:=Qad hb;subst this;obtain ⟨A,c',cells,p1,p2,p3,p4,p5,p6⟩:=s.hp.objs _ _ hid
     replace q2:=(s.hp.root hid).symm.trans q2
     rw[q2] at p1;injection p1 with f1 f2 f3
     subst f1 f2 f3;rcases p6.2 with ⟨g,_⟩|⟨g,cap,cur,r1,_,r2,r3,r4,r5,r6⟩
     ·rw[q2] at g;cases g
     ·rw[q2] at r1
      injection r1 with f1 f2 f3
      injection f1 with f1
      injection f1 with f1
      subst f1 f3;obtain ⟨c1,c3,c4,u1,u2,u3,u4,u5,u6⟩:=v8 p2 p3 hrow;have hlt:i<rows.length:=(List.getElem?_eq_some_iff.1 hrow).1;have hds':=(Ak g1).dsOf hds;have hdl:=hds'.length;have hrl:=p3 row (QaR hrow);have hcells:cells.length=rows.length*sz':=p6.1
      have hmul:i*sz'+sz'≤rows.length*sz':=by
       have:(i+1)*sz'≤rows.length*sz':=QaH _ hlt;rw[Qak] at this;omega
      have hvl:(a.eval y).cells.toList.length=(a.eval y).cells.size:=by simp
      have hcap:=QaH sz' r3;have hst:=jg (w:=w) k r2 (a.eval y) g2 g4 (o:=i*sz'+off) (by omega)
      have hnewrows:(rows.set i (dW row off ds)).flatten=(rows.take i).flatten++(dW row off ds++(rows.drop (i+1)).flatten):=by
       rw[jl (rows.set i (dW row off ds)) (i:=i) (row:=dW row off ds) (by simp[hlt])]
       congr 1
       ·rw[List.take_set_of_le (Qam _)]
       ·congr 1
        rw[List.drop_set_of_lt (by omega)]
      have hover:Rd w (nN N0 ν) (dW row off ds) (c3.take off++(a.eval y).cells.toList++c3.drop (off+(a.eval y).cells.toList.length)):=by
       unfold dW;rw[←hdl];exact ((u4.take off).append hds').append (u4.drop _)
      have hnew:Rd w (nN N0 ν) (rows.set i (dW row off ds)).flatten (c1++((c3.take off++(a.eval y).cells.toList++c3.drop (off+(a.eval y).cells.toList.length))++c4)):=by
       rw[hnewrows];exact u3.append (hover.append u5)
      have hod:(dW row off ds).length=sz':=by
       unfold dW;simp only[Qae,Qai,Qan];omega
      have m:Mv w (nN N0 ν) (w.setRow b (cur.toList.take (i*sz'+off)++(a.eval y).cells.toList++cur.toList.drop (i*sz'+off+(a.eval y).cells.toList.length)).toArray) (nN N0 ν):=
       ⟨by simp[World.setRow],fun c hc hN=>⟨hN,setRow_other w b c _ (fun e=>hN (.inr ⟨id,by rw[q2,e];exact .leaf rfl⟩))⟩⟩
      have hcl:(c1++((c3.take off++(a.eval y).cells.toList++c3.drop (off+(a.eval y).cells.toList.length))++c4)).length=rows.length*sz':=by
       rw[hnew.length,eE (sz:=sz')]
       ·simp
       ·intro r hr
        rcases Qa5 hr with hr|rfl
        ·exact p3 r hr
        ·exact hod
      have htake:(cur.toList.take (i*sz'+off)++(a.eval y).cells.toList++cur.toList.drop (i*sz'+off+(a.eval y).cells.toList.length)).take (rows.length*sz')=
         c1++((c3.take off++(a.eval y).cells.toList++c3.drop (off+(a.eval y).cells.toList.length))++c4):=by
       have hcur:cur.toList=c1++(c3++c4)++cur.toList.drop (rows.length*sz'):=by
         rw[←u1,←r6,QaN]
       have e1:cur.toList.take (i*sz'+off)=c1++c3.take off:=by
         rw[hcur,Qap (by rw[←u1,hcells];omega),←u2,Qbk,Qap (by omega)]
       have e2:cur.toList.drop (i*sz'+off+(a.eval y).cells.toList.length)=c3.drop (off+(a.eval y).cells.toList.length)++c4++cur.toList.drop (rows.length*sz'):=by
         conv=>lhs;rw[hcur]
         rw[QaI (by rw[←u1,hcells];omega),Qa3,←u2,QaD,QaI (by omega)]
       rw[e1,e2]
       have e3:c1++c3.take off++(a.eval y).cells.toList++(c3.drop (off+(a.eval y).cells.toList.length)++c4++cur.toList.drop (rows.length*sz'))=
          (c1++((c3.take off++(a.eval y).cells.toList++c3.drop (off+(a.eval y).cells.toList.length))++c4))++cur.toList.drop (rows.length*sz'):=by simp
       rw[e3,←hcl];exact Qaz
      have hro:Ro (w.setRow b (cur.toList.take (i*sz'+off)++(a.eval y).cells.toList++cur.toList.drop (i*sz'+off+(a.eval y).cells.toList.length)).toArray) (nN N0 ν) ν id (.row e sz' (rows.set i (dW row off ds))):=by
       refine ⟨_,_,_,by rw[q2,QaO],hnew.mv m,?_,by simpa using p4,p5,?_⟩
       ·intro r hr
        rcases Qa5 hr with hr|rfl
        ·exact p3 r hr
        ·exact hod
       ·rw[QaO]
        refine ⟨hcl,.inr ⟨b,_,_,q2,Qay _,setRow_heap w b cur _ e _ r2,r3,r4,?_,htake⟩⟩;rw[QaB];simp only[Qae,Qai,Qan,QaE];omega
      have hs:=s.set (by rw[q2];exact .leaf rfl) (jv w b _) hro;refine jr ?_ (hn _ _ (.sub []) _ _ ν hv (ey hs o.dst (.val _ .nil)));rw[he];simp only[Instr.storeAt,q1,Instr.sureAddr,Sem.run_bind,Sem.run_pure,Qab,hst]
    ·exact hv.elim
   ·exact hv.elim
  ·exact hv.elim
 ·exact hv.elim
theorem xl (hT:bi P T=true) (s:St q N0 w0 Nf n ν0 σ h a w ν) {o:Oper} {c:Call} {x y:Operand} {t t2:TypeId} (hop:o.op= .call c) (hc:c.callee= .builtin .copy) (hx:c.args.toList=[x,y]) (ht:c.argTypes.toList=[t,t2])
 (hv:xm T h t (ev σ x) (ev σ y) K) (hn:∀r h' m a' w' ν',K r h' m→St q N0 w0 Nf n ν0 ((σ.ren m).putO n o.dst r) h' a' w' ν'→next a' w'):o.wpIn (G ro) 0 P a w next Q:=by
 have e1:c.args= #[x,y]:=by apply Array.ext';simpa using hx
 have e2:c.argTypes= #[t,t2]:=by apply Array.ext';simpa using ht
 have he:∀v w',(Builtin.copy_ #[t,t2] o.type #[a.eval x,a.eval y]).run P w= .ok v w'→(execOp a.eval o).run P w= .ok (.value v) w':=by
  intro v w' hv;rw[iq hop hc,e1,e2];simp only[builtin,Sem.run_bind,Qbb,Qax,Qbp,hv,Qab,Sem.run_pure]
 have hxx:=aD s x;have hyy:=aD s y;unfold xm at hv;split at hv
 ·rename_i ti new id hti q1 q2
  rw[q2] at hxx;rw[q1] at hyy;split at hv
  ·rename_i e e' sz rows hk hid
   split at hv
   ·rename_i te hte
    obtain ⟨hb,hl,hpos,hlen,hv⟩:=hv;simp only[Qag] at hb;obtain ⟨⟨b1,b2⟩,b3⟩:=hb;have b1:=Qad b1;have b2:=Qad b2;have b3:=Qad b3;subst b1;have b4:sz=1:=b2.trans b3;subst b4;have ht':=db (ah hT hti) hk;obtain ⟨iz,zv,hi,hs,_⟩:=(ah hT hte).info;obtain ⟨A,c',cells,p1,p2,p3,p4,p5,p6⟩:=s.hp.objs _ _ hid;obtain ⟨g1,_⟩:=gn hxx;obtain ⟨A2,cap2,sz2,cells2,f1,f2,f3,f4,f5,f6⟩:=im hyy;have hf:cells2.length=new.length:=by rw[f2.length,eE new hlen,Qb]
    rcases f4 with f4|⟨b2,o2,f4,hN2,f7⟩
    ·rw[f4] at hf;simp at hf;omega
    ·rcases p6.2 with ⟨g,g'⟩|⟨g,cap,cur,r1,_,r2,r3,r4,r5,r6⟩
     ·omega
     ·have hn0:cells2.length=Nat.min new.length rows.length:=by rw[hf,hl];exact (Nat.min_self _).symm
      have hfit:0+cells2.length≤cur.size:=by omega
      have hrun:=run_copy_row P w t t2 o.type e g 0 rows.length cap ⟨b2,o2,none⟩ new.length cap2 cur e cells2 ht' (by rw[hi];simp[hs,b3]) r2 hn0 (fun j v hj=>by
       have:(⟨b2,o2,none⟩:Addr).add j=⟨b2,o2+j,none⟩:=Addr.add_lit ..;rw[this];exact f7 j v hj) hfit f2.one
      have hgv:a.eval x= .slice (some ⟨g,0,none⟩) rows.length cap:=by rw[g1,r1];rfl
      have hyv:a.eval y= .slice (some ⟨b2,o2,none⟩) new.length cap2:=by rw[f1,f4]
      have m:Mv w (nN N0 ν) (w.setRow g (cur.toList.take 0++cells2++cur.toList.drop (0+cells2.length)).toArray) (nN N0 ν):=
       ⟨by simp[World.setRow],fun c hc hN=>⟨hN,setRow_other w g c _ (fun e=>hN (.inr ⟨id,by rw[r1,e];exact .leaf rfl⟩))⟩⟩
      have hro:Ro (w.setRow g (cur.toList.take 0++cells2++cur.toList.drop (0+cells2.length)).toArray) (nN N0 ν) ν id (.row e 1 new):=by
       refine ⟨_,_,cells2,by rw[r1,hl],f2.mv m,hlen,by rw[hl];exact p4,by omega,by rw[Qb];exact hf,.inr ⟨g,cap,_,by rw[r1,hl],Qay _,setRow_heap w g cur _ e _ r2,by omega,r4,?_,?_⟩⟩
       ·rw[QaB]
        simp only[Qae,Qai,Qan,QaE];omega
       ·simp only[Qbv,QaC,Qb]
        rw[←hf];exact Qaz
      have hs':=s.set (by rw[r1];exact .leaf rfl) (jv w g _) hro;refine bD (he _ _ (by rw[hgv,hyv];exact hrun)) (hn _ _ (.sub []) _ _ ν hv (ey hs' o.dst ?_));rw[hf];exact .d (.int _ _ .nil) .nil
   ·exact hv.elim
  ·rename_i e e' sz fs rows hk hid
   split at hv
   ·rename_i te hte
    obtain ⟨hb,hl,hpos,hlen,hv⟩:=hv;have hv:=forceH_iff.1 hv;simp only[Qag] at hb;obtain ⟨⟨⟨b1,b2⟩,b3⟩,b5⟩:=hb;have b1:=Qad b1;have b2:=Qad b2;have b3:=Qad b3;subst b1;have b4:sz=1:=b2.trans b3;subst b4;have ht':=db (ah hT hti) hk;obtain ⟨iz,zv,hi,hs,_⟩:=(ah hT hte).info;obtain ⟨bs,hTb,hnd⟩:=s.hp.objs _ _ hid;have hTb':=hTb;obtain ⟨A,cap0,cells,βs,bs',p0,rfl,p1,p2,p3,p4,p5,p6⟩:=hTb';obtain ⟨rfl,rfl⟩:=p1.none b5;obtain ⟨g1,_⟩:=gn hxx;obtain ⟨A2,cap2,sz2,cells2,f1,f2,f3,f4,f5,f6⟩:=im hyy;have hf:cells2.length=new.length:=by rw[f2.length,eE new (fun r hr=>(hlen r hr).1),Qb]
    rcases f4 with f4|⟨b2,o2,f4,hN2,f7⟩
    ·rw[f4] at hf;simp at hf;omega
    ·rcases p6.2 with ⟨g,g'⟩|⟨g,cap,cur,r1,_,r2,r3,r4,r5,r6⟩
     ·omega
     ·have hn0:cells2.length=Nat.min new.length rows.length:=by rw[hf,hl];exact (Nat.min_self _).symm
      have hfit:0+cells2.length≤cur.size:=by omega
      have hrun:=run_copy_row P w t t2 o.type e g 0 rows.length cap ⟨b2,o2,none⟩ new.length cap2 cur e cells2 ht' (by rw[hi];simp[hs,b3]) r2 hn0 (fun j v hj=>by
       have:(⟨b2,o2,none⟩:Addr).add j=⟨b2,o2+j,none⟩:=Addr.add_lit ..;rw[this];exact f7 j v hj) hfit f2.one
      have hgv:a.eval x= .slice (some ⟨g,0,none⟩) rows.length cap:=by rw[g1,p0,←r1];rfl
      have hyv:a.eval y= .slice (some ⟨b2,o2,none⟩) new.length cap2:=by rw[f1,f4]
      have hro:Ro (w.setRow g (cur.toList.take 0++cells2++cur.toList.drop (0+cells2.length)).toArray) (nN N0 ν) ν id (.tree e 1 fs new):=by
       refine ⟨(bG (.slice A rows.length cap0)).toList++[],⟨some ⟨g,0,none⟩,cap,cells2,[],[],by rw[p0,r1,hl],by rw[r1,hl],(pg b5 p3 hlen f2).keep (by simp),fun r hr=>(hlen r hr).1,p3,p4,by rw[hl];exact p5,?_⟩,hnd⟩;refine ⟨by rw[Qb];exact hf,.inr ⟨g,cap,_,by rw[hl],Qay _,setRow_heap w g cur _ e _ r2,by omega,r4,?_,?_⟩⟩
       ·rw[QaB]
        simp only[Qae,Qai,Qan,QaE];omega
       ·simp only[Qbv,QaC,Qb]
        rw[←hf];exact Qaz
      have hs':=s.set ((hTb.ow g).2 (by rw[r1];simp[bG])) (jv w g _) hro;refine bD (he _ _ (by rw[hgv,hyv];exact hrun)) (hn _ _ (.sub []) _ _ ν hv (ey hs' o.dst ?_));rw[hf];exact .d (.int _ _ .nil) .nil
   ·exact hv.elim
  ·exact hv.elim
 ·exact hv.elim
theorem ij {w:World} {N:Nat→Prop} {id i:Nat} {fs0:List NT} {xs:Array Value} (hid:ν id= .tuple xs):∀{fs:List NT} {ds:List D} {cs βs:List Value} {bs:List Nat} {off j:Nat},Tr w fs ds cs βs bs→
 (∀k β,βs[k]? =some β→xs[1+(i*nl fs0+(j+k))]? =some β)→Rv w N ν (eI id i (nl fs0) fs ds off j) cs
 |[],ds,cs,βs,bs,off,j,h,_=>by
  cases h
  exact .nil
 |f::fs,ds,cs,βs,bs,off,j,h,hx=>by
  cases h with
  |leaf d v h1 h2 h3=>
   simp only[eI]
   exact .d (h2 w N) (ij hid h3 hx)
  |list t sz fs' rows A cap cells βs' bs' h1 h2 h3 h4 h5 h6 h7=>
   simp only[eI];refine .nest i off (nl fs0) j hid (hx 0 _ rfl) rfl (ij hid h7 fun k β hk=>?_);have:=hx (k+1) β (by simpa using hk);rw[show j+1+k=j+(k+1) from by omega]
   exact this
  |dead t sz fs' A m cap h1 h2 h3=>
   simp only[eI];refine .nest i off (nl fs0) j hid (hx 0 _ rfl) rfl (ij hid h3 fun k β hk=>?_);have:=hx (k+1) β (by simpa using hk);rw[show j+1+k=j+(k+1) from by omega];exact this
theorem sj (hT:bi P T=true) (s:St q N0 w0 Nf n ν0 σ h a w ν) {o:Oper} {t:TypeId} {x:Operand} (hop:o.op= .load t x) {id i sz off t':Nat} {fs:List NT} {rows:List (List D)} {r:List D} {ti:TI} {v:AV} (he1:ev σ x= .rptr id i sz off)
 (hid:Vc.look h.objs id=some (.tree t' sz fs rows)) (hr:rows[i]? =some r) (hti:Vc.look T t=some ti) (hl:kF ti ((eI id i (nl fs) fs r 0 0).drop off)=some v)
 (hn:∀a' w' ν',St q N0 w0 Nf n ν0 (σ.putO n o.dst v) h a' w' ν'→next a' w'):o.wpIn (G ro) 0 P a w next Q:=by
 have hxx:=aD s x;rw[he1] at hxx;obtain ⟨b,mm,c,q1,q2,q3⟩:=oa hxx;have k:=ah hT hti;have he:execOp a.eval o=(do pure (Next.value (←Instr.loadAt t (a.eval x)))):=by unfold execOp;rw[hop]
 obtain ⟨bs,hTb,_⟩:=s.hp.objs _ _ hid;obtain ⟨A,cap0,cells,βs,bs',p0,rfl,p1,p2,p3,p4,p5,p6⟩:=hTb;have hlt:i<rows.length:=(List.getElem?_eq_some_iff.1 hr).1;rw[p0] at q2;have q2:Value.slice A rows.length cap0= .slice (some ⟨b,0,none⟩) mm c:=q2;simp only[Value.slice.injEq] at q2;obtain ⟨rfl,rfl,rfl⟩:=q2
 have hsp:(List.replicate rows.length fs).flatten=(List.replicate i fs).flatten++(fs++(List.replicate (rows.length - (i+1)) fs).flatten):=by
  have:rows.length=i+(1+(rows.length - (i+1))):=by omega
  conv=>lhs;rw[this]
  rw[←Qau,←Qau];simp
 rw[hsp] at p1;obtain ⟨d1,d2,c1,c2,β1,β2,b1,b2,e1,e2,e3,rfl,t1,t2⟩:=p1.split;obtain ⟨d3,d4,c3,c4,β3,β4,b3,b4,rfl,rfl,rfl,rfl,t3,t4⟩:=t2.split;have l1:=t1.len;have l3:=t3.len;have lr:∀k:Nat,((List.replicate k fs).flatten).length=k*sz:=fun k=>by rw[Qa4,Qa7,QaW,p3]
 have hd1:d1.length=i*sz:=by rw[l1.1,lr]
 have hc1:c1.length=i*sz:=by rw[l1.2.1,lr]
 have hβ1:β1.length=i*nl fs:=by
  rw[l1.2.2];have:=ot fs (i+1) i 0 (by omega) (Qay _);rw[Nat.add_zero,Qbv] at this;rw[←Qau,Qav,Qap (by rw[lr,p3];omega),QaL (by rw[lr,p3];omega)] at this;simpa [nl] using this
 have hrow:d3=r:=by
  have hlr:=p2 r (QaR hr)
  have:(rows.flatten.drop (i*sz)).take sz=r:=by
   rw[jl rows hr,Qba,QaK (by rw[eE (sz:=sz) _ (fun x hx=>p2 x (QaA hx)),Qai];have:min i rows.length=i:=(by omega);rw[this];exact Qam _)]
   have hz:i*sz - ((rows.take i).flatten).length=0:=by
    rw[eE (sz:=sz) _ (fun x hx=>p2 x (QaA hx)),Qai];have:min i rows.length=i:=by omega
    rw[this];omega
   rw[hz,List.drop_zero,QaC,Qap (by omega),QaL (by omega)]
  rw[←this,e1,←hd1,Qbu,Qap (by omega),QaL (by omega)]
 subst hrow
 have hcells:=ij (N:=nN N0 ν) (fs0:=fs) (i:=i) p0 (off:=0) (j:=0) t3 (fun k β hk=>by
  rw[Qbc,Nat.add_comm 1,QaU,QaG,e3,QaP (by omega),hβ1,QaQ (by
   have:=(List.getElem?_eq_some_iff.1 hk).1;omega),QaT]
  exact hk)
 obtain ⟨g1,g2⟩:=jI k.one (hcells.drop off) hl;refine au s ⟨_,?_,g2⟩ (fun a' w' hs=>hn a' w' ν hs);rcases p6.2 with ⟨g,_⟩|⟨g,cap,cur,r1,_,r2,r3,r4,r5,r6⟩
 ·cases g
 ·injection r1 with f1 f2 f3
  injection f1 with f1
  injection f1 with f1
  subst f1 f3;rw[q1] at he;refine aq he ?_;simp only[Instr.loadAt,Instr.sureAddr,Sem.run_bind,Sem.run_pure,Qab];refine j7 k _ _ ((c3.drop off).take ti.size) (by simpa using g1) (fun j u hj=>?_);rw[Qas] at hj;split at hj
  case isFalse=>cases hj
  rename_i hj2;rw[QaM] at hj
  have hcur:cells[i*sz+(off+j)]? =some u:=by
   rw[e2,QaP (by omega),hc1,QaT,QaQ]
   ·exact hj
   ·exact (List.getElem?_eq_some_iff.1 hj).1
  rw[←r6,Qas] at hcur;split at hcur
  ·simp only[World.cell?,r2]
   rw[show i*sz+off+j=i*sz+(off+j) from by omega];simpa using hcur
  ·cases hcur
end
end Go.Vc
end
section
namespace Go.Vc
section
variable {P:Program} {ro:Option Nat} {q:Md} {T:List (Nat×TI)} {N0 Nf:Nat→Prop} {w0 w w':World} {n:Nat} {σ:Env} {h:Heap} {a:Act} {ν ν' ν0:Nat→Value} {Q:Exit→Act→World→Prop} {next:Act→World→Prop}
 {K:AV→Heap→Rn→Prop} {N:Nat→Prop}
theorem m9 {t:TypeId} {ti:TI} (k:fH P t ti) {kt vt:TypeId} (hk:ti.kind= .map kt vt):P.underlying t=some (.map kt vt):=by
 obtain ⟨d,h1,h2⟩:=k.kind;rw[hk] at h2;cases d<;>simp[eD] at h2;obtain ⟨rfl,rfl⟩:=h2;exact h1
theorem yl (x y:Bs):(fI x==fI y)=(x==y):=by
 rw[beq_toListBytes];simp[fI,ByteArray.toList_mk]
theorem BL {d:TypeDesc} {tk tk':TK} (hd:eD tk d=true) {k k':List D} {v v':Value} (h1:dt tk k=true) (h1':dt tk' k=true) (h2:dt tk' k'=true) (hv:bN k=some v) (hv':bN k'=some v'):
 Instr.sameNow d v v'=some (bY k k'):=by
 unfold dt at h1 h1' h2;split at h1
 ·rename_i kd kd' m
  rw[kindEq_iff] at h1;subst h1;cases d<;>simp[eD,kindEq_iff] at hd;subst hd;simp only[bN,Qaa] at hv;subst hv;split at h1'<;>simp_all;split at h2<;>simp_all;rename_i q;simp only[bN,Qaa] at hv';subst hv';rw[kindEq_iff] at h1' h2;subst h1' h2;simp[Instr.sameNow,bY,kindEq_iff]
 ·rename_i x
  cases d<;>simp[eD] at hd;simp only[bN,Qaa] at hv;subst hv;split at h1'<;>simp_all;split at h2<;>simp_all;simp only[bN,Qaa] at hv';subst hv';simp[Instr.sameNow,bY,yl]
 ·rename_i x
  cases d<;>simp[eD] at hd;simp only[bN,Qaa] at hv;subst hv;split at h1'<;>simp_all;split at h2<;>simp_all;simp only[bN,Qaa] at hv';subst hv';simp[Instr.sameNow,bY]
 ·cases d<;>simp[eD] at hd
 ·cases h1
theorem Az {k:List D}:∀(es:List (List D×AV)) (i:Nat),
 (av es k=none∧fc es k i=none∧(∀x,bp es k x=es++[(k,x)])∧∀p∈es,bY k p.1=false)∨
 ∃j k' a,av es k=some a∧fc es k i=some (i+j,a)∧es[j]? =some (k',a)∧bY k k'=true∧(∀x,bp es k x=es.set j (k',x))∧∀m p,m<j→es[m]? =some p→bY k p.1=false
 |[],i=> .inl ⟨rfl,rfl,fun _=>rfl,by simp⟩
 |(k',b)::es,i=>by
  cases hq:bY k k' with
  |true=>exact .inr ⟨0,k',b,by simp[av,hq],by simp[fc,hq],rfl,hq,fun x=>by simp[bp,hq],fun m p hm=>by omega⟩
  |false=>
   rcases Az (k:=k) es (i+1) with ⟨h1,h2,h3,h4⟩|⟨j,k2,a,h1,h2,h3,h4,h5,h6⟩
   ·refine .inl ⟨by simp[av,hq,h1],by simp[fc,hq,h2],fun x=>by simp[bp,hq,h3],fun p hp=>?_⟩
    rcases List.mem_cons.1 hp with rfl|hp
    ·exact hq
    ·exact h4 p hp
   ·refine .inr ⟨j+1,k2,a,by simp[av,hq,h1],?_,by simpa using h3,h4,fun x=>by simp[bp,hq,h5],fun m p hm hp=>?_⟩
    ·simp only[fc,hq,h2]
     congr 2;omega
    ·cases m with
     |zero=>simp only[Qat,Qaa] at hp;subst hp;exact hq
     |succ m=>exact h6 m p (by omega) (by simpa using hp)
theorem ul {d:TypeDesc} {tk tk':TK} (hd:eD tk d=true) {k:List D} {v:Value} (h1:dt tk k=true) (h1':dt tk' k=true) (hv:bN k=some v):∀{es:List (List D×AV)} {l:List MapEntry} (i:Nat),Km w N ν tk' es l→
 (av es k=none∧Instr.findNow d v l i=some none)∨
 ∃j e a,av es k=some a∧fc es k i=some (i+j,a)∧l[j]? =some e∧Instr.findNow d v l i=some (some (i+j,e.val))
 |[],[],i,.nil=> .inl ⟨rfl,rfl⟩
 |(k',b)::es,e::l,i,.cons g1 g2 g3 g4=>by
  have hs:=BL hd h1 h1' g1 hv g2;simp only[av,fc,Instr.findNow,hs]
  cases hq:bY k k' with
  |true=>exact .inr ⟨0,e,b,rfl,rfl,rfl,rfl⟩
  |false=>
   rcases ul hd h1 h1' hv (i+1) g4 with ⟨q1,q2⟩|⟨j,e',a',q1,q0,q2,q3⟩
   ·exact .inl ⟨q1,q2⟩
   ·refine .inr ⟨j+1,e',a',q1,?_,by simpa using q2,?_⟩
    ·simp only[q0];congr 2;omega
    ·simp only[q3];congr 3;omega
theorem Km.at {tk:TK} {es:List (List D×AV)} {l:List MapEntry} (h:Km w N ν tk es l) {j:Nat} {k':List D} {a:AV} (hj:es[j]? =some (k',a)):∃e,l[j]? =some e∧dt tk k'=true∧bN k'=some e.key∧Rv w N ν [a] [e.val]:=by
 induction h generalizing j with
 |nil=>simp at hj
 |cons g1 g2 g3 _ ih=>
  cases j with
  |zero=>simp only[Qat,Qaa,Qac] at hj;obtain ⟨rfl,rfl⟩:=hj;exact ⟨_,rfl,g1,g2,g3⟩
  |succ j=>obtain ⟨e,q⟩:=ih (by simpa using hj);exact ⟨e,by simpa using q⟩
theorem Km.len {tk:TK} {es:List (List D×AV)} {l:List MapEntry} (h:Km w N ν tk es l):l.length=es.length:=by
 induction h<;>simp_all
theorem rI {key:List D} (h:dt .pair key=true):∃a b,key=[.str a,.str b]:=by
 unfold dt at h;split at h
 ·simp_all
 ·simp_all
 ·simp_all
 ·exact ⟨_,_,rfl⟩
 ·cases h
theorem Gc {tk:TK} {a b:Bs} (h:dt tk [.str a,.str b]=true):tk= .pair:=by
 cases tk<;>first|rfl|simp[dt] at h
theorem pT {t:TypeId} (h:we P t=true):∃fs f g,P.underlying t=some (.struct fs)∧fs.toList=[f,g]∧f.name≠ "_" ∧g.name≠ "_" ∧f.offset=0∧g.offset=1∧fH P f.type strTI∧fH P g.type strTI∧P.stoodInHeld t=false:=by
 unfold we at h;split at h
 ·rename_i fs hf
  split at h
  ·rename_i f g hl
   simp only[Qag,QbE,beq_eq_false_iff_ne] at h;obtain ⟨⟨⟨⟨⟨⟨h1,h2⟩,h3⟩,h4⟩,h5⟩,h6⟩,h7⟩:=h;refine ⟨fs,f,g,hf,hl,h1,h2,Qad h3,Qad h4,?_,?_,h7⟩
   ·exact ah (T:=[(f.type,strTI)]) (by simp only[bi,h5];rfl) (by simp[look,ga])
   ·exact ah (T:=[(g.type,strTI)]) (by simp only[bi,h6];rfl) (by simp[look,ga])
  ·cases h
 ·cases h
theorem oF {t:TypeId} (k:fH P t strTI) {cs:Array Value} {i:Nat} {v:Value} (h:cs[i]? =some v):(part t cs i).run P w= .ok v w:=by
 have h1:strTI.isAgg=false:=rfl;unfold part;simp[pP k,h1,h]
theorem B3 {t:TypeId} (h:we P t=true) (a b c d:Bs) (w:World):(Op.equal t (.agg #[.string (fI a),.string (fI b)]) (.agg #[.string (fI c),.string (fI d)])).run P w= .ok (a==c&&b==d) w:=by
 obtain ⟨fs,f,g,h1,h2,h3,h4,h5,h6,h7,h8,h9⟩:=pT h;have hfs:P.fieldsOf t=fs:=by simp[Program.fieldsOf,h1]
 have hd:(Op.maxDepth:Nat)=9998+1+1:=rfl;unfold Op.equal;rw[hd,run_equalIn_struct w _ t _ _ (by rw[h1,hfs]) h9,hfs,h2]
 have e1:∀(x y:Bs) (u:TypeId),fH P u strTI→(Op.equalIn (9998+1) u (.string (fI x)) (.string (fI y))).run P w= .ok (x==y) w:=by
  intro x y u k;rw[run_equalIn_string w _ u _ _ (pJ k rfl)];simp[fI,ByteArray.toList_mk]
 have p0:∀(x y:Bs),(part f.type #[.string (fI x),.string (fI y)] f.offset).run P w= .ok (.string (fI x)) w:=fun x y=>oF h7 (by simp[h5]);have p1:∀(x y:Bs),(part g.type #[.string (fI x),.string (fI y)] g.offset).run P w= .ok (.string (fI y)) w:=fun x y=>oF h8 (by simp[h6]);simp only[Op.eqFields,if_pos h3,if_pos h4,Sem.run_bind,p0,p1,Qab,e1 _ _ _ h7,e1 _ _ _ h8];cases hac:(a==c)<;>cases hbd:(b==d)<;>simp[e1 _ _ _ h8,p1,h4,Sem.run_bind,Qab]<;>simpa using hbd
theorem mF {t:TypeId} (h:we P t=true) {k:List D} {v:Value} (hk:dt .pair k=true) (hv:bN k=some v):∀{es:List (List D×AV)} {l:List MapEntry} (i:Nat),Km w N ν .pair es l→
 (av es k=none∧(Instr.findAsking t v l i).run P w= .ok none w)∨
 ∃j e a,av es k=some a∧fc es k i=some (i+j,a)∧l[j]? =some e∧(Instr.findAsking t v l i).run P w= .ok (some (i+j,e.val)) w
 |[],[],i,.nil=> .inl ⟨rfl,rfl⟩
 |(k',b)::es,e::l,i,.cons g1 g2 g3 g4=>by
  have hs:(Op.equal t v e.key).run P w= .ok (bY k k') w:=by
    obtain ⟨x,y,rfl⟩:=rI hk;obtain ⟨x',y',rfl⟩:=rI g1;simp only[bN,Qaa] at hv g2;rw[←hv,←g2];exact B3 h _ _ _ _ w
  simp only[av,fc,Instr.findAsking,Sem.run_bind,hs,Qab]
  cases hq:bY k k' with
  |true=>exact .inr ⟨0,e,b,rfl,rfl,rfl,rfl⟩
  |false=>
   simp only[QbB,if_false];rcases mF h hk hv (i+1) g4 with ⟨q1,q2⟩|⟨j,e',a',q1,q0,q2,q3⟩
   ·exact .inl ⟨q1,q2⟩
   ·refine .inr ⟨j+1,e',a',q1,?_,by simpa using q2,?_⟩
    ·simp only[q0];congr 2;omega
    ·simp only[q3];congr 3;omega
theorem kq {kt:TypeId} {tk:TI} {tk':TK} (k0:fH P kt tk) {k:List D} {v:Value} (h1:dt tk.key k=true) (h1':dt tk' k=true) (hv:bN k=some v) {es:List (List D×AV)} {l:List MapEntry} (hkm:Km w N ν tk' es l):
 (av es k=none∧fc es k 0=none∧(Instr.findKey kt v l).run P w= .ok none w∧∀x,bp es k x=es++[(k,x)])∨
 ∃j e a,av es k=some a∧fc es k 0=some (j,a)∧l[j]? =some e∧(Instr.findKey kt v l).run P w= .ok (some (j,e.val)) w∧Rv w N ν [a] [e.val]∧(∃k',es[j]? =some (k',a)∧bY k k'=true∧bN k'=some e.key∧∀x,bp es k x=es.set j (k',x)):=by
 obtain ⟨d,d1,d2⟩:=k0.kind
 have low:((av es k=none∧(Instr.findKey kt v l).run P w= .ok none w)∨∃j e a,av es k=some a∧fc es k 0=some (0+j,a)∧l[j]? =some e∧(Instr.findKey kt v l).run P w= .ok (some (0+j,e.val)) w):=by
  unfold TI.key at h1
  cases hp:tk.pair with
  |true=>
   rw[hp] at h1;simp only[cond_true] at h1;have hpb:=k0.pr hp
   have htk:tk'= .pair:=by
    obtain ⟨x,y,rfl⟩:=rI h1;exact Gc h1'
   subst htk;obtain ⟨fs,f,g,q1,_⟩:=pT hpb;have hd:d= .struct fs:=by rw[d1] at q1;injection q1
   subst hd;rcases mF (w:=w) hpb h1 hv 0 hkm with ⟨q1,q2⟩|⟨j,e,a,q1,q0,q2,q3⟩
   ·refine .inl ⟨q1,?_⟩
    unfold Instr.findKey;simp only[Sem.run_bind,run_underlying d1,Qab]
    cases l with
    |nil=>rfl
    |cons x l=>simp only[Instr.findNow,Instr.sameNow];exact q2
   ·refine .inr ⟨j,e,a,q1,q0,q2,?_⟩
    unfold Instr.findKey;simp only[Sem.run_bind,run_underlying d1,Qab]
    cases l with
    |nil=>simp at q2
    |cons x l=>simp only[Instr.findNow,Instr.sameNow];exact q3
  |false=>
   rw[hp] at h1;simp only[cond_false] at h1;rcases ul (w:=w) (N:=N) (ν:=ν) d2 h1 h1' hv 0 hkm with ⟨q1,q2⟩|⟨j,e,a,q1,q0,q2,q3⟩
   ·exact .inl ⟨q1,by simp[Instr.findKey,run_underlying d1,q2]⟩
   ·exact .inr ⟨j,e,a,q1,q0,q2,by simp[Instr.findKey,run_underlying d1,q3]⟩
 rcases Az (k:=k) es 0 with ⟨f1,f2,f3,f4⟩|⟨j,k',a,f1,f2,f3,f4,f5,f6⟩
 ·rcases low with ⟨q1,q2⟩|⟨j,e,a,q1,_⟩
  ·exact .inl ⟨f1,f2,q2,f3⟩
  ·rw[f1] at q1;cases q1
 ·rcases low with ⟨q1,q2⟩|⟨j',e,a',q1,q0,q2,q3⟩
  ·rw[f1] at q1;cases q1
  ·rw[f2] at q0
   simp only[Qaa,Qac,QaG] at q0;obtain ⟨rfl,rfl⟩:=q0;rw[QaG] at f2 q3;obtain ⟨e',r1,_,r3,r4⟩:=hkm.at f3;rw[q2] at r1;injection r1 with r1
   subst r1;exact .inr ⟨j,e,a,f1,f2,q2,q3,r4,k',f3,f4,r3,f5⟩
theorem l7 {tk:TK} {key:List D} (h:dt tk key=true):∃v,bN key=some v:=by
 unfold dt at h;split at h<;>first|exact ⟨_,rfl⟩|cases h
theorem xU {x:AV} {key:List D} {v:Value} (h:Rv w N ν [x] [v]) (hx:wA x=some key) {u:Value} (hu:bN key=some u):v=u:=by
 unfold wA at hx;split at hx
 ·rename_i y
  simp only[Qaa] at hx;subst hx;cases y<;>simp[bN] at hu
  ·rw[dj h,hu]
  ·rw[bU h,hu]
  ·rw[(fN h).1,hu]
 ·rename_i y z
  simp only[Qaa] at hx;subst hx;unfold bN at hu;split at hu<;>rename_i e<;>try (cases hu;done)
  all_goals simp only[QaF,and_true,reduceCtorEq,and_false,false_and] at e
  obtain ⟨rfl,rfl⟩:=e;obtain ⟨xs,e1,e2⟩:=je h;obtain ⟨v1,r1,rfl,g1,g2⟩:=e2.cons_inv;obtain ⟨v2,r2,rfl,g3,g4⟩:=g2.cons_inv;cases g4;rw[e1,(fN g1).1,(fN g3).1];simpa using hu
 ·simp only[Qaa] at hx
  subst hx;simp only[bN,Qaa] at hu;rw[eu h,hu]
 ·cases hx
theorem pk {t:TypeId} (k:fH P t strTI) (n:Nat) (b:Bool) (v:Value):(Instr.checkKey b (n+1) t v).run P w= .ok () w:=by
 unfold Instr.checkKey;simp only[Sem.run_bind,run_underlying (pJ k rfl),Qab];cases v<;>rfl
theorem eF {kt:TypeId} {tk:TI} (k:fH P kt tk) {key:List D} (hk:dt tk.key key=true) (b:Bool) {v:Value} (hv:bN key=some v):(Instr.checkKey b 10000 kt v).run P w= .ok () w:=by
 obtain ⟨d,h1,h2⟩:=k.kind;unfold TI.key at hk
 cases hp:tk.pair with
 |true=>
  rw[hp] at hk;simp only[cond_true] at hk;obtain ⟨fs,f,g,q1,q2,q3,q4,q5,q6,q7,q8,_⟩:=pT (k.pr hp);obtain ⟨x,y,rfl⟩:=rI hk;simp only[bN,Qaa] at hv;subst hv;unfold Instr.checkKey;simp only[Sem.run_bind,run_underlying q1,Qab];rw[←Array.forIn_toList,q2];have p0:(part f.type #[.string (fI x),.string (fI y)] f.offset).run P w= .ok (.string (fI x)) w:=oF q7 (by simp[q5]);have p1:(part g.type #[.string (fI x),.string (fI y)] g.offset).run P w= .ok (.string (fI y)) w:=oF q8 (by simp[q6]);have c0:∀v,(Instr.checkKey b 9999 f.type v).run P w= .ok () w:=fun v=>pk q7 9998 b v;have c1:∀v,(Instr.checkKey b 9999 g.type v).run P w= .ok () w:=fun v=>pk q8 9998 b v
  simp[q3,q4,p0,p1,c0,c1]
 |false=>
  rw[hp] at hk;simp only[cond_false] at hk;unfold Instr.checkKey;simp only[Sem.run_bind,run_underlying h1,Qab];generalize tk.kind=tkk at hk h2;unfold dt at hk;split at hk
  ·cases d<;>simp[eD] at h2;cases v<;>rfl
  ·cases d<;>simp[eD] at h2;cases v<;>rfl
  ·cases d<;>simp[eD] at h2;cases v<;>rfl
  ·simp[eD] at h2
  ·cases hk
theorem od {id:Nat} {v:Value} (h:Rv w N ν [.mapr id] [v]):∃r,v= .map (some r)∧ν id= .map (some r):=by
 cases h with|mapr q _=>exact ⟨_,rfl,q⟩
theorem vN {t:TypeId} {ti:TI} (k:fH P t ti):∃z,(zeroValue t).run P w= .ok z w∧Rv w N ν [kQ ti] [z]:=by
 obtain ⟨i,z,h1,h2,_,h3,h4,h5,_,h6⟩:=k.info;refine ⟨z,by simp[zeroValue,typeInfo,h1,h3],?_⟩;have hz:=gk (w:=w) (N:=N) (ν:=ν) h4;unfold kQ
 cases hag:ti.isAgg with
 |true=>
  rw[hag] at h6;cases z<;>simp at h6;rename_i cs;simp only[cond_true];have:cs=cs.toList.toArray:=by simp
  rw[this]
  exact .agg _ (by simpa [Value.cells] using hz) .nil
 |false=>
  rw[hag] at h6;have hc:z.cells= #[z]:=by cases z<;>simp at h6<;>rfl
  rw[hc] at hz;simp only[cond_false];split
  ·rename_i b as e
   rw[e] at hz;obtain ⟨v,r,e2,q1,_⟩:=hz.cons_inv;simp only[QaF] at e2;rw[e2.1];exact q1
  ·exact .any _ .nil
theorem yp (hT:bi P T=true) (s:St q N0 w0 Nf n ν0 σ h a w ν) {o:Oper} {t:TypeId} {x k:Operand} {ok:Bool} (hop:o.op= .lookup t x k ok) (hv:bq T (am P q.fx) (ev σ) h (.lookup t x k ok) K)
 (hn:∀r h' m a' w' ν',K r h' m→St q N0 w0 Nf n ν0 ((σ.ren m).putO n o.dst r) h' a' w' ν'→next a' w'):o.wpIn (G ro) 0 P a w next Q:=by
 have hxx:=aD s x;have hkk:=aD s k;have he:execOp a.eval o=(do pure (Next.value (←Instr.lookup t (a.eval x) (a.eval k) ok))):=by unfold execOp;rw[hop]
 simp only[bq] at hv;split at hv
 ·rename_i ti hti
  split at hv
  ·rename_i kt vt hk
   split at hv
   ·rename_i tk tv id key htk htv e1 e2
    rw[e1] at hxx;split at hv
    ·rename_i t' tk' es hid
     obtain ⟨hb,r,hr,hv⟩:=hv;simp only[Qag] at hb;obtain ⟨⟨_,b2⟩,b3⟩:=hb;obtain ⟨rr,arr,clock,g1,g2,g3,gB⟩:=s.hp.objs _ _ hid;have hx:a.eval x= .map (some rr):=by obtain ⟨r',q1,q2⟩:=od hxx;rw[q1,←q2,g1]
     obtain ⟨u,hu⟩:=l7 b2;have hku:=xU hkk e2 hu;have hfn:=kq (w:=w) (N:=nN N0 ν) (ν:=ν) (ah hT htk) b2 b3 hu g3;have hobj:(getObj rr).run P w= .ok (.map arr clock) w:=by simp[getObj,Sem.run,g2]
     rw[hx,hku] at he;rcases hfn with ⟨q1,_,q2,_⟩|⟨j,e,b,q1,_,q2,q3,q4,_⟩
     ·obtain ⟨z,z1,z2⟩:=vN (w:=w) (N:=nN N0 ν) (ν:=ν) (ah hT htv)
      rw[q1] at hr;subst hr
      have hrun:(Instr.lookup t (.map (some rr)) u ok).run P w= .ok (if ok then .tuple #[z,.bool false] else z) w:=by
       unfold Instr.lookup;simp only[Sem.run_bind,run_underlying (m9 (ah hT hti) hk),Qab,hobj,Sem.run_pure,eF (ah hT htk) b2 _ hu,q2,z1]
      refine au s ⟨_,aq he hrun,?_⟩ (fun a' w' hs=>hn _ _ (.sub []) a' w' ν hv hs);cases ok
      ·simpa using z2
      ·exact .tup [z,.bool false] (z2.cons (.val _ .nil)) .nil
     ·rw[q1] at hr;subst hr
      have hrun:(Instr.lookup t (.map (some rr)) u ok).run P w= .ok (if ok then .tuple #[e.val,.bool true] else e.val) w:=by
       unfold Instr.lookup;simp only[Sem.run_bind,run_underlying (m9 (ah hT hti) hk),Qab,hobj,Sem.run_pure,eF (ah hT htk) b2 _ hu,q3]
      refine au s ⟨_,aq he hrun,?_⟩ (fun a' w' hs=>hn _ _ (.sub []) a' w' ν hv hs);cases ok
      ·simpa using q4
      ·exact .tup [e.val,.bool true] (q4.cons (.val _ .nil)) .nil
    ·exact hv.elim
   ·exact hv.elim
  ·exact hv.elim
 ·exact hv.elim
theorem nW {k:List D} {u:Value} (hu:bN k=some u) {k':List D} {u':Value} (hu':bN k'=some u') (he:bY k k'=true):u'=u∧Instr.sameBits 10000 u' u=true:=by
 unfold bY at he;split at he
 ·rename_i kd p kd' q
  simp only[Qag,kindEq_iff,beq_iff_eq] at he;obtain ⟨rfl,rfl⟩:=he;simp only[bN,Qaa] at hu hu';subst hu hu';exact ⟨rfl,by simp[Instr.sameBits]⟩
 ·rename_i p q
  simp only[beq_iff_eq] at he;subst he;simp only[bN,Qaa] at hu hu';subst hu hu';exact ⟨rfl,by simp only[Instr.sameBits,yl];simp⟩
 ·rename_i p q
  simp only[beq_iff_eq] at he;subst he;simp only[bN,Qaa] at hu hu';subst hu hu';exact ⟨rfl,by simp[Instr.sameBits]⟩
 ·rename_i p q p' q'
  simp only[Qag,beq_iff_eq] at he;obtain ⟨rfl,rfl⟩:=he;simp only[bN,Qaa] at hu hu';subst hu hu';exact ⟨rfl,by simp[Instr.sameBits,yl]⟩
 ·cases he
theorem Km.set {tk:TK} {es:List (List D×AV)} {l:List MapEntry} (h:Km w N ν tk es l) {j:Nat} {k':List D} {b b':AV} {e:MapEntry} (h1:es[j]? =some (k',b)) (h2:l[j]? =some e) {v:Value} {k2:Value} (hk:k2=e.key) (hv:Rv w N ν [b'] [v]):
 bN k'=some e.key∧Km w N ν tk (es.set j (k',b')) (l.set j {e with key:=k2,val:=v}):=by
 induction h generalizing j with
 |nil=>simp at h1
 |@cons ks a0 es e0 l g1 g2 g3 g4 ih=>
  cases j with
  |zero=>
   simp only[Qat,Qaa,Qac] at h1 h2;obtain ⟨rfl,rfl⟩:=h1;subst h2
   exact ⟨g2,.cons g1 (by rw[g2,hk]) hv g4⟩
  |succ j=>
   obtain ⟨q1,q2⟩:=ih (by simpa using h1) (by simpa using h2);exact ⟨q1,.cons g1 g2 g3 q2⟩
theorem Km.snoc {tk:TK} {es:List (List D×AV)} {l:List MapEntry} (h:Km w N ν tk es l) {k:List D} {b:AV} {e:MapEntry} (h1:dt tk k=true) (h2:bN k=some e.key) (h3:Rv w N ν [b] [e.val]):Km w N ν tk (es++[(k,b)]) (l++[e]):=by
 induction h with
 |nil=>exact .cons h1 h2 h3 .nil
 |cons g1 g2 g3 _ ih=>exact .cons g1 g2 g3 ih
theorem Ep (w:World) (r:Nat) (o:Obj):Kp (fun x=>x=r) w {w with heap:=w.heap.setIfInBounds r o}:=
 ⟨rfl,rfl,rfl,by simp,fun b hb hne=>by rw[Qa0];rw[if_neg (fun e=>hne e.symm)]⟩
theorem wV {arr:Array MapEntry} {clock:Nat} (h:Bu arr clock) (k v:Value):Bu (arr.push {key:=k,val:=v,born:=clock}) (clock+1):=by
 obtain ⟨h1,h2⟩:=h;refine ⟨by simp[h1],fun j e he=>?_⟩;rw[Qbz] at he;split at he
 ·rename_i q;simp only[Qaa] at he;subst he;simp[h1,q]
 ·exact h2 j e he
theorem qR {arr:Array MapEntry} {clock:Nat} (h:Bu arr clock) (i:Nat) (f:MapEntry→MapEntry) (hf:∀e,(f e).born=e.born):Bu (arr.modify i f) clock:=by
 obtain ⟨h1,h2⟩:=h;refine ⟨by simp[h1],fun j e he=>?_⟩;rw[Qbw] at he;split at he
 ·cases hq:arr[j]? with
  |none=>rw[hq] at he;simp at he
  |some e0=>rw[hq] at he;simp only[Qah,Qaa] at he;subst he;rw[hf];exact h2 j e0 hq
 ·exact h2 j e he
theorem lp {arr:Array MapEntry} {j:Nat} {e:MapEntry} (hj:arr.toList[j]? =some e) (f:MapEntry→MapEntry):(arr.modify j f).toList=arr.toList.set j (f e):=by
 have hj':arr[j]? =some e:=by simpa using hj
 apply QaX;intro i;simp only[Array.getElem?_toList,Qbw,Qa9];by_cases hi:j=i
 ·subst hi
  have:j<arr.size:=(Array.getElem?_eq_some_iff.1 hj').1;have h8:=(Array.getElem?_eq_some_iff.1 hj').2;simp[this,h8]
 ·simp[hi]
theorem St.mapSet (s:St q N0 w0 Nf n ν0 σ h a w ν) {id rr:Nat} (g1:ν id= .map (some rr)) {t':TypeId} {tk':TK} {es':List (List D×AV)} {arr':Array MapEntry} {clock':Nat} (hB:tk'.isDel=false→Bu arr' clock')
 (hkm:∀(w':World),Mv w (nN N0 ν) w' (nN N0 ν)→Km w' (nN N0 ν) ν tk'.base es' arr'.toList):
 St q N0 w0 Nf n ν0 σ (h.set id (.map t' tk' es')) a {w with heap:=w.heap.setIfInBounds rr (.map arr' clock')} ν:=by
 have hlt:rr<w.heap.size:=s.hp.bnd id rr (by rw[g1];exact .leaf rfl);refine s.set (by rw[g1];exact .leaf rfl) (Ep w rr _) ⟨rr,arr',clock',g1,by simp[hlt],hkm _ ⟨by simp,fun c hc hN=>⟨hN,?_⟩⟩,hB⟩;simp only[Qa0];rw[if_neg (fun e=>hN (.inr ⟨id,by rw[g1,←e];exact .leaf rfl⟩))]
theorem wb (hT:bi P T=true) (s:St q N0 w0 Nf n ν0 σ h a w ν) {o:Oper} {t:TypeId} {x k v:Operand} (he:execOp a.eval o=(do (Instr.mapUpdate t (a.eval x) (a.eval k) (a.eval v));pure Next.skip)) (hv:nE T (ev σ) h t x k v K)
 (hn:∀r h' m a' w' ν',K r h' m→St q N0 w0 Nf n ν0 ((σ.ren m).putO n o.dst r) h' a' w' ν'→next a' w'):o.wpIn (G ro) 0 P a w next Q:=by
 have hxx:=aD s x;have hkk:=aD s k;have hvv:=aD s v;unfold nE at hv;split at hv
 ·rename_i ti hti
  split at hv
  ·rename_i kt vt hk
   split at hv
   ·rename_i tk id key htk e1 e2
    rw[e1] at hxx;split at hv
    ·rename_i t' tk' es hid
     obtain ⟨hb,hv⟩:=hv;simp only[Qag] at hb;obtain ⟨⟨_,b2⟩,b3⟩:=hb;obtain ⟨rr,arr,clock,g1,g2,g3,gB⟩:=s.hp.objs _ _ hid;have hx:a.eval x= .map (some rr):=by obtain ⟨r',q1,q2⟩:=od hxx;rw[q1,←q2,g1]
     obtain ⟨u,hu⟩:=l7 b2;have hku:=xU hkk e2 hu;have hfn:=kq (w:=w) (N:=nN N0 ν) (ν:=ν) (ah hT htk) b2 b3 hu g3;have hobj:(getObj rr).run P w= .ok (.map arr clock) w:=by simp[getObj,Sem.run,g2]
     have hset:∀ob,(setObj rr ob).run P w= .ok () {w with heap:=w.heap.setIfInBounds rr ob}:=fun ob=>by simp[setObj,Sem.run,g2]
     rw[hx,hku] at he
     have fin:∀arr' clock',(tk'.isDel=false→Bu arr' clock')→(∀(w':World),Mv w (nN N0 ν) w' (nN N0 ν)→Km w' (nN N0 ν) ν tk'.base (bp es key (ev σ v)) arr'.toList)→
      (Instr.mapUpdate t (.map (some rr)) u (a.eval v)).run P w= .ok () {w with heap:=w.heap.setIfInBounds rr (.map arr' clock')}→o.wpIn (G ro) 0 P a w next Q:=by
      intro arr' clock' hB hkm hrun;refine jr ?_ (hn _ _ (.sub []) _ _ ν hv (ey (s.mapSet g1 hB hkm) o.dst (.val _ .nil)));rw[he];simp only[Sem.run_bind,hrun,Qab,Sem.run_pure]
     rcases hfn with ⟨q1,_,q2,q3⟩|⟨j,e,b,q1,_,q2,q3,q4,k',q5,q6,r1,q7⟩
     ·refine fin (arr.push {key:=u,val:=a.eval v,born:=clock}) (clock+1) (fun hd=>wV (gB hd) _ _) (fun w' m=>?_) ?_
      ·rw[q3,QbF]
       exact (g3.mv m (fun _ _=>rfl)).snoc b3 hu (hvv.mv m (fun _ _=>rfl))
      ·unfold Instr.mapUpdate
       simp only[Sem.run_bind,run_underlying (m9 (ah hT hti) hk),Qab,hobj,eF (ah hT htk) b2 _ hu,q2,Sem.run_pure,hset]
     ·have hj':arr[j]? =some e:=by simpa using q2
      obtain ⟨r3,r4⟩:=nW hu r1 q6;refine fin (arr.modify j fun e=>{e with key:=u,val:=a.eval v}) clock (fun hd=>qR (gB hd) _ _ (fun _=>rfl)) (fun w' m=>?_) ?_
      ·obtain ⟨_,r5⟩:=(g3.mv m (fun _ _=>rfl)).set q5 q2 (v:=a.eval v) (k2:=u) r3.symm (hvv.mv m (fun _ _=>rfl))
       rw[q7,lp q2];exact r5
      ·unfold Instr.mapUpdate
       simp only[Sem.run_bind,run_underlying (m9 (ah hT hti) hk),Qab,hobj,eF (ah hT htk) b2 _ hu,q3,Sem.run_pure,hj',Qah,QbK,Instr.keyThatStays,r4,if_true,hset]
    ·exact hv.elim
   ·exact hv.elim
  ·exact hv.elim
 ·exact hv.elim
theorem FT {w:World} {r:Nat} {o:Obj} (h:w.heap[r]? =some o):({w with heap:=w.heap.setIfInBounds r o}:World)=w:=by
 have:w.heap.setIfInBounds r o=w.heap:=by
  apply Array.ext
  ·simp
  ·intro i h1 h2
   rw[Array.getElem_setIfInBounds (by simpa using h1)];split
   ·rename_i e;subst e;exact ((Array.getElem?_eq_some_iff.1 h).2).symm
   ·rfl
 rw[this]
theorem Al {arr:Array MapEntry} {j:Nat} {e:MapEntry} (hj:arr.toList[j]? =some e) (f:MapEntry→MapEntry) (hf:f e=e):arr.modify j f=arr:=by
 apply Array.ext';rw[lp hj,hf];apply QaX;intro i;rw[Qa9];split
 ·rename_i q;subst q
  have:=(List.getElem?_eq_some_iff.1 hj).1;rw[hj];simpa using this
 ·rfl
theorem Bb (hT:bi P T=true) (s:St q N0 w0 Nf n ν0 σ h a w ν) {o:Oper} {t:TypeId} {x k:Operand} (hop:o.op= .mapEntry t x k) (hv:jV T (ev σ) h t x k K)
 (hn:∀r h' m a' w' ν',K r h' m→St q N0 w0 Nf n ν0 ((σ.ren m).putO n o.dst r) h' a' w' ν'→next a' w'):o.wpIn (G ro) 0 P a w next Q:=by
 have hxx:=aD s x;have hkk:=aD s k;have he:execOp a.eval o=(do pure (Next.value (←Instr.mapEntry t (a.eval x) (a.eval k)))):=by unfold execOp;rw[hop]
 unfold jV at hv;split at hv
 ·rename_i ti hti
  split at hv
  ·rename_i kt vt hk
   split at hv
   ·rename_i tk tv id key htk htv e1 e2
    rw[e1] at hxx;split at hv
    ·rename_i t' tk' es hid
     obtain ⟨hb,r,hr,hv⟩:=hv;simp only[Qag] at hb;obtain ⟨⟨⟨⟨_,b2⟩,b3⟩,b4⟩,b5⟩:=hb;obtain ⟨rr,arr,clock,g1,g2,g3,gB⟩:=s.hp.objs _ _ hid
     replace gB:=gB (by simpa using b5)
     have hx:a.eval x= .map (some rr):=by obtain ⟨r',q1,q2⟩:=od hxx;rw[q1,←q2,g1]
     obtain ⟨u,hu⟩:=l7 b2;have hku:=xU hkk e2 hu;have hfn:=kq (w:=w) (N:=nN N0 ν) (ν:=ν) (ah hT htk) b2 b3 hu g3;have hobj:(getObj rr).run P w= .ok (.map arr clock) w:=by simp[getObj,Sem.run,g2]
     have hset:∀ob,(setObj rr ob).run P w= .ok () {w with heap:=w.heap.setIfInBounds rr ob}:=fun ob=>by simp[setObj,Sem.run,g2]
     rw[hx,hku] at he;rcases hfn with ⟨_,q1,q2,q3⟩|⟨j,e,b,_,q1,q2,q3,q4,k',q5,q6,r1,q7⟩
     ·rw[q1] at hr;subst hr
      obtain ⟨z,z1,z2⟩:=vN (P:=P) (w:=w) (N:=nN N0 ν) (ν:=ν) (ah hT htv)
      have hrun:(Instr.mapEntry t (.map (some rr)) u).run P w= .ok (.tuple #[z,goInt clock]) {w with heap:=w.heap.setIfInBounds rr (.map (arr.push {key:=u,val:=z,born:=clock}) (clock+1))}:=by
       unfold Instr.mapEntry;simp only[Sem.run_bind,run_underlying (m9 (ah hT hti) hk),Qab,hobj,eF (ah hT htk) b2 _ hu,q2,z1,Sem.run_pure,hset]
      have hs':=s.mapSet (t':=t') (es':=es++[(key,kQ tv)]) g1 (fun _=>wV gB u z) (fun w' m=>by rw[QbF];exact (g3.mv m (fun _ _=>rfl)).snoc b3 hu (z2.mv m (fun _ _=>rfl)));refine bD (aq he hrun) (hn _ _ (.sub []) _ _ ν hv (ey hs' o.dst ?_));have hl:=g3.len;have:clock=es.length:=by rw[gB.1,←hl];simp
      rw[this];refine .tup [z,_] ((z2.mv ⟨by simp,fun c hc hN=>⟨hN,?_⟩⟩ (fun _ _=>rfl)).cons (.d (.int _ _ .nil) .nil)) .nil;simp only[Qa0];rw[if_neg (fun e=>hN (.inr ⟨id,by rw[g1,←e];exact .leaf rfl⟩))]
     ·rw[q1] at hr;subst hr
      have hj':arr[j]? =some e:=by simpa using q2
      obtain ⟨r3,r4⟩:=nW hu r1 q6
      have hrun:(Instr.mapEntry t (.map (some rr)) u).run P w= .ok (.tuple #[e.val,goInt j]) w:=by
       unfold Instr.mapEntry;simp only[Sem.run_bind,run_underlying (m9 (ah hT hti) hk),Qab,hobj,eF (ah hT htk) b2 _ hu,q3,Sem.run_pure,hj',Qah,QbK,Instr.keyThatStays,r4,if_true,hset];rw[Al q2 _ (by rw[←r3]),gB.2 j e hj',FT g2]
      refine bD (aq he hrun) (hn _ _ (.sub []) _ _ ν hv (ey s o.dst ?_));exact .tup [e.val,_] (q4.cons (.d (.int _ _ .nil) .nil)) .nil
    ·exact hv.elim
   ·exact hv.elim
  ·exact hv.elim
 ·exact hv.elim
theorem CG {arr:Array MapEntry} {clock:Nat} (h:Bu arr clock) {j:Nat} {e:MapEntry} (hj:arr[j]? =some e):arr.findIdx? (fun e=>(e.born:Int)==(j:Int))=some j:=by
 rw[Array.findIdx?_eq_some_iff_getElem];have hlt:=(Array.getElem?_eq_some_iff.1 hj).1;refine ⟨hlt,?_,fun i hi=>?_⟩
 ·have:=h.2 j _ (Qbo hlt)
  simp[this]
 ·have:=h.2 i _ (Qbo (by omega))
  simp[this];omega
theorem yK (hT:bi P T=true) (s:St q N0 w0 Nf n ν0 σ h a w ν) {o:Oper} {t:TypeId} {x k v:Operand} (hop:o.op= .entryStore t x k v) (hv:iE (ev σ) h x k v K)
 (hn:∀r h' m a' w' ν',K r h' m→St q N0 w0 Nf n ν0 ((σ.ren m).putO n o.dst r) h' a' w' ν'→next a' w'):o.wpIn (G ro) 0 P a w next Q:=by
 have hxx:=aD s x;have hkk:=aD s k;have hvv:=aD s v;have he:execOp a.eval o=(do (Instr.entryStore t (a.eval x) (a.eval k) (a.eval v));pure Next.skip):=by unfold execOp;rw[hop]
 unfold iE at hv;split at hv
 ·rename_i id kd j e1 e2
  rw[e1] at hxx;rw[e2] at hkk;split at hv
  ·rename_i t' tk' es hid
   obtain ⟨hb,h0,p,hp,hv⟩:=hv;simp only[Qag] at hb;obtain ⟨rr,arr,clock,g1,g2,g3,gB⟩:=s.hp.objs _ _ hid
   replace gB:=gB (by simpa using hb.2)
   have hx:a.eval x= .map (some rr):=by obtain ⟨r',q1,q2⟩:=od hxx;rw[q1,←q2,g1]
   have hobj:(getObj rr).run P w= .ok (.map arr clock) w:=by simp[getObj,Sem.run,g2]
   have hset:∀ob,(setObj rr ob).run P w= .ok () {w with heap:=w.heap.setIfInBounds rr ob}:=fun ob=>by simp[setObj,Sem.run,g2]
   obtain ⟨e,q2,_,_,q4⟩:=g3.at (k':=p.1) (a:=p.2) hp;have hj':arr[j.toNat]? =some e:=by simpa using q2
   rw[hx,dj hkk] at he;have hjj:((j.toNat:Nat):Int)=j:=Int.toNat_of_nonneg h0;have hfi:=CG gB hj';rw[hjj] at hfi
   have hrun:(Instr.entryStore t (.map (some rr)) (.int kd j) (a.eval v)).run P w= .ok () {w with heap:=w.heap.setIfInBounds rr (.map (arr.modify j.toNat fun e=>{e with val:=a.eval v}) clock)}:=by
    unfold Instr.entryStore;simp only[Sem.run_bind,hobj,Qab,asInt,asIntOf,Sem.run_pure,hfi,hset]
   have hs':=s.mapSet (t':=t') (es':=es.set j.toNat (p.1,ev σ v)) g1 (fun _=>qR gB j.toNat (fun e=>{e with val:=a.eval v}) (fun _=>rfl)) (fun w' m=>by
    obtain ⟨_,r5⟩:=(g3.mv m (fun _ _=>rfl)).set (k':=p.1) (b:=p.2) hp q2 (v:=a.eval v) (k2:=e.key) rfl (hvv.mv m (fun _ _=>rfl));rw[lp q2];exact r5)
   refine jr ?_ (hn _ _ (.sub []) _ _ ν hv (ey hs' o.dst (.val _ .nil)));rw[he];simp only[Sem.run_bind,hrun,Qab,Sem.run_pure]
  ·exact hv.elim
 ·exact hv.elim
theorem yn {k:List D}:∀(es:List (List D×AV)),
 (av es k=none∧fS es k=es)∨∃j:Nat,∃a,av es k=some a∧fc es k 0=some (j,a)∧fS es k=es.eraseIdx j:=by
 have key:∀(es:List (List D×AV)) (i:Nat),(av es k=none∧fS es k=es)∨∃j:Nat,∃a,av es k=some a∧fc es k i=some (i+j,a)∧fS es k=es.eraseIdx j:=by
  intro es
  induction es with
  |nil=>intro i;exact .inl ⟨rfl,rfl⟩
  |cons p es ih=>
   obtain ⟨k',b⟩:=p;intro i
   cases hq:bY k k' with
   |true=>exact .inr ⟨0,b,by simp[av,hq],by simp[fc,hq],by simp[fS,hq]⟩
   |false=>
    rcases ih (i+1) with ⟨h1,h2⟩|⟨j,a,h1,h2,h3⟩
    ·exact .inl ⟨by simp[av,hq,h1],by simp[fS,hq,h2]⟩
    ·refine .inr ⟨j+1,a,by simp[av,hq,h1],?_,by simp[fS,hq,h3]⟩
     simp only[fc,hq,h2]
     congr 2;omega
 intro es;rcases key es 0 with h|⟨j,a,h1,h2,h3⟩
 ·exact .inl h
 ·exact .inr ⟨j,a,h1,by simpa using h2,h3⟩
theorem Km.erase {tk:TK} {es:List (List D×AV)} {l:List MapEntry} (h:Km w N ν tk es l):∀j:Nat,Km w N ν tk (es.eraseIdx j) (l.eraseIdx j):=by
 induction h with
 |nil=>intro j;exact .nil
 |cons h1 h2 h3 h4 ih=>
  intro j
  cases j with
  |zero=>exact h4
  |succ j=>exact .cons h1 h2 h3 (ih j)
theorem Fo (tk:TK):(TK.del tk).base=tk:=rfl
theorem zp (hT:bi P T=true) (s:St q N0 w0 Nf n ν0 σ h a w ν) {o:Oper} {c:Call} {x y:Operand} {t t2:TypeId} (hop:o.op= .call c) (hc:c.callee= .builtin .delete) (hx:c.args.toList=[x,y]) (ht:c.argTypes.toList=[t,t2])
 (hv:vV T h t (ev σ x) (ev σ y) K) (hn:∀r h' m a' w' ν',K r h' m→St q N0 w0 Nf n ν0 ((σ.ren m).putO n o.dst r) h' a' w' ν'→next a' w'):o.wpIn (G ro) 0 P a w next Q:=by
 have e1:c.args= #[x,y]:=by apply Array.ext';simpa using hx
 have e2:c.argTypes= #[t,t2]:=by apply Array.ext';simpa using ht
 have he:∀v w',(Builtin.delete_ #[t,t2] o.type #[a.eval x,a.eval y]).run P w= .ok v w'→(execOp a.eval o).run P w= .ok (.value v) w':=by
  intro v w' hv;rw[iq hop hc,e1,e2];simp only[builtin,Sem.run_bind,Qbb,Qax,Qbp,hv,Qab,Sem.run_pure]
 have hxx:=aD s x;have hkk:=aD s y;unfold vV at hv;split at hv
 case h_2=>exact hv.elim
 rename_i ti hti;split at hv
 case h_2=>exact hv.elim
 rename_i kt vt hk;split at hv
 case h_2=>exact hv.elim
 rename_i tk id key htk q1 q2;rw[q1] at hxx;split at hv
 case h_2=>exact hv.elim
 rename_i t' tk' es hid;obtain ⟨hb,hv⟩:=hv;simp only[Qag] at hb;obtain ⟨⟨_,b2⟩,b3⟩:=hb;obtain ⟨rr,arr,clock,g1,g2,g3,gB⟩:=s.hp.objs _ _ hid;have hxe:a.eval x= .map (some rr):=by obtain ⟨r',z1,z2⟩:=od hxx;rw[z1,←z2,g1]
 obtain ⟨u,hu⟩:=l7 b2;have hku:=xU hkk q2 hu;have hfn:=kq (w:=w) (N:=nN N0 ν) (ν:=ν) (ah hT htk) b2 b3 hu g3;have hobj:(getObj rr).run P w= .ok (.map arr clock) w:=by simp[getObj,Sem.run,g2]
 have hset:∀ob,(setObj rr ob).run P w= .ok () {w with heap:=w.heap.setIfInBounds rr ob}:=fun ob=>by simp[setObj,Sem.run,g2]
 have fin:∀(arr':Array MapEntry),(∀(w':World),Mv w (nN N0 ν) w' (nN N0 ν)→Km w' (nN N0 ν) ν tk'.base (fS es key) arr'.toList)→
  (Builtin.delete_ #[t,t2] o.type #[.map (some rr),u]).run P w= .ok (.tuple #[]) {w with heap:=w.heap.setIfInBounds rr (.map arr' clock)}→o.wpIn (G ro) 0 P a w next Q:=by
  intro arr' hkm hrun;have hs':=s.mapSet (t':=t') (tk':= .del tk'.base) (es':=fS es key) (arr':=arr') (clock':=clock) g1 (fun hd=>by cases hd) (fun w' m=>by rw[Fo];exact hkm w' m);exact bD (he _ _ (by rw[hxe,hku];exact hrun)) (hn _ _ (.sub []) _ _ ν hv (ey hs' o.dst (.val _ .nil)))
 have hrun:∀(r:Option (Nat×Value)) (arr':Array MapEntry),(Instr.findKey kt u arr.toList).run P w= .ok r w→(match r with|some (i,_)=>arr.eraseIdxIfInBounds i|none=>arr)=arr'→
  (Builtin.delete_ #[t,t2] o.type #[.map (some rr),u]).run P w= .ok (.tuple #[]) {w with heap:=w.heap.setIfInBounds rr (.map arr' clock)}:=by
  rintro r arr' hf rfl;unfold Builtin.delete_;simp only[Qbc,Qat,QaU,Sem.run_bind,run_underlying (m9 (ah hT hti) hk),Qab,hobj,Sem.run_pure,eF (ah hT htk) b2 _ hu,hf]
  cases r with
  |none=>simp only[Sem.run_bind,hset,Qab,Sem.run_pure]
  |some p=>simp only[Sem.run_bind,hset,Qab,Sem.run_pure]
 rcases yn (k:=key) es with ⟨f1,f2⟩|⟨j,b,f1,f2,f3⟩
 ·rcases hfn with ⟨z1,_,z2,_⟩|⟨j,e,b,z1,_⟩
  ·exact fin arr (fun w' m=>by rw[f2];exact g3.mv m (fun _ _=>rfl)) (hrun none _ z2 rfl)
  ·rw[f1] at z1;cases z1
 ·rcases hfn with ⟨z1,_⟩|⟨j',e,b',z1,z0,z2,z3,_⟩
  ·rw[f1] at z1;cases z1
  ·rw[f2] at z0
   simp only[Qaa,Qac] at z0;obtain ⟨rfl,rfl⟩:=z0;refine fin (arr.eraseIdxIfInBounds j) (fun w' m=>?_) (hrun (some (j,e.val)) _ z3 rfl);rw[f3]
   have hj:j<arr.size:=by
    have:=(List.getElem?_eq_some_iff.1 z2).1;simpa using this
   have:(arr.eraseIdxIfInBounds j).toList=arr.toList.eraseIdx j:=by
    rw[Array.eraseIdxIfInBounds,dif_pos hj,Array.toList_eraseIdx]
   rw[this];exact (g3.mv m (fun _ _=>rfl)).erase j
end
end Go.Vc
end
section
namespace Go.Vc
theorem lx (z:Array Value):∀n,(madeCells z (n*z.size)).toList=(List.replicate n z.toList).flatten
 |0=>by simp[madeCells]
 |n+1=>by
  have ih:=lx z n;simp only[madeCells,QbH,Array.toList_range] at ih ⊢;rw[Qak,Nat.one_mul,List.range_add,List.map_append,ih,List.map_map]
  have e:(List.range z.size).map ((fun x=>z[x%z.size]!)∘(fun x=>n*z.size+x))=z.toList:=by
   apply QaX;intro j;simp only[QbD,QbA,Function.comp_apply];by_cases hj:j<z.size
   ·rw[QbA hj]
    simp only[Qah]
    have:(n*z.size+j)%z.size=j:=by
     rw[Nat.mul_comm,Nat.mul_add_mod];exact Nat.mod_eq_of_lt hj
    simp only[Function.comp_apply,this];simp[hj]
   ·rw[QaZ (by simp;omega),QaZ (by simp;omega)]
    rfl
  rw[e,List.replicate_succ',Qav];simp
theorem tK (z:Array Value) {l n:Nat} (h:l≤n):(madeCells z (n*z.size)).toList.take (l*z.size)=(List.replicate l z.toList).flatten:=by
 obtain ⟨k,rfl⟩:=Nat.exists_eq_add_of_le h;rw[lx,←Qau,Qav];have:(List.replicate l z.toList).flatten.length=l*z.size:=by simp
 rw[←this];exact Qaz
theorem ox {w:World} {N:Nat→Prop} {z:List D} {cs:List Value} (h:Rd w N z cs):∀n,Rd w N (List.replicate n z).flatten (List.replicate n cs).flatten
 |0=> .nil
 |n+1=>by simp only[Qar,Qaf];exact h.append (ox h n)
section
variable {P:Program} {ro:Option Nat} {q:Md} {T:List (Nat×TI)} {N0 Nf:Nat→Prop} {w0 w w':World} {n:Nat} {σ:Env} {h:Heap} {a:Act} {ν ν' ν0:Nat→Value} {Q:Exit→Act→World→Prop} {next:Act→World→Prop}
 {K:AV→Heap→Rn→Prop}
theorem rj (hT:bi P T=true) (s:St q N0 w0 Nf n ν0 σ h a w ν) {o:Oper} {t:TypeId} {x y:Operand} (hop:o.op= .makeSlice t x y) (hv:bq T (am P q.fx) (ev σ) h (.makeSlice t x y) K)
 (hn:∀r h' m a' w' ν',K r h' m→St q N0 w0 Nf n ν0 ((σ.ren m).putO n o.dst r) h' a' w' ν'→next a' w'):o.wpIn (G ro) 0 P a w next Q:=by
 have hxx:=aD s x;have hyy:=aD s y;have he:execOp a.eval o=(do pure (Next.value (←Instr.makeSlice t (a.eval x) (a.eval y)))):=by unfold execOp;rw[hop]
 simp only[bq] at hv;split at hv
 ·rename_i ti hti
  split at hv
  ·rename_i e hk
   split at hv
   ·rename_i te hte
    split at hv
    ·rename_i z l c hz e1 e2
     rw[e1] at hxx;rw[e2] at hyy;obtain ⟨hb,h0,hlc,hcb,hv⟩:=hv;simp only[Qag] at hb;obtain ⟨⟨⟨b1,b2⟩,b3⟩,bfit⟩:=hb;have b1:=Qaj b1;have b2:0<te.size:=Qaj b2;have b3:=Qad b3;have k:=ah hT hte;have ht:=db (ah hT hti) hk;obtain ⟨i,zv,hi,hs,hby,hzv,hzz,hzs,_⟩:=k.info;unfold big at hcb
     have hbytes:(i.bytes:Int)*c≤281474976710656:=by
      have h1:(i.bytes:Int)≤131072:=by omega
      have h2:(i.bytes:Int)*c≤131072*c:=Int.mul_le_mul_of_nonneg_right h1 (by omega);omega
     have hr:=run_make (P:=P) w t e i zv ht hi hzv .i64 .i64 l c h0 hlc hbytes (by omega);rw[dj hxx,dj hyy] at he;have hcap:l.toNat≤c.toNat:=by omega
     have hrd:Rd w (nN N0 ν) z zv.cells.toList:=(gk (w:=w) (N:=nN N0 ν) (ν:=ν) hzz).dsOf hz;have hsz:i.size=zv.cells.size:=by omega
     have hll:(List.replicate l.toNat z).length=l.toNat:=Qbx;have hzl:z.length=te.size:=b3;have hrv:Rv w (nN N0 ν) ν te.zero zv.cells.toList:=gk hzz
     obtain ⟨ν',hs'⟩:=s.newObj (Kp.alloc w (.cells (madeCells zv.cells (c.toNat*i.size)) e)) (te:=te) (e:=e) (rows:=List.replicate l.toNat z) (A:=some ⟨w.heap.size,0,none⟩) (c:=c.toNat) (fun b hb=>by
      simp only[bG,Qaa] at hb;subst hb;rw[size_alloc];omega)
      (ox hrd l.toNat) (fun r hr=>by rw[List.eq_of_mem_replicate hr];exact b3) (by simp[big];omega) b2
      ⟨by simp[hzs],.inr ⟨w.heap.size,c.toNat,_,by simp,Qay _,dp w _,by simpa using hcap,by unfold maxLen;omega,by rw[size_madeCells];rw[hsz,hzs];exact Qam _,by
        rw[Qbx,←hzs,hsz];exact tK zv.cells hcap⟩⟩ (fun f fs hn=>by
          unfold TI.fits at bfit;rw[hn] at bfit;simp only[Qag] at bfit;refine ⟨by rw[hn];exact Qad bfit.2,?_⟩;obtain ⟨βs,hβ⟩:=nw bfit.1 hrv hz (by rw[←hn];exact Aj k.nts);rw[hll,hn];obtain ⟨γs,hγ⟩:=FJ hβ l.toNat;exact ⟨γs,hγ.keep (by simp)⟩) o.dst
     rw[hll] at hs';exact bD (aq he hr) (hn _ _ (.sub []) _ _ ν' hv hs')
    ·exact hv.elim
   ·exact hv.elim
  ·exact hv.elim
 ·exact hv.elim
theorem Ey (s:St q N0 w0 Nf n ν0 σ h a w ν) {len cap:Nat} {lo hi mx:Option Operand} (hlo:du (ev σ) 0 lo=some 0) (hhi:du (ev σ) len hi=some (len:Int)) (hmx:Cc (ev σ) len hi mx) (hc:len≤cap):
 ∃m,(Instr.sliceBounds true len cap (lo.map a.eval) (hi.map a.eval) (mx.map a.eval)).run P w= .ok (0,len,m) w∧len≤m∧m≤cap:=by
 cases mx with
 |none=>
  refine ⟨cap,?_,hc,Qam _⟩;have:=m3 (P:=P) s (b:=true) (len:=len) (cap:=cap) hlo hhi (by omega) (by omega) (by omega) hc
  simpa using this
 |some x=>
  obtain ⟨h1,h2⟩:=hmx;refine ⟨len,?_,Qam _,hc⟩
  cases hi with
  |none=>simp at h2
  |some y=>
   rcases jO s h1 with ⟨e,_⟩|⟨k1,e1⟩
   ·cases e
   rcases jO s hhi with ⟨e,_⟩|⟨k2,e2⟩
   ·cases e
   simp only[Qah,Qaa] at e1 e2;unfold Instr.sliceBounds;rcases jO s hlo with ⟨rfl,_⟩|⟨k3,e3⟩
   ·simp only[Qah,Qbr,e1,e2,Sem.run_bind,Sem.run_pure,Qab]
    rw[dN k1 _ (by omega) (by omega)];simp only[Qbm,Qab,Sem.run_bind];rw[dN k2 _ (by omega) (by omega)];simp[Sem.run_pure]
   ·simp only[Qah,e1,e2,e3,Sem.run_bind,Sem.run_pure,Qab]
    rw[dN k1 _ (by omega) (by omega)];simp only[Qbm,Qab,Sem.run_bind];rw[dN k2 _ (by omega) (by omega)];simp only[Qbm,Qab,Sem.run_bind];rw[dN k3 _ (by omega) (by omega)];simp[Sem.run_pure]
theorem Ft (A:Option Addr):A.map (·.add 0)=A:=by
 cases A with
 |none=>rfl
 |some x=>cases x;rfl
theorem tp {w:World} {t sz k c m:Nat} {A:Option Addr} {cells:List Value} (h:w.ownRow 0 t sz (.slice A k c) k cells) (h1:k≤m) (h2:m≤c):w.ownRow 0 t sz (.slice A k m) k cells:=by
 refine ⟨h.1,?_⟩;rcases h.2 with ⟨g,g'⟩|⟨b,cap,cur,g,g1,g2,g3,g4,g5,g6⟩
 ·injection g with e1 e2 e3
  subst e1 e2 e3;have:m=0:=by omega
  subst this;exact .inl ⟨rfl,rfl⟩
 ·injection g with e1 e2 e3
  subst e1 e3;exact .inr ⟨b,m,cur,rfl,g1,g2,h1,by omega,Nat.le_trans (QaH _ h2) g5,g6⟩
theorem zb (hT:bi P T=true) (s:St q N0 w0 Nf n ν0 σ h a w ν) {o:Oper} {t id:Nat} {x:Operand} {lo hi mx:Option Operand} (hop:o.op= .slice t x lo hi mx) (hx:ev σ x= .own id) (hv:jR T q.fx (ev σ) h t id lo hi mx K)
 (hn:∀r h' m a' w' ν',K r h' m→St q N0 w0 Nf n ν0 ((σ.ren m).putO n o.dst r) h' a' w' ν'→next a' w'):o.wpIn (G ro) 0 P a w next Q:=by
 have hxx:=aD s x;rw[hx] at hxx;obtain ⟨hxv,A0,m0,c0,hroot⟩:=gn hxx;have he:execOp a.eval o=(do pure (Next.value (←Instr.sliceAt t (a.eval x) (lo.map a.eval) (hi.map a.eval) (mx.map a.eval)))):=by unfold execOp;rw[hop]
 unfold jR at hv;split at hv
 case h_2=>exact hv.elim
 rename_i ti hti;split at hv
 case h_2=>exact hv.elim
 rename_i e hk;split at hv
 case h_2=>exact hv.elim
 rename_i te hte;obtain ⟨hfx,hv⟩:=hv;have hu:=db (ah hT hti) hk;have hne:ν id≠undef:=dc hroot
 have hid':id<h.nx:=by
  rcases Qa6 id h.nx with q|q
  ·exact q
  ·exact absurd (s.hp.dom id q) hne
 have hf0:ν0 id≠undef→q.fx=true→False:=fun hu hf=>by
  rw[hf] at hfx;exact hu (s.low.2 id (Qaj (by simpa using hfx)))
 have fin:∀{len cap:Nat} {A:Option Addr},ac (ν id)= .slice A len cap→len≤cap→du (ev σ) 0 lo=some 0→du (ev σ) len hi=some (len:Int)→Cc (ev σ) len hi mx→
  ∃m,len≤m∧m≤cap∧(execOp a.eval o).run P w= .ok (.value (.slice A len m)) w:=by
  intro len cap A hr hc hlo hhi hmx;obtain ⟨m,h1,h2,h3⟩:=Ey (P:=P) s hlo hhi hmx hc;refine ⟨m,h2,h3,aq he ?_⟩;unfold Instr.sliceAt;simp only[Sem.run_bind,run_underlying hu,Qab];unfold Instr.slice;simp only[Sem.run_bind,run_underlying hu,Qab,hxv,hr];simp only[h1,Qab,bI (ah hT hte),Sem.run_pure,Qbd,Ft,ite_self,Nat.sub_zero]
 split at hv
 ·rename_i e' sz rows hid
  obtain ⟨hb,hlo,hhi,hmx,hv⟩:=hv;have hv:=forceH_iff.1 hv;obtain ⟨A,c,cells,p1,p2,p3,p4,p5,p6⟩:=s.hp.objs _ _ hid;rw[p1] at p6;obtain ⟨_,hc⟩:=d5 (N:=fun _=>False) p6 (fun _ _ g=>g);obtain ⟨m,h1,h2,h3⟩:=fin (by rw[p1];rfl) hc hlo hhi hmx;have p7:=tp p6 h1 h2
  refine bD h3 (hn _ _ (.tsub [id]) _ w _ hv (s.absorb (id:=id) (nx:=h.nx) (val:= .slice A rows.length m) (ks:=[]) (fz:=[id]) (o:= .row e' sz rows) (Qam _) hid' ⟨rfl,rfl,rfl,Qam _,fun _ _ _=>rfl⟩ (fun b g=>?_) (by simp) (by simp) (.inl (by simp))
   (fun hu=>⟨DC s hroot hu,fun hf=>(hf0 hu hf).elim⟩) (fun mm=>⟨A,m,cells,ee,p2.mv mm,p3,p4,p5,by rw[ee];exact p7⟩) (fun j o' ho=>by
     rcases i7 ho with g|⟨g1,g2,g3⟩
     ·exact .inl g
     ·exact .inr ⟨g1,by simp,g3⟩) o.dst (fun mm=> .own (by rw[ee];rfl) .nil)))
  have g:=ow_slice.1 g;exact ⟨i0 p7 b g,.inl (by rw[p1];exact ow_slice.2 (by cases A<;>simp_all [bG]))⟩
 ·rename_i e' sz fs rows hid
  obtain ⟨hb,hlo,hhi,hmx,hv⟩:=hv;have hv:=forceH_iff.1 hv;obtain ⟨bs,hTb,hnd⟩:=s.hp.objs _ _ hid;have hTb0:=hTb;obtain ⟨A,cap,cells,βs,b1,p0,rfl,p1,p2,p3,p4,p5,p6⟩:=hTb0;obtain ⟨_,hc⟩:=d5 (N:=fun _=>False) p6 (fun _ _ g=>g);obtain ⟨m,h1,h2,h3⟩:=fin (by rw[p0];rfl) hc hlo hhi hmx;have p7:=tp p6 h1 h2;have hvb:bG (.slice A rows.length m)=bG (.slice A rows.length cap):=by cases A<;>rfl
  have hTb':Tb w e' sz fs rows (.tuple (.slice A rows.length m::βs).toArray) ((bG (.slice A rows.length cap)).toList++b1):=⟨A,m,cells,βs,b1,rfl,by rw[hvb],p1,p2,p3,p4,p5,p7⟩
  refine bD h3 (hn _ _ (.tsub [id]) _ w _ hv (s.absorb (id:=id) (nx:=h.nx) (val:= .tuple (.slice A rows.length m::βs).toArray) (ks:=[]) (fz:=[id]) (o:= .tree e' sz fs rows) (Qam _) hid' ⟨rfl,rfl,rfl,Qam _,fun _ _ _=>rfl⟩ (fun b g=>?_) (by simp) (by simp) (.inl (by simp))
   (fun hu=>⟨DC s hroot hu,fun hf=>(hf0 hu hf).elim⟩) (fun mm=>⟨_,by rw[ee];exact hTb',hnd⟩) (fun j o' ho=>by
     rcases i7 ho with g|⟨g1,g2,g3⟩
     ·exact .inl g
     ·exact .inr ⟨g1,by simp,g3⟩) o.dst (fun mm=> .own (by rw[ee];rfl) .nil)))
  have g:=(hTb'.ow b).1 g;exact ⟨hTb'.bnd b g,.inl ((hTb.ow b).2 g)⟩
 ·exact hv.elim
theorem I5 {w:World} {N:Nat→Prop} {ν:Nat→Value} {f:FuncId} {v:Value} (h:Rv w N ν [.d (.fn f)] [v]):v= .func (.func f) #[] #[]:=by
 cases h with|d h1 _=>cases h1;rfl
theorem CM (hT:bi P T=true) (s:St q N0 w0 Nf n ν0 σ h a w ν) {o:Oper} {c:Call} (hop:o.op= .call c) (hv:bq T (am P q.fx) (ev σ) h (.call c) K)
 (hn:∀r h' m a' w' ν',K r h' m→St q N0 w0 Nf n ν0 ((σ.ren m).putO n o.dst r) h' a' w' ν'→next a' w'):o.wpIn (G ro) 0 P a w next Q:=by
 simp only[bq] at hv;have harr:∀vs:List Value,(c.args.map a.eval++vs.toArray)=(c.args.toList.map a.eval++vs).toArray:=fun vs=>by apply Array.ext';simp
 split at hv
 ·rename_i f hc
  split at hv
  ·rename_i g caps e
   have hf:=aD s f;rw[e] at hf;obtain ⟨xs,h1,h2⟩:=Iz hf;refine ii s ((iL s c.args.toList).append h2) hv (fun he=>?_) hn;rw[k9 hop hc h1 he,harr]
  ·rename_i g e
   have hf:=aD s f;rw[e] at hf;have h1:=I5 hf;refine ii s ((iL s c.args.toList).append .nil) hv (fun he=>?_) hn;rw[k9 hop hc h1 he,←harr]
  ·rename_i g first e
   have hf:=aD s f;rw[e] at hf;obtain ⟨xs,h1,h2⟩:=FW hf;refine ii s (h2.append (iL s c.args.toList)) hv (fun he=>?_) hn;rw[og hop hc h1 he,show xs.toArray++c.args.map a.eval=(xs++c.args.toList.map a.eval).toArray from by apply Array.ext';simp]
  ·exact hv.elim
 ·rename_i x name hc
  split at hv
  ·rename_i t v e
   have hf:=aD s x;rw[e] at hf;obtain ⟨u,h1,h2⟩:=k8 hf;split at hv
   ·rename_i ti hti
    have key:ti.kind≠ .ptr→(match ti.meths.lookup name with|some f=>kU (am P q.fx) f (v::c.args.toList.map (ev σ)) h K|none=>False)→o.wpIn (G ro) 0 P a w next Q:=by
     intro hp hv;split at hv
     ·rename_i f hm
      refine ii s (h2.cons (iL s c.args.toList)) hv (fun he=>?_) hn;rw[kD hop hc h1 (ah hT hti) hp hm he]
      congr 2
      apply Array.ext';simp
     ·exact hv.elim
    split at hv
    ·exact hv.elim
    ·rename_i hp;exact key hp hv
   ·exact hv.elim
  ·exact hv.elim
 ·rename_i hc
  split at hv
  ·rename_i x t e1 e2
   split at hv
   ·rename_i ti hti
    exact zk hT s hop hc e1 e2 hti hv hn
   ·exact hv.elim
  ·exact hv.elim
 ·rename_i hc
  split at hv
  ·rename_i x y t t2 e1 e2
   exact sa hT s hop hc e1 e2 hv hn
  ·exact hv.elim
 ·rename_i hc
  split at hv
  ·rename_i x y t t2 e1 e2
   exact xl hT s hop hc e1 e2 hv hn
  ·exact hv.elim
 ·rename_i hc
  split at hv
  ·rename_i x y t t2 e1 e2
   exact zp hT s hop hc e1 e2 hv hn
  ·exact hv.elim
 ·exact hv.elim
theorem dK (hT:bi P T=true) (s:St q N0 w0 Nf n ν0 σ h a w ν) {o:Oper} (hv:bq T (am P q.fx) (ev σ) h o.op K)
 (hn:∀r h' m a' w' ν',K r h' m→St q N0 w0 Nf n ν0 ((σ.ren m).putO n o.dst r) h' a' w' ν'→next a' w'):o.wpIn (G ro) 0 P a w next Q:=by
 have rest:(match bB T (ev σ) h o.op with|some (r,h',m)=>K r h' m|none=>False)→o.wpIn (G ro) 0 P a w next Q:=by
  intro hv;split at hv
  ·rename_i r h' m hf
   exact qz hT s hf (fun a' w' ν' hs=>hn r h' m a' w' ν' hv hs)
  ·exact hv.elim
 have restE:jc T (ev σ) h o.op K→o.wpIn (G ro) 0 P a w next Q:=by
  intro hv;unfold jc at hv;split at hv
  ·rename_i r h' m hf
   exact qz hT s hf (fun a' w' ν' hs=>hn r h' m a' w' ν' hv hs)
  ·split at hv
   ·rename_i c r h' m hf
    exact yd hT s hf hv.1 (fun a' w' ν' hs=>hn r h' m a' w' ν' hv.2 hs)
   ·exact hv.elim
 cases hop:o.op<;>rw[hop] at hv rest restE
 case call c=>exact CM hT s hop hv hn
 case index t x i=>exact AN hT s hop hv hn
 case indexAddr t x i=>exact rq hT s hop hv hn
 case store t x y=>exact zG hT s hop hv hn
 case makeSlice t x y=>exact rj hT s hop hv hn
 case lookup t x k ok=>exact yp hT s hop hv hn
 case mapUpdate t x k v=>exact wb hT s (by unfold execOp;rw[hop]) hv hn
 case insert t x k v=>exact wb hT s (by unfold execOp;rw[hop]) hv hn
 case mapEntry t x k=>exact Bb hT s hop hv hn
 case entryStore t x k v=>exact yK hT s hop hv hn
 case load t x=>
  rcases Ci hv with hv|⟨id,i,sz,off,t',fs,rows,r,ti,v,e1,e2,e3,e4,e5,hk⟩
  ·exact rest hv
  ·exact sj hT s hop e1 e2 e3 e4 e5 (fun a' w' ν' hs=>hn _ _ (.sub []) a' w' ν' hk hs)
 case slice t x lo hi mx=>
  simp only[bq] at hv;split at hv
  ·rename_i id e
   exact zb hT s hop e hv hn
  ·exact restE hv
 all_goals (simp only[bq] at hv;exact restE hv)
end
end Go.Vc
end
section
namespace Go.Vc
section
variable {P:Program} {ro:Option Nat} {q:Md} {T:List (Nat×TI)} {S:bg} {N0 Nf:Nat→Prop} {w0 w w':World} {n:Nat} {σ σ':Env} {h:Heap} {a:Act} {ν ν' ν0:Nat→Value} {Q:Exit→Act→World→Prop} {ops:Array Oper}
theorem y3 {want b:Bool} {A B:Prop} (h:br want b A B) (e:b=want):A:=by
 subst e;cases b<;>exact h.1 rfl
theorem DT {want b:Bool} {A B:Prop} (h:br want b A B) (e:b= !want):B:=by
 subst e;cases want<;>exact h.2 rfl
theorem zU (σ:Env) (k:Nat) (v:AV) (h:σ k=v):σ.put k v=σ:=by
 funext j
 unfold Env.put;by_cases e:j=k
 ·subst e;rw[ga];exact h.symm
 ·rw[eQ e];rfl
theorem iK {N:Nat→Prop} {gd:Nat} {b:Bool} (h:Rv w N ν [.d (.bool b)] [a.tmps.getD gd undef]):a.tmps[gd]? =some (.bool b):=by
 have e:=bU h;rw[Qa1] at e
 cases hq:a.tmps[gd]? with
 |none=>rw[hq] at e;simp[undef] at e
 |some v=>rw[hq] at e;simp at e;rw[e]
theorem jL {N:Nat→Prop} {gd:Nat} {b:Bool} (h:Rv w N ν [.val (.bool b)] [a.tmps.getD gd undef]):a.tmps[gd]? =some (.bool b):=by
 have e:=eu h;rw[Qa1] at e
 cases hq:a.tmps[gd]? with
 |none=>rw[hq] at e;simp[undef] at e
 |some v=>rw[hq] at e;simp at e;rw[e]
theorem St.know (s:St q N0 w0 Nf n ν0 σ h a w ν) {k:Nat} {x:AV} (hx:Rv w (nN N0 ν) ν [x] [a.tmps.getD k undef]):St q N0 w0 Nf n ν0 (σ.put k x) h a w ν:=by
 refine ⟨fun j=>?_,s.hp,s.kp,s.fresh,s.size,s.defers,s.keep,s.low⟩;unfold Env.put;by_cases e:j=k
 ·subst e;rw[ga];exact hx
 ·rw[eQ e];exact s.slots j
theorem dY {o:Oper} {g:Nat} {want:Bool} {gd:Nat} (hg:o.guard=some (g,want)) (hd:(ops[g]?).bind (·.dst)=some gd) {b:Bool} (hb:a.tmps[gd]? =some (.bool b)):
 Region.wanted o (yielded ops a.tmps)=(b==want):=by
 simp only[Region.wanted,hg,yielded,hd,QbL,hb];cases b<;>cases want<;>rfl
theorem ig {o:Oper} {g:Nat} {want:Bool} {gd:Nat} {xs:Array Value} {N:Nat→Prop} (hg:o.guard=some (g,want)) (hd:(ops[g]?).bind (·.dst)=some gd) (hv:Rv w N ν [.val (.tuple xs)] [a.tmps.getD gd undef]):
 Region.wanted o (yielded ops a.tmps)=false:=by
 have e':∀v,Rv w N ν [.val (.tuple xs)] [v]→v= .tuple xs:=by intro v h;cases h;rfl
 have e:=e' _ hv;simp only[Region.wanted,hg,yielded,hd,QbL];rw[Qa1] at e
 cases hq:a.tmps[gd]? with
 |none=>rfl
 |some v=>rw[hq] at e;simp at e;rw[e];rfl
theorem St.skip (s:St q N0 w0 Nf n ν0 σ h a w ν) (d:Option Nat):St q N0 w0 Nf n ν0 (σ.putO n d (.val undef)) h (a.put d undef) w ν:=ey s d (.val _ .nil)
theorem St.world (s:St q N0 w0 Nf n ν0 σ h a w ν) (hk:Kp (fun _=>False) w w'):St q N0 w0 Nf n ν0 σ h a w' ν:=s.seen (d:=none) (r:= .val undef) (v:=undef) hk (.val _ .nil)
theorem c8 (hT:bi P T=true) {K:Env→Heap→Prop} {tail:List Oper} (hK:∀σ h a w ν,K σ h→St q N0 w0 Nf n ν0 σ h a w ν→wpListIn (G ro) 0 P ops Q tail a w):∀(rest:List Oper) {σ:Env} {h:Heap} {a:Act} {w:World} {ν:Nat→Value},
 St q N0 w0 Nf n ν0 σ h a w ν→hU T (am P q.fx) n ops rest σ h K→wpListIn (G ro) 0 P ops Q (rest++tail) a w
 |[],σ,h,a,w,ν,s,hv=>hK _ _ _ _ _ hv s
 |o::rest,σ,h,a,w,ν,s,hv=>by
  rw[r7] at hv;unfold lR at hv;rw[List.cons_append];unfold wpListIn;split at hv
  ·rename_i hg
   rw[if_pos (by simp[Region.wanted,hg])];exact dK hT s hv fun r h' m a' w' ν' hk hs=>c8 hT hK rest hs (heapK_iff.1 (putK_iff.1 hk))
  ·rename_i g want hg
   split at hv
   ·exact hv.elim
   ·rename_i gd hd
    split at hv
    ·rename_i b hb
     have hsl:=s.slots gd;rw[hb] at hsl;have hw:=dY (ops:=ops) hg hd (iK hsl);have hval:∀c,b=c→Rv w (nN N0 ν) ν [.val (.bool c)] [a.tmps.getD gd undef]:=fun c e=>by rw[bU hsl,e];exact .val _ .nil
     by_cases e:b=want
     ·rw[if_pos (by rw[hw];simp[e])]
      exact dK hT (s.know (hval _ e)) (y3 hv e) fun r h' m a' w' ν' hk hs=>c8 hT hK rest hs (heapK_iff.1 (putK_iff.1 hk))
     ·have e':b= !want:=by cases b<;>cases want<;>simp_all
      rw[if_neg (by rw[hw];simp[e])];exact ⟨fun _ _=>trivial,c8 hT hK rest ((s.know (hval _ e')).skip o.dst) (DT hv e')⟩
    ·rename_i b hb
     have hsl:=s.slots gd;rw[hb] at hsl;have hw:=dY (ops:=ops) hg hd (jL hsl);cases hbw:(b==want)<;>rw[hbw] at hv hw
     ·rw[if_neg (by rw[hw];simp)]
      exact ⟨fun _ _=>trivial,c8 hT hK rest (s.skip o.dst) hv⟩
     ·rw[if_pos hw]
      exact dK hT s hv fun r h' m a' w' ν' hk hs=>c8 hT hK rest hs (heapK_iff.1 (putK_iff.1 hk))
    ·rename_i xs hb
     have hsl:=s.slots gd;rw[hb] at hsl;rw[if_neg (by rw[ig hg hd hsl];simp)];exact ⟨fun _ _=>trivial,c8 hT hK rest (s.skip o.dst) hv⟩
    ·exact hv.elim
theorem kS (hT:bi P T=true) {K:Env→Heap→Prop} (hK:∀σ h a w ν,K σ h→St q N0 w0 Nf n ν0 σ h a w ν→Q .normal a w) (rest:List Oper) {σ:Env} {h:Heap} {a:Act} {w:World} {ν:Nat→Value}
 (s:St q N0 w0 Nf n ν0 σ h a w ν) (hv:hU T (am P q.fx) n ops rest σ h K):wpListIn (G ro) 0 P ops Q rest a w:=by
 have:wpListIn (G ro) 0 P ops Q (rest++[]) a w:=c8 (tail:=[]) hT (fun σ h a w ν hk hs=>hK σ h a w ν hk hs) rest s hv
 rwa [QbN] at this
theorem BB {f:FuncId} {args:List AV} {Φ:AV→Heap→Rn→Prop} (hv:pA S f args h Φ):∃r h' m,Φ r h' m∧pA S f args h (fun r' h'' m'=>r'=r∧h''=h'∧m'=m):=by
 unfold pA at hv ⊢;split at hv
 case h_2=>exact hv.elim
 rename_i id i off mm j args' hna;try simp only[hna]
 split at hv
 case h_2=>exact hv.elim
 rename_i t sz fs rows hid;try simp only[hid]
 split at hv
 case h_2=>exact hv.elim
 rename_i t' sz' fs' hfs;try simp only[hfs]
 obtain ⟨hmj,row,rn,hrow,hoff,r,h',hsc,hc,rn',hrn',hk⟩:=hv;exact ⟨_,_,_,forceH_iff.1 (forceDs_iff.1 hk),hmj,row,rn,hrow,hoff,r,h',hsc,hc,rn',hrn',forceDs_iff.2 (forceH_iff.2 ⟨rfl,rfl,rfl⟩)⟩
theorem uf {p:Option (Nat×Nat)} {lo:Nat} {r:AV} {h1:Heap} {Φ:AV→Heap→Rn→Prop} (hv:nh p lo r h1 Φ):∃r' h' m,Φ r' h' m∧nh p lo r h1 (fun x y z=>x=r'∧y=h'∧z=m):=by
 unfold nh at hv ⊢
 cases p with
 |none=>exact ⟨_,_,_,forceH_iff.1 hv,forceH_iff.2 ⟨rfl,rfl,rfl⟩⟩
 |some p=>obtain ⟨a,b⟩:=p;exact ⟨_,_,_,forceH_iff.1 hv.2,hv.1,forceH_iff.2 ⟨rfl,rfl,rfl⟩⟩
theorem jX {f:FuncId} {args:List AV} {Φ:AV→Heap→Rn→Prop} (hv:kU S f args h Φ):∃r h' m,Φ r h' m∧kU S f args h (fun r' h'' m'=>r'=r∧h''=h'∧m'=m):=by
 rcases hv with ⟨r,h1,h2⟩|⟨r,h',h1,h2⟩|⟨r,h',h1,h2⟩|⟨r,h1,h2,h3⟩|⟨r,h1,h2⟩|⟨r,h',h1,h2,h3⟩|⟨r,h',h1,h2,h3⟩|⟨ids,p,r,h',h1,h2,h3⟩|hv|⟨ids,p,r,h',h1,h2,h3⟩|⟨as,r,h1,h2,h3,h4⟩
 ·cases hs:AV.scalar r with
  |true=>rw[hs] at h2;exact ⟨r,h,.sub [],h2,.inl ⟨r,h1,by rw[hs];exact ⟨rfl,rfl,rfl⟩⟩⟩
  |false=>rw[hs] at h2;exact ⟨r,_,_,h2,.inl ⟨r,h1,by rw[hs];exact ⟨rfl,rfl,rfl⟩⟩⟩
 ·exact ⟨r,h',_,h2,.inr (.inl ⟨r,h',h1,rfl,rfl,rfl⟩)⟩
 ·exact ⟨r,h',_,h2,.inr (.inr (.inl ⟨r,h',h1,rfl,rfl,rfl⟩))⟩
 ·exact ⟨r,h,_,h3,.inr (.inr (.inr (.inl ⟨r,h1,h2,rfl,rfl,rfl⟩)))⟩
 ·exact ⟨r,h,_,h2,.inr (.inr (.inr (.inr (.inl ⟨r,h1,rfl,rfl,rfl⟩))))⟩
 ·exact ⟨_,_,_,forceH_iff.1 h3,.inr (.inr (.inr (.inr (.inr (.inl ⟨r,h',h1,h2,forceH_iff.2 ⟨rfl,rfl,rfl⟩⟩)))))⟩
 ·exact ⟨_,_,_,forceH_iff.1 h3,.inr (.inr (.inr (.inr (.inr (.inr (.inl ⟨r,h',h1,h2,forceH_iff.2 ⟨rfl,rfl,rfl⟩⟩))))))⟩
 ·obtain ⟨r',h'',m,g1,g2⟩:=uf h3
  exact ⟨r',h'',m,g1,.inr (.inr (.inr (.inr (.inr (.inr (.inr (.inl ⟨ids,p,r,h',h1,h2,g2⟩)))))))⟩
 ·obtain ⟨r,h',m,h1,h2⟩:=BB hv
  exact ⟨r,h',m,h1,.inr (.inr (.inr (.inr (.inr (.inr (.inr (.inr (.inl h2))))))))⟩
 ·obtain ⟨r',h'',m,g1,g2⟩:=uf h3
  exact ⟨r',h'',m,g1,.inr (.inr (.inr (.inr (.inr (.inr (.inr (.inr (.inr (.inl ⟨ids,p,r,h',h1,h2,g2⟩)))))))))⟩
 ·exact ⟨r,h,_,h4,.inr (.inr (.inr (.inr (.inr (.inr (.inr (.inr (.inr (.inr ⟨as,r,h1,h2,h3,rfl,rfl,rfl⟩)))))))))⟩
theorem xp {fx:Bool} {t t2:TypeId} {x y:AV} {Φ:AV→Heap→Rn→Prop} (hv:jt T fx h t t2 x y Φ):∃r h' m,Φ r h' m∧jt T fx h t t2 x y (fun r' h'' m'=>r'=r∧h''=h'∧m'=m):=by
 unfold jt at hv ⊢;split at hv
 case h_2=>exact hv.elim
 rename_i ti hti;try simp only[hti]
 split at hv
 case h_2=>exact hv.elim
 rename_i e hk;try simp only[hk]
 split at hv
 case h_2=>exact hv.elim
 rename_i te hte;try simp only[hte]
 split at hv
 ·rename_i fs new ks cp htn
  try simp only[htn]
  obtain ⟨g1,g2,hv⟩:=hv;split at hv
  ·split at hv
   ·rename_i hid
    try simp only[hid]
    obtain ⟨g3,g4,hv⟩:=hv;exact ⟨_,_,_,forceH_iff.1 hv,g1,g2,g3,g4,forceH_iff.2 ⟨rfl,rfl,rfl⟩⟩
   ·exact hv.elim
  ·obtain ⟨g3,hv⟩:=hv
   exact ⟨_,_,_,forceH_iff.1 hv,g1,g2,g3,forceH_iff.2 ⟨rfl,rfl,rfl⟩⟩
  ·exact hv.elim
 ·rename_i htn
  try simp only[htn]
  split at hv
  case h_2=>exact hv.elim
  rename_i new hnew;try simp only[hnew]
  obtain ⟨g1,g2,hv⟩:=hv;split at hv
  ·split at hv
   ·rename_i hid
    try simp only[hid]
    obtain ⟨g3,g4,hv⟩:=hv;exact ⟨_,_,_,hv,g1,g2,g3,g4,rfl,rfl,rfl⟩
   ·exact hv.elim
  ·obtain ⟨g3,hv⟩:=hv
   exact ⟨_,_,_,hv,g1,g2,g3,rfl,rfl,rfl⟩
  ·exact hv.elim
theorem zi {fx:Bool} {ρ:Operand→AV} {t id:Nat} {lo hi mx:Option Operand} {Φ:AV→Heap→Rn→Prop} (hv:jR T fx ρ h t id lo hi mx Φ):∃r h' m,Φ r h' m∧jR T fx ρ h t id lo hi mx (fun r' h'' m'=>r'=r∧h''=h'∧m'=m):=by
 unfold jR at hv ⊢;split at hv
 case h_2=>exact hv.elim
 rename_i ti hti;try simp only[hti]
 split at hv
 case h_2=>exact hv.elim
 rename_i e hk;try simp only[hk]
 split at hv
 case h_2=>exact hv.elim
 rename_i te hte;try simp only[hte]
 obtain ⟨g0,hv⟩:=hv;split at hv
 ·rename_i hid
  try simp only[hid]
  obtain ⟨g1,g2,g3,g4,hv⟩:=hv;exact ⟨_,_,_,forceH_iff.1 hv,g0,g1,g2,g3,g4,forceH_iff.2 ⟨rfl,rfl,rfl⟩⟩
 ·rename_i hid
  try simp only[hid]
  obtain ⟨g1,g2,g3,g4,hv⟩:=hv;exact ⟨_,_,_,forceH_iff.1 hv,g0,g1,g2,g3,g4,forceH_iff.2 ⟨rfl,rfl,rfl⟩⟩
 ·exact hv.elim
theorem Ec {t:TypeId} {x k:AV} {Φ:AV→Heap→Rn→Prop} (hv:vV T h t x k Φ):∃r h' m,Φ r h' m∧vV T h t x k (fun r' h'' m'=>r'=r∧h''=h'∧m'=m):=by
 unfold vV at hv ⊢;split at hv
 ·rename_i ti hti
  try simp only[hti]
  split at hv
  ·rename_i kt vt hk
   try simp only[hk]
   split at hv
   ·rename_i e1 e3
    try simp only[e1,e3]
    split at hv
    ·rename_i hid
     try simp only[hid]
     exact ⟨_,_,_,hv.2,hv.1,rfl,rfl,rfl⟩
    ·exact hv.elim
   ·exact hv.elim
  ·exact hv.elim
 ·exact hv.elim
theorem vS {ρ:Operand→AV} {t:TypeId} {x k v:Operand} {Φ:AV→Heap→Rn→Prop} (hv:nE T ρ h t x k v Φ):∃r h' m,Φ r h' m∧nE T ρ h t x k v (fun r' h'' m'=>r'=r∧h''=h'∧m'=m):=by
 unfold nE at hv ⊢;split at hv
 ·rename_i ti hti
  try simp only[hti]
  split at hv
  ·rename_i kt vt hk
   try simp only[hk]
   split at hv
   ·rename_i e1 e2 e3
    try simp only[e1,e2,e3]
    split at hv
    ·rename_i hid
     try simp only[hid]
     exact ⟨_,_,_,hv.2,hv.1,rfl,rfl,rfl⟩
    ·exact hv.elim
   ·exact hv.elim
  ·exact hv.elim
 ·exact hv.elim
theorem zo {ρ:Operand→AV} {t:TypeId} {x k:Operand} {Φ:AV→Heap→Rn→Prop} (hv:jV T ρ h t x k Φ):∃r h' m,Φ r h' m∧jV T ρ h t x k (fun r' h'' m'=>r'=r∧h''=h'∧m'=m):=by
 unfold jV at hv ⊢;split at hv
 ·rename_i ti hti
  try simp only[hti]
  split at hv
  ·rename_i kt vt hk
   try simp only[hk]
   split at hv
   ·rename_i e1 e2 e3 e4
    try simp only[e1,e2,e3,e4]
    split at hv
    ·rename_i hid
     try simp only[hid]
     obtain ⟨g1,r,g2,hv⟩:=hv;split at hv
     ·exact ⟨_,_,_,hv,g1,_,g2,rfl,rfl,rfl⟩
     ·exact ⟨_,_,_,hv,g1,_,g2,rfl,rfl,rfl⟩
    ·exact hv.elim
   ·exact hv.elim
  ·exact hv.elim
 ·exact hv.elim
theorem xk {ρ:Operand→AV} {x k v:Operand} {Φ:AV→Heap→Rn→Prop} (hv:iE ρ h x k v Φ):∃r h' m,Φ r h' m∧iE ρ h x k v (fun r' h'' m'=>r'=r∧h''=h'∧m'=m):=by
 unfold iE at hv ⊢;split at hv
 ·rename_i e1 e2
  try simp only[e1,e2]
  split at hv
  ·rename_i hid
   try simp only[hid]
   obtain ⟨g1,g2,p,g3,hv⟩:=hv;exact ⟨_,_,_,hv,g1,g2,p,g3,rfl,rfl,rfl⟩
  ·exact hv.elim
 ·exact hv.elim
theorem r8 {ρ:Operand→AV} {o:Op} {Φ:AV→Heap→Rn→Prop} (hv:bq T S ρ h o Φ):∃r h' m,Φ r h' m∧bq T S ρ h o (fun r' h'' m'=>r'=r∧h''=h'∧m'=m):=by
 have restE:jc T ρ h o Φ→∃r h' m,Φ r h' m∧jc T ρ h o (fun r' h'' m'=>r'=r∧h''=h'∧m'=m):=by
  intro hv;unfold jc at hv ⊢
  cases hq:bB T ρ h o with
  |none=>
   rw[hq] at hv
   cases hq2:kc T ρ h o with
   |none=>rw[hq2] at hv;exact hv.elim
   |some x=>obtain ⟨c,r,h',m⟩:=x;rw[hq2] at hv;exact ⟨r,h',m,hv.2,hv.1,rfl,rfl,rfl⟩
  |some x=>obtain ⟨r,h',m⟩:=x;rw[hq] at hv;exact ⟨r,h',m,hv,rfl,rfl,rfl⟩
 have rest:(match bB T ρ h o with|some (r,h',m)=>Φ r h' m|none=>False)→∃r h' m,Φ r h' m∧(match bB T ρ h o with|some (r',h'',m')=>r'=r∧h''=h'∧m'=m|none=>False):=by
  intro hv
  cases hq:bB T ρ h o with
  |none=>rw[hq] at hv;exact hv.elim
  |some x=>obtain ⟨r,h',m⟩:=x;rw[hq] at hv;exact ⟨r,h',m,hv,rfl,rfl,rfl⟩
 cases o
 case call c=>
  simp only[bq] at hv ⊢;split at hv
  ·rename_i f hc
   try simp only[hc]
   split at hv
   ·rename_i g caps e;(try simp only[e]);exact jX hv
   ·rename_i g e;(try simp only[e]);exact jX hv
   ·rename_i g first e;(try simp only[e]);exact jX hv
   ·exact hv.elim
  ·rename_i x name hc
   try simp only[hc]
   split at hv
   ·rename_i t v e
    try simp only[e]
    split at hv
    ·rename_i ti hti
     try simp only[hti]
     split at hv
     ·exact hv.elim
     ·rename_i hk
      split at hv
      ·rename_i f hm
       try simp only[hm]
       obtain ⟨r,h',m,h1,h2⟩:=jX hv;exact ⟨r,h',m,h1,h2⟩
      ·exact hv.elim
    ·exact hv.elim
   ·exact hv.elim
  ·rename_i hc
   try simp only[hc]
   split at hv
   ·rename_i x t e1 e2
    try simp only[e1,e2]
    split at hv
    ·rename_i ti hti
     try simp only[hti]
     unfold C1 at hv ⊢;split at hv
     ·rename_i e3 e4;(try simp only[e3,e4]);exact ⟨_,_,_,hv,rfl,rfl,rfl⟩
     ·rename_i e3 e4;(try simp only[e3,e4]);exact ⟨_,_,_,hv,rfl,rfl,rfl⟩
     ·rename_i e3 e4;(try simp only[e3,e4]);exact ⟨_,_,_,hv,rfl,rfl,rfl⟩
     ·rename_i e3 e4
      try simp only[e3,e4]
      split at hv
      ·rename_i hid;(try simp only[hid]);exact ⟨_,_,_,hv,rfl,rfl,rfl⟩
      ·rename_i hid;(try simp only[hid]);exact ⟨_,_,_,hv,rfl,rfl,rfl⟩
      ·exact hv.elim
     ·rename_i e3 e4;(try simp only[e3,e4]);exact ⟨_,_,_,hv,rfl,rfl,rfl⟩
     ·exact hv.elim
    ·exact hv.elim
   ·exact hv.elim
  ·rename_i hc
   try simp only[hc]
   split at hv
   ·rename_i x y t t2 e1 e2
    try simp only[e1,e2]
    exact xp hv
   ·exact hv.elim
  ·rename_i hc
   try simp only[hc]
   split at hv
   ·rename_i x y t t2 e1 e2
    try simp only[e1,e2]
    unfold xm at hv ⊢;split at hv
    ·rename_i ti new id hti q1 q2
     try simp only[hti,q1,q2]
     split at hv
     ·rename_i e e' sz rows hk hid
      try simp only[hk,hid]
      split at hv
      ·rename_i te hte
       try simp only[hte]
       obtain ⟨g1,g2,g3,g4,hv⟩:=hv;exact ⟨_,_,_,hv,g1,g2,g3,g4,rfl,rfl,rfl⟩
      ·exact hv.elim
     ·rename_i e e' sz fs rows hk hid
      try simp only[hk,hid]
      split at hv
      ·rename_i te hte
       try simp only[hte]
       obtain ⟨g1,g2,g3,g4,hv⟩:=hv;exact ⟨_,_,_,forceH_iff.1 hv,g1,g2,g3,g4,forceH_iff.2 ⟨rfl,rfl,rfl⟩⟩
      ·exact hv.elim
     ·exact hv.elim
    ·exact hv.elim
   ·exact hv.elim
  ·rename_i hc
   try simp only[hc]
   split at hv
   ·rename_i x y t t2 e1 e2
    try simp only[e1,e2]
    exact Ec hv
   ·exact hv.elim
  ·exact hv.elim
 case index t x i=>
  simp only[bq] at hv ⊢;split at hv
  ·rename_i ti hti
   try simp only[hti]
   split at hv
   ·rename_i e1 e2 e3
    try simp only[e1,e2,e3]
    obtain ⟨h0,b,hb,hv⟩:=hv;exact ⟨_,_,_,hv,h0,b,hb,rfl,rfl,rfl⟩
   ·rename_i e1 e2 e3
    try simp only[e1,e2,e3]
    obtain ⟨h0,hv⟩:=hv;split at hv
    ·rename_i te hte
     try simp only[hte]
     obtain ⟨r,hr,hv⟩:=hv;exact ⟨_,_,_,hv,h0,r,hr,rfl,rfl,rfl⟩
    ·exact hv.elim
   ·exact hv.elim
  ·exact hv.elim
 case indexAddr t x i=>
  simp only[bq] at hv ⊢;split at hv
  ·rename_i ti hti
   try simp only[hti]
   split at hv
   ·rename_i e hk
    try simp only[hk]
    split at hv
    ·rename_i te hte
     try simp only[hte]
     obtain ⟨hsz,hv⟩:=hv;split at hv
     ·rename_i e1 e2
      try simp only[e1,e2]
      obtain ⟨h0,b,hb,hl,hv⟩:=hv;exact ⟨_,_,_,hv,hsz,h0,b,hb,hl,rfl,rfl,rfl⟩
     ·rename_i e1 e2
      try simp only[e1,e2]
      split at hv
      ·rename_i hid
       try simp only[hid]
       obtain ⟨g1,g2,g3,hv⟩:=hv;exact ⟨_,_,_,hv,hsz,g1,g2,g3,rfl,rfl,rfl⟩
      ·rename_i hid
       try simp only[hid]
       obtain ⟨g1,g2,g3,hv⟩:=hv;exact ⟨_,_,_,hv,hsz,g1,g2,g3,rfl,rfl,rfl⟩
      ·exact hv.elim
     ·exact hv.elim
    ·exact hv.elim
   ·exact hv.elim
  ·exact hv.elim
 case store t x y=>
  simp only[bq] at hv ⊢;split at hv
  ·rename_i ti hti
   try simp only[hti]
   split at hv
   ·rename_i new id off e1 e2
    try simp only[e1,e2]
    split at hv
    ·rename_i hid
     try simp only[hid]
     obtain ⟨g1,hv⟩:=hv;exact ⟨_,_,_,hv,g1,rfl,rfl,rfl⟩
    ·exact hv.elim
   ·rename_i new id i sz off e1 e2
    try simp only[e1,e2]
    split at hv
    ·rename_i e sz' fs rows hid
     try simp only[hid]
     split at hv
     ·rename_i ds ks htk
      try simp only[htk]
      obtain ⟨g1,row,g2,g3,hv⟩:=hv;have hv:=forceDs_iff.1 hv
      cases hl:bk ((fs.drop off).take new.length) with
      |true=>rw[hl] at hv;exact ⟨_,_,_,hv,g1,row,g2,g3,forceDs_iff.2 ⟨rfl,rfl,rfl⟩⟩
      |false=>rw[hl] at hv;exact ⟨_,_,_,hv,g1,row,g2,g3,forceDs_iff.2 ⟨rfl,rfl,rfl⟩⟩
     ·exact hv.elim
    ·rename_i hid
     try simp only[hid]
     split at hv
     ·rename_i ds hds
      try simp only[hds]
      obtain ⟨g1,row,g2,g3,hv⟩:=hv;exact ⟨_,_,_,hv,g1,row,g2,g3,rfl,rfl,rfl⟩
     ·exact hv.elim
    ·exact hv.elim
   ·exact hv.elim
  ·exact hv.elim
 case makeSlice t x y=>
  simp only[bq] at hv ⊢;split at hv
  ·rename_i ti hti
   try simp only[hti]
   split at hv
   ·rename_i e hk
    try simp only[hk]
    split at hv
    ·rename_i te hte
     try simp only[hte]
     split at hv
     ·rename_i e1 e2 e3
      try simp only[e1,e2,e3]
      obtain ⟨g1,g2,g3,g4,hv⟩:=hv;exact ⟨_,_,_,hv,g1,g2,g3,g4,rfl,rfl,rfl⟩
     ·exact hv.elim
    ·exact hv.elim
   ·exact hv.elim
  ·exact hv.elim
 case lookup t x k ok=>
  simp only[bq] at hv ⊢;split at hv
  ·rename_i ti hti
   try simp only[hti]
   split at hv
   ·rename_i kt vt hk
    try simp only[hk]
    split at hv
    ·rename_i e1 e2 e3 e4
     try simp only[e1,e2,e3,e4]
     split at hv
     ·rename_i hid
      try simp only[hid]
      obtain ⟨g1,r,g2,hv⟩:=hv;split at hv
      ·exact ⟨_,_,_,hv,g1,_,g2,rfl,rfl,rfl⟩
      ·exact ⟨_,_,_,hv,g1,_,g2,rfl,rfl,rfl⟩
     ·exact hv.elim
    ·exact hv.elim
   ·exact hv.elim
  ·exact hv.elim
 case mapUpdate t x k v=>simp only[bq] at hv ⊢;exact vS hv
 case insert t x k v=>simp only[bq] at hv ⊢;exact vS hv
 case mapEntry t x k=>simp only[bq] at hv ⊢;exact zo hv
 case entryStore t x k v=>simp only[bq] at hv ⊢;exact xk hv
 case load t x=>
  simp only[bq] at hv ⊢;split at hv
  ·rename_i id i sz off e
   try simp only[e]
   split at hv
   ·rename_i hid
    try simp only[hid]
    obtain ⟨g1,r,g2,hv⟩:=hv;split at hv
    ·rename_i ti hti
     try simp only[hti]
     split at hv
     ·rename_i v hl
      try simp only[hl]
      exact ⟨_,_,_,hv,g1,r,g2,by simp[hl]⟩
     ·exact hv.elim
    ·exact hv.elim
   ·rename_i hid
    try simp only[hid]
    obtain ⟨r,g2,hv⟩:=hv;split at hv
    ·rename_i ti hti
     try simp only[hti]
     split at hv
     ·rename_i v hl
      exact ⟨_,_,_,hv,r,g2,by simp[hl]⟩
     ·exact hv.elim
    ·exact hv.elim
  ·exact rest hv
 case slice t x lo hi mx=>
  simp only[bq] at hv ⊢;split at hv
  ·rename_i id e
   try simp only[e]
   exact zi hv
  ·exact restE hv
 all_goals (simp only[bq] at hv ⊢;exact restE hv)
theorem gY {ρ ρ':Operand→AV} {x:Option Operand} (he:∀y,x=some y→ρ y=ρ' y) (z:Int):du ρ z x=du ρ' z x:=by
 cases x with
 |none=>rfl
 |some y=>simp only[du];rw[he y rfl]
theorem Ae {ρ ρ':Operand→AV} {o:Op} (he:∀x∈o.operands,ρ x=ρ' x):bB T ρ h o=bB T ρ' h o:=by
 cases o
 case load t x=>simp only[bB];rw[he x (by simp[Op.operands])]
 case build t parts=>
  have:(parts.toList.map fun p=>(p.1,ρ p.2))=parts.toList.map fun p=>(p.1,ρ' p.2):=QaJ fun p hp=>by
   rw[he p.2 (by simp only[Op.operands,Qbq,QbC];exact ⟨p,hp,rfl⟩)]
  simp only[bB];rw[this]
 case buildSlice t len parts=>
  have h1:(parts.toList.map fun p=>(p.1,ρ p.2))=parts.toList.map fun p=>(p.1,ρ' p.2):=QaJ fun p hp=>by
   rw[he p.2 (by simp only[Op.operands,Qbq,QbC];exact ⟨p,hp,rfl⟩)]
  have h2:(parts.toList.map fun p=>ρ p.2)=parts.toList.map fun p=>ρ' p.2:=QaJ fun p hp=>by
   rw[he p.2 (by simp only[Op.operands,Qbq,QbC];exact ⟨p,hp,rfl⟩)]
  simp only[bB];rw[h1,h2]
 case makeFunc fn first caps=>
  have h1:caps.toList.map ρ=caps.toList.map ρ':=QaJ fun x hx=>he x (by simp[Op.operands,Array.mem_toList_iff.1 hx]);have h2:first.toList.map ρ=first.toList.map ρ':=QaJ fun x hx=>he x (by simp[Op.operands,Array.mem_toList_iff.1 hx]);cases fn<;>simp only[bB];rw[h1,h2]
 case unOp op t x=>
  have:=he x (by simp[Op.operands]);cases op<;>simp only[bB];rw[this]
 all_goals first
  |rfl
  |(rename_i x y z;simp only[bB];rw[he x (by simp[Op.operands]),he y (by simp[Op.operands]),he z (by simp[Op.operands])];done)
  |(rename_i t x y z;simp only[bB];rw[he x (by simp[Op.operands]),he y (by simp[Op.operands])];done)
  |(rename_i x y;simp only[bB];rw[he x (by simp[Op.operands]),he y (by simp[Op.operands])];done)
  |(rename_i op t x y z;simp only[bB];rw[he x (by simp[Op.operands]),he y (by simp[Op.operands])];done)
  |(rename_i x;simp only[bB];rw[he x (by simp[Op.operands])];done)
  |(rename_i x z;simp only[bB];rw[he x (by simp[Op.operands])];done)
theorem ye {ρ ρ':Operand→AV} {o:Op} (he:∀x∈o.operands,ρ x=ρ' x):kc T ρ h o=kc T ρ' h o:=by
 cases o
 case binOp op t x y z=>simp only[kc];rw[he x (by simp[Op.operands]),he y (by simp[Op.operands])]
 case convert t d x=>simp only[kc];rw[he x (by simp[Op.operands])]
 case slice t x lo hi mx=>
  cases mx with
  |some m=>rfl
  |none=>
   have h1:∀z,du ρ z lo=du ρ' z lo:=gY fun y e=>he y (by simp[Op.operands,e]);have h2:∀z,du ρ z hi=du ρ' z hi:=gY fun y e=>he y (by simp[Op.operands,e]);simp only[kc];rw[he x (by simp[Op.operands])];simp only[h1,h2]
 all_goals rfl
theorem nG {ρ ρ':Operand→AV} {o:Op} {Φ:AV→Heap→Rn→Prop} (he:∀x∈o.operands,ρ x=ρ' x) (hv:jc T ρ h o Φ):jc T ρ' h o Φ:=by
 unfold jc at hv ⊢;rw[←Ae he,←ye he];exact hv
theorem jU {ρ ρ':Operand→AV} {o:Op} {Φ:AV→Heap→Rn→Prop} (hc:∀cs b,o≠ .select cs b) (he:∀x∈o.operands,ρ x=ρ' x) (hv:bq T S ρ h o Φ):bq T S ρ' h o Φ:=by
 cases o
 case call c=>
  have hargs:c.args.toList.map ρ=c.args.toList.map ρ':=QaJ fun x hx=>he x (by simp[Op.operands,Call.operands,Array.mem_toList_iff.1 hx]);have h1:∀f,c.callee= .value f→ρ f=ρ' f:=fun f hf=>he f (by simp[Op.operands,Call.operands,hf]);have h2:∀f nm,c.callee= .invoke f nm→ρ f=ρ' f:=fun f nm hf=>he f (by simp[Op.operands,Call.operands,hf]);have h3:∀x∈c.args.toList,ρ x=ρ' x:=fun x hx=>he x (by simp[Op.operands,Call.operands,Array.mem_toList_iff.1 hx]);simp only[bq] at hv ⊢;split at hv
  ·rename_i f hcal
   try simp only[hcal]
   rw[h1 f hcal,hargs] at hv;exact hv
  ·rename_i x name hcal
   try simp only[hcal]
   rw[h2 x name hcal,hargs] at hv;exact hv
  ·rename_i hcal
   try simp only[hcal]
   split at hv
   ·rename_i x t e1 e2
    try simp only[e1,e2]
    rw[h3 x (by rw[e1];simp)] at hv;exact hv
   ·exact hv.elim
  ·rename_i hcal
   try simp only[hcal]
   split at hv
   ·rename_i x y t t2 e1 e2
    try simp only[e1,e2]
    rw[h3 x (by rw[e1];simp),h3 y (by rw[e1];simp)] at hv;exact hv
   ·exact hv.elim
  ·rename_i hcal
   try simp only[hcal]
   split at hv
   ·rename_i x y t t2 e1 e2
    try simp only[e1,e2]
    rw[h3 x (by rw[e1];simp),h3 y (by rw[e1];simp)] at hv;exact hv
   ·exact hv.elim
  ·rename_i hcal
   try simp only[hcal]
   split at hv
   ·rename_i x y t t2 e1 e2
    try simp only[e1,e2]
    rw[h3 x (by rw[e1];simp),h3 y (by rw[e1];simp)] at hv;exact hv
   ·exact hv.elim
  ·exact hv.elim
 case load t x=>
  simp only[bq,bB] at hv ⊢;rw[he x (by simp[Op.operands])] at hv;exact hv
 case slice t x lo hi mx=>
  have h1:∀z,du ρ z lo=du ρ' z lo:=gY fun y e=>he y (by simp[Op.operands,e]);have h2:∀z,du ρ z hi=du ρ' z hi:=gY fun y e=>he y (by simp[Op.operands,e])
  have h3:∀n,Cc ρ n hi mx=Cc ρ' n hi mx:=fun n=>by
   unfold Cc
   cases mx with
   |none=>rfl
   |some m=>simp only;rw[gY fun y e=>he y (by simp[Op.operands,e])]
  simp only[bq] at hv ⊢;rw[he x (by simp[Op.operands])] at hv;split at hv
  ·rename_i id e
   try simp only[e]
   simp only[jR,h1,h2,h3] at hv ⊢;exact hv
  ·exact nG he hv
 case lookup t x k ok=>
  simp only[bq] at hv ⊢;rw[he x (by simp[Op.operands]),he k (by simp[Op.operands])] at hv;exact hv
 case mapEntry t x k=>
  simp only[bq,jV] at hv ⊢;rw[he x (by simp[Op.operands]),he k (by simp[Op.operands])] at hv;exact hv
 case entryStore t x k v=>
  simp only[bq,iE] at hv ⊢;rw[he x (by simp[Op.operands]),he k (by simp[Op.operands]),he v (by simp[Op.operands])] at hv;exact hv
 case mapUpdate t x k v=>
  simp only[bq,nE] at hv ⊢;rw[he x (by simp[Op.operands]),he k (by simp[Op.operands]),he v (by simp[Op.operands])] at hv;exact hv
 case insert t x k v=>
  simp only[bq,nE] at hv ⊢;rw[he x (by simp[Op.operands]),he k (by simp[Op.operands]),he v (by simp[Op.operands])] at hv;exact hv
 case index t x i=>
  simp only[bq] at hv ⊢;rw[he x (by simp[Op.operands]),he i (by simp[Op.operands])] at hv;exact hv
 case indexAddr t x i=>
  simp only[bq] at hv ⊢;rw[he x (by simp[Op.operands]),he i (by simp[Op.operands])] at hv;exact hv
 case store t x y=>
  simp only[bq] at hv ⊢;rw[he x (by simp[Op.operands]),he y (by simp[Op.operands])] at hv;exact hv
 case makeSlice t x y=>
  simp only[bq] at hv ⊢;rw[he x (by simp[Op.operands]),he y (by simp[Op.operands])] at hv;exact hv
 all_goals (simp only[bq] at hv ⊢;exact nG he hv)
end
end Go.Vc
end
