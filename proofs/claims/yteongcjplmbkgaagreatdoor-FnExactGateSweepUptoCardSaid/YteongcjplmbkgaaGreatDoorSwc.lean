/- Part 3 of a proof: A region that draws its order: one walk in the order of the  -/
import Derived.Test.YteongcjplmbkgaaGreatDoorSwa
import Derived.Test.YteongcjplmbkgaaGreatDoorSwb
import Derived.Deep.Quiet
import Derived.RangeFuncLeaves
import Derived.RangeFuncNested
import Derived.Scope
import Derived.KernelRfl
open Bool renaming and_eq_true → Qaa, or_eq_true → QaD, and_self → QaH, not_eq_true' → QaI
open Nat renaming le_of_ble_eq_true → Qab, le_refl → Qad, lt_of_lt_of_le → Qaf, lt_or_ge → Qag, eq_of_beq_eq_true → Qah, ble → Qak, zero_le → Qas, le_trans → Qav, zero_add → Qay, beq → QaJ, ble_eq_true_of_le → QaO, add_assoc → QaP, add_comm → QaS, lt_of_not_le → QaU
open Option.some renaming injEq → Qac
open Array renaming getD_eq_getD_getElem? → Qae, getElem?_append_left → Qai, getElem?_setIfInBounds_self → Qaj, getElem?_eq_none → Qao, getElem?_toList → Qaq, getElem?_eq_getElem → Qar, length_toList → Qat, setIfInBounds_comm → QaK, size_setIfInBounds → QaM
open List renaming getElem?_cons_succ → Qal, mem_cons_of_mem → Qan, mem_cons_self → Qap, getElem?_cons_zero → Qau, any_eq_true → Qaw, getElem?_append_right → Qax, all_eq_true → QaB, mem_append → QaC, nil_append → QaE, mem_range → QaF, mem_singleton → QaG, length_cons → QaL, length_nil → QaN, map_cons → QaQ, mem_filterMap → QaR, getElem?_drop → QaT, mem_flatMap → QaV, getElem_mem → QaX, cons_append → QaY, mem_filter → QaZ
open Option renaming isNone_iff_eq_none → Qam, bind_some → QaW
open Go.Result renaming andThen_ok → Qaz
open Prod.mk renaming injEq → QaA
set_option linter.unusedVariables false
set_option linter.unusedSimpArgs false
section
namespace Go.Vc
section
variable {P:Program} {ro:Option Nat} {q:Md} {T:List (Nat×TI)} {N0 Nf:Nat→Prop} {w0 w w':World} {n:Nat} {σ σ':Env} {h:Heap} {a:Act} {ν ν' ν0:Nat→Value} {ops:Array Oper}
def PStep (P:Program) (fx:Bool) (T:List (Nat×TI)) (ops:Array Oper) (h:Heap) (σ:Env) (o:Oper) (r:AV):Prop:=
 match o.guard with
 |none=>bq T (am P fx) (ev σ) h o.op fun r' h' m=>r'=r∧h'=h∧m= .sub []
 |some (g,want)=>∃gd,(ops[g]?).bind (·.dst)=some gd∧
   ((σ gd= .d (.bool want)∧bq T (am P fx) (ev σ) h o.op fun r' h' m=>r'=r∧h'=h∧m= .sub [])∨
    (σ gd= .d (.bool (!want))∧r= .val undef)∨(∃xs,σ gd= .val (.tuple xs)∧r= .val undef)∨
    (σ gd= .val (.bool want)∧bq T (am P fx) (ev σ) h o.op fun r' h' m=>r'=r∧h'=h∧m= .sub [])∨(σ gd= .val (.bool (!want))∧r= .val undef))
theorem li {ρ:Operand→AV} {o:Op} {d:Option Nat} {K:Env→Prop} (hv:bq T (am P q.fx) ρ h o fun r h' m=>h'=h∧m= .sub []∧j9 σ (.sub []) n d r K):∃r,(bq T (am P q.fx) ρ h o fun r' h' m=>r'=r∧h'=h∧m= .sub [])∧K (σ.putO n d r):=by
 obtain ⟨r,h',m,⟨rfl,rfl,hΦ⟩,h2⟩:=r8 hv;exact ⟨r,h2,putK_iff.1 hΦ⟩
theorem iX (σ:Env) (d:Option Nat) (r:AV) (t:Nat) (ht:∀x,d=some x→t≠x):(σ.putO n d r) t=σ t:=by
 cases d with
 |none=>rfl
 |some x=>
  simp only[Env.putO];cases Qak (x+1) n
  ·rfl
  ·simp only[cond_true,Env.put,eQ (ht x rfl),cond_false]
def DecOk (dec:List (Nat×Bool)) (σ:Env):Prop:=∀g b,look dec g=some b→σ g= .d (.bool b)
theorem DecOk.put {dec:List (Nat×Bool)} (hd:DecOk dec σ) (d:Option Nat) (r:AV):DecOk (vo d dec) (σ.putO n d r):=by
 intro g b hg
 cases d with
 |none=>exact hd g b hg
 |some x=>
  simp only[vo,tS] at hg;split at hg
  ·cases hg
  ·rename_i hne
   rw[iX σ (some x) r g (fun y hy e=>by injection hy with hy;exact hne (by rw[e,hy]))];exact hd g b hg
theorem DecOk.know {dec:List (Nat×Bool)} (hd:DecOk dec σ) {gd:Nat} {b:Bool} (hb:σ gd= .d (.bool b)):DecOk ((gd,b)::dec) σ:=by
 intro g c hg;simp only[look] at hg;by_cases e:g=gd
 ·subst e
  rw[ga] at hg;simp only[cond_true,Qac] at hg;rw[←hg];exact hb
 ·rw[eQ e] at hg
  exact hd g c hg
theorem qp {o:Oper} {rest:List Oper} {K:Env→Prop} {dec:List (Nat×Bool)} (hdec:DecOk dec σ) (hv:gl T (am P q.fx) n ops (o::rest) dec σ h K):
 ∃r dec',PStep P q.fx T ops h σ o r∧DecOk dec' (σ.putO n o.dst r)∧gl T (am P q.fx) n ops rest dec' (σ.putO n o.dst r) h K:=by
 rw[xg] at hv;unfold mN at hv;unfold PStep;split at hv
 ·rename_i hg
  simp only[hg];obtain ⟨r,h1,h2⟩:=li hv;exact ⟨r,_,h1,hdec.put _ _,h2⟩
 ·rename_i g want hg
  simp only[hg];split at hv
  ·exact hv.elim
  ·rename_i gd hd
   split at hv
   ·rename_i b hl
    have hb:=hdec gd b hl;cases hbw:(b==want)<;>rw[hbw] at hv
    ·have e':b= !want:=by cases b<;>cases want<;>simp_all
     exact ⟨_,_,⟨gd,hd,.inr (.inl ⟨by rw[hb,e'],rfl⟩)⟩,hdec.put _ _,hv⟩
    ·have e':b=want:=by simpa using hbw
     obtain ⟨r,h2,h3⟩:=li hv;exact ⟨r,_,⟨gd,hd,.inl ⟨by rw[hb,e'],h2⟩⟩,hdec.put _ _,h3⟩
   ·split at hv
    ·rename_i b hb
     by_cases e:b=want
     ·subst e
      have h1:=y3 hv rfl;simp only[zU σ gd _ hb] at h1;obtain ⟨r,h2,h3⟩:=li h1;exact ⟨r,_,⟨gd,hd,.inl ⟨hb,h2⟩⟩,(hdec.know hb).put _ _,h3⟩
     ·have e':b= !want:=by cases b<;>cases want<;>simp_all
      have h2:=DT hv e';rw[←e',zU σ gd _ hb] at h2;exact ⟨_,_,⟨gd,hd,.inr (.inl ⟨by rw[hb,e'],rfl⟩)⟩,(hdec.know hb).put _ _,h2⟩
    ·rename_i b hb
     cases hbw:(b==want)<;>rw[hbw] at hv
     ·have e':b= !want:=by cases b<;>cases want<;>simp_all
      exact ⟨_,_,⟨gd,hd,.inr (.inr (.inr (.inr ⟨by rw[hb,e'],rfl⟩)))⟩,hdec.put _ _,hv⟩
     ·have e':b=want:=by simpa using hbw
      obtain ⟨r,h2,h3⟩:=li hv;exact ⟨r,_,⟨gd,hd,.inr (.inr (.inr (.inl ⟨by rw[hb,e'],h2⟩)))⟩,hdec.put _ _,h3⟩
    ·rename_i xs hb
     exact ⟨_,_,⟨gd,hd,.inr (.inr (.inl ⟨xs,hb,rfl⟩))⟩,hdec.put _ _,hv⟩
    ·exact hv.elim
theorem PStep.congr {o:Oper} {r:AV} (hsel:∀cs b,o.op≠ .select cs b) (he:∀t∈o.looksAt ops,σ t=σ' t) (hp:PStep P q.fx T ops h σ o r):PStep P q.fx T ops h σ' o r:=by
 have hop:∀x∈o.op.operands,ev σ x=ev σ' x:=by
  intro x hx
  cases x with
  |tmp t=>exact he t (by simp only[Oper.looksAt,QaC,QaR];exact .inl ⟨.tmp t,Array.mem_toList_iff.2 hx,rfl⟩)
  |const v=>rfl
  |global g=>rfl
  |func f=>rfl
 unfold PStep at hp ⊢;split at hp
 ·rename_i hg
  exact jU hsel hop hp
 ·rename_i g want hg
  obtain ⟨gd,hd,hp⟩:=hp;have hgd:σ gd=σ' gd:=he gd (by simp[Oper.looksAt,hg,hd]);refine ⟨gd,hd,?_⟩;rw[←hgd];rcases hp with ⟨h1,h2⟩|h1|h1|⟨h1,h2⟩|h1
  ·exact .inl ⟨h1,jU hsel hop h2⟩
  ·exact .inr (.inl h1)
  ·exact .inr (.inr (.inl h1))
  ·exact .inr (.inr (.inr (.inl ⟨h1,jU hsel hop h2⟩)))
  ·exact .inr (.inr (.inr (.inr h1)))
theorem EI (σ:Env) (d e:Option Nat) (r u:AV) (hde:∀x,d=some x→e≠some x):(σ.putO n d r).putO n e u=(σ.putO n e u).putO n d r:=by
 cases d with
 |none=>rfl
 |some x=>
  cases e with
  |none=>rfl
  |some y=>
   have hxy:y≠x:=fun g=>hde x rfl (by rw[g]);simp only[Env.putO];cases Qak (x+1) n<;>cases Qak (y+1) n<;>try rfl
   funext t
   simp only[cond_true,Env.put];by_cases h1:t=x
   ·subst h1;simp[ga,eQ (Ne.symm hxy)]
   ·by_cases h2:t=y
    ·subst h2;simp[ga,eQ hxy]
    ·simp[eQ h1,eQ h2]
def qA (P:Program) (fx:Bool) (T:List (Nat×TI)) (n:Nat) (ops:Array Oper) (h:Heap) (i:Nat) (K:Env→Prop) (σ:Env):Prop:=
 match ops[i]? with
 |none=>K σ
 |some o=>∃r,PStep P fx T ops h σ o r∧K (σ.putO n o.dst r)
def rX (P:Program) (fx:Bool) (T:List (Nat×TI)) (n:Nat) (ops:Array Oper) (h:Heap) (K:Env→Prop):Nat→Array Bool→Env→Prop
 |0,listed,σ=>Region.ready .any ops listed=[]∧K σ
 |fuel+1,listed,σ=>
  (Region.ready .any ops listed=[]→K σ)∧
  ∀i∈Region.ready .any ops listed,qA P fx T n ops h i (rX P fx T n ops h K fuel (listed.setIfInBounds i true)) σ
theorem Dg {i:Nat} {K K':Env→Prop} (hk:∀σ,K σ→K' σ) (hq:qA P q.fx T n ops h i K σ):qA P q.fx T n ops h i K' σ:=by
 unfold qA at*;split
 ·exact hk _ (by simpa [*] using hq)
 ·rename_i o ho
  simp only[ho] at hq;obtain ⟨r,h1,h2⟩:=hq;exact ⟨r,h1,hk _ h2⟩
theorem PStep.sound (hT:bi P T=true) {o:Oper} {r:AV} (s:St q N0 w0 Nf n ν0 σ h a w ν) (hp:PStep P q.fx T ops h σ o r) {K':Act→World→Prop} {Q':Exit→Act→World→Prop}
 (hn:∀a' w' ν',St q N0 w0 Nf n ν0 (σ.putO n o.dst r) h a' w' ν'→K' a' w'):if Region.wanted o (yielded ops a.tmps) then o.wpIn (G ro) 0 P a w K' Q' else (∀f,o.about P w a.eval=some f→(G ro).fn f)∧K' (a.put o.dst undef) w:=by
 have go:(bq T (am P q.fx) (ev σ) h o.op fun r' h' m=>r'=r∧h'=h∧m= .sub [])→o.wpIn (G ro) 0 P a w K' Q':=fun hv=>
  dK hT s hv fun r' h' m a' w' ν' hk hs=>by obtain ⟨rfl,rfl,rfl⟩:=hk;exact hn a' w' ν' hs
 unfold PStep at hp;split at hp
 ·rename_i hg
  rw[if_pos (by simp[Region.wanted,hg])];exact go hp
 ·rename_i g want hg
  obtain ⟨gd,hd,hp⟩:=hp;have hsl:=s.slots gd;rcases hp with ⟨h1,h2⟩|⟨h1,h2⟩|⟨xs,h1,h2⟩|⟨h1,h2⟩|⟨h1,h2⟩
  ·rw[h1] at hsl
   rw[if_pos (by rw[dY hg hd (iK hsl)];simp)];exact go h2
  ·rw[h1] at hsl
   rw[if_neg (by rw[dY hg hd (iK hsl)];cases want<;>simp)];subst h2;exact ⟨fun _ _=>trivial,hn _ _ ν (s.skip o.dst)⟩
  ·rw[h1] at hsl
   rw[if_neg (by rw[ig hg hd hsl];simp)];subst h2;exact ⟨fun _ _=>trivial,hn _ _ ν (s.skip o.dst)⟩
  ·rw[h1] at hsl
   rw[if_pos (by rw[dY hg hd (jL hsl)];simp)];exact go h2
  ·rw[h1] at hsl
   rw[if_neg (by rw[dY hg hd (jL hsl)];cases want<;>simp)];subst h2;exact ⟨fun _ _=>trivial,hn _ _ ν (s.skip o.dst)⟩
theorem mM (hT:bi P T=true) {K:Env→Prop} {Q':Exit→Act→World→Prop} (hQ:∀σ a w ν,K σ→St q N0 w0 Nf n ν0 σ h a w ν→Q' .normal a w):∀(fuel:Nat) (listed:Array Bool) {σ:Env} {a:Act} {w:World} {ν:Nat→Value},
 St q N0 w0 Nf n ν0 σ h a w ν→rX P q.fx T n ops h K fuel listed σ→wpAnyIn (G ro) 0 P .any ops Q' fuel listed a w
 |0,_,_,_,_,_,s,hv=>⟨hv.1,hQ _ _ _ _ hv.2 s⟩
 |fuel+1,listed,σ,a,w,ν,s,hv=>⟨fun h0=>hQ _ _ _ _ (hv.1 h0) s,fun i hi=>by
   have h1:=hv.2 i hi;unfold qA at h1;unfold wpOpIn;split
   ·rename_i ho;simp only[ho] at h1;exact mM hT hQ fuel _ s h1
   ·rename_i o ho
    simp only[ho] at h1;obtain ⟨r,h2,h3⟩:=h1;exact PStep.sound hT s h2 fun a' w' ν' hs=>mM hT hQ fuel _ hs h3⟩
theorem F6 {j:Nat} {oi oj:Oper} {r:AV} (hj:ops[j]? =some oj) (hap:oi.apart ops oj=true) (hsi:∀cs b,oi.op≠ .select cs b) (hsj:∀cs b,oj.op≠ .select cs b) {K:Env→Prop} {σ:Env}
 (hy:PStep P q.fx T ops h σ oi r) (hq:qA P q.fx T n ops h j K (σ.putO n oi.dst r)):qA P q.fx T n ops h j (fun σ'=>PStep P q.fx T ops h σ' oi r∧K (σ'.putO n oi.dst r)) σ:=by
 obtain ⟨h1,h2,h3⟩:=Oper.apart_spec hap;unfold qA at*;simp only[hj] at*;obtain ⟨u,hu,hk⟩:=hq;refine ⟨u,hu.congr hsj (fun t ht=>iX σ _ _ t (fun x hx g=>h1 x hx (g▸ht))),hy.congr hsi (fun t ht=>(iX σ _ _ t (fun x hx g=>h3 x hx (g▸ht))).symm),?_⟩;rw[←EI σ oi.dst oj.dst r u (fun x hx=>h2 x hx)];exact hk
theorem xb {K:Env→Prop} {i:Nat} {oi:Oper} {r:AV} (hi:ops[i]? =some oi) (hsel:∀(j:Nat) (o:Oper) cs b,ops[j]? =some o→o.op≠ .select cs b):
 ∀(fuel:Nat) (listed:Array Bool) (σ:Env),
  (∀j oj,ops[j]? =some oj→j≠i→listed.getD j true=false→(∀e∈oj.after,Region.binds .any e=true→e.on≠i)→oi.apart ops oj=true)→
  i∈Region.ready .any ops listed→PStep P q.fx T ops h σ oi r→
  rX P q.fx T n ops h K fuel (listed.setIfInBounds i true) (σ.putO n oi.dst r)→rX P q.fx T n ops h K (fuel+1) listed σ:=by
 have self:∀(K':Env→Prop) (σ:Env),PStep P q.fx T ops h σ oi r→K' (σ.putO n oi.dst r)→qA P q.fx T n ops h i K' σ:=fun K' σ hy hk=>by
  unfold qA;simp only[hi];exact ⟨r,hy,hk⟩
 intro fuel
 induction fuel with
 |zero=>
  intro listed σ _ hr hy H;refine ⟨fun h=>(by rw[h] at hr;cases hr),fun j hj=>?_⟩;by_cases hji:j=i
  ·subst hji;exact self _ _ hy H
  ·have:=ready_mono hj hji
   rw[H.1] at this
   cases this
 |succ fuel ih=>
  intro listed σ hfree hr hy H;refine ⟨fun h=>(by rw[h] at hr;cases hr),fun j hj=>?_⟩;by_cases hji:j=i
  ·subst hji;exact self _ _ hy H
  ·have h1:=H.2 j (ready_mono hj hji)
   obtain ⟨hjun,oj,hoj,hall⟩:=mem_ready.1 hj
   have hnot:∀e∈oj.after,Region.binds .any e=true→e.on≠i:=fun e he hb heq=>by
    have h1:=hall e he hb;have h0:=(mem_ready.1 hr).1;rw[heq] at h1;rcases Qag i listed.size with h'|h'
    ·simp[h'] at h0 h1;rw[h0] at h1;cases h1
    ·simp[Qao h'] at h1
   have h2:=F6 hoj (hfree j oj hoj hji hjun hnot) (fun cs b=>hsel i oi cs b hi) (fun cs b=>hsel j oj cs b hoj) hy h1
   have hfree':∀k ok,ops[k]? =some ok→k≠i→(listed.setIfInBounds j true).getD k true=false→
    (∀e∈ok.after,Region.binds .any e=true→e.on≠i)→oi.apart ops ok=true:=fun k ok hk hki hun hno=>by
    refine hfree k ok hk hki ?_ hno;by_cases hjk:j=k
    ·subst hjk;exact hjun
    ·rw[getD_set_ne true hjk] at hun;exact hun
   refine Dg (fun σ' h3=>ih (listed.setIfInBounds j true) σ' hfree' (ready_mono hr (Ne.symm hji)) h3.1 ?_) h2;rw[QaK _ _ hji];exact h3.2
theorem rW {K:Env→Prop} (hs:Region.noSelect ops=true):∀(l:List Oper) (k:Nat) (listed:Array Bool) (dec:List (Nat×Bool)) (σ:Env),DecOk dec σ→(∀j,l[j]? =ops[k+j]?)→
 Region.lexFrom .any ops l.length k listed=true→gl T (am P q.fx) n ops l dec σ h K→rX P q.fx T n ops h K l.length listed σ
 |[],_,_,_,_,_,_,hB,hv=>⟨by simpa [Region.lexFrom] using hB,hv⟩
 |o::l,k,listed,dec,σ,hdec,hl,hB,hv=>by
  have h0:ops[k]? =some o:=by simpa using (hl 0).symm
  simp only[QaL,Region.lexFrom,Qaa] at hB;obtain ⟨⟨hr,hf⟩,hB'⟩:=hB;obtain ⟨r,dec',hy,hdec',hK⟩:=qp hdec hv
  exact xb h0 (Region.noSelect_spec hs) l.length listed σ (Region.free_spec h0 hf) (by simpa using hr) hy
   (rW hs l (k+1) _ _ _ hdec' (fun j=>by have:=hl (j+1);simpa [QaP,QaS 1 j] using this) hB' hK)
theorem yU (w:World):Kp (fun _=>False) w {w with drawn:=w.drawn+1}:=⟨rfl,rfl,rfl,Qad _,fun _ _ _=>rfl⟩
theorem jS (hT:bi P T=true) (hm:P.follows .mixedOrders=true) {id:Nat} {K:Env→Prop} {Q:Exit→Act→World→Prop} (hQ:∀σ a w ν,K σ→St q N0 w0 Nf n ν0 σ h a w ν→Q .normal a w)
 (s:St q N0 w0 Nf n ν0 σ h a w ν) (hB:Region.lexB .any ops=true) (hv:gl T (am P q.fx) n ops ops.toList [] σ h K):(Code.region id ops true).wpIn (G ro) 0 P Q a w:=by
 simp only[Region.lexB,Qaa] at hB;refine wpIn_region_any hm (mM hT hQ _ _ (s.world (yU w)) ?_);have:=rW (P:=P) (T:=T) (n:=n) (h:=h) (K:=K) hB.1 ops.toList 0 (Array.replicate ops.size false) [] σ (fun g b hg=>by simp[look] at hg) (by simp) (by simpa using hB.2) hv;simpa using this
theorem il:∀{l i:List Oper} {z:Oper},iv l=some (i,z)→l=i++[z]
 |[],_,_,h=>by cases h
 |o::l,i,z,h=>by
  have e:iv (o::l)=(match iv l with|none=>some ([],o)|some (i,z)=>some (o::i,z)):=rfl;rw[e] at h;split at h
  ·rename_i e
   simp only[Qac,QaA] at h;obtain ⟨rfl,rfl⟩:=h
   cases l with
   |nil=>rfl
   |cons p l=>
    have e':iv (p::l)=(match iv l with|none=>some ([],p)|some (i,z)=>some (p::i,z)):=rfl;rw[e'] at e;split at e<;>cases e
  ·rename_i i' z' e
   simp only[Qac,QaA] at h;obtain ⟨rfl,rfl⟩:=h;rw[il e];rfl
theorem wP {l:List Edge}:∀{k:Nat},pi l k=true→∀j,j<k→∃e∈l,Region.binds .any e=true∧e.on=j
 |0,_,j,hj=>by omega
 |k+1,h,j,hj=>by
  simp only[pi,Qaa,Qaw] at h;by_cases e:j=k
  ·obtain ⟨e',he,hb,ho⟩:=h.1
   exact ⟨e',he,hb,by rw[e];exact Qah ho⟩
  ·exact wP h.2 j (by omega)
def Down (ops:Array Oper) (listed:Array Bool):Prop:=∀j o,ops[j]? =some o→listed.getD j false=true→∀e∈o.after,Region.binds .any e=true→listed.getD e.on false=true
structure Cov (ops:Array Oper) (z:Nat):Prop where
 low:∀j,j<z→∃k o e,j<k∧k≤z∧ops[k]? =some o∧e∈o.after∧Region.binds .any e=true∧e.on=j
 up:∀k o,z<k→ops[k]? =some o→∃e∈o.after,Region.binds .any e=true∧e.on=k - 1
theorem Down.set {listed:Array Bool} {k:Nat} (hd:Down ops listed) (hk:k∈Region.ready .any ops listed):Down ops (listed.setIfInBounds k true):=by
 intro j o ho hj e he hb;obtain ⟨_,ok,hok,hall⟩:=mem_ready.1 hk;by_cases e1:j=k
 ·subst e1
  rw[ho] at hok;injection hok with hok
  subst hok;exact getD_set_true (hall e he hb)
 ·rw[getD_set_ne false (Ne.symm e1)] at hj
  exact getD_set_true (hd j o ho hj e he hb)
theorem Cov.all {z:Nat} (c:Cov ops z) {listed:Array Bool} (hd:Down ops listed) (hz:∀o,ops[z]? =some o→∀e∈o.after,Region.binds .any e=true→listed.getD e.on false=true):∀(n j:Nat),z - j≤n→j<z→listed.getD j false=true
 |0,j,h1,h2=>by omega
 |n+1,j,h1,h2=>by
  obtain ⟨k,o,e,g1,g2,g3,g4,g5,g6⟩:=c.low j h2;by_cases hk:k=z
  ·subst hk
   have:=hz o g3 e g4 g5
   rwa [g6] at this
  ·have:=hd k o g3 (c.all hd hz n k (by omega) (by omega)) e g4 g5
   rwa [g6] at this
theorem Cov.top {z:Nat} (c:Cov ops z) {listed:Array Bool} (hd:Down ops listed):∀(n k:Nat) (o:Oper),k - z≤n→z≤k→ops[k]? =some o→(∀e∈o.after,Region.binds .any e=true→listed.getD e.on false=true)→∀j,j<z→listed.getD j false=true
 |0,k,o,h1,h2,ho,h3,j,hj=>by
  have:k=z:=by omega
  subst this
  exact c.all hd (fun o' ho'=>by rw[ho] at ho';injection ho' with e;subst e;exact h3) (k - j) j (Qad _) hj
 |n+1,k,o,h1,h2,ho,h3,j,hj=>by
  by_cases hk:k=z
  ·subst hk
   exact c.all hd (fun o' ho'=>by rw[ho] at ho';injection ho' with e;subst e;exact h3) (k - j) j (Qad _) hj
  ·obtain ⟨e,g4,g5,g6⟩:=c.up k o (by omega) ho
   have h4:=h3 e g4 g5;rw[g6] at h4
   have hlt:k - 1<ops.size:=by
    have:=(Array.getElem?_eq_some_iff.1 ho).1;omega
   exact c.top hd n (k - 1) ops[k - 1] (by omega) (by omega) (Qar hlt) (fun e he hb=>hd (k - 1) _ (Qar hlt) h4 e he hb) j hj
def rV (P:Program) (fx:Bool) (T:List (Nat×TI)) (n:Nat) (ops:Array Oper) (h:Heap) (z m:Nat) (K:Env→Prop):Nat→Array Bool→Env→Prop
 |0,listed,σ=>(Region.lexFrom .any ops m z listed=true∧(∀j,z≤j→listed.getD j false=false)∧(∀j,j<z→listed.getD j true=true))∧K σ
 |fuel+1,listed,σ=>
  Region.ready .any ops listed≠[]∧
  ∀i∈Region.ready .any ops listed,i<z∧qA P fx T n ops h i (rV P fx T n ops h z m K fuel (listed.setIfInBounds i true)) σ
theorem IX (hT:bi P T=true) {Q':Exit→Act→World→Prop} {z:Nat} (c:Cov ops z) {K:Env→Heap→Prop}
 (hQ:∀σ h a w ν,K σ h→St q N0 w0 Nf n ν0 σ h a w ν→Q' .normal a w):∀(l:List Oper) (k:Nat) (listed:Array Bool) {σ:Env} {h:Heap} {a:Act} {w:World} {ν:Nat→Value},z≤k→k+l.length=ops.size→(∀j,j<l.length→l[j]? =ops[k+j]?)→(∀o∈l,o.guard=none)→
 Region.lexFrom .any ops l.length k listed=true→(∀j,k≤j→listed.getD j false=false)→(∀j,j<k→listed.getD j true=true)→St q N0 w0 Nf n ν0 σ h a w ν→hU T (am P q.fx) n ops l σ h K→wpAnyIn (G ro) 0 P .any ops Q' l.length listed a w
 |[],k,listed,σ,h,a,w,ν,_,_,_,_,hB,_,_,s,hv=>by
  simp only[QaN,Region.lexFrom,List.isEmpty_iff] at hB
  exact ⟨hB,hQ _ _ _ _ _ hv s⟩
 |o::l,k,listed,σ,h,a,w,ν,hzk,hlen,hl,hg,hB,hu,hlo,s,hv=>by
  have h0:ops[k]? =some o:=by simpa using (hl 0 (by simp)).symm
  rw[QaL] at hB hlen ⊢
  replace hB:((Region.ready .any ops listed).contains k&&Region.free .any ops listed k&&Region.lexFrom .any ops l.length (k+1) (listed.setIfInBounds k true))=true:=hB
  simp only[Qaa] at hB;obtain ⟨⟨hr,_⟩,hB'⟩:=hB;have hr:k∈Region.ready .any ops listed:=by simpa using hr
  refine ⟨fun h0=>(by rw[h0] at hr;cases hr),fun i hi=>?_⟩
  have hik:i=k:=by
   obtain ⟨hun,oi,hoi,hall⟩:=mem_ready.1 hi;rcases Nat.lt_trichotomy i k with h1|h1|h1
   ·rw[hlo i h1] at hun;cases hun
   ·exact h1
   ·obtain ⟨e,g4,g5,g6⟩:=c.up i oi (by omega) hoi
    have:=hall e g4 g5;rw[g6,hu (i - 1) (by omega)] at this;cases this
  subst hik;unfold wpOpIn;simp only[h0];have hgo:=hg o (Qap ..);rw[if_pos (by simp[Region.wanted,hgo])];rw[r7] at hv;unfold lR at hv;simp only[hgo] at hv;refine dK hT s hv fun r h' m a' w' ν' hk hs=>?_;refine IX hT c hQ l (i+1) _ (by omega) (by omega) (fun j hj=>by have:=hl (j+1) (by simpa using hj);simpa [QaP,QaS 1 j] using this) (fun o ho=>hg o (Qan _ ho)) hB' (fun j hj=>?_) (fun j hj=>?_) hs (heapK_iff.1 (putK_iff.1 hk))
  ·rw[getD_set_ne false (by omega)];exact hu j (by omega)
  ·by_cases e:i=j
   ·subst e
    have hlt:i<listed.size∨listed.size≤i:=Qag _ _;rcases hlt with hlt|hlt
    ·simp[Qaj,hlt]
    ·simp[Qao,hlt]
   ·rw[getD_set_ne true e];exact hlo j (by omega)
theorem mL (hT:bi P T=true) {z m:Nat} {K:Env→Prop} {Q':Exit→Act→World→Prop}
 (hQ:∀σ a w ν listed,K σ→St q N0 w0 Nf n ν0 σ h a w ν→Region.lexFrom .any ops m z listed=true→(∀j,z≤j→listed.getD j false=false)→(∀j,j<z→listed.getD j true=true)→wpAnyIn (G ro) 0 P .any ops Q' m listed a w):∀(fuel:Nat) (listed:Array Bool) {σ:Env} {a:Act} {w:World} {ν:Nat→Value},
 St q N0 w0 Nf n ν0 σ h a w ν→rV P q.fx T n ops h z m K fuel listed σ→wpAnyIn (G ro) 0 P .any ops Q' (fuel+m) listed a w
 |0,listed,σ,a,w,ν,s,hv=>by
  rw[Qay]
  exact hQ σ a w ν listed hv.2 s hv.1.1 hv.1.2.1 hv.1.2.2
 |fuel+1,listed,σ,a,w,ν,s,hv=>by
  rw[show fuel+1+m=(fuel+m)+1 from by omega]
  exact ⟨fun h0=>absurd h0 hv.1,fun i hi=>by
   have h1:=(hv.2 i hi).2;unfold qA at h1;unfold wpOpIn;split
   ·rename_i ho;simp only[ho] at h1;exact mL hT hQ fuel _ s h1
   ·rename_i o ho
    simp only[ho] at h1;obtain ⟨r,h2,h3⟩:=h1;exact PStep.sound hT s h2 fun a' w' ν' hs=>mL hT hQ fuel _ hs h3⟩
theorem se {i:Nat} {listed:Array Bool} (h:listed.getD i true=false):listed.getD i false=false:=by
 rcases Qag i listed.size with h'|h'
 ·simpa [h'] using h
 ·simp[Qao h']
theorem xa {z m:Nat} (c:Cov ops z) {K:Env→Prop} {i:Nat} {oi:Oper} {r:AV} (hi:ops[i]? =some oi) (hiz:i<z) (hsel:∀(j:Nat) (o:Oper) cs b,ops[j]? =some o→o.op≠ .select cs b):
 ∀(fuel:Nat) (listed:Array Bool) (σ:Env),Down ops listed→
  (∀j oj,ops[j]? =some oj→j≠i→listed.getD j true=false→(∀e∈oj.after,Region.binds .any e=true→e.on≠i)→oi.apart ops oj=true)→
  i∈Region.ready .any ops listed→PStep P q.fx T ops h σ oi r→
  rV P q.fx T n ops h z m K fuel (listed.setIfInBounds i true) (σ.putO n oi.dst r)→rV P q.fx T n ops h z m K (fuel+1) listed σ:=by
 have self:∀(K':Env→Prop) (σ:Env),PStep P q.fx T ops h σ oi r→K' (σ.putO n oi.dst r)→qA P q.fx T n ops h i K' σ:=fun K' σ hy hk=>by
  unfold qA;simp only[hi];exact ⟨r,hy,hk⟩
 have hnz:∀(listed:Array Bool),Down ops listed→i∈Region.ready .any ops listed→∀j∈Region.ready .any ops listed,j<z:=fun listed hd hr j hj=>by
  refine QaU fun hle=>?_;obtain ⟨_,o,ho,hall⟩:=mem_ready.1 hj;have h1:=c.top hd (j - z) j o (Qad _) hle ho hall i hiz;rw[se (mem_ready.1 hr).1] at h1;cases h1
 intro fuel
 induction fuel with
 |zero=>
  intro listed σ hd _ hr hy H;refine ⟨fun h=>(by rw[h] at hr;cases hr),fun j hj=>⟨hnz listed hd hr j hj,?_⟩⟩;by_cases hji:j=i
  ·subst hji;exact self _ _ hy H
  ·have hjz:=hnz listed hd hr j hj
   have h1:=(mem_ready.1 (ready_mono hj hji)).1;rw[H.1.2.2 j hjz] at h1
   cases h1
 |succ fuel ih=>
  intro listed σ hd hfree hr hy H;refine ⟨fun h=>(by rw[h] at hr;cases hr),fun j hj=>⟨hnz listed hd hr j hj,?_⟩⟩;by_cases hji:j=i
  ·subst hji;exact self _ _ hy H
  ·have h1:=(H.2 j (ready_mono hj hji)).2
   obtain ⟨hjun,oj,hoj,hall⟩:=mem_ready.1 hj
   have hnot:∀e∈oj.after,Region.binds .any e=true→e.on≠i:=fun e he hb heq=>by
    have h1:=hall e he hb;rw[heq,se (mem_ready.1 hr).1] at h1;cases h1
   have h2:=F6 hoj (hfree j oj hoj hji hjun hnot) (fun cs b=>hsel i oi cs b hi) (fun cs b=>hsel j oj cs b hoj) hy h1
   have hfree':∀k ok,ops[k]? =some ok→k≠i→(listed.setIfInBounds j true).getD k true=false→
    (∀e∈ok.after,Region.binds .any e=true→e.on≠i)→oi.apart ops ok=true:=fun k ok hk hki hun hno=>by
    refine hfree k ok hk hki ?_ hno;by_cases hjk:j=k
    ·subst hjk;exact hjun
    ·rw[getD_set_ne true hjk] at hun;exact hun
   refine Dg (fun σ' h3=>ih (listed.setIfInBounds j true) σ' (hd.set hj) hfree' (ready_mono hr (Ne.symm hji)) h3.1 ?_) h2;rw[QaK _ _ hji];exact h3.2
theorem rU {z m:Nat} (c:Cov ops z) {K:Env→Prop} (hs:Region.noSelect ops=true):∀(l:List Oper) (k:Nat) (listed:Array Bool) (dec:List (Nat×Bool)) (σ:Env),DecOk dec σ→k+l.length=z→(∀j,j<l.length→l[j]? =ops[k+j]?)→Down ops listed→(∀j,k≤j→listed.getD j false=false)→(∀j,j<k→listed.getD j true=true)→
 Region.lexFrom .any ops (l.length+m) k listed=true→gl T (am P q.fx) n ops l dec σ h K→rV P q.fx T n ops h z m K l.length listed σ
 |[],k,listed,dec,σ,hdec,hk,hl,hd,hu,hlo,hB,hv=>by
  simp only[QaN,Nat.add_zero] at hk;subst hk;rw[QaN,Qay] at hB
  exact ⟨⟨hB,hu,hlo⟩,hv⟩
 |o::l,k,listed,dec,σ,hdec,hk,hl,hd,hu,hlo,hB,hv=>by
  have h0:ops[k]? =some o:=by simpa using (hl 0 (by simp)).symm
  rw[QaL] at hB hk ⊢;rw[show l.length+1+m=(l.length+m)+1 from by omega] at hB
  replace hB:((Region.ready .any ops listed).contains k&&Region.free .any ops listed k&&Region.lexFrom .any ops (l.length+m) (k+1) (listed.setIfInBounds k true))=true:=hB
  simp only[Qaa] at hB;obtain ⟨⟨hr,hf⟩,hB'⟩:=hB;have hr:k∈Region.ready .any ops listed:=by simpa using hr
  obtain ⟨r,dec',hy,hdec',hK⟩:=qp hdec hv
  exact xa c h0 (by omega) (Region.noSelect_spec hs) l.length listed σ hd (Region.free_spec h0 hf) hr hy
   (rU c hs l (k+1) _ _ _ hdec' (by omega) (fun j hj=>by have:=hl (j+1) (by simpa using hj);simpa [QaP,QaS 1 j] using this) (hd.set hr) (fun j hj=>by rw[getD_set_ne false (by omega)];exact hu j (by omega))
     (fun j hj=>by
       by_cases e:k=j
       ·subst e
        rcases Qag k listed.size with hlt|hlt
        ·simp[Qaj,hlt]
        ·simp[Qao,hlt]
       ·rw[getD_set_ne true e];exact hlo j (by omega)) hB' hK)
theorem pR (n j:Nat):(Array.replicate n false).getD j false=false:=by
 rcases Qag j n with h|h
 ·simp[h]
 ·simp[Qao,h]
theorem mn (hT:bi P T=true) (hm:P.follows .mixedOrders=true) {id:Nat} {K:Env→Heap→Prop} {Q:Exit→Act→World→Prop} (hQ:∀σ h a w ν,K σ h→St q N0 w0 Nf n ν0 σ h a w ν→Q .normal a w)
 {i t:List Oper} (hl:ops.toList=i++t) (hg:∀o∈t,o.guard=none) (c:Cov ops i.length)
 (s:St q N0 w0 Nf n ν0 σ h a w ν) (hB:Region.lexB .any ops=true) (hv:gl T (am P q.fx) n ops i [] σ h (fun σ'=>hU T (am P q.fx) n ops t σ' h K)):(Code.region id ops true).wpIn (G ro) 0 P Q a w:=by
 simp only[Region.lexB,Qaa] at hB;have hsz:ops.size=i.length+t.length:=by rw[←Qat,hl];simp
 refine wpIn_region_any hm ?_;rw[hsz];refine mL hT ?_ _ _ (s.world (yU w)) (rU (m:=t.length) c hB.1 i 0 _ [] σ (fun g b hg=>by simp[look] at hg) (by simp) (fun j hj=>?_) (fun j o ho hj=>?_) (fun j hj=>?_) (fun j hj=>by omega) (by rw[hsz] at hB;simpa using hB.2) hv)
 ·intro σ a w ν listed hk s h1 h2 h3
  exact IX hT c hQ t i.length listed (Qad _) hsz.symm (fun j hj=>by rw[←Qaq,hl,Qax (by omega)];simp) hg h1 h2 h3 s hk
 ·rw[Qay,←Qaq,hl,List.getElem?_append_left hj]
 ·rw[pR] at hj;cases hj
 ·exact pR _ _
theorem G9 {i:List Oper} {z:Oper} (hl:ops.toList=i++[z]) (hcov:pi z.after.toList i.length=true):Cov ops i.length:=by
 have hzz:ops[i.length]? =some z:=by rw[←Qaq,hl];simp
 refine ⟨fun j hj=>?_,fun k o hk ho=>?_⟩
 ·obtain ⟨e,he,hb,hon⟩:=wP hcov j hj
  exact ⟨i.length,z,e,hj,Qad _,hzz,Array.mem_toList_iff.1 he,hb,hon⟩
 ·have h1:=(Array.getElem?_eq_some_iff.1 ho).1
  have hsz:ops.size=i.length+1:=by rw[←Qat,hl];simp
  omega
theorem l9:∀{t:List Oper} {z:Nat},qn z t=true→(∀o∈t,o.guard=none)∧∀(j:Nat) o,t[j]? =some o→∃e∈o.after,Region.binds .any e=true∧e.on=z+j
 |[],z,_=>⟨fun o ho=>(by cases ho),fun j o ho=>(by simp at ho)⟩
 |y::t,z,h=>by
  simp only[qn,Qaa,Qaw,Qam] at h;obtain ⟨⟨h1,e,he,hb,ho⟩,h2⟩:=h;obtain ⟨g1,g2⟩:=l9 h2;refine ⟨fun o ho=>?_,fun j o hj=>?_⟩
  ·rcases List.mem_cons.1 ho with rfl|ho
   ·exact h1
   ·exact g1 o ho
  ·cases j with
   |zero=>
    simp only[Qau,Qac] at hj;subst hj
    exact ⟨e,Array.mem_toList_iff.1 he,hb,Qah ho⟩
   |succ j=>
    simp only[Qal] at hj;obtain ⟨e,g3,g4,g5⟩:=g2 j o hj;exact ⟨e,g3,g4,by omega⟩
theorem uB {i t:List Oper} {z:Oper} (hl:ops.toList=i++z::t) (hcov:pj ops i.length=true) (hc:qn i.length t=true):Cov ops i.length:=by
 refine ⟨fun j hj=>?_,fun k o hk ho=>?_⟩
 ·simp only[pj,QaB,QaF,Qaw,Qaa] at hcov
  obtain ⟨k,hk,h1,h2⟩:=hcov j hj;have h1:=Qab h1;split at h2
  ·rename_i o ho
   simp only[Qaw,Qaa] at h2;obtain ⟨e,he,hb,hon⟩:=h2;exact ⟨k,o,e,by omega,by omega,ho,Array.mem_toList_iff.1 he,hb,Qah hon⟩
  ·cases h2
 ·rw[←Qaq,hl,Qax (by omega)] at ho
  obtain ⟨d,hd⟩:∃d,k - i.length=d+1:=⟨k - i.length - 1,by omega⟩;rw[hd,Qal] at ho;obtain ⟨e,g1,g2,g3⟩:=(l9 hc).2 d o ho;exact ⟨e,g1,g2,by omega⟩
theorem j5:∀{l i t:List Oper} {z:Oper},lT l=some (i,z,t)→l=i++z::t
 |[],i,t,z,h=>by cases h
 |o::l,i,t,z,h=>by
  have e:lT (o::l)=(match lT l with
   |some (i,z,t)=>some (o::i,z,t)
   |none=>match o.op with
    | .call _=>some ([],o,l)
    |_=>none):=rfl
  rw[e] at h;split at h
  ·rename_i i' z' t' e'
   simp only[Qac,QaA] at h;obtain ⟨rfl,rfl,rfl⟩:=h;rw[j5 e'];rfl
  ·split at h
   ·simp only[Qac,QaA] at h
    obtain ⟨rfl,rfl,rfl⟩:=h;rfl
   ·cases h
end
end Go.Vc
end
section
namespace Go.Vc
section
variable {P:Program} {ro:Option Nat} {q:Md} {T:List (Nat×TI)} {S:bg} {N0 Nf:Nat→Prop} {w0 w w':World} {n b:Nat} {σ σ':Env} {h:Heap} {a:Act} {ν ν' ν0:Nat→Value} {ops:Array Oper} {listed:Array Bool}
theorem inL_mem {i:Nat} {l:List Nat}:Cm i l=true↔i∈l:=anyN
theorem pS {i j:Nat} {o:Oper} (ho:ops[i]? =some o):j∈dP ops i↔∃e∈o.after,Region.binds .any e=true∧e.on=j:=by
 simp only[dP,ho,List.mem_map,QaZ,Array.mem_toList_iff];constructor
 ·rintro ⟨e,⟨h1,h2⟩,h3⟩;exact ⟨e,h1,h2,h3⟩
 ·rintro ⟨e,h1,h2,h3⟩;exact ⟨e,⟨h1,h2⟩,h3⟩
theorem iW {i:Nat} (hr:i∈Region.ready .any ops listed):∀j∈dP ops i,listed.getD j false=true:=by
 obtain ⟨_,o,ho,hall⟩:=mem_ready.1 hr;intro j hj;obtain ⟨e,h1,h2,rfl⟩:=(pS ho).1 hj;exact hall e h1 h2
theorem uy (hd:Down ops listed) {i:Nat} (hi:listed.getD i false=true):∀j∈dP ops i,listed.getD j false=true:=by
 intro j hj
 cases ho:ops[i]? with
 |none=>simp[dP,ho] at hj
 |some o=>
  obtain ⟨e,h1,h2,rfl⟩:=(pS ho).1 hj;exact hd i o ho hi e h1 h2
theorem Bg (hd:Down ops listed):∀(k:Nat) {i:Nat},listed.getD i false=true→∀j∈eH ops k i,listed.getD j false=true
 |0,i,_,j,hj=>by cases hj
 |k+1,i,hi,j,hj=>by
  simp only[eH,QaC,QaV] at hj;rcases hj with hj|⟨x,hx,hj⟩
  ·exact uy hd hi j hj
  ·exact Bg hd k (uy hd hi x hx) j hj
theorem EG (hd:Down ops listed) (k:Nat) {i:Nat} (hr:i∈Region.ready .any ops listed):∀j∈eH ops k i,listed.getD j false=true:=by
 cases k with
 |zero=>intro j hj;cases hj
 |succ k=>
  intro j hj;simp only[eH,QaC,QaV] at hj;rcases hj with hj|⟨x,hx,hj⟩
  ·exact iW hr j hj
  ·exact Bg hd k (iW hr x hx) j hj
def LF (P:Program) (fx:Bool) (T:List (Nat×TI)) (ops:Array Oper) (h:Heap) (E:Env) (i:Nat):Prop:=
 ∃o d,ops[i]? =some o∧o.dst=some d∧bq T (am P fx) (ev E) h o.op fun r h' m=>r=E d∧h'=h∧m= .sub []
theorem nF (hs:Region.noSelect ops=true) {i:Nat} {o:Oper} (ho:ops[i]? =some o) (he:∀t∈kl ops i,σ t=σ' t) {Φ:AV→Heap→Rn→Prop} (hv:bq T S (ev σ) h o.op Φ):bq T S (ev σ') h o.op Φ:=by
 refine jU (fun cs b=>Region.noSelect_spec hs i o cs b ho) (fun x hx=>?_) hv
 cases x with
 |tmp t=>exact he t (by simp only[kl,ho,Oper.looksAt,QaC,QaR];exact .inl ⟨.tmp t,Array.mem_toList_iff.2 hx,rfl⟩)
 |const v=>rfl
 |global g=>rfl
 |func f=>rfl
theorem JI (hs:Region.noSelect ops=true) {i:Nat} (he:∀t∈kl ops i,σ t=σ' t) (hd:∀d,fh ops i=some d→σ d=σ' d) (hl:LF P q.fx T ops h σ i):LF P q.fx T ops h σ' i:=by
 obtain ⟨o,d,ho,hod,hv⟩:=hl;refine ⟨o,d,ho,hod,?_⟩;rw[←hd d (by simp[fh,ho,hod])];exact nF hs ho he hv
theorem zj (l:List Nat):∀{K:Prop},D7 T (am P q.fx) ops l σ h K→K∧∀i∈l,LF P q.fx T ops h σ i:=by
 induction l with
 |nil=>intro K hv;exact ⟨hv,fun i hi=>by cases hi⟩
 |cons i l ih=>
  intro K hv
  have hv:(match ops[i]? with
   |some o=>match o.dst with
    |some d=>bq T (am P q.fx) (ev σ) h o.op fun r h' m=>h'=h∧m= .sub []∧fW r fun r=>fW (σ d) fun v=>r=v∧D7 T (am P q.fx) ops l σ h K
    |none=>False
   |none=>False):=hv
  split at hv
  ·rename_i o ho
   split at hv
   ·rename_i d hd
    obtain ⟨r,h',m,⟨rfl,rfl,hk0⟩,h2⟩:=r8 hv;obtain ⟨e0,hk⟩:=forceV_iff.1 (forceV_iff.1 hk0);clear hk0;subst e0;obtain ⟨g1,g2⟩:=ih hk;refine ⟨g1,fun j hj=>?_⟩;rcases List.mem_cons.1 hj with rfl|hj
    ·refine ⟨o,d,ho,hd,?_⟩
     obtain ⟨r',h'',m',⟨e1,e2,e3⟩,h3⟩:=r8 h2;subst e1 e2 e3;exact h3
    ·exact g2 j hj
   ·exact hv.elim
  ·exact hv.elim
structure Iv (ops:Array Oper) (n b:Nat):Prop where
 op:∀i,i<b→∃o,ops[i]? =some o∧o.guard=none∧∀d,o.dst=some d→d<n
 low:∀i,i<b→∀j∈dP ops i,j<i
 dep:∀i,i<b→∀j,j<b→∀d,fh ops j=some d→d∈kl ops i→j∈dP ops i
 one:∀i,i<b→∀j,j<b→i≠j→∀d,fh ops i=some d→fh ops j≠some d
theorem Ip (hb:∀i,i<b→Hh ops n b i=true):Iv ops n b:=by
 have key:∀i,i<b→_:=fun i hi=>by
  have:=hb i hi;unfold Hh at this;simp only[Qaa,QaB,QaF] at this;exact this
 refine ⟨fun i hi=>?_,fun i hi j hj=>?_,fun i hi j hj d hd hl=>?_,fun i hi j hj hij d hd he=>?_⟩
 ·have h1:=(key i hi).1.1
  split at h1
  ·rename_i o ho
   simp only[Qaa,Qam] at h1;refine ⟨o,ho,h1.1,fun d hd=>?_⟩;have:=h1.2;rw[hd] at this;exact Qab this
  ·cases h1
 ·exact Qab ((key i hi).1.2 j hj)
 ·have:=((key i hi).2 j hj).1
  rw[hd] at this;simp only[QaD,QaI] at this;rcases this with g|g
  ·rw[inL_mem.2 hl] at g;cases g
  ·exact inL_mem.1 g
 ·have:=((key i hi).2 j hj).2
  rw[hd,he] at this;simp only[QaD,ga,Bool.not_true,Bool.false_eq_true,or_false] at this;exact hij (Qah this)
theorem Hn:∀{l:List Nat} {i:Nat},CT (i::l)=true→CT l=true∧∀j∈l,i<j
 |[],i,_=>⟨rfl,fun j hj=>by cases hj⟩
 |x::l,i,hb=>by
  simp only[CT,Qaa] at hb;obtain ⟨g1,g2⟩:=Hn hb.2;have hx:=Qab hb.1;refine ⟨hb.2,fun j hj=>?_⟩;rcases List.mem_cons.1 hj with rfl|hj
  ·omega
  ·have:=g2 j hj;omega
theorem xY {d:Nat} {r:AV} (hd:d<n):(σ.putO n (some d) r) d=r:=by
 simp only[Env.putO,QaO (show d+1≤n from hd),cond_true,Env.put,ga]
theorem r9 (hs:Region.noSelect ops=true) (B:Iv ops n b):∀(l:List Nat) {σ:Env} {K:Env→Prop},CT l=true→(∀i∈l,i<b∧(fh ops i).isSome=true)→Ea T (am P q.fx) n ops l σ h K→
 ∃E,K E∧(∀k,(∀i∈l,fh ops i≠some k)→E k=σ k)∧∀i∈l,LF P q.fx T ops h E i
 |[],σ,K,_,_,hv=>⟨σ,hv,fun _ _=>rfl,fun i hi=>by cases hi⟩
 |i::l,σ,K,hasc,hl,hv=>by
  have hv:(match ops[i]? with
   |some o=>bq T (am P q.fx) (ev σ) h o.op fun r h' m=>h'=h∧m= .sub []∧j9 σ (.sub []) n o.dst r fun σ'=>Ea T (am P q.fx) n ops l σ' h K
   |none=>False):=hv
  obtain ⟨hasc',hgt⟩:=Hn hasc;obtain ⟨hib,hsome⟩:=hl i Qap;obtain ⟨o,ho,hg,hdn⟩:=B.op i hib;rw[ho] at hv
  obtain ⟨d,hd⟩:∃d,o.dst=some d:=by
   simp only[fh,ho,QaW] at hsome;exact Option.isSome_iff_exists.1 hsome
  have hdi:fh ops i=some d:=by simp[fh,ho,hd]
  obtain ⟨r,h2,hk⟩:=li hv;obtain ⟨E,g1,g2,g3⟩:=r9 hs B l hasc' (fun j hj=>hl j (Qan _ hj)) hk;rw[hd] at g2
  have hEd:E d=r:=by
   rw[g2 d (fun j hj e=>B.one i hib j (hl j (Qan _ hj)).1 (by have:=hgt j hj;omega) d hdi e)];exact xY (hdn d hd)
  have hE:∀t∈kl ops i,σ t=E t:=fun t ht=>by
   rw[g2 t (fun j hj e=>by
    have:=B.dep i hib j (hl j (Qan _ hj)).1 t e ht;have:=B.low i hib j this;have:=hgt j hj;omega)]
   rw[iX σ (some d) r t (fun x hx e=>by
    injection hx with hx
    subst e hx;have:=B.dep i hib i hib _ hdi ht;have:=B.low i hib i this;omega)]
  refine ⟨E,g1,fun k hk2=>?_,fun j hj=>?_⟩
  ·rw[g2 k (fun j hj=>hk2 j (Qan _ hj))]
   exact iX σ (some d) r k (fun x hx e=>by injection hx with hx;subst e hx;exact hk2 i Qap hdi)
  ·rcases List.mem_cons.1 hj with rfl|hj
   ·refine ⟨o,d,ho,hd,?_⟩
    rw[hEd];exact nF hs ho hE h2
   ·exact g3 j hj
theorem I9 {m:Rn} {k:Nat} (e:σ k=σ' k):(σ.ren m) k=(σ'.ren m) k:=by
 cases m with
 |sub l=>
  show Env.subs l σ k=Env.subs l σ' k
  induction l generalizing σ σ' with
  |nil=>exact e
  |cons p l ih=>exact ih (σ:=Env.sub p.1 p.2 σ) (σ':=Env.sub p.1 p.2 σ') (by simp only[Env.sub,e])
 |drop=>simp only[Env.ren,e]
 |tsub ks=>simp only[Env.ren,e]
 |mv x y=>simp only[Env.ren,e]
theorem minus_mem {l m:List Nat} {i:Nat}:i∈cl l m↔i∈l∧i ∉ m:=by
 simp only[cl,QaZ,QaI];constructor
 ·rintro ⟨h1,h2⟩
  exact ⟨h1,fun g=>by rw[inL_mem.2 g] at h2;cases h2⟩
 ·rintro ⟨h1,h2⟩
  refine ⟨h1,?_⟩
  cases e:Cm i m with
  |false=>rfl
  |true=>exact absurd (inL_mem.1 e) h2
structure IR (ops:Array Oper) (ls rs rest old dn hs:List Nat):Prop where
 asc:CT ls=true
 lsOk:∀i∈ls,i∈rest∧(fh ops i).isSome=true
 oldOk:∀i∈old,i∈rs∨i∈dn
 rsOk:∀i∈rs,i∈old∧∀j∈ls,j ∉ dP ops i
 wait:∀i∈cl rest ls,i∈hs∨∃j∈dP ops i,j∈cl rest ls
theorem BG {ls rs rest old dn hs:List Nat} (h:FR ops ls rs rest old dn hs=true):IR ops ls rs rest old dn hs:=by
 simp only[FR,Qaa,QaB,QaD,Qaw,QaI] at h;obtain ⟨⟨⟨⟨h1,h2⟩,h3⟩,h4⟩,h5⟩:=h;refine ⟨h1,fun i hi=>⟨inL_mem.1 (h2 i hi).1,(h2 i hi).2⟩,fun i hi=>?_,fun i hi=>⟨inL_mem.1 (h4 i hi).1,fun j hj g=>?_⟩,fun i hi=>?_⟩
 ·rcases h3 i hi with g|g
  ·exact .inl (inL_mem.1 g)
  ·exact .inr (inL_mem.1 g)
 ·have:=(h4 i hi).2 j hj
  rw[inL_mem.2 g] at this;cases this
 ·rcases h5 i hi with g|⟨j,g1,g2⟩
  ·exact .inl (inL_mem.1 g)
  ·exact .inr ⟨j,g1,inL_mem.1 g2⟩
def Pln.lights:Pln→List Nat
 | .fin ls _=>ls
 | .one ls _ _ _=>ls
 | .two ls _ _ _ _ _=>ls
def Pln.again:Pln→List Nat
 | .fin _ rs=>rs
 | .one _ rs _ _=>rs
 | .two _ rs _ _ _ _=>rs
def Pln.heads:Pln→List Nat
 | .fin _ _=>[]
 | .one _ _ z _=>[z]
 | .two _ _ z _ z' _=>[z,z']
theorem th {p:Pln} {rest old dn:List Nat} (h:ia ops b p rest old dn=true):IR ops p.lights p.again rest old dn p.heads:=by
 cases p with
 |fin ls rs=>simp only[ia,Qaa] at h;exact BG h.1
 |one ls rs z t=>simp only[ia,Qaa] at h;exact BG h.1.1
 |two ls rs z t z' t'=>simp only[ia,Qaa] at h;exact BG h.1.1.1.1
def xf (T:List (Nat×TI)) (S:bg) (n:Nat) (ops:Array Oper) (p:Pln) (σ:Env) (h:Heap) (K:Env→Heap→Prop):Prop:=match p with
 | .fin _ _=>K σ h
 | .one _ _ z t=>zn T S n ops z σ h fun σ2 h2=>Bz T S n ops t σ2 h2 K
 | .two _ _ z t z' t'=>zn T S n ops z σ h (fun σ2 h2=>Bz T S n ops t σ2 h2 K)∧zn T S n ops z' σ h (fun σ2 h2=>Bz T S n ops t' σ2 h2 K)
theorem vT {p:Pln} {K:Env→Heap→Prop} (hv:Bz T S n ops p σ h K):D7 T S ops p.again σ h (Ea T S n ops p.lights σ h fun σ1=>xf T S n ops p σ1 h K):=by
 cases p<;>exact hv
theorem EL {hp:Heap} {p:Pln} {rest old dn:List Nat} {K:Env→Heap→Prop} {z:Nat} (h:ia ops b p rest old dn=true) (hz:z∈p.heads) (hv:xf T S n ops p σ hp K):∃t,ia ops b t (cl (cl rest p.lights) [z]) (old++p.lights) (dn++eH ops b z)=true∧zn T S n ops z σ hp fun σ2 h2=>Bz T S n ops t σ2 h2 K:=by
 cases p with
 |fin ls rs=>cases hz
 |one ls rs y t=>
  simp only[Pln.heads,QaG] at hz;subst hz;simp only[ia,Qaa] at h
  exact ⟨t,h.2,hv⟩
 |two ls rs y t y' t'=>
  simp only[Pln.heads,List.mem_cons,List.not_mem_nil,or_false] at hz;simp only[ia,Qaa] at h;rcases hz with rfl|rfl
  ·exact ⟨t,h.1.2,hv.1⟩
  ·exact ⟨t',h.2,hv.2⟩
theorem F9 {hp:Heap} {p:Pln} {rest old dn:List Nat} {K:Env→Heap→Prop} (h:ia ops b p rest old dn=true) (he:∀i∈cl rest p.lights,False) (hv:xf T S n ops p σ hp K):K σ hp:=by
 cases p with
 |fin ls rs=>exact hv
 |one ls rs z t=>simp only[ia,Qaa] at h;exact (he z (inL_mem.1 h.1.2)).elim
 |two ls rs z t z' t'=>simp only[ia,Qaa] at h;exact (he z (inL_mem.1 h.1.1.1.2)).elim
structure LP (P:Program) (fx:Bool) (T:List (Nat×TI)) (ops:Array Oper) (b:Nat) (listed:Array Bool) (rest old dn:List Nat) (p:Pln) (E σ:Env) (h:Heap):Prop where
 size:listed.size=ops.size
 down:Down ops listed
 high:∀j,b≤j→listed.getD j false=false
 slots:∀k,(∀i,i<b→listed.getD i false=false→fh ops i≠some k)→σ k=E k
 lf:∀i∈old++p.lights,listed.getD i false=false→i<b∧LF P fx T ops h E i
 wait:∀i∈cl rest p.lights,i<b∧listed.getD i false=false
 all:∀i,i<b→i∈old++p.lights∨i∈cl rest p.lights∨listed.getD i false=true
 dn:∀i∈dn,listed.getD i false=true
 apart:∀i∈old++p.lights,i ∉ cl rest p.lights
theorem qO {i:Nat} (hs:listed.size=ops.size) {o:Oper} (ho:ops[i]? =some o):(listed.setIfInBounds i true).getD i false=true:=by
 have:=(Array.getElem?_eq_some_iff.1 ho).1;simp[Qaj,hs,this]
theorem pL {i j:Nat} (hs:listed.size=ops.size) {o:Oper} (ho:ops[i]? =some o) (hj:(listed.setIfInBounds i true).getD j false=false):j≠i∧listed.getD j false=false:=by
 by_cases e:i=j
 ·subst e;rw[qO hs ho] at hj;cases hj
 ·rw[getD_set_ne false e] at hj;exact ⟨Ne.symm e,hj⟩
theorem F8 (hT:bi P T=true) (hs:Region.noSelect ops=true) (B:Iv ops n b) (c:∀(listed:Array Bool),Down ops listed→∀(i:Nat) (o:Oper),b≤i→ops[i]? =some o→(∀e∈o.after,Region.binds .any e=true→listed.getD e.on false=true)→∀j,j<b→listed.getD j false=true) {K:Env→Heap→Prop} {m:Nat} {Q':Exit→Act→World→Prop}
 (hQ:∀σ h a w ν listed,K σ h→St q N0 w0 Nf n ν0 σ h a w ν→listed.size=ops.size→(∀j,j<b→listed.getD j false=true)→(∀j,b≤j→listed.getD j false=false)→wpAnyIn (G ro) 0 P .any ops Q' m listed a w):
 ∀(fuel:Nat) (unl:List Nat) (listed:Array Bool) (rest old dn:List Nat) (p:Pln) (E σ:Env) (h:Heap) (a:Act) (w:World) (ν:Nat→Value),unl.length=fuel→unl.Nodup→(∀j,j∈unl↔j<b∧listed.getD j false=false)→
  ia ops b p rest old dn=true→LP P q.fx T ops b listed rest old dn p E σ h→xf T (am P q.fx) n ops p E h K→St q N0 w0 Nf n ν0 σ h a w ν→wpAnyIn (G ro) 0 P .any ops Q' (fuel+m) listed a w:=by
 intro fuel
 induction fuel with
 |zero=>
  intro unl listed rest old dn p E σ h a w ν hlen hnd hu hp sm hv s;have hu0:unl=[]:=List.eq_nil_of_length_eq_zero hlen;subst hu0
  have hall:∀j,j<b→listed.getD j false=true:=fun j hj=>by
   cases e:listed.getD j false with
   |true=>rfl
   |false=>exact absurd ((hu j).2 ⟨hj,e⟩) (by simp)
  have hσ:σ=E:=funext fun k=>sm.slots k (fun i hi e=>by rw[hall i hi] at e;cases e)
  have hK:=F9 hp (fun i hi=>by
   obtain ⟨g1,g2⟩:=sm.wait i hi;rw[hall i g1] at g2;cases g2) hv
  rw[Qay]
  exact hQ σ h a w ν listed (by rw[hσ];exact hK) s sm.size hall sm.high
 |succ fuel ih=>
  intro unl listed rest old dn p E σ h a w ν hlen hnd hu hp sm hv s;rw[show fuel+1+m=(fuel+m)+1 from by omega]
  have hex:Region.ready .any ops listed≠[]:=by
   intro h0
   have key:∀j,j<b→listed.getD j false=true:=by
    intro j
    induction j using Nat.strongRecOn with
    |ind j hj=>
     intro hjb
     cases e:listed.getD j false with
     |true=>rfl
     |false=>
      obtain ⟨o,ho,_,_⟩:=B.op j hjb;have hsz:=(Array.getElem?_eq_some_iff.1 ho).1
      have:j∈Region.ready .any ops listed:=mem_ready.2 ⟨by
       rw[Qae] at e ⊢;rw[Qar (by rw[sm.size];exact hsz)] at e ⊢
       exact e,o,ho,fun e' he hb=>by
       have hmem:=(pS ho).2 ⟨e',he,hb,rfl⟩;have hlt:=B.low j hjb _ hmem;exact hj _ hlt (by omega)⟩
      rw[h0] at this;cases this
   cases unl with
   |nil=>simp at hlen
   |cons x unl=>
    obtain ⟨g1,g2⟩:=(hu x).1 Qap;rw[key x g1] at g2;cases g2
  refine ⟨fun h0=>absurd h0 hex,fun i hi=>?_⟩;obtain ⟨hun,o,ho,hall⟩:=mem_ready.1 hi;have hun:=se hun
  have hib:i<b:=by
   refine QaU fun hle=>?_;have h1:=c listed sm.down i o hle ho hall
   cases unl with
   |nil=>simp at hlen
   |cons x unl=>
    obtain ⟨g1,g2⟩:=(hu x).1 Qap;rw[h1 x g1] at g2;cases g2
  obtain ⟨o',ho',hgd,hdn⟩:=B.op i hib;rw[ho] at ho';injection ho' with ho'
  subst ho';have hmem:i∈unl:=(hu i).2 ⟨hib,hun⟩;have hlen':(unl.erase i).length=fuel:=by rw[List.length_erase_of_mem hmem];omega
  have hu':∀j,j∈unl.erase i↔j<b∧(listed.setIfInBounds i true).getD j false=false:=fun j=>by
   rw[hnd.mem_erase_iff,hu j];constructor
   ·rintro ⟨h1,h2,h3⟩
    exact ⟨h2,by rw[getD_set_ne false (Ne.symm h1)];exact h3⟩
   ·rintro ⟨h2,h3⟩
    obtain ⟨g1,g2⟩:=pL sm.size ho h3;exact ⟨g1,h2,g2⟩
  have hsz':(listed.setIfInBounds i true).size=ops.size:=by rw[QaM,sm.size]
  have hlook:∀t∈kl ops i,E t=σ t:=fun t ht=>(sm.slots t (fun j hj e he=>by
   have:=B.dep i hib j hj t he ht;rw[iW hi j this] at e;cases e)).symm
  unfold wpOpIn;simp only[ho];rw[if_pos (by simp[Region.wanted,hgd])];rcases sm.all i hib with hin|hin|hin
  ·
   obtain ⟨_,o2,d,ho2,hd,hv2⟩:=sm.lf i hin hun;rw[ho] at ho2;injection ho2 with ho2
   subst ho2;have hdi:fh ops i=some d:=by simp[fh,ho,hd]
   refine dK hT s (nF hs ho hlook hv2) fun r1 h1 m1 a' w' ν' hk hs'=>?_;obtain ⟨rfl,rfl,rfl⟩:=hk;rw[hd] at hs';refine ih (unl.erase i) _ rest old dn p E _ h1 a' w' ν' hlen' (hnd.erase i) hu' hp ⟨hsz',sm.down.set hi,fun j hj=>?_,fun k hk=>?_,fun j hj e=>?_,fun j hj=>?_,fun j hj=>?_,fun j hj=>getD_set_true (sm.dn j hj),sm.apart⟩ hv hs'
   ·rw[getD_set_ne false (by omega)];exact sm.high j hj
   ·by_cases e:k=d
    ·subst e;exact xY (hdn k hd)
    ·rw[show (σ.ren (.sub [])).putO n (some d) (E d)=σ.putO n (some d) (E d) from rfl,iX σ (some d) _ k (fun x hx g=>e (by injection hx with hx;rw[g,hx]))]
     refine sm.slots k (fun j hj hl he=>?_);by_cases e2:j=i
     ·subst e2;rw[hdi] at he;injection he with he;exact e he.symm
     ·exact hk j hj (by rw[getD_set_ne false (Ne.symm e2)];exact hl) he
   ·exact sm.lf j hj (pL sm.size ho e).2
   ·obtain ⟨g1,g2⟩:=sm.wait j hj
    refine ⟨g1,?_⟩;rw[getD_set_ne false (fun e=>sm.apart i hin (by rw[e];exact hj))];exact g2
   ·rcases sm.all j hj with g1|g1|g1
    ·exact .inl g1
    ·exact .inr (.inl g1)
    ·exact .inr (.inr (getD_set_true g1))
  ·have hst:=th hp
   rcases hst.wait i hin with hz|⟨j,hj,hjr⟩
   ·
    obtain ⟨t,hp2,hv2⟩:=EL hp hz hv;unfold zn at hv2;simp only[ho] at hv2;refine dK hT s (nF hs ho hlook hv2) fun r1 h1 m1 a' w' ν' hk hs'=>?_;have hk:=heapK_iff.1 (putK_iff.1 hk);have hst2:=th hp2;obtain ⟨hk2,hrs⟩:=zj t.again (vT hk)
    have hlb:∀j∈t.lights,j∈cl rest p.lights∧j≠i:=fun j hj=>by
     obtain ⟨g1,g2⟩:=minus_mem.1 (hst2.lsOk j hj).1;exact ⟨g1,fun e=>g2 (by rw[e];simp)⟩
    obtain ⟨E2,hk3,hE2,hls⟩:=r9 hs B t.lights hst2.asc (fun j hj=>⟨(sm.wait j (hlb j hj).1).1,(hst2.lsOk j hj).2⟩) hk2
    have hrest:∀j∈cl (cl (cl rest p.lights) [i]) t.lights,j∈cl rest p.lights∧j≠i∧j ∉ t.lights:=fun j hj=>by
     obtain ⟨g1,g2⟩:=minus_mem.1 hj;obtain ⟨g3,g4⟩:=minus_mem.1 g1;exact ⟨g3,fun e=>g4 (by rw[e];simp),g2⟩
    have hun2:∀j,j∈cl rest p.lights→j≠i→(listed.setIfInBounds i true).getD j false=false:=fun j hj hne=>by
     rw[getD_set_ne false (Ne.symm hne)];exact (sm.wait j hj).2
    have hdn2:∀j∈dn++eH ops b i,(listed.setIfInBounds i true).getD j false=true:=fun j hj=>by
     rcases List.mem_append.1 hj with hj|hj
     ·exact getD_set_true (sm.dn j hj)
     ·exact getD_set_true (EG sm.down b hi j hj)
    refine ih (unl.erase i) _ _ (old++p.lights) (dn++eH ops b i) t E2 _ h1 a' w' ν' hlen' (hnd.erase i) hu' hp2 ⟨hsz',sm.down.set hi,fun j hj=>?_,fun k hk=>?_,fun j hj e=>?_,fun j hj=>?_,fun j hj=>?_,hdn2,fun j hj hj2=>?_⟩ hk3 hs'
    ·rw[getD_set_ne false (by omega)];exact sm.high j hj
    ·rw[hE2 k (fun j hj=>hk j (sm.wait j (hlb j hj).1).1 (hun2 j (hlb j hj).1 (hlb j hj).2))]
     have base:fh ops i≠some k→(σ.ren m1) k=(E.ren m1) k:=fun hne=>I9 (sm.slots k (fun j hj hl he=>by
      by_cases e2:j=i
      ·subst e2;exact hne he
      ·exact hk j hj (by rw[getD_set_ne false (Ne.symm e2)];exact hl) he))
     cases hod:o.dst with
     |none=>exact base (by simp[fh,ho,hod])
     |some d=>
      by_cases e:k=d
      ·subst e;rw[xY (hdn k hod),xY (hdn k hod)]
      ·rw[iX _ (some d) r1 k (fun x hx g=>e (by injection hx with hx;rw[g,hx])),iX _ (some d) r1 k (fun x hx g=>e (by injection hx with hx;rw[g,hx]))]
       exact base (by simp only[fh,ho,QaW,hod,ne_eq,Qac];exact fun g=>e g.symm)
    ·rcases List.mem_append.1 hj with hjo|hjl
     ·have hjb:=(sm.lf j hjo (pL sm.size ho e).2).1
      refine ⟨hjb,?_⟩;rcases hst2.oldOk j hjo with g1|g1
      ·have g3:=(hst2.rsOk j g1).2
       refine JI hs (fun t' ht=>((hE2 t' (fun j' hj' he=>?_))).symm) (fun d hd=>(hE2 d (fun j' hj' he=>?_)).symm) (hrs j g1)
       ·exact g3 j' hj' (B.dep j hjb j' (sm.wait j' (hlb j' hj').1).1 t' he ht)
       ·refine B.one j hjb j' (sm.wait j' (hlb j' hj').1).1 ?_ d hd he
        rintro rfl;exact sm.apart _ hjo (hlb _ hj').1
      ·rw[hdn2 j g1] at e;cases e
     ·exact ⟨(sm.wait j (hlb j hjl).1).1,hls j hjl⟩
    ·obtain ⟨g1,g2,_⟩:=hrest j hj
     exact ⟨(sm.wait j g1).1,hun2 j g1 g2⟩
    ·rcases sm.all j hj with g1|g1|g1
     ·exact .inl (List.mem_append_left _ g1)
     ·by_cases e:j=i
      ·subst e;exact .inr (.inr (qO sm.size ho))
      ·by_cases e2:j∈t.lights
       ·exact .inl (List.mem_append_right _ e2)
       ·exact .inr (.inl (minus_mem.2 ⟨minus_mem.2 ⟨g1,by simpa using e⟩,e2⟩))
     ·exact .inr (.inr (getD_set_true g1))
    ·obtain ⟨g1,_,g3⟩:=hrest j hj2
     rcases List.mem_append.1 hj with g|g
     ·exact sm.apart j g g1
     ·exact g3 g
   ·exfalso
    have:=(sm.wait j hjr).2;rw[iW hi j hj] at this;cases this
  ·rw[hin] at hun;cases hun
theorem oX:∀(j:Nat) {k m:Nat} {L:Array Bool},L.size=ops.size→Region.lexFrom .any ops (j+m) k L=true→
 ∃L':Array Bool,L'.size=ops.size∧Region.lexFrom .any ops m (k+j) L'=true∧∀i,L'.getD i false=(L.getD i false||(decide (k≤i)&&decide (i<k+j)&&decide (i<ops.size)))
 |0,k,m,L,hs,hl=>⟨L,hs,by rwa [Qay] at hl,fun i=>by
   have:(decide (k≤i)&&decide (i<k+0))=false:=by
    rw[Bool.and_eq_false_iff,decide_eq_false_iff_not,decide_eq_false_iff_not];omega
   rw[this];simp⟩
 |j+1,k,m,L,hs,hl=>by
  rw[show j+1+m=(j+m)+1 from by omega] at hl;simp only[Region.lexFrom,Qaa] at hl;obtain ⟨L',h1,h2,h3⟩:=oX j (k:=k+1) (m:=m) (L:=L.setIfInBounds k true) (by rw[QaM,hs]) hl.2;refine ⟨L',h1,by rw[show k+(j+1)=k+1+j from by omega];exact h2,fun i=>?_⟩;rw[h3 i];by_cases e:k=i
  ·subst e
   by_cases hk:k<ops.size
   ·simp[Qaj,hs,hk]
   ·simp[Qaj,hs,hk]
  ·rw[getD_set_ne false e]
   congr 1
   have:decide (k+1≤i)=decide (k≤i):=by
    rw[decide_eq_decide];omega
   rw[this]
   have:decide (i<k+1+j)=decide (i<k+(j+1)):=by
    rw[decide_eq_decide];omega
   rw[this]
theorem By (hT:bi P T=true) (hm:P.follows .mixedOrders=true) {id:Nat} {K:Env→Heap→Prop} {Q:Exit→Act→World→Prop} (hQ:∀σ h a w ν,K σ h→St q N0 w0 Nf n ν0 σ h a w ν→Q .normal a w)
 (s:St q N0 w0 Nf n ν0 σ h a w ν) (hB:Region.lexB .any ops=true) {p:Pln} (hpl:ya ops n b p=true) (hv:Bz T (am P q.fx) n ops p σ h (fun σ' h'=>hU T (am P q.fx) n ops (ops.toList.drop b) σ' h' K)):(Code.region id ops true).wpIn (G ro) 0 P Q a w:=by
 simp only[Region.lexB,Qaa] at hB;simp only[ya,Qaa,QaB,QaF] at hpl;obtain ⟨⟨hbody,hp⟩,ht⟩:=hpl;have B:Iv ops n b:=Ip hbody;split at ht
 case h_2=>cases ht
 rename_i z t hzt;simp only[Qaa,Qam] at ht
 have hbs:b<ops.toList.length:=by
  rcases Qag b ops.toList.length with g|g
  ·exact g
  ·rw[List.drop_of_length_le g] at hzt;cases hzt
 have hl:ops.toList=ops.toList.take b++z::t:=by rw[←hzt,List.take_append_drop]
 have hlen:(ops.toList.take b).length=b:=by rw[List.length_take];omega
 have c:Cov ops b:=by
  have:=uB (ops:=ops) hl (by rw[hlen];exact ht.1.1) (by rw[hlen];exact ht.2)
  rwa [hlen] at this
 have hsz:ops.size=b+(z::t).length:=by rw[←Qat,hl,List.length_append,hlen]
 refine wpIn_region_any hm ?_;rw[hzt] at hv;have hst:=th hp;have hlt:∀i∈p.lights,i<b:=fun i hi=>List.mem_range.1 (hst.lsOk i hi).1;obtain ⟨hv2,_⟩:=zj p.again (vT hv);obtain ⟨E,hv3,hE,hls⟩:=r9 hB.1 B p.lights hst.asc (fun j hj=>⟨hlt j hj,(hst.lsOk j hj).2⟩) hv2;have hun:∀j,(Array.replicate ops.size false).getD j false=false:=fun j=>pR _ _
 have:=F8 (ro:=ro) hT hB.1 B (fun listed hd i o hle ho hall=>c.top hd (i - b) i o (Qad _) hle ho hall) (K:=fun σ' h'=>hU T (am P q.fx) n ops (z::t) σ' h' K) (m:=(z::t).length) (Q':=Q)
  (fun σ h a w ν listed hk s h1 h2 h3=>by
    obtain ⟨L',g1,g2,g3⟩:=oX (ops:=ops) b (k:=0) (m:=(z::t).length) (L:=Array.replicate ops.size false) (by simp) (by rw[←hsz];exact hB.2)
    have hL:listed=L':=by
     refine Array.ext (by rw[h1,g1]) (fun i hi hi'=>?_);have e:=g3 i;rw[hun,Bool.false_or] at e;have e1:listed.getD i false=listed[i]:=by simp[hi]
     have e2:L'.getD i false=L'[i]:=by simp[hi']
     rw[←e1,←e2,e];rcases Qag i b with g|g
     ·rw[h2 i g];simp[g,show i<ops.size by omega]
     ·rw[h3 i g];simp;omega
    rw[Qay] at g2;refine IX hT c hQ (z::t) b listed (Qad _) hsz.symm (fun j hj=>by rw[←Qaq,hl,Qax (by omega)];simp[hlen]) (fun o ho=>?_) (by rw[hL];exact g2) h3 (fun j hj=>?_) s hk
    ·rcases List.mem_cons.1 ho with rfl|ho
     ·exact ht.1.2
     ·exact (l9 ht.2).1 o ho
    ·have:=h2 j hj
     rw[Qae] at this ⊢;rw[Qar (show j<listed.size by omega)] at this ⊢;exact this)
  b (List.range b) (Array.replicate ops.size false) (List.range b) [] [] p E σ h a {w with drawn:=w.drawn+1} ν (by simp) List.nodup_range (fun j=>by rw[QaF,hun];simp) hp
  ⟨by simp,fun j o ho hj=>(by rw[hun] at hj;cases hj),fun j _=>hun j,fun k hk=>?_,fun i hi _=>?_,fun i hi=>?_,fun i hi=>?_,fun i hi=>(by cases hi),fun i hi hi2=>?_⟩ hv3 (s.world (yU w))
 ·rw[←hsz] at this;exact this
 ·exact (hE k (fun i hi=>hk i (hlt i hi) (hun i))).symm
 ·rw[QaE] at hi
  exact ⟨hlt i hi,hls i hi⟩
 ·exact ⟨List.mem_range.1 (minus_mem.1 hi).1,hun i⟩
 ·by_cases e:i∈p.lights
  ·exact .inl (by rw[QaE];exact e)
  ·exact .inr (.inl (minus_mem.2 ⟨List.mem_range.2 hi,e⟩))
 ·rw[QaE] at hi
  exact (minus_mem.1 hi2).2 hi
theorem fK (hT:bi P T=true) (hm:P.follows .mixedOrders=true) {id:Nat} {Qa:Exit→Env→Heap→Prop} {Q:Exit→Act→World→Prop} (hQ:∀σ h a w ν,Qa .normal σ h→St q N0 w0 Nf n ν0 σ h a w ν→Q .normal a w)
 (s:St q N0 w0 Nf n ν0 σ h a w ν) (hv:eX T (am P q.fx) n ops true σ h Qa):(Code.region id ops true).wpIn (G ro) 0 P Q a w:=by
 obtain ⟨hB,hv|⟨b,p,hp,hv⟩⟩:=hv
 case inr=>exact By hT hm hQ s hB hp hv
 unfold FG at hv;split at hv
 ·rename_i i z e
  split at hv
  ·obtain ⟨h1,hv⟩:=hv
   simp only[Qaa,QaD,Qam] at h1;refine mn hT hm hQ (il e) (fun o ho=>by rw[List.mem_singleton.1 ho];exact h1.2) ?_ s hB hv;rcases h1.1 with g|g
   ·exact G9 (il e) g
   ·exact uB (il e) g rfl
  ·split at hv
   ·rename_i i' z' t' e'
    split at hv
    ·rename_i hc
     simp only[Qaa,Qam] at hc;refine mn hT hm hQ (j5 e') (fun o ho=>?_) (uB (j5 e') hc.1 hc.2.2) s hB hv;rcases List.mem_cons.1 ho with rfl|ho
     ·exact hc.2.1
     ·exact (l9 hc.2.2).1 o ho
    ·exact jS hT hm (fun σ a w ν hk hs=>hQ σ h a w ν hk hs) s hB hv
   ·exact jS hT hm (fun σ a w ν hk hs=>hQ σ h a w ν hk hs) s hB hv
 ·exact jS hT hm (fun σ a w ν hk hs=>hQ σ h a w ν hk hs) s hB hv
end
end Go.Vc
end
section
namespace Go.Vc
section
variable {P:Program} {ro:Option Nat} {q:Md} {T:List (Nat×TI)} {N0 Nf:Nat→Prop} {w0 w w':World} {n:Nat} {σ σ':Env} {h h':Heap} {a:Act} {ν ν' ν0:Nat→Value}
theorem Jm {l:List (Nat×AV)} {m nx:Nat} (h1:KR nx l σ) (h2:Jj m l=true):∀{k v},look l k=some v→((σ k=v∨mj (σ k)=v)∨(∃id,v= .own id∧nx≤id∧σ k= .nils))∧v.lt m=true:=by
 induction l with
 |nil=>intro k v h;simp[look] at h
 |cons p l ih=>
  obtain ⟨j,u⟩:=p;simp only[KR] at h1;simp only[Jj,Qaa] at h2;intro k v hk;simp only[look] at hk;by_cases e:k=j
  ·subst e
   rw[ga] at hk;simp only[cond_true,Qac] at hk;subst hk;refine ⟨?_,h2.1⟩;have:=h1.1;split at this
   ·exact .inl (.inr this)
   ·split at this
    ·rename_i id _ hb;exact .inr ⟨_,rfl,Qab hb,this⟩
    ·exact .inl (.inl this)
   ·exact .inl (.inl this)
  ·rw[eQ e] at hk
   exact ih h1.2 h2.2 hk
theorem Jl {l l':List (Nat×AO)} {m nx:Nat} (h1:Ki nx l l') (h2:Fu m l):∀{k o},look l k=some o→
 ((∃o0,look l' k=some o0∧(o0=o∨(∃t tk tk' es,o= .map t (.del tk) es∧o0= .map t tk' es∧tk'.base=tk)∨∃t cs cs',o= .cells t cs∧o0= .cells t cs'∧Kj nx cs cs')∧k<nx)∨(nx≤k∧((∃t sz fs,o= .tree t sz fs []∧0<sz∧fs.length=sz)∨∃t sz,o= .row t sz []∧0<sz)))∧k<m∧(∀t cs,o= .cells t cs→ba m cs=true)∧(∀t tk es,o= .map t tk es→Fv m es):=by
 induction l with
 |nil=>intro k o h;simp[look] at h
 |cons p l ih=>
  obtain ⟨j,u⟩:=p;simp only[Ki] at h1;intro k o hk;simp only[look] at hk;by_cases e:k=j
  ·subst e
   rw[ga] at hk;simp only[cond_true,Qac] at hk;subst hk;refine ⟨?_,?_⟩
   ·have:=h1.1
    split at this
    ·rename_i hb
     refine .inr ⟨Qab hb,?_⟩;split at this
     ·simp only[Qaa] at this
      exact .inl ⟨_,_,_,rfl,Qab this.1,Qah this.2⟩
     ·exact .inr ⟨_,_,rfl,Qab this⟩
     ·cases this
    ·rename_i hb
     have hlt:k<nx:=by
      rcases Qag k nx with g|g
      ·exact g
      ·rw[QaO g] at hb;cases hb
     split at this
     ·rename_i t tk es
      split at this
      ·rename_i t' tk' es' e
       obtain ⟨rfl,e2,rfl⟩:=this;exact .inl ⟨_,e,.inr (.inl ⟨_,tk,tk',_,rfl,rfl,e2⟩),hlt⟩
      ·exact this.elim
     ·split at this
      ·split at this
       ·rename_i t' cs' e
        obtain ⟨rfl,e2⟩:=this;exact .inl ⟨_,e,.inr (.inr ⟨_,_,cs',rfl,rfl,e2⟩),hlt⟩
       ·exact this.elim
      ·exact .inl ⟨_,this,.inl rfl,hlt⟩
     ·exact .inl ⟨_,this,.inl rfl,hlt⟩
   cases u with
   |cells t cs=>
    simp only[Fu,Qaa] at h2
    exact ⟨Qab h2.1.1,(fun t' cs' e=>by injection e with _ e;rw[←e];exact h2.1.2),(fun _ _ _ e=>by cases e)⟩
   |row t sz rows=>simp only[Fu] at h2;exact ⟨Qab h2.1,(fun _ _ e=>by cases e),(fun _ _ _ e=>by cases e)⟩
   |tree t sz fs rows=>simp only[Fu] at h2;exact ⟨Qab h2.1,(fun _ _ e=>by cases e),(fun _ _ _ e=>by cases e)⟩
   |map t tk es=>simp only[Fu] at h2;exact ⟨Qab h2.1.1,(fun _ _ e=>by cases e),fun t' tk' es' e=>by injection e with _ _ e;rw[←e];exact h2.1.2⟩
  ·rw[eQ e] at hk
   refine ih h1.2 ?_ hk;cases u<;>simp only[Fu] at h2<;>exact h2.2
theorem Km.lt {N N':Nat→Prop} (m:Mv w N w N') (hν:∀id,id<n→ν id≠undef→ν' id=ν id) {tk:TK} {es:List (List D×AV)} {l:List MapEntry} (h:Km w N ν tk es l):Fv n es→Km w N' ν' tk es l:=by
 induction h with
 |nil=>intro _;exact .nil
 |cons g1 g2 g3 _ ih=>
  intro hl;simp only[Fv] at hl;exact .cons g1 g2 (g3.lt m hν (by simp[ba,hl.1])) (ih hl.2)
def pV (l:List (Nat×AO)) (id:Nat):Value:=match look l id with
 |some (.tree _ _ _ _)=> .tuple #[.slice none 0 0]
 |_=> .slice none 0 0
theorem Di {l:List (Nat×AO)} {id b:Nat}:¬Ow (pV l id) b:=by
 unfold pV;split
 ·intro g
  cases g with
  |leaf g=>cases g
  |sub hx g=>
   simp only[QaG] at hx;subst hx;have:=ow_slice.1 g;cases this
 ·intro g
  have:=ow_slice.1 g;cases this
theorem lV {l:List (Nat×AO)} {id:Nat}:ac (pV l id)= .slice none 0 0:=by
 unfold pV;split<;>rfl
theorem GD {N N':Nat→Prop} {nx m:Nat} (mv:Mv w N w N') (hν:∀id,id<m→ν id≠undef→ν' id=ν id) (hnil:∀id,nx≤id→id<m→ac (ν' id)= .slice none 0 0):∀{cs cs':List AV} {vs:List Value},Kj nx cs cs'→ba m cs=true→Rv w N ν cs' vs→Rv w N' ν' cs vs
 |[],[],vs,_,_,h=>by cases h;exact .nil
 |[],_::_,_,h,_,_=>h.elim
 |_::_,[],_,h,_,_=>h.elim
 |c::cs,c'::cs',vs,ho,hl,hr=>by
  obtain ⟨v,us,rfl,h1,h2⟩:=hr.cons_inv;simp only[ba,Qaa] at hl;refine Rv.cons ?_ (GD mv hν hnil ho.2 hl.2 h2)
  have plain:c'=c→Rv w N' ν' [c] [v]:=fun e=>by
   rw[e] at h1;exact h1.lt mv hν (by simp only[ba,hl.1,QaH])
  have g:=ho.1;split at g
  ·rename_i id
   split at g
   ·rename_i hb
    rw[g] at h1;rw[fO h1];exact .own (hnil id (Qab hb) (by simp only[AV.lt] at hl;exact Qab hl.1)) .nil
   ·exact plain g
  ·exact plain g
def iC (h h':Heap) (ν:Nat→Value) (id:Nat):Value:=if id<h'.nx then (if id<h.nx then ν id else pV h'.objs id) else undef
theorem St.weak {l:List (Nat×AV)} (hw:fZ σ h l h') (s:St q N0 w0 Nf n ν0 σ h a w ν):∃ν',St q N0 w0 Nf n ν0 (Env.of l) h' a w ν'∧(∀id,id<h'.nx→id<h.nx→ν' id=ν id)∧Mv w (nN N0 ν) w (nN N0 ν')∧(∀i b,Ow (ν' i) b→Ow (ν i) b)∧(∀id,h.nx≤id→id<h'.nx→ac (ν' id)= .slice none 0 0):=by
 obtain ⟨h1,h2,h3,h4,h5⟩:=hw;simp only[Qaa] at h1;obtain ⟨h6,h7⟩:=h1;have h6:=Qah h6;have h7:=Qab h7;refine ⟨iC h h' ν,?_⟩;have hνs:∀id,id<h'.nx→id<h.nx→iC h h' ν id=ν id:=fun id g1 g2=>by simp[iC,g1,g2]
 have hν:∀id,id<h'.nx→ν id≠undef→iC h h' ν id=ν id:=fun id g1 g2=>hνs id g1 (by
  rcases Qag id h.nx with q|q
  ·exact q
  ·exact absurd (s.hp.dom id q) g2)
 have hup:∀i b,Ow (iC h h' ν i) b→i<h'.nx∧i<h.nx∧Ow (ν i) b:=by
  intro i b g;unfold iC at g;split at g
  ·split at g
   ·rename_i e1 e2;exact ⟨e1,e2,g⟩
   ·exact absurd g Di
  ·exact absurd g lm
 have hN:∀b,nN N0 (iC h h' ν) b→nN N0 ν b:=by
  rintro b (g|⟨i,g⟩)
  ·exact .inl g
  ·exact .inr ⟨i,(hup i b g).2.2⟩
 have m:Mv w (nN N0 ν) w (nN N0 (iC h h' ν)):=⟨Qad _,fun b _ hb=>⟨fun g=>hb (hN b g),rfl⟩⟩
 refine ⟨⟨fun k=>?_,⟨?_,?_,?_,?_,s.hp.n0,?_,s.hp.lw⟩,s.kp,?_,s.size,s.defers.mv (fun _ _ _=>rfl) (fun i b g=> .inl ⟨i,(hup i b g).2.2⟩),?_,h7,by rw[h6];exact s.low.2⟩,hνs,m,fun i b g=>(hup i b g).2.2,fun id g1 g2=>by
  have g4:¬id<h.nx:=by omega
  simp only[iC,if_pos g2,g4,if_false];exact lV⟩
 ·simp only[Env.of]
  cases hq:Vc.look l k with
  |none=>exact .any _ .nil
  |some v=>
   obtain ⟨g1,g2⟩:=Jm h3 h2 hq;have:=s.slots k;rcases g1 with (g1|g1)|⟨id,rfl,g3,g1⟩
   ·rw[g1] at this
    exact this.lt m hν (by simp[ba,g2])
   ·have:=i5 this
    rw[g1] at this;exact this.lt m hν (by simp[ba,g2])
   ·rw[g1] at this
    rw[fO this];simp only[AV.lt] at g2;have g2:=Qab g2;have g4:¬id<h.nx:=by omega
    exact .own (by simp only[iC,if_pos (show id<h'.nx from g2),g4,if_false];exact lV) .nil
 ·intro id o ho
  obtain ⟨g1,g2,g3,g4⟩:=Jl h5 h4 ho;rcases g1 with ⟨o0,g1,g6,g5⟩|⟨g5,g1⟩
  ·have hr0:=s.hp.objs id o0 g1
   rcases (show (o0=o∨∃t tk tk' es,o= .map t (.del tk) es∧o0= .map t tk' es∧tk'.base=tk)∨∃t cs cs',o= .cells t cs∧o0= .cells t cs'∧Kj h.nx cs cs' from by rcases g6 with g|g|g;exact .inl (.inl g);exact .inl (.inr g);exact .inr g) with g7|⟨t,cs,cs',rfl,rfl,g8⟩
   case inr=>
    obtain ⟨b,arr,e,q1,q2,q3⟩:=hr0;refine ⟨b,arr,e,by rw[hνs id g2 g5];exact q1,q2,GD m hν (fun j j1 j2=>?_) g8 (g3 t cs rfl) q3⟩;have j3:¬j<h.nx:=by omega
    simp only[iC,if_pos j2,j3,if_false];exact lV
   have hr:Ro w (nN N0 ν) ν id o:=by
    have hr:=hr0;rcases g7 with rfl|⟨t,tk,tk',es,rfl,rfl,e⟩
    ·exact hr
    ·obtain ⟨r,arr,clock,q1,q2,q3,_⟩:=hr
     exact ⟨r,arr,clock,q1,q2,by rw[e] at q3;exact q3,fun e=>by cases e⟩
   cases o with
   |cells t cs=>
    obtain ⟨b,arr,e,q1,q2,q3⟩:=hr
    exact ⟨b,arr,e,by rw[hνs id g2 g5];exact q1,q2,q3.lt m hν (g3 t cs rfl)⟩
   |row t sz rows=>
    obtain ⟨A,c,cells,q1,q2,q3,q4,q5,q6⟩:=hr
    exact ⟨A,c,cells,by rw[hνs id g2 g5];exact q1,q2.mv m,q3,q4,q5,by rw[hνs id g2 g5];exact q6⟩
   |tree t sz fs rows=>
    obtain ⟨bs,q1,q2⟩:=hr
    exact ⟨bs,by rw[hνs id g2 g5];exact q1,q2⟩
   |map t tk es=>
    obtain ⟨r,arr,clock,q1,q2,q3⟩:=hr;exact ⟨r,arr,clock,by rw[hνs id g2 g5];exact q1,q2,q3.1.lt m hν (g4 t tk es rfl),q3.2⟩
  ·have g6:¬id<h.nx:=by omega
   have hv:iC h h' ν id=pV h'.objs id:=by simp only[iC,if_pos g2,g6,if_false]
   rcases g1 with ⟨t,sz,fs,rfl,q1,q2⟩|⟨t,sz,rfl,q1⟩
   ·refine ⟨[],?_,List.nodup_nil⟩
    rw[hv];unfold pV;rw[ho];exact xG q2 q1
   ·refine ⟨none,0,[],?_,.nil,by simp,Qas _,q1,?_⟩
    ·rw[hv];unfold pV;rw[ho];rfl
    ·rw[hv];unfold pV;rw[ho];exact ⟨by simp,.inl ⟨rfl,rfl⟩⟩
 ·exact fun i j b g1 g2=>s.hp.inj i j b (hup i b g1).2.2 (hup j b g2).2.2
 ·exact fun i b g=>s.hp.bnd i b (hup i b g).2.2
 ·intro i hi
  have:¬i<h'.nx:=by omega
  simp[iC,this]
 ·exact fun i b g=>s.hp.dis i b (hup i b g).2.2
 ·exact fun i b g=>s.fresh i b (hup i b g).2.2
 ·have key:∀i,ν0 i≠undef→iC h h' ν i=ν i:=fun i g1=>hνs i (by
   rcases Qag i h'.nx with g|g
   ·exact g
   ·exact absurd (s.low.2 i (by omega)) g1) (by
   rcases Qag i h.nx with g|g
   ·exact g
   ·exact absurd (s.low.2 i (by have:=s.low.1;omega)) g1)
  exact ⟨fun i g1 g2=>by rw[key i g1];exact s.keep.1 i g1 g2,fun hf i g1=>by rw[key i g1];exact s.keep.2 hf i g1⟩
end
section
variable {P:Program} {q:Md} {N0 Nf:Nat→Prop} {w0 w w':World} {n:Nat} {σ:Env} {h:Heap} {a:Act} {ν ν0:Nat→Value} {N:Nat→Prop} {B:Nat}
theorem Placed.avoid (hB:∀a v,w.cell? a=some v→a.block≠B) {A:Option Addr} {cells:List Value} (h:Placed w N A cells):Placed w (fun b=>N b∨b=B) A cells:=by
 rcases h with h|⟨b,o,rfl,hb,hc⟩
 ·exact .inl h
 ·cases cells with
  |nil=>exact .inl rfl
  |cons c cs=>
   have h0:=hB _ _ (hc 0 c rfl);exact .inr ⟨b,o,rfl,fun g=>by rcases g with g|g;exact hb g;exact h0 g,hc⟩
theorem Rd.avoid (hB:∀a v,w.cell? a=some v→a.block≠B) {ds:List D} {cs:List Value} (h:Rd w N ds cs):Rd w (fun b=>N b∨b=B) ds cs:=by
 induction h with
 |nil=>exact .nil
 |int a b _ ih=>exact .int a b ih
 |bool b _ ih=>exact .bool b ih
 |str s hs _ ih=>exact .str s hs ih
 |fn f _ ih=>exact .fn f ih
 |raw v hv _ ih=>exact .raw v hv ih
 |list rows A cap sz cells _ h2 h3 h4 h5 _ ih1 ih2=>exact .list rows A cap sz cells ih1 h2 (h3.avoid hB) h4 h5 ih2
theorem Rv.avoid (hB:∀a v,w.cell? a=some v→a.block≠B) {as:List AV} {vs:List Value} (h:Rv w N ν as vs):Rv w (fun b=>N b∨b=B) ν as vs:=by
 induction h with
 |nil=>exact .nil
 |any v _ ih=>exact .any v ih
 |d h _ ih=>exact .d (h.avoid hB) ih
 |nils _ ih=>exact .nils ih
 |val v _ ih=>exact .val v ih
 |agg xs _ _ ih1 ih2=>exact .agg xs ih1 ih2
 |tup xs _ _ ih1 ih2=>exact .tup xs ih1 ih2
 |ptr off h _ ih=>exact .ptr off h ih
 |at_ A cells h1 h2 h3 _ ih=>exact .at_ A cells h1 (h2.avoid hB) (h3.avoid hB) ih
 |rptr i off sz h1 h2 _ ih=>exact .rptr i off sz h1 h2 ih
 |own h _ ih=>exact .own h ih
 |nest i off m j h1 h2 h3 _ ih=>exact .nest i off m j h1 h2 h3 ih
 |mapr h _ ih=>exact .mapr h ih
 |fn f xs _ _ ih1 ih2=>exact .fn f xs ih1 ih2
 |bfn f xs _ _ ih1 ih2=>exact .bfn f xs ih1 ih2
 |iface t _ _ ih1 ih2=>exact .iface t ih1 ih2
theorem Km.avoid (hB:∀a v,w.cell? a=some v→a.block≠B) {tk:TK} {es:List (List D×AV)} {l:List MapEntry} (h:Km w N ν tk es l):Km w (fun b=>N b∨b=B) ν tk es l:=by
 induction h with
 |nil=>exact .nil
 |cons h1 h2 h3 _ ih=>exact .cons h1 h2 (h3.avoid hB) ih
theorem Ro.avoid (hB:∀a v,w.cell? a=some v→a.block≠B) {id:Nat} {o:AO} (h:Ro w N ν id o):Ro w (fun b=>N b∨b=B) ν id o:=by
 cases o with
 |cells t cs=>obtain ⟨b,arr,e,h1,h2,h3⟩:=h;exact ⟨b,arr,e,h1,h2,h3.avoid hB⟩
 |row t sz rows=>obtain ⟨A,c,cells,h1,h2,h3⟩:=h;exact ⟨A,c,cells,h1,h2.avoid hB,h3⟩
 |tree t sz fs rows=>exact h
 |map t tk es=>obtain ⟨r,arr,clock,h1,h2,h3⟩:=h;exact ⟨r,arr,clock,h1,h2,h3.1.avoid hB,h3.2⟩
theorem iI {o:Obj} (h:w.heap[B]? =some o) (ho:o.isCells=false):∀a v,w.cell? a=some v→a.block≠B:=by
 intro a v hc e;subst e;unfold World.cell? at hc;rw[h] at hc;cases o<;>simp[Obj.isCells] at ho hc
theorem LwOk.mv' {N0:Nat→Prop} {w w':World} {B:Nat} (h:LwOk N0 w) (hb:∀a v,w.cell? a=some v→a.block≠B) (same:∀b,b≠B→w'.heap[b]? =w.heap[b]?):LwOk N0 w':=fun p hp=>by
 obtain ⟨h1,h2⟩:=h p hp;refine ⟨h1,?_⟩;rw[World.cell?_of_block (w:=w) (a:=⟨p.1,0,none⟩) (same p.1 (hb _ _ h2))];exact h2
theorem LwOk.mv'' {N0:Nat→Prop} {w w':World} {B:Nat} (h:LwOk N0 w) (hb:∀a v,w.cell? a=some v→a.block≠B) (same:∀b,b<w.heap.size→b≠B→w'.heap[b]? =w.heap[b]?):LwOk N0 w':=fun p hp=>by
 obtain ⟨h1,h2⟩:=h p hp;refine ⟨h1,?_⟩;rw[World.cell?_of_block (w:=w) (a:=⟨p.1,0,none⟩) (same p.1 (cell?_lt h2) (hb _ _ h2))];exact h2
theorem St.turnB (s:St q N0 w0 Nf n ν0 σ h a w ν) {o:Obj} (ho:w.heap[B]? =some o) (hc:o.isCells=false) (hB:w0.heap.size≤B) (hn:∀i,¬Ow (ν i) B) (o':Obj) {ds:List Deferred} (hd:Dfr q w0 (w.putObj B o') ν ds):
 St q N0 w0 Nf n ν0 σ h {a with defers:=ds} (w.putObj B o') ν:=by
 have hb:=iI ho hc;have same:∀b,b≠B→(w.putObj B o').heap[b]? =w.heap[b]? :=fun b e=>World.putObj_heap_other e;have m:Mv w (fun b=>nN N0 ν b∨b=B) (w.putObj B o') (nN N0 ν):=⟨by simp,fun b _ hN=>⟨fun g=>hN (.inl g),same b (fun e=>hN (.inr e))⟩⟩
 refine ⟨fun k=>((s.slots k).avoid hb).mv m (fun _ _=>rfl),⟨fun id o hl=>Ro.keep m (fun _ _=>rfl) (fun b g=>same b (fun e=>hn id (e▸g))) ((s.hp.objs id o hl).avoid hb),s.hp.inj,fun i b g=>by simpa using s.hp.bnd i b g,s.hp.dom,fun b g=>by simpa using s.hp.n0 b g,s.hp.dis,s.hp.lw.mv' hb same⟩,
  ⟨s.kp.os,s.kp.tape,s.kp.output,by simpa using s.kp.size,fun b hb hNf=>(same b (by omega)).trans (s.kp.blk b hb hNf)⟩,s.fresh,s.size,hd,s.keep,s.low⟩
theorem oZ {fn:Func} {R:Ending→World→Prop} {u:FrameMode} (hu:u≠ .run) {as:List AV} {vs:List Value}:∀(Ds:List Nat) {a:Act} {w:World},St q N0 w0 Nf n ν0 σ h a w ν→Rv w (nN N0 ν) ν as vs→a.defers=Ds.map Aq++q.tl→
 (∀w',St q N0 w0 Nf n ν0 σ h {a with defers:=q.tl} w' ν→Rv w' (nN N0 ν) ν as vs→LeavesInM (G none) 0 P fn a.tmps R q.tl u w')→LeavesInM (G none) 0 P fn a.tmps R (Ds.map Aq++q.tl) u w
 |[],a,w,s,hr,hd,k=>by
  have e:a={a with defers:=q.tl}:=by
    cases a;simp only[List.map_nil,QaE] at hd;simp only[hd]
  exact k w (e▸s) hr
 |B::Ds,a,w,s,hr,hd,k=>by
  obtain ⟨h0,Es,h1,h2,h3⟩:=s.defers
  have e:Es=B::Ds:=by
   have:Es.map Aq=(B::Ds).map Aq:=List.append_cancel_right (h1.symm.trans hd)
   have inj:∀{xs ys:List Nat},xs.map Aq=ys.map Aq→xs=ys:=by
    intro xs
    induction xs with
    |nil=>intro ys h;cases ys with
     |nil=>rfl
     |cons y ys=>simp at h
    |cons x xs ih=>intro ys h;cases ys with
     |nil=>simp at h
     |cons y ys=>
      simp only[QaQ,List.cons.injEq,Aq,Deferred.mk.injEq,Target.collected.injEq,and_true] at h;rw[h.1,ih h.2]
   exact inj this
  subst e;obtain ⟨g1,g2,g3⟩:=h3 B Qap;have hnd:=List.nodup_cons.1 h2;refine ⟨hu,.inl ⟨B,w.putObj B (.deferred none),rfl,run_takeDeferred g2,?_⟩⟩
  have s':=s.turnB g2 rfl g1 g3 (.deferred none) (ds:=Ds.map Aq++q.tl) ⟨fun e=>(by have:=congrArg List.length (hd.symm.trans (h0 e));simp at this;omega),Ds,rfl,hnd.2,fun E hE=>by
   obtain ⟨q1,q2,q3⟩:=h3 E (Qan _ hE);exact ⟨q1,by rw[World.putObj_heap_other (fun e=>hnd.1 (by rw[←e];exact hE))];exact q2,q3⟩⟩
  have hb:=iI g2 rfl;have m:Mv w (fun b=>nN N0 ν b∨b=B) (w.putObj B (.deferred none)) (nN N0 ν):=⟨by simp,fun b _ hN=>⟨fun g=>hN (.inl g),World.putObj_heap_other (fun e=>hN (.inr e))⟩⟩;exact oZ hu (a:={a with defers:=Ds.map Aq++q.tl}) Ds s' ((hr.avoid hb).mv m (fun _ _=>rfl)) rfl k
theorem yr {fn:Func} {R:Ending→World→Prop} (Ds:List Nat) {a:Act} {w:World} (s:St q N0 w0 Nf n ν0 σ h a w ν) (hd:a.defers=Ds.map Aq++q.tl)
 (k:∀w',St q N0 w0 Nf n ν0 σ h {a with defers:=q.tl} w' ν→LeavesInM (G none) 0 P fn a.tmps R q.tl .returning w'):LeavesInM (G none) 0 P fn a.tmps R (Ds.map Aq++q.tl) .returning w:=
 oZ (by simp) Ds s .nil hd fun w' s' _=>k w' s'
theorem cP {fn:Func} {R:Ending→World→Prop} (hq:q.tl=[]) (Ds:List Nat) {a:Act} {w:World} (s:St q N0 w0 Nf n ν0 σ h a w ν) (hd:a.defers=Ds.map Aq++q.tl)
 (k:∀w',St q N0 w0 Nf n ν0 σ h {a with defers:=[]} w' ν→∃v,(results fn a.tmps).run P w'= .ok v w'∧R (.returned v) w'):LeavesInM (G none) 0 P fn a.tmps R (Ds.map Aq++q.tl) .returning w:=by
 refine yr Ds s hd fun w' s'=>?_;rw[hq] at s' ⊢;exact k w' s'
end
section
variable {P:Program} {T:List (Nat×TI)} {N0 Nf:Nat→Prop} {w0 w w' W W':World} {n:Nat} {σ:Env} {h h':Heap} {a:Act} {ν ν' ν0:Nat→Value} {N:Nat→Prop}
theorem CellsKeep.refl (N:Nat→Prop) (w:World):CellsKeep N w w:=⟨Qad _,fun _ _ _ h=>h⟩
theorem CellsKeep.trans {A B C:World} (h:CellsKeep N A B) (k:CellsKeep N B C):CellsKeep N A C:=⟨Qav h.1 k.1,fun a v hn hc=>k.2 a v hn (h.2 a v hn hc)⟩
theorem KpI.trans {A B C:World} (x:KpI N0 ν h A B) (y:KpI N0 ν h B C):KpI N0 ν h A C:=⟨fun g=>y.1 (x.1 g),x.2.trans y.2⟩
theorem Fz {F:Fence} {m k:Nat} {c:Code} {Q:Exit→Act→World→Prop} {a:Act} {w:World} (hF:F.depth=none) (h:c.wpIn F m P Q a w):c.wpIn F k P Q a w:=
 fun b kk cs hro hb _=>h b kk cs hro hb (fun _ g=>by rw[hF] at g;cases g)
theorem qo (hc:dr h.objs h.nx=true) (hp:Hp N0 w ν h):∀i b,Ow (ν i) b→∃o,w.heap[b]? =some o∧o.isCells=true:=by
 intro i b g
 have hi:i<h.nx:=by
  rcases Qag i h.nx with e|e
  ·exact e
  ·rw[hp.dom i e] at g;exact absurd g lm
 have key:∀{l:List (Nat×AO)} {k:Nat},dr l k=true→∀i,i<k→∃t cs,look l i=some (.cells t cs):=by
  intro l k
  induction k with
  |zero=>intro _ i hi;omega
  |succ k ih=>
   intro h i hi;simp only[dr,Qaa] at h;by_cases e:i=k
   ·subst e
    have h1:=h.1;split at h1
    ·rename_i t cs e;exact ⟨t,cs,e⟩
    ·cases h1
   ·exact ih h.2 i (by omega)
 obtain ⟨t,cs,hl⟩:=key hc i hi;obtain ⟨b',arr,e,h1,h2,_⟩:=hp.objs i _ hl;rw[h1] at g;simp only[ow_slice,Gf,B4,bG,Qac] at g;subst g;exact ⟨_,h2,rfl⟩
theorem wT (hc:dr h.objs h.nx=true) (hp:Hp N0 w ν h) (i:Nat):∀A m c,ac (ν i)≠ .slice A m c:=by
 intro A m c g;rcases Qag i h.nx with e|e
 ·have key:∀{l:List (Nat×AO)} {k:Nat},dr l k=true→∀i,i<k→∃t cs,look l i=some (.cells t cs):=by
   intro l k
   induction k with
   |zero=>intro _ i hi;omega
   |succ k ih=>
    intro h i hi;simp only[dr,Qaa] at h;by_cases e:i=k
    ·subst e
     have h1:=h.1;split at h1
     ·rename_i t cs e;exact ⟨t,cs,e⟩
     ·cases h1
    ·exact ih h.2 i (by omega)
  obtain ⟨t,cs,hl⟩:=key hc i e;obtain ⟨b',arr,e,h1,_⟩:=hp.objs i _ hl;rw[h1] at g;cases g
 ·rw[hp.dom i e] at g;simp[undef,ac] at g
theorem Hp.grown (hc:dr h.objs h.nx=true) (hp:Hp N0 W ν h) {row:Option Nat} (hg:W.grownBy W' row) (hr:∀r,row=some r→∃o:Obj,W.heap[r]? =some o∧o.isCells=false):Hp N0 W' ν h:=by
 have own:=qo hc hp;have same:∀b,b<W.heap.size→row≠some b→W'.heap[b]? =W.heap[b]? :=fun b hb e=>hg.block b hb (fun x=>e x.symm)
 have ne:∀i b,Ow (ν i) b→row≠some b:=fun i b g e=>by
  obtain ⟨o,h1,h2⟩:=own i b g;obtain ⟨o',h3,h4⟩:=hr b e;rw[h1] at h3;cases h3;rw[h2] at h4;cases h4
 cases row with
 |none=>
  have m:Mv W (nN N0 ν) W' (nN N0 ν):=⟨hg.size,fun b hb hN=>⟨hN,same b hb (by simp)⟩⟩
  exact ⟨fun id o hl=>Ro.keep m (fun _ _=>rfl) (fun b g=>same b (hp.bnd id b g) (by simp)) (hp.objs id o hl),hp.inj,fun i b g=>Qaf (hp.bnd i b g) hg.size,hp.dom,fun b g=>Qaf (hp.n0 b g) hg.size,hp.dis,hp.lw.mv (fun b _ hlt=>same b hlt (by simp))⟩
 |some r=>
  obtain ⟨o,ho,hoc⟩:=hr r rfl;have hb:=iI ho hoc;have m:Mv W (fun b=>nN N0 ν b∨b=r) W' (nN N0 ν):=⟨hg.size,fun b hlt hN=>⟨fun g=>hN (.inl g),same b hlt (fun e=>by cases e;exact hN (.inr rfl))⟩⟩;exact ⟨fun id o hl=>Ro.keep m (fun _ _=>rfl) (fun b g=>same b (hp.bnd id b g) (ne id b g)) ((hp.objs id o hl).avoid hb),hp.inj,fun i b g=>Qaf (hp.bnd i b g) hg.size,hp.dom,fun b g=>Qaf (hp.n0 b g) hg.size,hp.dis,hp.lw.mv'' hb (fun b hlt e=>same b hlt (fun x=>by cases x;exact e rfl))⟩
theorem CellsKeep.grown {row:Option Nat} (hg:W.grownBy W' row) (hr:∀r,row=some r→∃o:Obj,W.heap[r]? =some o∧o.isCells=false):CellsKeep N W W':=by
 refine ⟨hg.size,fun a v _ hc=>?_⟩;have hlt:=cell?_lt hc
 have e:W'.heap[a.block]? =W.heap[a.block]? :=hg.block _ hlt (fun e=>by
  obtain ⟨o,h1,h2⟩:=hr _ e.symm;exact iI h1 h2 a v hc rfl)
 rw[World.cell?_of_block e];exact hc
theorem Rd.cells (k:CellsKeep N w w') {ds:List D} {cs:List Value} (h:Rd w N ds cs):Rd w' N ds cs:=by
 induction h with
 |nil=>exact .nil
 |int a b _ ih=>exact .int a b ih
 |bool b _ ih=>exact .bool b ih
 |str s hs _ ih=>exact .str s hs ih
 |fn f _ ih=>exact .fn f ih
 |raw v hv _ ih=>exact .raw v hv ih
 |list rows A cap sz cells _ h2 h3 h4 h5 _ ih1 ih2=>
  refine .list rows A cap sz cells ih1 h2 ?_ h4 h5 ih2;rcases h3 with h|⟨b,o,rfl,hb,hc⟩
  ·exact .inl h
  ·exact .inr ⟨b,o,rfl,hb,fun j v hv=>k.2 _ _ hb (hc j v hv)⟩
theorem m5 {N:Nat→Prop}:∀{ps:List Nat} {x:List AV} {vs:List Value} {σ:Env} {tm:Array Value},(∀k,Rv w N ν [σ k] [tm.getD k undef])→tm.size=n→Rv w N ν x vs→x.length=ps.length→
 (∀k,Rv w N ν [(iN n ps x σ) k] [((ps.zip vs).foldl (fun t (p:Nat×Value)=>t.setIfInBounds p.1 p.2) tm).getD k undef])∧((ps.zip vs).foldl (fun t (p:Nat×Value)=>t.setIfInBounds p.1 p.2) tm).size=n
 |[],x,vs,σ,tm,hs,hn,hx,hl=>by
  cases x with
  |nil=>simp only[iN,List.zip_nil_left,List.foldl_nil];exact ⟨hs,hn⟩
  |cons _ _=>simp at hl
 |p::ps,[],_,_,_,_,_,_,hl=>by simp at hl
 |p::ps,v::x,vs,σ,tm,hs,hn,hx,hl=>by
  obtain ⟨u,us,rfl,h1,h2⟩:=hx.cons_inv;simp only[iN,List.zip_cons_cons,List.foldl_cons];refine m5 (σ:=σ.putO n (some p) v) (tm:=tm.setIfInBounds p u) ?_ (by simpa using hn) h2 (by simpa using hl);have:=dA (a:={tmps:=tm,defers:=[]}) hs hn (some p) h1;exact this
theorem Fj (hc:dr h.objs h.nx=true):∀{l:List (Nat×AO)} {k:Nat},dr l k=true→∀i,i<k→∃t cs,look l i=some (.cells t cs):=by
 intro l k
 induction k with
 |zero=>intro _ i hi;omega
 |succ k ih=>
  intro h i hi;simp only[dr,Qaa] at h;by_cases e:i=k
  ·subst e
   have h1:=h.1;split at h1
   ·rename_i t cs e;exact ⟨t,cs,e⟩
   ·cases h1
  ·exact ih h.2 i (by omega)
structure InvR (N0:Nat→Prop) (w0:World) (Nf:Nat→Prop) (ν:Nat→Value) (h:Heap) (Ds:List Nat) (w W:World):Prop where
 hp:Hp N0 W ν h
 kp:Kp Nf w0 W
 mv:Mv w (nN N0 ν) W (nN N0 ν)
 mark:∀D∈Ds,W.heap[D]? =some (.deferred (some []))
theorem InvR.grown {Ds:List Nat} (hc:dr h.objs h.nx=true) (hD:∀D∈Ds,D<w.heap.size) (h0:w0.heap.size≤w.heap.size) (I:InvR N0 w0 Nf ν h Ds w W) {row:Option Nat} (hg:W.grownBy W' row)
 (hr:∀r,row=some r→w.heap.size≤r∧∃o:Obj,W.heap[r]? =some o∧o.isCells=false):InvR N0 w0 Nf ν h Ds w W':=by
 have same:∀b,b<w.heap.size→W'.heap[b]? =W.heap[b]? :=fun b hb=>hg.block b (Qaf hb I.mv.size) (fun e=>by have:=(hr b e.symm).1;omega)
 refine ⟨I.hp.grown hc hg (fun r e=>(hr r e).2),⟨hg.os.trans I.kp.os,hg.tape.trans I.kp.tape,hg.output.trans I.kp.output,Qav I.kp.size hg.size,fun b hb hn=>(same b (by omega)).trans (I.kp.blk b hb hn)⟩,
  ⟨Qav I.mv.size hg.size,fun b hb hN=>⟨hN,(same b hb).trans (I.mv.blk b hb hN).2⟩⟩,fun D hD'=>(same D (hD D hD')).trans (I.mark D hD')⟩
def jC (ν:Nat→Value):Nat→Prop:=fun b=>∃id,Ow (ν id) b
theorem InvR.round {Ds:List Nat} (hc:dr h.objs h.nx=true) (hD:∀D∈Ds,D<w.heap.size∧∀i,¬Ow (ν i) D) (hf:∀i b,Ow (ν i) b→w0.heap.size≤b∨Nf b) (h0:w0.heap.size≤w.heap.size)
 (I:InvR N0 w0 Nf ν h Ds w W) {B:Nat→Prop} (hB:∀b,B b→b<W.heap.size→(∃i,Ow (ν i) b)∨w.heap.size≤b) (k:Kp B W W') (hp:Hp N0 W' ν h):InvR N0 w0 Nf ν h Ds w W':=by
 have hlt:∀b,b<w.heap.size→b<W.heap.size:=fun b hb=>Qaf hb I.mv.size;refine ⟨hp,⟨k.os.trans I.kp.os,k.tape.trans I.kp.tape,k.output.trans I.kp.output,Qav I.kp.size k.size,fun b hb hn=>?_⟩,⟨Qav I.mv.size k.size,fun b hb hN=>⟨hN,?_⟩⟩,fun D hD'=>?_⟩
 ·refine (k.blk b (Qaf hb I.kp.size) (fun g=>?_)).trans (I.kp.blk b hb hn)
  rcases hB b g (Qaf hb I.kp.size) with ⟨i,gi⟩|g
  ·rcases hf i b gi with q|q
   ·omega
   ·exact hn q
  ·omega
 ·refine (k.blk b (hlt b hb) (fun g=>?_)).trans (I.mv.blk b hb hN).2
  rcases hB b g (hlt b hb) with g|g
  ·exact hN (.inr g)
  ·omega
 ·obtain ⟨q1,q2⟩:=hD D hD'
  refine (k.blk D (hlt D q1) (fun g=>?_)).trans (I.mark D hD');rcases hB D g (hlt D q1) with ⟨i,gi⟩|g
  ·exact q2 i gi
  ·omega
theorem KpI.round {B:Nat→Prop} (hB:∀b,B b→b<W.heap.size→∃i,Ow (ν i) b) (k:Kp B W W') (hp:Hp N0 W' ν h):KpI N0 ν h W W':=by
 refine ⟨fun _=>hp,k.size,fun a v hn hc=>?_⟩;have hlt:=cell?_lt hc;rw[World.cell?_of_block (k.blk a.block hlt (fun g=>hn (.inr (hB _ g hlt))))];exact hc
theorem Rv.grown {as:List AV} {vs:List Value} (h:Rv W N ν as vs) {row:Option Nat} (hg:W.grownBy W' row) (hr:∀r,row=some r→∃o:Obj,W.heap[r]? =some o∧o.isCells=false):Rv W' N ν as vs:=by
 cases row with
 |none=>
  have m:Mv W N W' N:=⟨hg.size,fun b hb hN=>⟨hN,hg.block b hb (by simp)⟩⟩
  exact h.mv m (fun _ _=>rfl)
 |some r=>
  obtain ⟨o,ho,hoc⟩:=hr r rfl;have m:Mv W (fun b=>N b∨b=r) W' N:=⟨hg.size,fun b hlt hN=>⟨fun g=>hN (.inl g),hg.block b hlt (fun e=>by cases e;exact hN (.inr rfl))⟩⟩;exact (h.avoid (iI ho hoc)).mv m (fun _ _=>rfl)
theorem St.weakA {q:Md} {l:List (Nat×AV)} (hw:IQ σ h l h') (s:St q N0 w0 Nf n ν0 σ h a w ν):∃ν',St q N0 w0 Nf n ν0 (Env.of l) h' a w ν'∧(∀id,id<h'.nx→ν' id=ν id):=by
 obtain ⟨h1,h2,h3,h4,h5⟩:=hw;simp only[Qaa] at h1;have hnx:=Qab h1.1.1;obtain ⟨ν',s',hν,m,_⟩:=s.weak (l:=[]) (h':=h') ⟨by simp only[Qaa];exact ⟨h1.1.2,h1.2⟩,rfl,trivial,h4,h5⟩
 replace hν:∀id,id<h'.nx→ν' id=ν id:=fun id g=>hν id g (by omega)
 refine ⟨ν',⟨fun k=>?_,s'.hp,s'.kp,s'.fresh,s'.size,s'.defers,s'.keep,s'.low⟩,hν⟩;simp only[Env.of]
 cases hq:look l k with
 |none=>exact .any _ .nil
 |some v=>
  have key:∀{l:List (Nat×AV)},Jj h'.nx l=true→KS h h'.nx l σ→look l k=some v→v.lt h'.nx=true∧Lw h h'.nx (σ k) v:=by
   intro l
   induction l with
   |nil=>intro _ _ h;cases h
   |cons p l ih=>
    intro g1 g2 g3;obtain ⟨k',v'⟩:=p;simp only[Jj,Qaa] at g1;simp only[KS] at g2;simp only[look] at g3
    cases hb:QaJ k k' with
    |true=>
     have e:=Qah hb;subst e;rw[hb] at g3;cases g3
     exact ⟨g1.1,g2.1⟩
    |false=>rw[hb] at g3;exact ih g1.2 g2.2 g3
  obtain ⟨g1,g2⟩:=key h2 h3 hq;have sl:=s.slots k
  have plain:σ k=v→Rv w (nN N0 ν') ν' [v] [a.tmps.getD k undef]:=fun e=>by
   rw[e] at sl;exact sl.lt m (fun id g _=>hν id g) (by simp[ba,g1])
  cases v with
  |d x=>cases x with
   |bool b=>
    have:=i5 sl;rw[g2] at this
    exact this.lt m (fun id g _=>hν id g) (by simp[ba,g1])
   |_=>exact plain g2
  |at_ ds=>
   rcases g2 with g2|⟨id,off,t,cs,e1,e2,e3,e4,e5⟩
   ·exact plain g2
   ·rw[e1] at sl
    obtain ⟨b,arr,ty,q1,q2,q3⟩:=s.hp.objs id _ e3;generalize a.tmps.getD k undef=u at sl ⊢
    cases sl with
    |@ptr _ _ _ b2 _ hp2 _=>
     rw[q1] at hp2;simp only[Value.pointer.injEq,Qac,Addr.mk.injEq,and_true] at hp2;subst hp2;have hcell:=(q3.drop off).dsOf e4
     have hnot:¬nN N0 ν' b:=by
       rintro (g|⟨i,g⟩)
       ·exact s.hp.dis id b (by rw[q1];exact .leaf rfl) g
       ·have hi:i<h'.nx:=by
         rcases Qag i h'.nx with x|x
         ·exact x
         ·rw[s'.hp.dom i x] at g;exact absurd g lm
        rw[hν i hi] at g;have:=s.hp.inj i id b g (by rw[q1];exact .leaf rfl);omega
     have hne:arr.toList.drop off≠[]:=by
       intro e;rw[e] at hcell;cases hcell;simp at e5
     refine .at_ _ (arr.toList.drop off) hne (hcell.mv m) (.inr ⟨b,off,rfl,hnot,fun j v hv=>?_⟩) .nil;simp only[World.cell?,q2];rw[QaT] at hv
     simpa using hv
  |_=>exact plain g2
end
end Go.Vc
end
section
namespace Go.Vc
section
variable {P:Program} {T:List (Nat×TI)} {N0 Nf:Nat→Prop} {w0 w w' W W':World} {n:Nat} {σ:Env} {h h':Heap} {a:Act} {ν ν' ν0:Nat→Value} {N:Nat→Prop} {tl:List Deferred}
structure InvX (N0:Nat→Prop) (w0:World) (Nf:Nat→Prop) (ν0:Nat→Value) (σ:Env) (a:Act) (Ds:List Nat) (w:World) (h':Heap) (ν':Nat→Value) (W:World):Prop where
 slots:∀k,Rv W (nN N0 ν') ν' [σ k] [a.tmps.getD k undef]
 hp:Hp N0 W ν' h'
 kp:Kp Nf w0 W
 fresh:∀i b,Ow (ν' i) b→w0.heap.size≤b∨Nf b
 keep:∀i,ν0 i≠undef→(∀A m c,ac (ν0 i)≠ .slice A m c)→ν' i=ν0 i
 mark:∀D∈Ds,W.heap[D]? =some (.deferred (some []))∧∀i,¬Ow (ν' i) D
theorem InvX.grown {Ds:List Nat} (hc:dr h'.objs h'.nx=true) (hD:∀D∈Ds,D<w.heap.size) (h0:w0.heap.size≤w.heap.size) (I:InvX N0 w0 Nf ν0 σ a Ds w h' ν' W) {row:Option Nat} (hg:W.grownBy W' row)
 (hr:∀r,row=some r→w.heap.size≤r∧∃o:Obj,W.heap[r]? =some o∧o.isCells=false):InvX N0 w0 Nf ν0 σ a Ds w h' ν' W':=by
 refine ⟨fun k=>(I.slots k).grown hg (fun r e=>(hr r e).2),I.hp.grown hc hg (fun r e=>(hr r e).2),⟨hg.os.trans I.kp.os,hg.tape.trans I.kp.tape,hg.output.trans I.kp.output,Qav I.kp.size hg.size,fun b hb hn=>?_⟩,I.fresh,I.keep,fun D hD'=>?_⟩
 ·exact (hg.block b (Qaf hb I.kp.size) (fun e=>by have:=(hr b e.symm).1;omega)).trans (I.kp.blk b hb hn)
 ·obtain ⟨q1,q2⟩:=I.mark D hD'
  exact ⟨(hg.block D (Array.getElem?_eq_some_iff.1 q1).1 (fun e=>by have:=(hr D e.symm).1;have:=hD D hD';omega)).trans q1,q2⟩
theorem tz (hc:dr h.objs h.nx=true) (hp:Hp N0 w ν h) (hp':Hp N0 W ν' h) (hk:∀i,ν i≠undef→(∀A m c,ac (ν i)≠ .slice A m c)→ν' i=ν i):ν'=ν:=by
 funext i
 rcases Qag i h.nx with e|e
 ·obtain ⟨t,cs,hl⟩:=Fj hc hc i e
  obtain ⟨b',arr,ty,h1,_⟩:=hp.objs i _ hl;exact hk i (by rw[h1];simp[undef]) (wT hc hp i)
 ·rw[hp.dom i e,hp'.dom i e]
theorem Hp.lo (hp:Hp N0 w ν h) (x:Nat):Hp N0 w ν ⟨h.objs,h.nx,x⟩:=⟨hp.objs,hp.inj,hp.bnd,hp.dom,hp.n0,hp.dis,hp.lw⟩
theorem Hp.unlo {x:Nat} (hp:Hp N0 w ν ⟨h.objs,h.nx,x⟩):Hp N0 w ν h:=⟨hp.objs,hp.inj,hp.bnd,hp.dom,hp.n0,hp.dis,hp.lw⟩
def CX (Qa:Exit→Env→Heap→Prop) (σ:Env) (h:Heap):Code→Prop
 | .ret=>Qa .ret σ h
 | .exit id=>Qa (.exit id) σ h
 |_=>False
theorem zT {Qa:Exit→Env→Heap→Prop} {Q:Exit→Act→World→Prop} {g:Operand} {ps:Array Nat} {x y:Code}
 (hv:nD (dF P) n g ps (y9 T (dF P) n x true) (y9 T (dF P) n y true) σ h Qa) (hQ:∀e σ h a w ν,Qa e σ h→St ⟨false,false,tl⟩ N0 w0 Nf n ν0 σ h a w ν→Q e a w) (s:St ⟨false,false,tl⟩ N0 w0 Nf n ν0 σ h a w ν)
 (ihx:∀{w0:World} {Nf:Nat→Prop} {ν0:Nat→Value} {ro:Option Nat} {σ:Env} {h:Heap} {a:Act} {w:World} {ν:Nat→Value} {Qa:Exit→Env→Heap→Prop} {Q:Exit→Act→World→Prop},
   y9 T (dF P) n x true σ h Qa→(∀e σ h a w ν,Qa e σ h→St ⟨true,false,[]⟩ N0 w0 Nf n ν0 σ h a w ν→Q e a w)→St ⟨true,false,[]⟩ N0 w0 Nf n ν0 σ h a w ν→x.wpIn (G ro) 0 P Q a w)
 (ihy:∀{w0:World} {Nf:Nat→Prop} {ν0:Nat→Value} {ro:Option Nat} {σ:Env} {h:Heap} {a:Act} {w:World} {ν:Nat→Value} {Qa:Exit→Env→Heap→Prop} {Q:Exit→Act→World→Prop},
   y9 T (dF P) n y true σ h Qa→(∀e σ h a w ν,Qa e σ h→St ⟨true,false,[]⟩ N0 w0 Nf n ν0 σ h a w ν→Q e a w)→St ⟨true,false,[]⟩ N0 w0 Nf n ν0 σ h a w ν→y.wpIn (G ro) 0 P Q a w):
 (Code.rangeFunc g ps x y).wpIn (G none) 0 P Q a w:=by
 unfold nD at hv;split at hv
 case h_2=>exact hv.elim
 rename_i f caps e;obtain ⟨hc,xs,Gd,⟨hent,hit⟩,hlen,hround,hend⟩:=hv;have hg:=aD s g;rw[e] at hg
 obtain ⟨lb,hev,hlb⟩:∃lb:List Value,a.eval g= .func (.func f) #[] lb.toArray∧Rv w (nN N0 ν) ν caps lb:=by
  generalize a.eval g=u at hg
  cases hg with
  |fn f xs h1 h2=>exact ⟨xs,rfl,h1⟩
 obtain ⟨_,Ds,hds,hnd,hD⟩:=s.defers;have hDlt:∀D∈Ds,D<w.heap.size∧∀i,¬Ow (ν i) D:=fun D hd=>⟨(Array.getElem?_eq_some_iff.1 (hD D hd).2.1).1,(hD D hd).2.2⟩;have hDl:∀D∈Ds,D<w.heap.size:=fun D hd=>(hDlt D hd).1;have hsz:=s.kp.size;have hptr:=wT hc s.hp;have hB0:∀{W:World},Hp N0 W ν h→∀b,jC ν b→∃o,W.heap[b]? =some o∧o.isCells=true:=fun hp b ⟨i,g⟩=>qo hc hp i b g
 have hslots:∀{W:World},Mv w (nN N0 ν) W (nN N0 ν)→∀k,Rv W (nN N0 ν) ν [(Env.ren .drop σ) k] [a.tmps.getD k undef]:=fun m k=>by
  have:=(s.slots k).noOwn m (fun _ _ _=>rfl);simpa [aT,Env.ren] using this
 refine Fz (m:=1) rfl (wpIn_rangeFunc_ownH (α:=Elem w (nN N0 ν) ν xs) (F:=G none) (n:=1) rfl (Qad _) hev trivial (fun args w=>fP hent args w) (hit N0 w ν lb s.hp hlb)
  (fun a b=>a.trans b) ?hKb (RowKit.Below.refl _ _) ?hps
  (fun pre W=>InvR N0 w0 Nf ν h Ds w W∧∀p∈pre,Gd p.1.1)
  (fun c _ W=>∃h' ν',(dr h'.objs h'.nx&&Qak h.lo h'.nx)=true∧CX Qa (Env.ren .drop σ) ⟨h'.objs,h'.nx,h.lo⟩ c∧InvX N0 w0 Nf ν0 (Env.ren .drop σ) a Ds w h' ν' W)
  ?hI ?hIx ?h0
  (fun x a' W=>∃l,y9 T (dF P) n y true (Env.of l) ⟨h.objs,h.nx,h.nx⟩ (F5 (Gd x.1.1) h Qa (Env.ren .drop σ))∧(∀k,Rv W (nN N0 ν) ν [(Env.of l) k] [a'.tmps.getD k undef])∧a'.tmps.size=n∧a'.defers=[])
  ?hAx ?hassign ?hbody ?hdone ?hstop)
 case hKb=>
  intro W l o o' hl hlo hoc _;have hgr:=grownBy_putObj' W l o';have hr:∀r,(some l:Option Nat)=some r→∃o:Obj,W.heap[r]? =some o∧o.isCells=false:=fun r e=>by cases e;exact ⟨o,hlo,hoc⟩
  exact ⟨fun hp=>hp.grown hc hgr hr,CellsKeep.grown hgr hr⟩
 case hps=>
  rintro ⟨⟨i,v⟩,hi,x,hx,hr⟩;have h1:v.toList.length=x.length:=hr.length;have h2:=hlen _ (QaX hi) x hx;rw[Qat] at h1;exact h1.trans h2
 case hI=>
  rintro pre W W' row ⟨I,hG⟩ hgr hr;exact ⟨I.grown hc hDl hsz hgr hr,hG⟩
 case hIx=>
  rintro c pre W W' row ⟨h',ν',h1,h2,I⟩ hgr hr;exact ⟨h',ν',h1,h2,I.grown (Bool.and_eq_true_iff.1 h1).1 hDl hsz hgr hr⟩
 case h0=>exact ⟨⟨s.hp,s.kp,Mv.refl _ _,fun D hd=>(hD D hd).2.1⟩,fun p hp=>by cases hp⟩
 case hAx=>
  rintro x a' u W W' row ⟨l,h1,h2,h3,h4⟩ hgr hr;exact ⟨l,h1,fun k=>(h2 k).grown hgr (fun r e=>(hr r e).2),h3,h4⟩
 case hassign=>
  rintro l pre ⟨⟨i,v⟩,hi,x,hx,hr⟩ W K ⟨I,hG⟩ hK;have hx1:=hlen _ (QaX hi) x hx;have hrv:Rv W (nN N0 ν) ν x v.toList:=hr.mv I.mv (fun _ _=>rfl);obtain ⟨p1,p2⟩:=m5 (n:=n) (ps:=ps.toList) (hslots I.mv) s.size hrv (by rw[hx1,Qat])
  have hz:(ps.zip v).foldl (fun t (p:Nat×Value)=>t.setIfInBounds p.1 p.2) a.tmps=(ps.toList.zip v.toList).foldl (fun t (p:Nat×Value)=>t.setIfInBounds p.1 p.2) a.tmps:=by
   rw[←Array.foldl_toList,Array.toList_zip]
  have s1:St ⟨true,false,[]⟩ N0 W (jC ν) n ν (iN n ps.toList x (Env.ren .drop σ)) ⟨h.objs,h.nx,h.nx⟩ {tmps:=(ps.zip v).foldl (fun t (p:Nat×Value)=>t.setIfInBounds p.1 p.2) a.tmps,defers:=[]} W ν:=by
   refine ⟨?_,I.hp.lo _,Kp.refl _ _,fun i b g=> .inr ⟨i,g⟩,?_,Dfr.nil _ _ _ _,⟨fun _ _ _=>rfl,fun _ _ _=>rfl⟩,Qad _,s.hp.dom⟩
   ·simp only[hz];exact p1
   ·simp only[hz];exact p2
  refine ihx (hround i _ (List.getElem?_eq_getElem hi) x hx) ?_ s1;intro e σ' h' a' W' ν' hk s'
  cases e with
  |normal=>
   obtain ⟨l',hw,hb⟩:=hk;obtain ⟨ν2,s2,_⟩:=s'.weakA hw;have hp2:Hp N0 W' ν2 h:=s2.hp.unlo;have hν:ν2=ν:=tz hc I.hp hp2 s2.keep.1;subst hν;have hown:=hB0 I.hp;refine hK a' W' ⟨s'.kp.size,fun k o _ hko hoc=>?_⟩ (KpI.round (B:=jC ν2) (fun b ⟨i,g⟩ _=>⟨i,g⟩) s'.kp hp2) ⟨InvR.round hc hDlt s.fresh hsz I (B:=jC ν2) (fun b ⟨i,g⟩ _=> .inl ⟨i,g⟩) s'.kp hp2,hG⟩ ⟨l',hb,s2.slots,s2.size,s2.defers.1 rfl⟩;refine (s'.kp.blk k (Array.getElem?_eq_some_iff.1 hko).1 (fun hB=>?_)).trans hko;obtain ⟨o2,q1,q2⟩:=hown k hB;rw[hko] at q1;cases q1
   rw[hoc] at q2;cases q2
  |exit id=>exact hk.elim
  |goto l=>exact hk.elim
  |ret=>exact hk.elim
  |panic ch=>exact hk.elim
  |outgrown=>exact hk.elim
 case hbody=>
  rintro l pre ⟨⟨i,v⟩,hi,x,hx,hr⟩ a' W hl hL ⟨I,hG⟩ ⟨l',hb,hsl,hsize,hdf⟩ _
  have s1:St ⟨true,false,[]⟩ N0 W (jC ν) n ν (Env.of l') ⟨h.objs,h.nx,h.nx⟩ a' W ν:=
   ⟨hsl,I.hp.lo _,Kp.refl _ _,fun i b g=> .inr ⟨i,g⟩,hsize,by rw[hdf];exact Dfr.nil _ _ _ _,⟨fun _ _ _=>rfl,fun _ _ _=>rfl⟩,Qad _,s.hp.dom⟩
  have hown:=hB0 I.hp;refine ihy hb ?_ s1;intro e σ' h' a2 W' ν' hk s'
  have hKF:KeepsFrom w.heap.size W W':=by
   refine ⟨s'.kp.size,fun k o _ hko hoc=>?_⟩;refine (s'.kp.blk k (Array.getElem?_eq_some_iff.1 hko).1 (fun hB=>?_)).trans hko;obtain ⟨o2,q1,q2⟩:=hown k hB;rw[hko] at q1;cases q1;rw[hoc] at q2;cases q2
  have hleave:∀{c:Code},(dr h'.objs h'.nx&&Qak h.lo h'.nx)=true→CX Qa (Env.ren .drop σ) ⟨h'.objs,h'.nx,h.lo⟩ c→
   ∃h' ν',(dr h'.objs h'.nx&&Qak h.lo h'.nx)=true∧CX Qa (Env.ren .drop σ) ⟨h'.objs,h'.nx,h.lo⟩ c∧InvX N0 w0 Nf ν0 (Env.ren .drop σ) a Ds w h' ν' W':=by
   intro c h1 h2;have hold:∀i b,Ow (ν' i) b→(∃j,Ow (ν j) b)∨W.heap.size≤b:=fun i b g=>(s'.fresh i b g).symm;have hkeep:∀i,ν i≠undef→ν' i=ν i:=fun i g=>s'.keep.1 i g (hptr i)
   have m:Mv w (nN N0 ν) W' (nN N0 ν'):=by
    refine ⟨Qav I.mv.size s'.kp.size,fun b hb hN=>⟨?_,?_⟩⟩
    ·rintro (g|⟨i,g⟩)
     ·exact hN (.inl g)
     ·rcases hold i b g with g|g
      ·exact hN (.inr g)
      ·have:=I.mv.size;omega
    ·exact (s'.kp.blk b (Qaf hb I.mv.size) (fun g=>hN (.inr g))).trans (I.mv.blk b hb hN).2
   refine ⟨h',ν',h1,h2,⟨fun k=>?_,s'.hp,?_,fun i b g=>?_,fun i g1 g2=>?_,fun D hd=>?_⟩⟩
   ·have:=(s.slots k).noOwn m (fun i g _=>hkeep i g)
    simpa [aT,Env.ren] using this
   ·exact I.kp.trans s'.kp (fun b hb ⟨i,g⟩=>by
     rcases s.fresh i b g with q|q
     ·omega
     ·exact q)
   ·rcases hold i b g with ⟨j,g⟩|g
    ·exact s.fresh j b g
    ·left;have:=I.kp.size;omega
   ·have e1:=s.keep.1 i g1 g2
    rw[hkeep i (by rw[e1];exact g1),e1]
   ·obtain ⟨q1,q2⟩:=hDlt D hd
    have hltW:=Qaf q1 I.mv.size;refine ⟨(s'.kp.blk D hltW (fun ⟨i,g⟩=>q2 i g)).trans (I.mark D hd),fun i g=>?_⟩;rcases hold i D g with ⟨j,g⟩|g
    ·exact q2 j g
    ·omega
  cases e with
  |normal=>
   obtain ⟨hGd,hw⟩:=hk;obtain ⟨ν2,s2,_⟩:=s'.weak hw;have hp2:Hp N0 W' ν2 h:=s2.hp.unlo;have hν:ν2=ν:=tz hc I.hp hp2 s2.keep.1;subst hν;refine ⟨hKF,KpI.round (B:=jC ν2) (fun b ⟨i,g⟩ _=>⟨i,g⟩) s'.kp hp2,InvR.round hc hDlt s.fresh hsz I (B:=jC ν2) (fun b ⟨i,g⟩ _=> .inl ⟨i,g⟩) s'.kp hp2,fun p hp=>?_⟩;rcases List.mem_append.1 hp with hp|hp
   ·exact hG p hp
   ·rw[QaG] at hp
    subst hp
    exact hGd
  |ret=>exact ⟨hKF,hleave hk.1 hk.2⟩
  |exit id=>exact ⟨hKF,hleave hk.1 hk.2⟩
  |goto l=>exact hk.elim
  |panic ch=>exact hk.elim
  |outgrown=>exact hk.elim
 case hdone=>
  rintro B ys W hB hS ⟨I,hG⟩ hK;refine hQ .normal _ _ _ W ν (hend fun i hi=>?_) ⟨hslots I.mv,I.hp,I.kp,s.fresh,s.size,⟨(fun e=>by cases e),B::Ds,(by simp only[hds,QaQ,QaY,Aq]),List.nodup_cons.2 ⟨(fun hd=>by have:=hDl B hd;omega),hnd⟩,fun D hd=>?_⟩,s.keep,s.low⟩
  ·have:i∈ys.map (fun y=>y.1.1):=by rw[hS];exact List.mem_range.2 hi
   obtain ⟨p,hp,hpi⟩:=List.mem_map.1 this;have h1:=hG p hp;subst hpi;exact h1
  ·rcases List.mem_cons.1 hd with e|hd
   ·subst e
    exact ⟨by omega,hK,fun i g=>by have:=s.hp.bnd i D g;omega⟩
   ·exact ⟨(hD D hd).1,I.mark D hd,(hD D hd).2.2⟩
 case hstop=>
  rintro B c pre W hB _ ⟨h',ν',h1,h2,I⟩ hK;rw[Qaa] at h1;have hlow:=Qab h1.2
  have fin:∀e,Qa e (Env.ren .drop σ) ⟨h'.objs,h'.nx,h.lo⟩→Q e {a with defers:={target:= .collected B,args:= #[]}::a.defers} W:=fun e hq=>
   hQ e _ _ _ W ν' hq ⟨I.slots,I.hp.lo _,I.kp,I.fresh,s.size,⟨(fun e=>by cases e),B::Ds,(by simp only[hds,QaQ,QaY,Aq]),List.nodup_cons.2 ⟨(fun hd=>by have:=hDl B hd;omega),hnd⟩,fun D hd=>by
    rcases List.mem_cons.1 hd with e|hd
    ·subst e
     refine ⟨by omega,hK,fun i g=>?_⟩;obtain ⟨o,q1,q2⟩:=qo h1.1 I.hp i D g;rw[hK] at q1;cases q1;cases q2
    ·exact ⟨(hD D hd).1,(I.mark D hd).1,(I.mark D hd).2⟩⟩,⟨I.keep,fun hf=>by cases hf⟩,hlow,s.low.2⟩
  cases c with
  |ret=>exact wpIn_ret (fin _ h2)
  |exit id=>exact wpIn_exit (fin _ h2)
  |_=>exact h2.elim
end
end Go.Vc
end
section
namespace Go.Vc
def w9 (ro:Option Nat) (P:Program) (c:Code) (Q:Exit→Act→World→Prop) (a:Act) (w:World):Prop:=
 ∀(b:Frame) (k:List Item) (cs:List Frame),b.roundOf=ro→(∃fn,P.funcs[b.fn]? =some fn)→
  ∃e a' w',Q e a' w'∧ArrivesIn (Machine.fenced P (G ro)) P (lone (b.atR a (.code c::k)) cs w) b k cs e a' w'
section
variable {P:Program} {ro:Option Nat} {c x y:Code} {Q Q':Exit→Act→World→Prop} {a:Act} {w:World}
theorem er {b:Frame} {k:List Item} {cs:List Frame} {c:Code}:step P (lone (b.atR a (.code (.scope c)::k)) cs w)= .next (lone (b.atR a (.code c:: .inScope c::k)) cs w):=
 step_lone_go (by simp[stepG,stepG.exec,Frame.atR])
theorem mq {b:Frame} {k:List Item} {cs:List Frame} {c:Code}:step P (lone (b.atR a (.inScope c::k)) cs w)= .next (lone (b.atR a k) cs w):=
 step_lone_go (by simp[stepG,stepG.exec,Frame.atR])
theorem fz (m:Machine):m.fenced P (G ro):=by
 intro g _;exact ⟨fun h=>(by cases h),.inl trivial,fun _ _=>trivial,fun _ h=>(by cases h)⟩
theorem rz (n:Nat):(G ro).room n:=fun _ h=>by cases h
theorem one {m m':Machine} (h:step P m= .next m'):StepsIn (Machine.fenced P (G ro)) P m m':= .one (fz _) h
theorem pz (h:c.wpIn (G ro) 0 P Q a w):w9 ro P c Q a w:=fun b k cs hr _=>h b k cs hr trivial (rz _)
theorem uD {m m₁:Machine} {b:Frame} {i:Item} {k:List Item} {cs:List Frame} {e:Exit} {a:Act} {w:World} (hi:i.plain=true) (he:e≠ .normal) (h:StepsIn (Machine.fenced P (G ro)) P m m₁)
 (h':ArrivesIn (Machine.fenced P (G ro)) P m₁ b (i::k) cs e a w):ArrivesIn (Machine.fenced P (G ro)) P m b k cs e a w:=
 .of_steps h (.pass (x:=i) hi (fun _ _=> .inl he) h')
theorem HE (h:w9 ro P x (Exit.then (w9 ro P y Q) Q) a w):w9 ro P (.seq x y) Q a w:=by
 intro b k cs hr hf;obtain ⟨e,a1,w1,hq,harr⟩:=h b (.code y::k) cs hr hf;by_cases he:e= .normal
 ·subst he
  obtain ⟨e2,a2,w2,hq2,harr2⟩:=hq b k cs hr hf;exact ⟨e2,a2,w2,hq2,.of_steps ((one stepR_seq).trans harr) harr2⟩
 ·exact ⟨e,a1,w1,by cases e<;>first|exact absurd rfl he|exact hq,uD rfl he (one stepR_seq) harr⟩
theorem za {g:Operand} {t:Bool} (hc:a.eval g= .bool t) (h:w9 ro P (if t then x else y) Q a w):w9 ro P (.cond g x y) Q a w:=
 fun b k cs hr hf=>let ⟨e,a',w',q,r⟩:=h b k cs hr hf;⟨e,a',w',q,.of_steps (one (stepR_cond hc)) r⟩
theorem D2 {id:Nat} (h:w9 ro P c (Exit.inBlock id Q) a w):w9 ro P (.block id c) Q a w:=by
 intro b k cs hr hf;obtain ⟨e,a1,w1,hq,harr⟩:=h b (.inBlock id::k) cs hr hf;have h0:StepsIn (Machine.fenced P (G ro)) P (lone (b.atR a (.code (.block id c)::k)) cs w) _:=one stepR_block
 cases e with
 |normal=>exact ⟨.normal,a1,w1,hq,h0.trans (StepsIn.trans harr (one stepR_inBlock))⟩
 |exit id'=>
  by_cases hid:id'=id
  ·simp only[Exit.inBlock,hid,if_true] at hq
   exact ⟨.normal,a1,w1,hq,h0.trans (harr.1 k (by simp[exitTo,hid]))⟩
  ·simp only[Exit.inBlock,hid,if_false] at hq
   have hx:exitTo id' (.inBlock id::k)=exitTo id' k:=by
    have:(id==id')=false:=by simp;exact fun h=>hid h.symm
    simp[exitTo,this]
   exact ⟨.exit id',a1,w1,hq,.of_steps h0 ⟨fun k' hk=>harr.1 k' (by rw[hx];exact hk),fun hr' hk=>harr.2 hr' (by rw[hx];exact hk)⟩⟩
 |goto l=>
  have hx:gotoIn l (.inBlock id::k)=gotoIn l k:=by simp[gotoIn]
  exact ⟨_,a1,w1,hq,.of_steps h0 ⟨fun k' hk=>harr.1 k' (by rw[hx];exact hk),fun hr' hk=>harr.2 hr' (by rw[hx];exact hk)⟩⟩
 |ret=>exact ⟨_,a1,w1,hq,.of_steps h0 harr⟩
 |panic ch=>exact ⟨_,a1,w1,hq,.of_steps h0 harr⟩
 |outgrown=>exact ⟨_,a1,w1,hq,.of_steps h0 harr⟩
theorem D0 (I:Nat→Act→World→Prop) (round:∀k a w,I k a w→w9 ro P c (Exit.then (fun a' w'=>∃k',k'<k∧I k' a' w') Q) a w) (k:Nat) (a:Act) (w:World) (h0:I k a w):w9 ro P (.loop c) Q a w:=by
 intro b kk cs hr hf
 have key:∀k a w,I k a w→∃e a' w',Q e a' w'∧ArrivesIn (Machine.fenced P (G ro)) P (lone (b.atR a (.code c:: .inLoop c::kk)) cs w) b kk cs e a' w':=by
  intro k
  induction k using Nat.strongRecOn with
  |_ k ih=>
   intro a w hI;obtain ⟨e,a1,w1,hq,harr⟩:=round k a w hI b (.inLoop c::kk) cs hr hf;by_cases he:e= .normal
   ·subst he
    obtain ⟨k',hlt,hI1⟩:=hq;obtain ⟨e2,a2,w2,hq2,harr2⟩:=ih k' hlt a1 w1 hI1;exact ⟨e2,a2,w2,hq2,.of_steps (StepsIn.trans harr (one stepR_inLoop)) harr2⟩
   ·exact ⟨e,a1,w1,by cases e<;>first|exact absurd rfl he|exact hq,uD rfl he (.refl _) harr⟩
 obtain ⟨e,a',w',hq,harr⟩:=key k a w h0;exact ⟨e,a',w',hq,.of_steps (one stepR_loop) harr⟩
theorem Bw (h:w9 ro P c (Exit.noGoto Q) a w):w9 ro P (.scope c) Q a w:=by
 intro b k cs hr hf;obtain ⟨e,a1,w1,hq,harr⟩:=h b (.inScope c::k) cs hr hf;have h0:StepsIn (Machine.fenced P (G ro)) P (lone (b.atR a (.code (.scope c)::k)) cs w) _:=one er
 cases e with
 |normal=>exact ⟨.normal,a1,w1,hq,h0.trans (StepsIn.trans harr (one mq))⟩
 |exit id=>
  have hx:exitTo id (.inScope c::k)=exitTo id k:=by simp[exitTo]
  exact ⟨.exit id,a1,w1,hq,.of_steps h0 ⟨fun k' hk=>harr.1 k' (by rw[hx];exact hk),fun hr' hk=>harr.2 hr' (by rw[hx];exact hk)⟩⟩
 |goto l=>exact hq.elim
 |ret=>exact ⟨_,a1,w1,hq,.of_steps h0 harr⟩
 |panic ch=>exact ⟨_,a1,w1,hq,.of_steps h0 harr⟩
 |outgrown=>exact ⟨_,a1,w1,hq,.of_steps h0 harr⟩
theorem kv {f:FuncId} {fn:Func} {args:Array Value} {R:Ending→World→Prop} (hf:P.funcs[f]? =some fn) (hb:fn.body=some c)
 (h:w9 none P c (bodyPostM (G none) 0 P fn R) {tmps:=args++Array.replicate (fn.ntmps - args.size) undef,defers:=[]} w):CallsIn (G none) 0 P f args w R:=by
 refine ⟨trivial,fun cs hr=>?_⟩
 let b:Frame:={(default:Frame) with fn:=f,kind:= .normal,roundOf:=none}
 have henter:Frame.enter P f args .normal=b.atR {tmps:=args++Array.replicate (fn.ntmps - args.size) undef,defers:=[]} [.code c]:=by
  simp[Frame.enter,Frame.atR,hf,hb,b]
 obtain ⟨e,a',w',hq,harr⟩:=h b [] cs rfl ⟨fn,hf⟩;rw[←henter] at harr
 cases e with
 |normal=>
  obtain ⟨e',w'',fr',hR,hs,hfn,hl⟩:=leaves_stepsInM a'.defers .returning w' {b.atR a' [] with mode:= .returning} cs rfl rfl rfl hf rfl trivial hr hq
  exact ⟨e',w'',fr',hR,ComesIn.of_steps (StepsIn.trans harr (one (stepR_end rfl))) hs,hfn,hl⟩
 |ret=>
  obtain ⟨todo,hs0⟩:=harr.1 rfl;obtain ⟨e',w'',fr',hR,hs,hfn,hl⟩:=leaves_stepsInM a'.defers .returning w' {b.atR a' todo with mode:= .returning} cs rfl rfl rfl hf rfl trivial hr hq
  exact ⟨e',w'',fr',hR,ComesIn.of_steps hs0 hs,hfn,hl⟩
 |panic chain=>
  obtain ⟨todo,hs0⟩:=harr;obtain ⟨e',w'',fr',hR,hs,hfn,hl⟩:=leaves_stepsInM a'.defers (.panicking chain) w' {b.atR a' todo with mode:= .panicking chain} cs rfl rfl rfl hf rfl trivial hr hq
  exact ⟨e',w'',fr',hR,ComesIn.of_steps hs0 hs,hfn,hl⟩
 |exit id=>exact hq.elim
 |goto l=>exact hq.elim
 |outgrown=>
  exact ⟨.outgrown,w',b,hq,by rcases harr with h|h;exact (by cases h);exact h,rfl,trivial⟩
def I7 (P:Program) (l:Nat) (R:Ending→World→Prop):Exit→Act→World→Prop
 | .normal,_,w=>∃v w',(Instr.endRound l none).run P w= .ok v w'∧R (.returned v) w'
 | .ret,_,w=>∃v w',(Instr.endRound l (some .ret)).run P w= .ok v w'∧R (.returned v) w'
 | .exit id,_,w=>∃v w',(Instr.endRound l (some (.exit id))).run P w= .ok v w'∧R (.returned v) w'
 | .panic ch,a,w=>a.defers=[]∧R (.panicked ch) w
 |_,_,_=>False
theorem sZ {l:Nat} {f:FuncId} {tmps:Array Value} {assign body:Code} {R:Ending→World→Prop} (hfn:∃fn,P.funcs[f]? =some fn)
 (h:w9 (some l) P assign (Exit.then (fun a1 w1=>∃w2,(Instr.beginRound l).run P w1= .ok () w2∧w9 (some l) P body (I7 P l R) a1 w2) (fun _ _ _=>False)) {tmps:=tmps,defers:=[]} w):
 RoundIn (G none) 0 P l f tmps assign body w R:=by
 refine ⟨trivial,fun c cs _=>?_⟩
 let b:Frame:={(default:Frame) with fn:=f,kind:= .normal,roundOf:=some l}
 have hb0:Frame.round l f tmps assign body .normal=b.atR {tmps:=tmps,defers:=[]} [.code assign,.beginRound,.code body]:=by simp[Frame.round,Frame.atR,b]
 obtain ⟨e,a1,w1,hq,harr⟩:=h b [.beginRound,.code body] (c::cs) rfl hfn;rw[←hb0] at harr;have hI:Machine.fenced P (G (some l))=Machine.fenced P (G none):=rfl
 cases e with
 |normal=>
  obtain ⟨w2,hbr,hbody⟩:=hq;have s1:StepsIn (Machine.fenced P (G none)) P _ (lone (b.atR a1 [.code body]) (c::cs) w2):=StepsIn.trans harr (one (stepR_beginRound rfl hbr));obtain ⟨e2,a2,w3,hq2,harr2⟩:=hbody b [] (c::cs) rfl hfn;rw[hI] at harr2
  cases e2 with
  |normal=>
   obtain ⟨v,w4,hend,hR⟩:=hq2
   exact ⟨.returned v,w4,hR,s1.trans (StepsIn.trans harr2 (one (stepR_round_end rfl rfl hend)))⟩
  |ret=>
   obtain ⟨v,w4,hend,hR⟩:=hq2;obtain ⟨k1,hs⟩:=harr2.2 rfl
   exact ⟨.returned v,w4,hR,s1.trans (StepsIn.trans hs (one (stepR_round_ret rfl rfl hend)))⟩
  |exit id=>
   obtain ⟨v,w4,hend,hR⟩:=hq2;obtain ⟨k1,hk,hs⟩:=harr2.2 rfl rfl
   exact ⟨.returned v,w4,hR,s1.trans (StepsIn.trans hs (one (stepR_round_exit rfl rfl hk hend)))⟩
  |panic ch=>
   obtain ⟨hd,hR⟩:=hq2;obtain ⟨todo,hs⟩:=harr2
   exact ⟨.panicked ch,w3,hR,s1.trans (StepsIn.trans hs (one (step_leave_panicked ⟨rfl,hd,hfn⟩)))⟩
  |goto t=>exact hq2.elim
  |outgrown=>exact hq2.elim
 |exit id=>exact hq.elim
 |goto t=>exact hq.elim
 |ret=>exact hq.elim
 |panic chain=>exact hq.elim
 |outgrown=>exact hq.elim
theorem DZ {g:Operand} {ps:Array Tmp} {assign body:Code}
 (h:∀fn,(∃f,P.funcs[fn]? =some f)→∃(l:Nat) (mark:List Deferred) (w1:World) (d:Deferred) (f:FuncId) (args:Array Value),
   (Instr.enterLoop fn a.tmps ps assign body none).run P w= .ok (l,mark) w1∧(resolve a.eval (rangeCall g l) 0).run P w1= .ok d w1∧(invoke d.target d.args).run P w1= .ok (.enter f args) w1∧
   CallsIn (G none) 0 P f args w1 fun e w3=>match e with
    | .returned _=>∃jump w4,(Instr.endLoop l).run P w3= .ok jump w4∧(match jump with
      |none=>Q .normal {a with defers:=mark++a.defers} w4
      |some .ret=>Q .ret {a with defers:=mark++a.defers} w4
      |some (.exit id)=>Q (.exit id) {a with defers:=mark++a.defers} w4
      |_=>False)
    | .panicked ch=>Q (.panic ch) {a with defers:=mark++a.defers} w3
    | .outgrown=>False):w9 none P (.rangeFunc g ps assign body) Q a w:=by
 intro b k cs hro hf;obtain ⟨l,mark,w1,d,f,args,he,hres,hinv,_,hcall⟩:=h b.fn hf;rw[←hro] at he;have henter:=stepR_rangeFunc (P:=P) (b:=b) (a:=a) (k:=k) (cs:=cs) (w:=w) he hres hinv;obtain ⟨e,w3,fr,hR,hsteps,hfn,hleave⟩:=hcall (b.atR {a with defers:=mark++a.defers} (.inRangeFunc l::k)::cs) (rz _)
 cases e with
 |outgrown=>exact hR.elim
 |returned v=>
  obtain ⟨jump,w4,hend,hj⟩:=hR
  have sback:StepsIn (Machine.fenced P (G none)) P (lone (b.atR a (.code (.rangeFunc g ps assign body)::k)) cs w) (lone (b.atR {a with defers:=mark++a.defers} ((jump.map Item.code).toList++k)) cs w4):=by
   refine .head (fz _) henter (StepsIn.trans hsteps (.head (fz _) ?_ (one (stepR_endRangeFunc hend))));rw[←finish_atR_inRangeFunc l v];exact step_leave_returned hleave
  split at hj
  ·exact ⟨.normal,_,w4,hj,sback⟩
  ·obtain ⟨e',a'',w5,hq,harr⟩:=wpIn_ret (F:=G none) (n:=0) (P:=P) hj b k cs hro trivial (rz _)
   exact ⟨e',a'',w5,hq,.of_steps sback harr⟩
  ·obtain ⟨e',a'',w5,hq,harr⟩:=wpIn_exit (F:=G none) (n:=0) (P:=P) hj b k cs hro trivial (rz _)
   exact ⟨e',a'',w5,hq,.of_steps sback harr⟩
  ·exact hj.elim
 |panicked chain=>
  refine ⟨.panic chain,_,w3,hR,.inRangeFunc l::k,.head (fz _) henter (StepsIn.trans hsteps (one ?_))⟩;rw[←Frame.raise_atR];exact step_leave_panicked hleave
theorem DX {o:Oper} {l:Nat} {args:Array Value} {R:Ending→World→Prop} {next:Act→World→Prop}
 (hr:(execOp a.eval o).run P w=(Instr.yield l args).run P w) (h:YieldAt (G none) 0 P l args w R) (hn:∀v w',R (.returned v) w'→next (a.put o.dst v) w') (hp:∀ch w',R (.panicked ch) w'→Q (.panic ch) a w') (ho:∀w',¬R .outgrown w'):o.wpIn (G none) 0 P a w next Q:=by
 obtain ⟨fn,tmps,assign,body,h1,h2⟩:=h;refine ⟨fun _ _=>trivial,?_⟩;have e:=iw (ro:=none) (fun d h=>by cases h) (hr.trans h1);show o.uponIn (G none) 0 P a next Q ((o.semAt none a.eval).run P w)
 rw[e];refine ⟨fun h=>by simp[G,Fence.wide] at h,h2.mono fun e w'' hR=>?_⟩
 cases e with
 |returned v=>exact hn v w'' hR
 |panicked ch=>exact hp ch w'' hR
 |outgrown=>exact absurd hR (ho _)
end
end Go.Vc
end
section
namespace Go.Vc
section
variable {P:Program} {ro:Option Nat} {q:Md} {T:List (Nat×TI)} {N0 Nf:Nat→Prop} {w0 w w':World} {n:Nat} {σ σ':Env} {h h':Heap} {a:Act} {ν ν' ν0:Nat→Value}
theorem nz {c:Code} {Q:Exit→Act→World→Prop} (I:Nat→Act→World→Prop) (round:∀k a w,I k a w→c.wpIn (G ro) 0 P (Exit.then (fun a' w'=>∃k',k'<k∧I k' a' w') Q) a w) (k:Nat) (a:Act) (w:World) (h0:I k a w):
 (Code.loop c).wpIn (G ro) 0 P Q a w:=by
 intro b kk cs hro hb hr
 have key:∀k a w,I k a w→∃e a' w',Q e a' w'∧ArrivesIn (Machine.fenced P (G ro)) P (lone (b.atR a (.code c:: .inLoop c::kk)) cs w) b kk cs e a' w':=by
  intro k
  induction k using Nat.strongRecOn with
  |_ k ih=>
   intro a w hI;obtain ⟨e,a₁,w₁,hq,harr⟩:=round k a w hI b (.inLoop c::kk) cs hro hb hr
   cases e with
   |normal=>
    obtain ⟨k',hlt,hI₁⟩:=hq;obtain ⟨e₂,a₂,w₂,hq₂,harr₂⟩:=ih k' hlt a₁ w₁ hI₁
    exact ⟨e₂,a₂,w₂,hq₂,.of_steps (StepsIn.trans harr (.one (fenced_calm hb hr rfl) stepR_inLoop)) harr₂⟩
   |exit id=>exact ⟨_,a₁,w₁,hq,.pass (x:= .inLoop c) rfl (fun _ _=> .inl (by simp)) harr⟩
   |goto l=>exact ⟨_,a₁,w₁,hq,.pass (x:= .inLoop c) rfl (fun _ _=> .inl (by simp)) harr⟩
   |ret=>exact ⟨_,a₁,w₁,hq,.pass (x:= .inLoop c) rfl (fun _ _=> .inl (by simp)) harr⟩
   |panic ch=>exact ⟨_,a₁,w₁,hq,.pass (x:= .inLoop c) rfl (fun _ _=> .inl (by simp)) harr⟩
   |outgrown=>exact ⟨_,a₁,w₁,hq,.pass (x:= .inLoop c) rfl (fun _ _=> .inl (by simp)) harr⟩
 obtain ⟨e,a',w',hq,harr⟩:=key k a w h0;exact ⟨e,a',w',hq,.of_steps (.one (fenced_calm hb hr rfl) stepR_loop) harr⟩
theorem iR {c:Code} {Q:Exit→Act→World→Prop} (h:c.wpIn (G ro) 0 P (Exit.noGoto Q) a w):(Code.scope c).wpIn (G ro) 0 P Q a w:=by
 intro b k cs hro hb hr;have h0:(lone (b.atR a (.code (.scope c)::k)) cs w).fenced P (G ro):=fenced_calm hb hr rfl;obtain ⟨e,a₁,w₁,hq,harr⟩:=h b (.inScope c::k) cs hro hb hr
 cases e with
 |normal=>exact ⟨.normal,a₁,w₁,hq,.head h0 er (StepsIn.trans harr (.one (fenced_calm hb hr rfl) mq))⟩
 |exit id=>
  have hx:exitTo id (.inScope c::k)=exitTo id k:=by simp[exitTo]
  exact ⟨.exit id,a₁,w₁,hq,fun k' hk=> .head h0 er (harr.1 k' (by rw[hx];exact hk)),
   fun hr' hk=>let ⟨k₁,h1,h2⟩:=harr.2 hr' (by rw[hx];exact hk);⟨k₁,h1,.head h0 er h2⟩⟩
 |goto l=>exact hq.elim
 |ret=>exact ⟨_,a₁,w₁,hq,.of_steps (.one h0 er) harr⟩
 |panic ch=>exact ⟨_,a₁,w₁,hq,.of_steps (.one h0 er) harr⟩
 |outgrown=>exact ⟨_,a₁,w₁,hq,.of_steps (.one h0 er) harr⟩
theorem Ed (hT:bi P T=true) (hm:P.follows .mixedOrders=true):∀(c:Code) {w0:World} {Nf:Nat→Prop} {ν0:Nat→Value} {q:Md} {ro:Option Nat} {rd:Bool} (hrd:rd=false→q.nd=false∧ro=none) {σ:Env} {h:Heap} {a:Act} {w:World} {ν:Nat→Value} {Qa:Exit→Env→Heap→Prop} {Q:Exit→Act→World→Prop},
 y9 T (am P q.fx) n c rd σ h Qa→(∀e σ h a w ν,Qa e σ h→St q N0 w0 Nf n ν0 σ h a w ν→Q e a w)→St q N0 w0 Nf n ν0 σ h a w ν→c.wpIn (G ro) 0 P Q a w:=by
 intro c
 induction c with
 |skip=>intro w0 Nf ν0 q ro rd hrd σ h a w ν Qa Q hv hQ s;exact wpIn_skip (hQ _ _ _ _ _ _ hv s)
 |region id ops draw=>
  intro w0 Nf ν0 q ro rd hrd σ h a w ν Qa Q hv hQ s
  cases draw with
  |false=>
   exact wpIn_region_list (kS (ops:=ops) hT (fun σ h a w ν hk hs=>hQ _ _ _ _ _ _ hk hs) ops.toList s hv)
  |true=>
   exact fK hT hm (fun σ h a w ν hk hs=>hQ _ _ _ _ _ _ hk hs) s hv
 |seq x y ihx ihy=>
  intro w0 Nf ν0 q ro rd hrd σ h a w ν Qa Q hv hQ s;refine wpIn_seq (ihx hrd hv ?_ s);intro e σ' h' a' w' ν' hk hs
  cases e with
  |normal=>exact ihy hrd hk hQ hs
  |exit id=>exact hQ _ _ _ _ _ _ hk hs
  |goto l=>exact hQ _ _ _ _ _ _ hk hs
  |ret=>exact hQ _ _ _ _ _ _ hk hs
  |panic ch=>exact hQ _ _ _ _ _ _ hk hs
  |outgrown=>exact hQ _ _ _ _ _ _ hk hs
 |cond c x y ihx ihy=>
  intro w0 Nf ν0 q ro rd hrd σ h a w ν Qa Q hv hQ s
  replace hv:jW c (y9 T (am P q.fx) n x rd) (y9 T (am P q.fx) n y rd) σ h Qa:=hv
  unfold jW at hv;split at hv
  ·rename_i b e
   have hc:=aD s c;rw[e] at hc;refine wpIn_cond (bU hc) ?_
   cases b with
   |true=>exact ihx hrd (hv.1 rfl) hQ s
   |false=>exact ihy hrd (hv.2 rfl) hQ s
  ·rename_i b e
   have hc:=aD s c;rw[e] at hc;refine wpIn_cond (eu hc) ?_
   cases b with
   |true=>exact ihx hrd hv hQ s
   |false=>exact ihy hrd hv hQ s
  ·exact hv.elim
 |block id c ih=>
  intro w0 Nf ν0 q ro rd hrd σ h a w ν Qa Q hv hQ s;refine wpIn_block (ih hrd hv ?_ s);intro e σ' h' a' w' ν' hk hs
  cases e with
  |exit id'=>
   simp only[Exit.inBlock];by_cases e:id'=id
   ·subst e
    rw[if_pos rfl];simp only[kw,ga,cond_true] at hk;exact hQ _ _ _ _ _ _ hk hs
   ·rw[if_neg e]
    simp only[kw,eQ e,cond_false] at hk
    exact hQ _ _ _ _ _ _ hk hs
  |normal=>exact hQ _ _ _ _ _ _ hk hs
  |goto l=>exact hQ _ _ _ _ _ _ hk hs
  |ret=>exact hQ _ _ _ _ _ _ hk hs
  |panic ch=>exact hQ _ _ _ _ _ _ hk hs
  |outgrown=>exact hQ _ _ _ _ _ _ hk hs
 |loop c ih=>
  intro w0 Nf ν0 q ro rd hrd σ h a w ν Qa Q hv hQ s;obtain ⟨I,⟨k,l,h1,hI,hw⟩,hr⟩:=hv;obtain ⟨ν1,s1,_⟩:=s.weak hw;refine nz (fun k a w=>∃l h1 ν1,I k l h1∧St q N0 w0 Nf n ν0 (Env.of l) h1 a w ν1) ?_ k a w ⟨l,h1,ν1,hI,s1⟩;intro k a w ⟨l,h1,ν1,hI,s1⟩;refine ih hrd (hr k l h1 hI) ?_ s1;intro e σ' h' a' w' ν' hk hs
  cases e with
  |normal=>
   obtain ⟨k',l',h'',hI',hlt,hw'⟩:=hk;obtain ⟨ν'',s'',_⟩:=hs.weak hw'
   exact ⟨k',hlt,l',h'',ν'',hI',s''⟩
  |exit id=>exact hQ _ _ _ _ _ _ hk hs
  |goto l=>exact hQ _ _ _ _ _ _ hk hs
  |ret=>exact hQ _ _ _ _ _ _ hk hs
  |panic ch=>exact hQ _ _ _ _ _ _ hk hs
  |outgrown=>exact hQ _ _ _ _ _ _ hk hs
 |exit id=>intro w0 Nf ν0 q ro rd hrd σ h a w ν Qa Q hv hQ s;exact wpIn_exit (hQ _ _ _ _ _ _ hv s)
 |ret=>intro w0 Nf ν0 q ro rd hrd σ h a w ν Qa Q hv hQ s;exact wpIn_ret (hQ _ _ _ _ _ _ hv s)
 |rangeFunc g ps x y ihx ihy=>
  intro w0 Nf ν0 q ro rd hrd σ h a w ν Qa Q hv hQ s
  cases rd with
  |true=>exact hv.elim
  |false=>
   obtain ⟨hq,rfl⟩:=hrd rfl;obtain ⟨nd,fx,tl⟩:=q;simp only at hq;subst hq
   have hfx:fx=false:=by
    have hv':nD (am P fx) n g ps (y9 T (am P fx) n x true) (y9 T (am P fx) n y true) σ h Qa:=hv;unfold nD at hv';split at hv'
    ·have:=hv'.1
     cases fx
     ·rfl
     ·simp[am] at this
    ·exact hv'.elim
   subst hfx
   exact zT hv hQ s (fun hv hQ s=>ihx (fun e=>by cases e) hv hQ s) (fun hv hQ s=>ihy (fun e=>by cases e) hv hQ s)
 |scope c ih=>
  intro w0 Nf ν0 q ro rd hrd σ h a w ν Qa Q hv hQ s;refine iR (ih hrd hv ?_ s);intro e σ' h' a' w' ν' hk hs
  cases e with
  |goto l=>exact hk.elim
  |normal=>exact hQ _ _ _ _ _ _ hk hs
  |exit id=>exact hQ _ _ _ _ _ _ hk hs
  |ret=>exact hQ _ _ _ _ _ _ hk hs
  |panic ch=>exact hQ _ _ _ _ _ _ hk hs
  |outgrown=>exact hQ _ _ _ _ _ _ hk hs
 |label l=>intro w0 Nf ν0 q ro rd hrd σ h a w ν Qa Q hv hQ s;exact wpIn_label (hQ _ _ _ _ _ _ hv s)
 |goto l=>intro w0 Nf ν0 q ro rd hrd σ h a w ν Qa Q hv;exact hv.elim
 |refuse why=>intro w0 Nf ν0 q ro rd hrd σ h a w ν Qa Q hv;exact hv.elim
theorem vU (hT:bi P T=true) (hm:P.follows .mixedOrders=true) (c:Code) {fx:Bool} {σ:Env} {h:Heap} {a:Act} {w:World} {ν:Nat→Value} {Qa:Exit→Env→Heap→Prop} {Q:Exit→Act→World→Prop}
 (hv:vc T (am P fx) n c σ h Qa) (hQ:∀e σ h a w ν,Qa e σ h→St ⟨false,fx,[]⟩ N0 w0 Nf n ν0 σ h a w ν→Q e a w) (s:St ⟨false,fx,[]⟩ N0 w0 Nf n ν0 σ h a w ν):c.wpIn (G none) 0 P Q a w:=
 Ed (q:=⟨false,fx,[]⟩) hT hm c (fun _=>⟨rfl,rfl⟩) hv hQ s
theorem FC (hT:bi P T=true) (hm:P.follows .mixedOrders=true) (c:Code) {σ:Env} {h:Heap} {a:Act} {w:World} {ν:Nat→Value} {Qa:Exit→Env→Heap→Prop} {Q:Exit→Act→World→Prop}
 (hv:vc T (dF P) n c σ h Qa) (hQ:∀e σ h a w ν,Qa e σ h→St ⟨false,false,[]⟩ N0 w0 Nf n ν0 σ h a w ν→Q e a w) (s:St ⟨false,false,[]⟩ N0 w0 Nf n ν0 σ h a w ν):c.wpIn (G none) 0 P Q a w:=
 vU hT hm c hv hQ s
end
def JV (P:Program) (fx:Bool) (n:Nat) (c:Code) (σ:Env) (h:Heap) (Qa:Exit→Env→Heap→Prop):Prop:=
 ∀(N0 Nf:Nat→Prop) (w0 w:World) (ν0 ν:Nat→Value) (a:Act) (Q:Exit→Act→World→Prop),(∀e σ h a w ν,Qa e σ h→St ⟨false,fx,[]⟩ N0 w0 Nf n ν0 σ h a w ν→Q e a w)→St ⟨false,fx,[]⟩ N0 w0 Nf n ν0 σ h a w ν→w9 none P c Q a w
theorem FA {P:Program} {fx:Bool} {T:List (Nat×TI)} {n:Nat} (hT:bi P T=true) (hm:P.follows .mixedOrders=true) {c:Code} {σ:Env} {h:Heap} {Qa:Exit→Env→Heap→Prop} (hv:vc T (am P fx) n c σ h Qa):JV P fx n c σ h Qa:=
 fun N0 Nf w0 w ν0 ν a Q hQ s=>pz (vU hT hm c hv hQ s)
mutual
def D.ok:D→Prop
 | .int _ _=>True
 | .bool _=>True
 | .str s=>s.length≤big
 | .list rows=>rows.length≤big∧kf rows
 | .fn _=>True
 | .raw _=>True
termination_by structural x=>x
def kf:List (List D)→Prop
 |[]=>True
 |r::rs=>bP r∧kf rs
termination_by structural x=>x
def bP:List D→Prop
 |[]=>True
 |d::ds=>d.ok∧bP ds
termination_by structural x=>x
end
mutual
def AV.ok:AV→Prop
 | .d x=>x.ok
 | .agg cs=>dQ cs
 | .tup cs=>dQ cs
 | .at_ ds=>bP ds
 | .iface _ x=>x.ok
 | .fn _ cs=>dQ cs
 | .bfn _ cs=>dQ cs
 | .any=>True| .nils=>True| .val _=>True| .ptr _ _=>True| .rptr _ _ _ _=>True| .own _=>True| .mapr _=>True| .nest _ _ _ _ _=>True
termination_by structural x=>x
def dQ:List AV→Prop
 |[]=>True
 |c::cs=>c.ok∧dQ cs
termination_by structural x=>x
end
theorem okRows_iff {rows:List (List D)}:kf rows↔∀r∈rows,bP r:=by
 induction rows with
 |nil=>simp[kf]
 |cons r rs ih=>simp[kf,ih]
theorem yf {xs ys:List D}:bP (xs++ys)↔bP xs∧bP ys:=by
 induction xs with
 |nil=>simp[bP]
 |cons x xs ih=>simp[bP,ih,and_assoc]
theorem jj {rows:List (List D)} (h:bP rows.flatten):kf rows:=by
 induction rows with
 |nil=>simp[kf]
 |cons r rs ih=>simp only[List.flatten_cons,yf] at h;exact ⟨h.1,ih h.2⟩
theorem Rd.ok {w:World} {N:Nat→Prop} {ds:List D} {cs:List Value} (h:Rd w N ds cs):bP ds:=by
 induction h with
 |nil=>simp[bP]
 |int k n _ ih=>exact ⟨by simp[D.ok],ih⟩
 |bool b _ ih=>exact ⟨by simp[D.ok],ih⟩
 |str s hs _ ih=>exact ⟨by simpa [D.ok] using hs,ih⟩
 |fn f _ ih=>exact ⟨by simp[D.ok],ih⟩
 |raw v _ _ ih=>exact ⟨by simp[D.ok],ih⟩
 |list rows A cap sz cells _ _ _ _ h5 _ ih1 ih2=>exact ⟨by simp only[D.ok];exact ⟨h5,jj ih1⟩,ih2⟩
theorem Rv.ok {w:World} {N:Nat→Prop} {ν:Nat→Value} {as:List AV} {vs:List Value} (h:Rv w N ν as vs):dQ as:=by
 induction h with
 |nil=>simp[dQ]
 |d h _ ih=>exact ⟨by simp only[AV.ok];exact h.ok.1,ih⟩
 |agg xs _ _ ih1 ih2=>exact ⟨by simp only[AV.ok];exact ih1,ih2⟩
 |tup xs _ _ ih1 ih2=>exact ⟨by simp only[AV.ok];exact ih1,ih2⟩
 |fn f xs _ _ ih1 ih2=>exact ⟨by simp only[AV.ok];exact ih1,ih2⟩
 |bfn f xs _ _ ih1 ih2=>exact ⟨by simp only[AV.ok];exact ih1,ih2⟩
 |at_ A cells _ h1 _ _ ih=>exact ⟨by simp only[AV.ok];exact h1.ok,ih⟩
 |iface t _ _ ih1 ih2=>simp only[dQ] at ih1;exact ⟨by simp only[AV.ok];exact ih1.1,ih2⟩
 |_=>rename_i ih;exact ⟨by simp only[AV.ok],ih⟩
def C8 (T:List (Nat×TI)) (σ:Env) (h:Heap):ResultVar→Option AV
 | .tmp k=>some (σ k)
 | .cell k t=>match look T t,σ k with
   |some ti,.ptr id off=>match look h.objs id with
    |some (.cells _ cs)=>kF ti (cs.drop off)
    |_=>none
   |_,_=>none
def j6 (T:List (Nat×TI)) (σ:Env) (h:Heap):List ResultVar→Option (List AV)
 |[]=>some []
 |r::rs=>match C8 T σ h r,j6 T σ h rs with
  |some a,some as=>some (a::as)
  |_,_=>none
def EE (T:List (Nat×TI)) (rs:List ResultVar) (r:AV) (σ:Env) (h:Heap):Prop:=match j6 T σ h rs with
 |some [a]=>ca h.objs a=r
 |some as=> .tup (aN h.objs as)=r
 |none=>False
def Ln (T:List (Nat×TI)) (rs:List ResultVar) (r:AV):Exit→Env→Heap→Prop
 | .normal,σ,h=>EE T rs r σ h
 | .ret,σ,h=>EE T rs r σ h
 |_,_,_=>False
def ou (tmps:Array Value):ResultVar→Sem Value
 | .tmp t=>pure (tmps.getD t undef)
 | .cell a t=>do loadVar t (←asAddr (tmps.getD a undef))
def B7 (vs:List Value):Value:=match vs with|[v]=>v|vs=> .tuple vs.toArray
theorem cO {P:Program} {fn:Func} {rs:List ResultVar} (h:fn.results.toList=rs) (tmps:Array Value) (w:World) {vs:List Value} (hv:(rs.mapM (ou tmps)).run P w= .ok vs w):(results fn tmps).run P w= .ok (B7 vs) w:=by
 have e:results fn tmps=(do let vs←fn.results.mapM (ou tmps);pure (if h:vs.size=1 then vs[0] else .tuple vs)):=rfl;rw[e,Array.mapM_eq_mapM_toList,h];simp only[Sem.run_bind,Sem.run_map,hv,Qaz,Sem.run_pure]
 cases vs with
 |nil=>rfl
 |cons k ks=>cases ks with
  |nil=>rfl
  |cons k' ks=>simp[B7]
section
variable {P:Program} {ro:Option Nat} {q:Md} {T:List (Nat×TI)} {N0 Nf:Nat→Prop} {w0 w:World} {n:Nat} {σ:Env} {h:Heap} {a:Act} {ν ν0:Nat→Value}
theorem FY (hT:bi P T=true) (s:St q N0 w0 Nf n ν0 σ h a w ν) {rv:ResultVar} {r:AV} (hr:C8 T σ h rv=some r):∃v,(ou a.tmps rv).run P w= .ok v w∧Rv w (nN N0 ν) ν [r] [v]:=by
 cases rv with
 |tmp k=>
  simp only[C8,Qac] at hr;subst hr
  exact ⟨_,rfl,s.slots k⟩
 |cell k t=>
  simp only[C8] at hr;split at hr
  ·rename_i ti id off ht hk
   have kk:=ah hT ht;split at hr
   ·rename_i t' cs hl
    have hx:=s.slots k;rw[hk] at hx;obtain ⟨b,he,hν⟩:=pO hx;obtain ⟨b',arr,e',h1,h2,h3⟩:=s.hp.objs _ _ hl;rw[hν] at h1;obtain rfl:b=b':=by injection h1 with h1;injection h1 with h1;injection h1
    obtain ⟨g1,g2⟩:=jI kk.one (h3.drop off) hr;refine ⟨_,?_,g2⟩;simp only[ou,he,asAddr,Sem.run_bind,Sem.run_pure,Qaz];refine j7 kk b off _ g1 (fun j u hu=>?_);rw[List.getElem?_take] at hu;split at hu
    ·rw[QaT] at hu
     simpa [World.cell?,h2] using hu
    ·cases hu
   ·cases hr
  ·cases hr
theorem dB (hT:bi P T=true) (s:St q N0 w0 Nf n ν0 σ h a w ν):∀{rs:List ResultVar} {as:List AV},j6 T σ h rs=some as→∃vs,(rs.mapM (ou a.tmps)).run P w= .ok vs w∧Rv w (nN N0 ν) ν as vs
 |[],as,hr=>by
  simp only[j6,Qac] at hr;subst hr
  exact ⟨[],rfl,.nil⟩
 |rv::rs,as,hr=>by
  simp only[j6] at hr;split at hr
  ·rename_i x xs h1 h2
   simp only[Qac] at hr;subst hr;obtain ⟨v,g1,g2⟩:=FY hT s h1;obtain ⟨vs,g3,g4⟩:=dB hT s h2;refine ⟨v::vs,?_,g2.cons g4⟩;simp only[List.mapM_cons,Sem.run_bind,g1,Qaz,g3,Sem.run_pure]
  ·cases hr
end
abbrev Spec (P:Program) (f:FuncId) (args:List AV) (r:AV):Prop:=(dF P).pure f args r
theorem Spec.of_wk {P:Program} {T:List (Nat×TI)} (hT:bi P T=true) (hm:P.follows .mixedOrders=true) {f:FuncId} {fn:Func} {c:Code} {args:List AV} {r:AV} (rs:List ResultVar)
 (hf:P.funcs[f]? =some fn) (hn:(fn.name== "runtime.NumGoroutine")=false) (hb:fn.body=some c) (hres:fn.results.toList=rs) (hlen:Qak args.length fn.ntmps=true)
 (hv:dQ args→JV P false fn.ntmps c (Env.args args) hp0 (Ln T rs r)):Spec P f args r:=by
 refine ⟨⟨fn,hf,hn,by rw[hb];rfl⟩,fun N w vs hN hlw hargs=>callsIn_wide.1 (kv hf hb ?_)⟩;have hl:=hargs.length;have hle:=Qab hlen
 have s:St ⟨false,false,[]⟩ N w (fun _=>False) fn.ntmps (fun _=>undef) (Env.args args) hp0 {tmps:=vs.toArray++Array.replicate (fn.ntmps - vs.toArray.size) undef,defers:=[]} w (fun _=>undef):=by
  have hNe:nN N (fun _=>undef)=N:=by
   funext b
   simp[nN,bG,undef]
  refine ⟨fun k=>?_,⟨?_,?_,?_,fun _ _=>rfl,hN,?_,hlw⟩,Kp.refl _ _,?_,by simp;omega,Dfr.nil _ _ _ _,⟨fun _ _ _=>rfl,fun _ _ _=>rfl⟩,Qad _,fun _ _=>rfl⟩
  ·rw[hNe]
   simp only[Env.args]
   cases hq:args[k]? with
   |none=>exact .any _ .nil
   |some v=>
    obtain ⟨u,h1,h2⟩:=hargs.get hq
    have:(vs.toArray++Array.replicate (fn.ntmps - vs.toArray.size) undef).getD k undef=u:=by
      have hk:k<vs.length:=(List.getElem?_eq_some_iff.1 h1).1;rw[Qae,Qai (by simpa using hk)];simp[h1]
    rw[this];exact h2
  ·intro id o ho;simp[look,hp0] at ho
  all_goals (intro i;simp[bG,undef])
 refine hv hargs.ok _ _ _ _ _ _ _ _ ?_ s;intro e σ h a w' ν hk s'
 have fin:EE T rs r σ h→∀w',St ⟨false,false,[]⟩ N w (fun _=>False) fn.ntmps (fun _=>undef) σ h {a with defers:=[]} w' ν→∃v,(results fn a.tmps).run P w'= .ok v w'∧∃v',Ending.returned v=Ending.returned v'∧Kp (fun _=>False) w w'∧Rv w' N (fun _=>undef) [r] [v']:=by
  intro hk w' s';have hview:∀{as:List AV} {us:List Value},Rv w' (nN N ν) ν as us→Rv w' N (fun _=>undef) (aN h.objs as) us:=fun hr=>oV s'.hp hr;unfold EE at hk;split at hk
  ·rename_i x e
   obtain ⟨vs,g1,g2⟩:=dB hT s' e;refine ⟨_,cO hres a.tmps w' g1,_,rfl,s'.kp,?_⟩;obtain ⟨v,us,rfl,g3,g4⟩:=g2.cons_inv;cases g4;rw[←hk];have:=hview g3;simp only[aN] at this;exact this
  ·rename_i as hne e
   obtain ⟨vs,g1,g2⟩:=dB hT s' e;refine ⟨_,cO hres a.tmps w' g1,_,rfl,s'.kp,?_⟩;rw[←hk];have hlen:=g2.length
   have:B7 vs= .tuple vs.toArray:=by
    cases vs with
    |nil=>rfl
    |cons v vs=>cases vs with
     |nil=>cases as with
      |nil=>simp at hlen
      |cons x xs=>cases xs with
       |nil=>exact absurd rfl (hne _)
       |cons y ys=>simp at hlen
     |cons u vs=>rfl
   rw[this];exact .tup _ (hview g2) .nil
  ·exact hk.elim
 cases e with
 |normal=>
  obtain ⟨_,Ds,hd,_⟩:=s'.defers;show LeavesInM (G none) 0 P fn a.tmps _ a.defers .returning w';rw[hd]
  exact cP rfl Ds s' hd (fin hk)
 |ret=>
  obtain ⟨_,Ds,hd,_⟩:=s'.defers;show LeavesInM (G none) 0 P fn a.tmps _ a.defers .returning w';rw[hd]
  exact cP rfl Ds s' hd (fin hk)
 |exit id=>exact hk.elim
 |goto l=>exact hk.elim
 |panic ch=>exact hk.elim
 |outgrown=>exact hk.elim
theorem Spec.of_vc {P:Program} {T:List (Nat×TI)} (hT:bi P T=true) (hm:P.follows .mixedOrders=true) {f:FuncId} {fn:Func} {c:Code} {args:List AV} {r:AV} (rs:List ResultVar)
 (hf:P.funcs[f]? =some fn) (hn:(fn.name== "runtime.NumGoroutine")=false) (hb:fn.body=some c) (hres:fn.results.toList=rs) (hlen:Qak args.length fn.ntmps=true)
 (hv:dQ args→vc T (dF P) fn.ntmps c (Env.args args) hp0 (Ln T rs r)):Spec P f args r:=Spec.of_wk hT hm rs hf hn hb hres hlen fun h=>FA hT hm (hv h)
def qB:AV→AV
 | .val (.bool b)=> .d (.bool b)
 | .nils=> .d (.list [])
 |a=>a
theorem oL {w:World} {ν:Nat→Value} {N:Nat→Prop} {a:AV} {v:Value} (h:Rv w N ν [a] [v]):Rv w N ν [qB a] [v]:=by
 unfold qB;split
 ·cases h;exact .d (.bool _ .nil) .nil
 ·cases h;exact .d (.list [] none 0 0 [] .nil (by simp) (.inl rfl) (Qad _) (Qas _) .nil) .nil
 ·exact h
theorem wh {w:World} {ν:Nat→Value} {N:Nat→Prop}:∀{as:List AV} {vs:List Value},Rv w N ν as vs→Rv w N ν (as.map qB) vs
 |[],_,h=>by cases h;exact .nil
 |a::as,vs,h=>by
  obtain ⟨v,r,rfl,h1,h2⟩:=h.cons_inv;exact (oL h1).cons (wh h2)
def J8 (T:List (Nat×TI)) (rs:List ResultVar) (r:AV) (h1:Heap) (σ:Env) (h:Heap):Prop:=(match j6 T σ h rs with
 |some [a]=>qB a=r
 |some as=> .tup (as.map qB)=r
 |none=>False)∧AV.lt h1.nx r=true∧fZ σ h [] h1
def EF (pb:Bool) (T:List (Nat×TI)) (rs:List ResultVar) (r:AV) (h1:Heap) (σ:Env) (h:Heap):Prop:=match j6 T σ h rs with
 |some as=>match pubs (bif pb then aF as else []) h.objs with
  |(l,m)=>J8 T rs r h1 (Env.subs m σ) ⟨l,h.nx,h.lo⟩
 |none=>False
def KH (T:List (Nat×TI)) (rs:List ResultVar) (r:AV) (h1:Heap):Exit→Env→Heap→Prop
 | .normal,σ,h=>EF true T rs r h1 σ h
 | .ret,σ,h=>EF true T rs r h1 σ h
 |_,_,_=>False
def KG (T:List (Nat×TI)) (rs:List ResultVar) (r:AV) (h1:Heap):Exit→Env→Heap→Prop
 | .normal,σ,h=>EF false T rs r h1 σ h
 | .ret,σ,h=>EF false T rs r h1 σ h
 |_,_,_=>False
abbrev HSpec (P:Program) (f:FuncId) (args:List AV) (h:Heap) (r:AV) (h':Heap):Prop:=(dF P).heap f args h r h'
theorem px {P:Program} (pb:Bool) {T:List (Nat×TI)} (hT:bi P T=true) (hm:P.follows .mixedOrders=true) {f:FuncId} {fn:Func} {c:Code} {args:List AV} {h h1:Heap} {r:AV} (rs:List ResultVar)
 (hf:P.funcs[f]? =some fn) (hn:(fn.name== "runtime.NumGoroutine")=false) (hb:fn.body=some c) (hres:fn.results.toList=rs) (hlen:Qak args.length fn.ntmps=true)
 (hlo:h.lo=h1.lo) (hv:dQ args→vc T (dF P) fn.ntmps c (Env.args args) ⟨h.objs,h.nx,h.nx⟩ (match pb with|true=>KH T rs r ⟨h1.objs,h1.nx,h.nx⟩|false=>KG T rs r ⟨h1.objs,h1.nx,h.nx⟩)):HSpec P f args h r h1:=by
 refine ⟨⟨fn,hf,hn,by rw[hb];rfl⟩,fun N0 w ν0 vs hhp hargs=>callsIn_wide.1 (callsIn_of_wp_marks (F:=G none) (n:=0) hf hb trivial ?_)⟩;have hl:=hargs.length;have hle:=Qab hlen
 have s:St ⟨false,false,[]⟩ N0 w (fun b=>∃id,Ow (ν0 id) b) fn.ntmps ν0 (Env.args args) ⟨h.objs,h.nx,h.nx⟩ {tmps:=vs.toArray++Array.replicate (fn.ntmps - vs.toArray.size) undef,defers:=[]} w ν0:=by
  refine ⟨fun k=>?_,⟨hhp.objs,hhp.inj,hhp.bnd,hhp.dom,hhp.n0,hhp.dis,hhp.lw⟩,Kp.refl _ _,fun i b g=> .inr ⟨i,g⟩,by simp;omega,Dfr.nil _ _ _ _,⟨fun _ _ _=>rfl,fun _ _ _=>rfl⟩,Qad _,hhp.dom⟩;simp only[Env.args]
  cases hq:args[k]? with
  |none=>exact .any _ .nil
  |some v=>
   obtain ⟨u,h1,h2⟩:=hargs.get hq
   have:(vs.toArray++Array.replicate (fn.ntmps - vs.toArray.size) undef).getD k undef=u:=by
    have hk:k<vs.length:=(List.getElem?_eq_some_iff.1 h1).1;rw[Qae,Qai (by simpa using hk)];simp[h1]
   rw[this];exact h2
 refine FC hT hm c (hv hargs.ok) ?_ s;intro e σ hh a w' ν hk s'
 have fin:EF pb T rs r ⟨h1.objs,h1.nx,h.nx⟩ σ hh→∀w',St ⟨false,false,[]⟩ N0 w (fun b=>∃id,Ow (ν0 id) b) fn.ntmps ν0 σ hh {a with defers:=[]} w' ν→∃v,(results fn a.tmps).run P w'= .ok v w'∧∃v' ν',Ending.returned v=Ending.returned v'∧Hp N0 w' ν' h1∧Rv w' (nN N0 ν') ν' [r] [v']∧
  Kp (fun b=>∃id,Ow (ν0 id) b) w w'∧(∀id,ν0 id≠undef→(∀A m c,ac (ν0 id)≠ .slice A m c)→ν' id=ν0 id)∧(∀id b,Ow (ν' id) b→(∃j,Ow (ν0 j) b)∨w.heap.size≤b)∧h1.lo=h.lo∧h.nx≤h1.nx:=by
  intro hq w' s';unfold EF at hq;split at hq
  case h_2=>exact hq.elim
  rename_i as0 e0;generalize ep:pubs (bif pb then aF as0 else []) hh.objs=q at hq;obtain ⟨l,m⟩:=q;obtain ⟨ν,s',_,_⟩:=St.pubs (bif pb then aF as0 else []) (l:=hh.objs) (x:=hh.nx) (y:=hh.lo) s' ep;obtain ⟨hk,hrlt,hw⟩:=hq
  have hout:∃v,(results fn a.tmps).run P w'= .ok v w'∧Rv w' (nN N0 ν) ν [r] [v]:=by
   split at hk
   ·rename_i x e
    obtain ⟨vs,g1,g2⟩:=dB hT s' e;refine ⟨_,cO hres a.tmps w' g1,?_⟩;obtain ⟨v,us,rfl,g3,g4⟩:=g2.cons_inv;cases g4;rw[←hk];exact oL g3
   ·rename_i as hne e
    obtain ⟨vs,g1,g2⟩:=dB hT s' e;refine ⟨_,cO hres a.tmps w' g1,?_⟩;rw[←hk];have hlen:=g2.length
    have:B7 vs= .tuple vs.toArray:=by
     cases vs with
     |nil=>rfl
     |cons v vs=>cases vs with
      |nil=>cases as with
       |nil=>simp at hlen
       |cons x xs=>cases xs with
        |nil=>exact absurd rfl (hne _)
        |cons y ys=>simp at hlen
      |cons u vs=>rfl
    rw[this];exact .tup _ (wh g2) .nil
   ·exact hk.elim
  obtain ⟨vr,hrun,hout⟩:=hout;have hb:=hw.1;simp only[Qaa] at hb;obtain ⟨ν'',s'',hν,m,_⟩:=s'.weak hw
  replace hν:∀id,id<h1.nx→ν id≠undef→ν'' id=ν id:=fun id g1 g2=>hν id g1 (by
   rcases Qag id hh.nx with g|g
   ·exact g
   ·exact absurd (s'.hp.dom id g) g2)
  refine ⟨_,hrun,_,ν'',rfl,⟨s''.hp.objs,s''.hp.inj,s''.hp.bnd,s''.hp.dom,s''.hp.n0,s''.hp.dis,s''.hp.lw⟩,hout.lt m hν (by simp only[ba,hrlt,QaH]),s''.kp,s''.keep.1,fun i b g=>(s''.fresh i b g).symm,hlo.symm,Qab hb.2⟩
 cases e with
 |normal=>
  obtain ⟨_,Ds,hd,_⟩:=s'.defers;show LeavesInM (G none) 0 P fn a.tmps _ a.defers .returning w';rw[hd]
  exact cP rfl Ds s' hd (fin (by cases pb<;>exact hk))
 |ret=>
  obtain ⟨_,Ds,hd,_⟩:=s'.defers;show LeavesInM (G none) 0 P fn a.tmps _ a.defers .returning w';rw[hd]
  exact cP rfl Ds s' hd (fin (by cases pb<;>exact hk))
 |exit id=>cases pb<;>exact hk.elim
 |goto l=>cases pb<;>exact hk.elim
 |panic ch=>cases pb<;>exact hk.elim
 |outgrown=>cases pb<;>exact hk.elim
theorem HSpec.of_vc {P:Program} {T:List (Nat×TI)} (hT:bi P T=true) (hm:P.follows .mixedOrders=true) {f:FuncId} {fn:Func} {c:Code} {args:List AV} {h h1:Heap} {r:AV} (rs:List ResultVar)
 (hf:P.funcs[f]? =some fn) (hn:(fn.name== "runtime.NumGoroutine")=false) (hb:fn.body=some c) (hres:fn.results.toList=rs) (hlen:Qak args.length fn.ntmps=true)
 (hlo:h.lo=h1.lo) (hv:dQ args→vc T (dF P) fn.ntmps c (Env.args args) ⟨h.objs,h.nx,h.nx⟩ (KH T rs r ⟨h1.objs,h1.nx,h.nx⟩)):HSpec P f args h r h1:=
 px true hT hm rs hf hn hb hres hlen hlo hv
theorem kC {P:Program} {T:List (Nat×TI)} (hT:bi P T=true) (hm:P.follows .mixedOrders=true) {f:FuncId} {fn:Func} {c:Code} {args:List AV} {h h1:Heap} {r:AV} (rs:List ResultVar)
 (hf:P.funcs[f]? =some fn) (hn:(fn.name== "runtime.NumGoroutine")=false) (hb:fn.body=some c) (hres:fn.results.toList=rs) (hlen:Qak args.length fn.ntmps=true)
 (hlo:h.lo=h1.lo) (hv:dQ args→vc T (dF P) fn.ntmps c (Env.args args) ⟨h.objs,h.nx,h.nx⟩ (KG T rs r ⟨h1.objs,h1.nx,h.nx⟩)):HSpec P f args h r h1:=
 px false hT hm rs hf hn hb hres hlen hlo hv
def HY (nx:Nat) (c r:AV):Prop:=match r with
 | .own id=>match c with
   | .nils=>Qak nx id=true
   |c=>c= .own id
 |r=>qB c=r
def Gm (nx:Nat):List AV→List AV→Prop
 |[],[]=>True
 |c::cs,r::rs=>HY nx c r∧Gm nx cs rs
 |_,_=>False
def HV (nx:Nat) (a r:AV):Prop:=match r with
 | .agg rs=>match a with
   | .agg cs=>Gm nx cs rs
   |_=>False
 |r=>HY nx a r
def Gg (nx:Nat):List AV→List AV→Prop
 |[],[]=>True
 |c::cs,r::rs=>HV nx c r∧Gg nx cs rs
 |_,_=>False
def I8 (T:List (Nat×TI)) (rs:List ResultVar) (r:AV) (h1:Heap) (σ:Env) (h:Heap):Prop:=(match j6 T σ h rs with
 |some [a]=>HV h.nx a r
 |some as=>match r with
  | .tup us=>Gg h.nx as us
  |_=>False
 |none=>False)∧AV.lt h1.nx r=true∧fZ σ h [] h1
def JF (T:List (Nat×TI)) (rs:List ResultVar) (r:AV) (h1:Heap):Exit→Env→Heap→Prop
 | .normal,σ,h=>I8 T rs r h1 σ h
 | .ret,σ,h=>I8 T rs r h1 σ h
 |_,_,_=>False
section
variable {w:World} {N N':Nat→Prop} {ν ν':Nat→Value} {nx nn:Nat}
theorem Dm (m:Mv w N w N') (hν:∀id,id<nn→ν id≠undef→ν' id=ν id) (hnil:∀id,nx≤id→id<nn→ac (ν' id)= .slice none 0 0) {c r:AV} {v:Value} (ho:HY nx c r) (hl:AV.lt nn r=true) (hr:Rv w N ν [c] [v]):Rv w N' ν' [r] [v]:=by
 have plain:qB c=r→Rv w N' ν' [r] [v]:=fun e=>by
  have:=oL hr;rw[e] at this;exact this.lt m hν (by simp only[ba,hl,QaH])
 unfold HY at ho;split at ho
 ·rename_i id
  split at ho
  ·rw[fO hr]
   exact .own (hnil id (Qab ho) (by simp only[AV.lt] at hl;exact Qab hl)) .nil
  ·subst ho
   exact plain rfl
 ·exact plain ho
theorem Ab (m:Mv w N w N') (hν:∀id,id<nn→ν id≠undef→ν' id=ν id) (hnil:∀id,nx≤id→id<nn→ac (ν' id)= .slice none 0 0):∀{cs rs:List AV} {vs:List Value},Gm nx cs rs→ba nn rs=true→Rv w N ν cs vs→Rv w N' ν' rs vs
 |[],[],vs,_,_,hr=>by cases hr;exact .nil
 |[],_::_,_,h,_,_=>h.elim
 |_::_,[],_,h,_,_=>h.elim
 |c::cs,r::rs,vs,ho,hl,hr=>by
  obtain ⟨v,us,rfl,h1,h2⟩:=hr.cons_inv;simp only[ba,Qaa] at hl;exact (Dm m hν hnil ho.1 hl.1 h1).cons (Ab m hν hnil ho.2 hl.2 h2)
theorem Dj (m:Mv w N w N') (hν:∀id,id<nn→ν id≠undef→ν' id=ν id) (hnil:∀id,nx≤id→id<nn→ac (ν' id)= .slice none 0 0) {c r:AV} {v:Value} (ho:HV nx c r) (hl:AV.lt nn r=true) (hr:Rv w N ν [c] [v]):Rv w N' ν' [r] [v]:=by
 unfold HV at ho;split at ho
 ·rename_i rs
  split at ho
  ·rename_i cs
   obtain ⟨xs,rfl,h1⟩:=je hr;exact .agg xs (Ab m hν hnil ho (by simpa only[AV.lt] using hl) h1) .nil
  ·exact ho.elim
 ·exact Dm m hν hnil ho hl hr
theorem zX (m:Mv w N w N') (hν:∀id,id<nn→ν id≠undef→ν' id=ν id) (hnil:∀id,nx≤id→id<nn→ac (ν' id)= .slice none 0 0):∀{cs rs:List AV} {vs:List Value},Gg nx cs rs→ba nn rs=true→Rv w N ν cs vs→Rv w N' ν' rs vs
 |[],[],vs,_,_,hr=>by cases hr;exact .nil
 |[],_::_,_,h,_,_=>h.elim
 |_::_,[],_,h,_,_=>h.elim
 |c::cs,r::rs,vs,ho,hl,hr=>by
  obtain ⟨v,us,rfl,h1,h2⟩:=hr.cons_inv;simp only[ba,Qaa] at hl;exact (Dj m hν hnil ho.1 hl.1 h1).cons (zX m hν hnil ho.2 hl.2 h2)
end
def AO.ok:AO→Prop
 | .cells _ cs=>dQ cs
 | .row _ _ rows=>rows.length≤big∧kf rows
 | .tree _ _ _ rows=>rows.length≤big∧kf rows
 | .map _ _ _=>True
def KQ (h:Heap):Prop:=∀i o,look h.objs i=some o→o.ok
theorem Hp.ok {N0:Nat→Prop} {w:World} {ν:Nat→Value} {h:Heap} (hp:Hp N0 w ν h):KQ h:=by
 intro i o ho;have hr:=hp.objs i o ho
 cases o with
 |cells t cs=>obtain ⟨b,arr,e,_,_,h3⟩:=hr;exact h3.ok
 |row t sz rows=>obtain ⟨A,c,cells,_,h2,_,h4,_⟩:=hr;exact ⟨h4,jj h2.ok⟩
 |tree t sz fs rows=>
  obtain ⟨bs,h1,_⟩:=hr;obtain ⟨A,cap,cells,βs,bs',_,_,g1,_,_,_,g5,_⟩:=h1
  exact ⟨g5,jj (g1.rd (N:=fun _=>False) (fun _ _ g=>g)).ok⟩
 |map t tk es=>trivial
theorem TSpec.of_wk {P:Program} {fx:Bool} {T:List (Nat×TI)} (hT:bi P T=true) (hm:P.follows .mixedOrders=true) {f:FuncId} {fn:Func} {c:Code} {args:List AV} {h h1:Heap} {r:AV} (rs:List ResultVar)
 (hf:P.funcs[f]? =some fn) (hn:(fn.name== "runtime.NumGoroutine")=false) (hb:fn.body=some c) (hres:fn.results.toList=rs) (hlen:Qak args.length fn.ntmps=true)
 (hlo:h.lo=h1.lo) (hv:dQ args→KQ h→JV P fx fn.ntmps c (Env.args args) ⟨h.objs,h.nx,h.nx⟩ (JF T rs r ⟨h1.objs,h1.nx,h.nx⟩)):uI P f∧
 ∀(N0:Nat→Prop) (w:World) (ν:Nat→Value) (vs:List Value),Hp N0 w ν h→Rv w (nN N0 ν) ν args vs→
 Calls P f vs.toArray w fun e w'=>∃v ν',e= .returned v∧Hp N0 w' ν' h1∧Rv w' (nN N0 ν') ν' [r] [v]∧Kp (fun b=>∃id,Ow (ν id) b) w w'∧
  ((∀id,ν id≠undef→(∀A m c,ac (ν id)≠ .slice A m c)→ν' id=ν id)∧(fx=true→∀id,ν id≠undef→ac (ν' id)=ac (ν id)))∧(∀id b,Ow (ν' id) b→(∃j,Ow (ν j) b)∨w.heap.size≤b)∧h1.lo=h.lo∧h.nx≤h1.nx:=by
 refine ⟨⟨fn,hf,hn,by rw[hb];rfl⟩,fun N0 w ν0 vs hhp hargs=>callsIn_wide.1 (kv hf hb ?_)⟩;have hl:=hargs.length;have hle:=Qab hlen
 have s:St ⟨false,fx,[]⟩ N0 w (fun b=>∃id,Ow (ν0 id) b) fn.ntmps ν0 (Env.args args) ⟨h.objs,h.nx,h.nx⟩ {tmps:=vs.toArray++Array.replicate (fn.ntmps - vs.toArray.size) undef,defers:=[]} w ν0:=by
  refine ⟨fun k=>?_,⟨hhp.objs,hhp.inj,hhp.bnd,hhp.dom,hhp.n0,hhp.dis,hhp.lw⟩,Kp.refl _ _,fun i b g=> .inr ⟨i,g⟩,by simp;omega,Dfr.nil _ _ _ _,⟨fun _ _ _=>rfl,fun _ _ _=>rfl⟩,Qad _,hhp.dom⟩;simp only[Env.args]
  cases hq:args[k]? with
  |none=>exact .any _ .nil
  |some v=>
   obtain ⟨u,h1,h2⟩:=hargs.get hq
   have:(vs.toArray++Array.replicate (fn.ntmps - vs.toArray.size) undef).getD k undef=u:=by
    have hk:k<vs.length:=(List.getElem?_eq_some_iff.1 h1).1;rw[Qae,Qai (by simpa using hk)];simp[h1]
   rw[this];exact h2
 refine hv hargs.ok hhp.ok _ _ _ _ _ _ _ _ ?_ s;intro e σ hh a w' ν hk s'
 have fin:I8 T rs r ⟨h1.objs,h1.nx,h.nx⟩ σ hh→∀w',St ⟨false,fx,[]⟩ N0 w (fun b=>∃id,Ow (ν0 id) b) fn.ntmps ν0 σ hh {a with defers:=[]} w' ν→∃v,(results fn a.tmps).run P w'= .ok v w'∧∃v' ν',Ending.returned v=Ending.returned v'∧Hp N0 w' ν' h1∧Rv w' (nN N0 ν') ν' [r] [v']∧
  Kp (fun b=>∃id,Ow (ν0 id) b) w w'∧((∀id,ν0 id≠undef→(∀A m c,ac (ν0 id)≠ .slice A m c)→ν' id=ν0 id)∧(fx=true→∀id,ν0 id≠undef→ac (ν' id)=ac (ν0 id)))∧(∀id b,Ow (ν' id) b→(∃j,Ow (ν0 j) b)∨w.heap.size≤b)∧h1.lo=h.lo∧h.nx≤h1.nx:=by
  intro hq w' s';obtain ⟨hk,hrlt,hw⟩:=hq;have hb:=hw.1;simp only[Qaa] at hb;obtain ⟨ν'',s'',hν0,m,_,hnil⟩:=s'.weak hw
  have hν:∀id,id<h1.nx→ν id≠undef→ν'' id=ν id:=fun id g1 g2=>hν0 id g1 (by
   rcases Qag id hh.nx with g|g
   ·exact g
   ·exact absurd (s'.hp.dom id g) g2)
  have hout:∃v,(results fn a.tmps).run P w'= .ok v w'∧((∀id,hh.nx≤id→id<h1.nx→ac (ν'' id)= .slice none 0 0)→Rv w' (nN N0 ν'') ν'' [r] [v]):=by
   split at hk
   ·rename_i x e
    obtain ⟨vs,g1,g2⟩:=dB hT s' e;refine ⟨_,cO hres a.tmps w' g1,fun hnil=>?_⟩;obtain ⟨v,us,rfl,g3,g4⟩:=g2.cons_inv;cases g4;exact Dj m hν hnil hk hrlt g3
   ·rename_i as hne e
    obtain ⟨vs,g1,g2⟩:=dB hT s' e;refine ⟨_,cO hres a.tmps w' g1,fun hnil=>?_⟩;split at hk
    ·rename_i us
     have hlen:=g2.length
     have:B7 vs= .tuple vs.toArray:=by
      cases vs with
      |nil=>rfl
      |cons v vs=>cases vs with
       |nil=>cases as with
        |nil=>simp at hlen
        |cons x xs=>cases xs with
         |nil=>exact absurd rfl (hne _)
         |cons y ys=>simp at hlen
       |cons u vs=>rfl
     rw[this];exact .tup _ (zX m hν hnil hk (by simpa only[AV.lt] using hrlt) g2) .nil
    ·exact hk.elim
   ·exact hk.elim
  obtain ⟨vr,hrun,hout⟩:=hout;exact ⟨_,hrun,_,ν'',rfl,⟨s''.hp.objs,s''.hp.inj,s''.hp.bnd,s''.hp.dom,s''.hp.n0,s''.hp.dis,s''.hp.lw⟩,hout hnil,s''.kp,s''.keep,fun i b g=>(s''.fresh i b g).symm,hlo.symm,Qab hb.2⟩
 cases e with
 |normal=>
  obtain ⟨_,Ds,hd,_⟩:=s'.defers;show LeavesInM (G none) 0 P fn a.tmps _ a.defers .returning w';rw[hd]
  exact cP rfl Ds s' hd (fin hk)
 |ret=>
  obtain ⟨_,Ds,hd,_⟩:=s'.defers;show LeavesInM (G none) 0 P fn a.tmps _ a.defers .returning w';rw[hd]
  exact cP rfl Ds s' hd (fin hk)
 |exit id=>exact hk.elim
 |goto l=>exact hk.elim
 |panic ch=>exact hk.elim
 |outgrown=>exact hk.elim
abbrev FSpec (P:Program) (f:FuncId) (args:List AV) (h:Heap) (r:AV) (h':Heap):Prop:=(dF P).fix f args h r h'
theorem FSpec.of_wk {P:Program} {T:List (Nat×TI)} (hT:bi P T=true) (hm:P.follows .mixedOrders=true) {f:FuncId} {fn:Func} {c:Code} {args:List AV} {h h1:Heap} {r:AV} (rs:List ResultVar)
 (hf:P.funcs[f]? =some fn) (hn:(fn.name== "runtime.NumGoroutine")=false) (hb:fn.body=some c) (hres:fn.results.toList=rs) (hlen:Qak args.length fn.ntmps=true)
 (hlo:h.lo=h1.lo) (hv:dQ args→KQ h→JV P true fn.ntmps c (Env.args args) ⟨h.objs,h.nx,h.nx⟩ (JF T rs r ⟨h1.objs,h1.nx,h.nx⟩)):FSpec P f args h r h1:=by
 obtain ⟨he,hc⟩:=TSpec.of_wk hT hm rs hf hn hb hres hlen hlo hv;refine ⟨he,fun N0 w ν vs g1 g2=>(hc N0 w ν vs g1 g2).mono fun e w' ⟨v,ν',q1,q2,q3,q4,q5,q6⟩=>⟨v,ν',q1,q2,q3,q4,⟨q5.1,q5.2 rfl⟩,q6⟩⟩
theorem FSpec.of_vc {P:Program} {T:List (Nat×TI)} (hT:bi P T=true) (hm:P.follows .mixedOrders=true) {f:FuncId} {fn:Func} {c:Code} {args:List AV} {h h1:Heap} {r:AV} (rs:List ResultVar)
 (hf:P.funcs[f]? =some fn) (hn:(fn.name== "runtime.NumGoroutine")=false) (hb:fn.body=some c) (hres:fn.results.toList=rs) (hlen:Qak args.length fn.ntmps=true)
 (hlo:h.lo=h1.lo) (hv:dQ args→KQ h→vc T (am P true) fn.ntmps c (Env.args args) ⟨h.objs,h.nx,h.nx⟩ (JF T rs r ⟨h1.objs,h1.nx,h.nx⟩)):FSpec P f args h r h1:=FSpec.of_wk hT hm rs hf hn hb hres hlen hlo fun h1 h2=>FA hT hm (hv h1 h2)
def Dl (ids:List (Option Nat)) (c r:AV):Prop:=match r with
 | .own j=>match ids[j]? with
   |some (some i)=>c= .own i
   |some none=>c= .nils
   |none=>False
 |r=>qB c=r∧AV.lt 0 r=true
def Gh (ids:List (Option Nat)):List AV→List AV→Prop
 |[],[]=>True
 |c::cs,r::rs=>Dl ids c r∧Gh ids cs rs
 |_,_=>False
def HW (ids:List (Option Nat)) (a r:AV):Prop:=match r with
 | .agg rs=>match a with
   | .agg cs=>Gh ids cs rs
   |_=>False
 |r=>Dl ids a r
def Gk (ids:List (Option Nat)):List AV→List AV→Prop
 |[],[]=>True
 |c::cs,r::rs=>HW ids c r∧Gk ids cs rs
 |_,_=>False
def nT:List (Option Nat)→List Nat
 |[]=>[]
 |some i::r=>i::nT r
 |none::r=>nT r
def Jy (ids:List (Option Nat)) (l:List (Nat×AO)):List (Nat×AO)→Prop
 |[]=>True
 |(j,o)::r=>(match ids[j]? with
  |some (some i)=>look l i=some o∧(match o with| .row _ _ _=>true| .tree _ _ _ _=>true|_=>false)=true
  |some none=>(match o with| .tree _ sz fs []=>Qak 1 sz&&QaJ fs.length sz| .row _ sz []=>Qak 1 sz|_=>false)=true
  |none=>False)∧Jy ids l r
def HP (T:List (Nat×TI)) (rs:List ResultVar) (r:AV) (l1:List (Nat×AO)) (k:Nat) (σ:Env) (h:Heap):Prop:=∃ids:List (Option Nat),(match j6 T σ h rs with
 |some [a]=>HW ids a r
 |some as=>match r with
  | .tup us=>Gk ids as us
  |_=>False
 |none=>False)∧(gu (nT ids)&&QaJ ids.length k)=true∧Jy ids h.objs l1
def JG (T:List (Nat×TI)) (rs:List ResultVar) (r:AV) (l1:List (Nat×AO)) (k:Nat):Exit→Env→Heap→Prop
 | .normal,σ,h=>HP T rs r l1 k σ h
 | .ret,σ,h=>HP T rs r l1 k σ h
 |_,_,_=>False
section
variable {w:World} {N N':Nat→Prop} {ν ν':Nat→Value} {ids:List (Option Nat)}
theorem Aa (m:Mv w N w N') (hν:∀i j:Nat,ids[j]? =some (some i)→ν' j=ν i) (hnil:∀j:Nat,ids[j]? =some none→ac (ν' j)= .slice none 0 0) {c r:AV} {v:Value} (ho:Dl ids c r) (hr:Rv w N ν [c] [v]):Rv w N' ν' [r] [v]:=by
 unfold Dl at ho;split at ho
 ·rename_i j
  split at ho
  ·rename_i i hi
   subst ho;obtain ⟨h1,A,n,c,h2⟩:=gn hr;rw[h1,h2];exact .own (by rw[hν i j hi];exact h2) .nil
  ·rename_i hi
   subst ho;rw[fO hr];exact .own (hnil j hi) .nil
  ·exact ho.elim
 ·obtain ⟨e,hl⟩:=ho
  have:=oL hr;rw[e] at this;exact this.lt m (fun id g _=>absurd g (Nat.not_lt_zero _)) (by simp only[ba,hl,QaH])
theorem zY (m:Mv w N w N') (hν:∀i j:Nat,ids[j]? =some (some i)→ν' j=ν i) (hnil:∀j:Nat,ids[j]? =some none→ac (ν' j)= .slice none 0 0):∀{cs rs:List AV} {vs:List Value},Gh ids cs rs→Rv w N ν cs vs→Rv w N' ν' rs vs
 |[],[],vs,_,hr=>by cases hr;exact .nil
 |[],_::_,_,h,_=>h.elim
 |_::_,[],_,h,_=>h.elim
 |c::cs,r::rs,vs,ho,hr=>by
  obtain ⟨v,us,rfl,h1,h2⟩:=hr.cons_inv;exact (Aa m hν hnil ho.1 h1).cons (zY m hν hnil ho.2 h2)
theorem Dk (m:Mv w N w N') (hν:∀i j:Nat,ids[j]? =some (some i)→ν' j=ν i) (hnil:∀j:Nat,ids[j]? =some none→ac (ν' j)= .slice none 0 0) {c r:AV} {v:Value} (ho:HW ids c r) (hr:Rv w N ν [c] [v]):Rv w N' ν' [r] [v]:=by
 unfold HW at ho;split at ho
 ·split at ho
  ·obtain ⟨xs,rfl,h1⟩:=je hr
   exact .agg xs (zY m hν hnil ho h1) .nil
  ·exact ho.elim
 ·exact Aa m hν hnil ho hr
theorem zZ (m:Mv w N w N') (hν:∀i j:Nat,ids[j]? =some (some i)→ν' j=ν i) (hnil:∀j:Nat,ids[j]? =some none→ac (ν' j)= .slice none 0 0):∀{cs rs:List AV} {vs:List Value},Gk ids cs rs→Rv w N ν cs vs→Rv w N' ν' rs vs
 |[],[],vs,_,hr=>by cases hr;exact .nil
 |[],_::_,_,h,_=>h.elim
 |_::_,[],_,h,_=>h.elim
 |c::cs,r::rs,vs,ho,hr=>by
  obtain ⟨v,us,rfl,h1,h2⟩:=hr.cons_inv;exact (Dk m hν hnil ho.1 h1).cons (zZ m hν hnil ho.2 h2)
theorem k5:∀{ids:List (Option Nat)},(nT ids).Nodup→∀{j j' i:Nat},ids[j]? =some (some i)→ids[j']? =some (some i)→j=j'
 |[],_,j,j',i,h,_=>by simp at h
 |none::ids,hn,j,j',i,h,h'=>by
  cases j with
  |zero=>simp at h
  |succ j=>
   cases j' with
   |zero=>simp at h'
   |succ j'=>
    simp only[Qal] at h h'
    rw[k5 (ids:=ids) hn h h']
 |some k::ids,hn,j,j',i,h,h'=>by
  simp only[nT,List.nodup_cons] at hn
  have mem:∀{l:List (Option Nat)} {j i:Nat},l[j]? =some (some i)→i∈nT l:=by
   intro l
   induction l with
   |nil=>intro j i h;simp at h
   |cons x l ih=>
    intro j i h
    cases j with
    |zero=>
     simp only[Qau,Qac] at h;subst h
     simp[nT]
    |succ j=>
     simp only[Qal] at h;have:=ih h
     cases x with
     |none=>simpa [nT] using this
     |some y=>simp[nT,this]
  cases j with
  |zero=>
   cases j' with
   |zero=>rfl
   |succ j'=>
    simp only[Qau,Qal,Qac] at h h';subst h
    exact absurd (mem h') hn.1
  |succ j=>
   cases j' with
   |zero=>
    simp only[Qau,Qal,Qac] at h h';subst h'
    exact absurd (mem h) hn.1
   |succ j'=>
    simp only[Qal] at h h';rw[k5 (ids:=ids) hn.2 h h']
theorem DL {l:List (Nat×AO)}:∀{l1:List (Nat×AO)} {j:Nat} {o:AO},Jy ids l l1→look l1 j=some o→
 (∃i:Nat,ids[j]? =some (some i)∧look l i=some o∧((∃t sz rows,o= .row t sz rows)∨∃t sz fs rows,o= .tree t sz fs rows))∨(ids[j]? =some none∧((∃t sz fs,o= .tree t sz fs []∧0<sz∧fs.length=sz)∨∃t sz,o= .row t sz []∧0<sz))
 |[],j,o,_,h=>by simp[look] at h
 |(k,x)::r,j,o,hf,h=>by
  simp only[look] at h;by_cases e:j=k
  ·subst e
   rw[ga] at h;simp only[cond_true,Qac] at h;subst h;have hf:=hf.1;split at hf
   ·rename_i i hi
    refine .inl ⟨i,hi,hf.1,?_⟩;have:=hf.2
    cases x with
    |row t sz rows=>exact .inl ⟨_,_,_,rfl⟩
    |tree t sz fs rows=>exact .inr ⟨_,_,_,_,rfl⟩
    |cells _ _=>cases this
    |map _ _ _=>cases this
   ·rename_i hi
    refine .inr ⟨hi,?_⟩;split at hf
    ·simp only[Qaa] at hf
     exact .inl ⟨_,_,_,rfl,Qab hf.1,Qah hf.2⟩
    ·exact .inr ⟨_,_,rfl,Qab hf⟩
    ·cases hf
   ·exact hf.elim
  ·rw[eQ e] at h
   exact DL hf.2 h
end
def ni (ids:List (Option Nat)) (l1:List (Nat×AO)) (ν:Nat→Value) (j:Nat):Value:=match ids[j]? with
 |some (some i)=>ν i
 |some none=>pV l1 j
 |none=>undef
theorem F4 {P:Program} {q:Md} {T:List (Nat×TI)} (hT:bi P T=true) {N0:Nat→Prop} {w w':World} {n:Nat} {σ:Env} {hh:Heap} {a:Act} {ν ν0:Nat→Value} {fn:Func} {l1:List (Nat×AO)} {k:Nat} {r:AV} {rs:List ResultVar}
 (hres:fn.results.toList=rs) (hu:∀i,ν0 i=undef) (hq:HP T rs r l1 k σ hh) (s':St q N0 w (fun b=>∃id,Ow (ν0 id) b) n ν0 σ hh a w' ν):
 ∃v,(results fn a.tmps).run P w'= .ok v w'∧∃v' ν',Ending.returned v=Ending.returned v'∧Hp N0 w' ν' ⟨l1,k,0⟩∧Rv w' (nN N0 ν') ν' [r] [v']∧
  Kp (fun b=>∃id,Ow (ν0 id) b) w w'∧(∀id,ν0 id≠undef→(∀A m c,ac (ν0 id)≠ .slice A m c)→ν' id=ν0 id)∧(∀id b,Ow (ν' id) b→(∃j,Ow (ν0 j) b)∨w.heap.size≤b)∧(0:Nat)=hp0.lo∧hp0.nx≤k:=by
 obtain ⟨ids,hk,hnd,hfin⟩:=hq;simp only[Qaa] at hnd;have hlen:=Qah hnd.2;have hnd:=jE hnd.1;have hν:∀i j:Nat,ids[j]? =some (some i)→ni ids l1 ν j=ν i:=fun i j e=>by simp[ni,e]
 have hnil:∀j:Nat,ids[j]? =some none→ac (ni ids l1 ν j)= .slice none 0 0:=fun j e=>by simp only[ni,e];exact lV
 have hup:∀j b,Ow (ni ids l1 ν j) b→∃i:Nat,ids[j]? =some (some i)∧Ow (ν i) b:=by
  intro j b g;unfold ni at g;split at g
  ·rename_i i e;exact ⟨i,e,g⟩
  ·exact absurd g Di
  ·exact absurd g lm
 have hN:∀b,nN N0 (ni ids l1 ν) b→nN N0 ν b:=by
  rintro b (g|⟨j,g⟩)
  ·exact .inl g
  ·obtain ⟨i,_,g⟩:=hup j b g;exact .inr ⟨i,g⟩
 have m:Mv w' (nN N0 ν) w' (nN N0 (ni ids l1 ν)):=⟨Qad _,fun b _ hb=>⟨fun g=>hb (hN b g),rfl⟩⟩
 have hout:∃v,(results fn a.tmps).run P w'= .ok v w'∧Rv w' (nN N0 (ni ids l1 ν)) (ni ids l1 ν) [r] [v]:=by
  split at hk
  ·rename_i x e
   obtain ⟨vs,g1,g2⟩:=dB hT s' e;refine ⟨_,cO hres a.tmps w' g1,?_⟩;obtain ⟨v,us,rfl,g3,g4⟩:=g2.cons_inv;cases g4;exact Dk m hν hnil hk g3
  ·rename_i as hne e
   obtain ⟨vs,g1,g2⟩:=dB hT s' e;refine ⟨_,cO hres a.tmps w' g1,?_⟩;split at hk
   ·rename_i us
    have hlen:=g2.length
    have:B7 vs= .tuple vs.toArray:=by
     cases vs with
     |nil=>rfl
     |cons v vs=>cases vs with
      |nil=>cases as with
       |nil=>simp at hlen
       |cons x xs=>cases xs with
        |nil=>exact absurd rfl (hne _)
        |cons y ys=>simp at hlen
      |cons u vs=>rfl
    rw[this];exact .tup _ (zZ m hν hnil hk g2) .nil
   ·exact hk.elim
  ·exact hk.elim
 obtain ⟨vr,hrun,hout⟩:=hout;refine ⟨_,hrun,_,ni ids l1 ν,rfl,⟨fun j o ho=>?_,fun i j b g1 g2=>?_,fun j b g=>?_,fun j hj=>?_,s'.hp.n0,fun j b g=>?_,s'.hp.lw⟩,hout,s'.kp,fun id g=>absurd (hu id) g,fun j b g=>?_,rfl,Qas _⟩
 ·rcases DL hfin ho with ⟨i,h1,h2,⟨t,sz,rows,rfl⟩|⟨t,sz,fs,rows,rfl⟩⟩|⟨h1,⟨t,sz,fs,rfl,q1,q2⟩|⟨t,sz,rfl,q1⟩⟩
  ·obtain ⟨A,c,cells,p1,p2,p3,p4,p5,p6⟩:=s'.hp.objs i _ h2
   exact ⟨A,c,cells,by rw[hν i j h1];exact p1,p2.mv m,p3,p4,p5,by rw[hν i j h1];exact p6⟩
  ·obtain ⟨bs,p1,p2⟩:=s'.hp.objs i _ h2
   exact ⟨bs,by rw[hν i j h1];exact p1,p2⟩
  ·refine ⟨[],?_,List.nodup_nil⟩
   simp only[ni,h1,pV,ho];exact xG q2 q1
  ·refine ⟨none,0,[],?_,.nil,by simp,Qas _,q1,?_⟩
   ·simp only[ni,h1,pV,ho];rfl
   ·simp only[ni,h1,pV,ho];exact ⟨by simp,.inl ⟨rfl,rfl⟩⟩
 ·obtain ⟨i1,e1,g1⟩:=hup i b g1
  obtain ⟨i2,e2,g2⟩:=hup j b g2;have:=s'.hp.inj _ _ b g1 g2;subst this;exact k5 hnd e1 e2
 ·obtain ⟨i,_,g⟩:=hup j b g;exact s'.hp.bnd i b g
 ·have:ids[j]? =none:=List.getElem?_eq_none (by simp only at hj;omega)
  simp[ni,this]
 ·obtain ⟨i,_,g⟩:=hup j b g;exact s'.hp.dis i b g
 ·obtain ⟨i,_,g⟩:=hup j b g
  exact (s'.fresh i b g).symm
theorem pw {P:Program} {T:List (Nat×TI)} (hT:bi P T=true) (hm:P.follows .mixedOrders=true) {f:FuncId} {fn:Func} {c:Code} {args:List AV} {l1:List (Nat×AO)} {k:Nat} {r:AV} (rs:List ResultVar)
 (hf:P.funcs[f]? =some fn) (hn:(fn.name== "runtime.NumGoroutine")=false) (hb:fn.body=some c) (hres:fn.results.toList=rs) (hlen:Qak args.length fn.ntmps=true)
 (hv:dQ args→JV P false fn.ntmps c (Env.args args) hp0 (JG T rs r l1 k)):HSpec P f args hp0 r ⟨l1,k,0⟩:=by
 refine ⟨⟨fn,hf,hn,by rw[hb];rfl⟩,fun N0 w ν0 vs hhp hargs=>callsIn_wide.1 (kv hf hb ?_)⟩;have hl:=hargs.length;have hle:=Qab hlen;have hu:∀i,ν0 i=undef:=fun i=>hhp.dom i (Qas _)
 have s:St ⟨false,false,[]⟩ N0 w (fun b=>∃id,Ow (ν0 id) b) fn.ntmps ν0 (Env.args args) hp0 {tmps:=vs.toArray++Array.replicate (fn.ntmps - vs.toArray.size) undef,defers:=[]} w ν0:=by
  refine ⟨fun k=>?_,hhp,Kp.refl _ _,fun i b g=> .inr ⟨i,g⟩,by simp;omega,Dfr.nil _ _ _ _,⟨fun _ _ _=>rfl,fun _ _ _=>rfl⟩,Qad _,fun i _=>hu i⟩;simp only[Env.args]
  cases hq:args[k]? with
  |none=>exact .any _ .nil
  |some v=>
   obtain ⟨u,h1,h2⟩:=hargs.get hq
   have:(vs.toArray++Array.replicate (fn.ntmps - vs.toArray.size) undef).getD k undef=u:=by
    have hk:k<vs.length:=(List.getElem?_eq_some_iff.1 h1).1;rw[Qae,Qai (by simpa using hk)];simp[h1]
   rw[this];exact h2
 refine hv hargs.ok _ _ _ _ _ _ _ _ ?_ s;intro e σ hh a w' ν hk s';have fin:HP T rs r l1 k σ hh→∀w',St ⟨false,false,[]⟩ N0 w (fun b=>∃id,Ow (ν0 id) b) fn.ntmps ν0 σ hh {a with defers:=[]} w' ν→_:=fun hq w' s'=>F4 hT hres hu hq s'
 cases e with
 |normal=>
  obtain ⟨_,Ds,hd,_⟩:=s'.defers;show LeavesInM (G none) 0 P fn a.tmps _ a.defers .returning w';rw[hd]
  exact cP rfl Ds s' hd (fin hk)
 |ret=>
  obtain ⟨_,Ds,hd,_⟩:=s'.defers;show LeavesInM (G none) 0 P fn a.tmps _ a.defers .returning w';rw[hd]
  exact cP rfl Ds s' hd (fin hk)
 |exit id=>exact hk.elim
 |goto l=>exact hk.elim
 |panic ch=>exact hk.elim
 |outgrown=>exact hk.elim
theorem ae {P:Program} {T:List (Nat×TI)} (hT:bi P T=true) (hm:P.follows .mixedOrders=true) {f:FuncId} {fn:Func} {c:Code} {args:List AV} {l1:List (Nat×AO)} {k:Nat} {r:AV} (rs:List ResultVar)
 (hf:P.funcs[f]? =some fn) (hn:(fn.name== "runtime.NumGoroutine")=false) (hb:fn.body=some c) (hres:fn.results.toList=rs) (hlen:Qak args.length fn.ntmps=true)
 (hv:dQ args→vc T (dF P) fn.ntmps c (Env.args args) hp0 (JG T rs r l1 k)):HSpec P f args hp0 r ⟨l1,k,0⟩:=pw hT hm rs hf hn hb hres hlen fun h=>FA hT hm (hv h)
end Go.Vc
end
section
namespace Go.Vc
inductive Sq (A B:Prop):Prop
 |go (h:A)
 |wk (h:B)
theorem sg {A B:Prop} (h:A):Sq A B:= .go h
noncomputable def yF (ks:List Nat) (σ:Env):(List (Nat×AV)→Prop)→Prop:=
 List.rec (motive:=fun _=>(List (Nat×AV)→Prop)→Prop) (fun K=>K []) (fun k _ ih K=>fW (σ k) fun v=>ih fun l=>K ((k,v)::l)) ks
theorem forceSl_iff {σ:Env} {ks:List Nat}:∀{K:List (Nat×AV)→Prop},yF ks σ K↔K (ks.map fun k=>(k,σ k)):=by
 induction ks with
 |nil=>exact Iff.rfl
 |cons k ks ih=>intro K;exact (forceV_iff (K:=fun v=>yF ks σ fun l=>K ((k,v)::l))).trans (ih (K:=fun l=>K ((k,σ k)::l)))
noncomputable def Kl (ids:List Nat) (l:List (Nat×AO)):List (Nat×AO):=
 List.rec (motive:=fun _=>List (Nat×AO)) [] (fun p _ ih=>match ids.any (QaJ p.1) with|true=>p::ih|false=>ih) l
noncomputable def JZ (b:vK) (Q:Exit→Env→Heap→Prop) (σ:Env) (h:Heap):Prop:=Sq (b σ h Q) (∃ks ids,yF ks σ fun l=>pf (Kl ids h.objs) fun o=>fX h.nx fun nx=>fX h.lo fun lo=>fZ σ h l ⟨o,nx,lo⟩∧b (Env.of l) ⟨o,nx,lo⟩ Q)
theorem LI {A:Prop} {B:List Nat→List Nat→Prop} (ks ids:List Nat) (h:B ks ids):Sq A (∃x y,B x y):= .wk ⟨ks,ids,h⟩
noncomputable def J3 (b:vK) (Q:Exit→Env→Heap→Prop) (e:Exit) (σ:Env) (h:Heap):Prop:=match e with
 | .normal=>JZ b Q σ h
 |e=>Q e σ h
noncomputable def KJ (T:List (Nat×TI)) (S:bg) (n:Nat) (c:Code):vK:=
 Code.rec (motive:=fun _=>vK) (skip:=fun σ h Q=>Q .normal σ h) (region:=fun _ ops draw=>eX T S n ops draw)
  (seq:=fun _ _ iha ihb σ h Q=>iha σ h (J3 ihb Q)) (cond:=fun c _ _ t e=>jW c t e)
  (block:=fun id _ ih σ h Q=>ih σ h (kw id Q)) (loop:=fun _ ih=>mO ih)
  (rangeFunc:=fun _ _ _ _ _ _ _ _ _=>False)
  (exit:=fun id σ h Q=>Q (.exit id) σ h) (scope:=fun _ ih σ h Q=>ih σ h (BJ Q)) (label:=fun _ σ h Q=>Q .normal σ h) (goto:=fun _ _ _ _=>False)
  (ret:=fun σ h Q=>Q .ret σ h) (refuse:=fun _ _ _ _=>False) c
section
variable {P:Program} {ro:Option Nat} {q:Md} {T:List (Nat×TI)} {N0 Nf:Nat→Prop} {w0 w w':World} {n:Nat} {σ σ':Env} {h h':Heap} {a:Act} {ν ν' ν0:Nat→Value}
theorem D5 (hT:bi P T=true) (hm:P.follows .mixedOrders=true):∀(c:Code) {σ:Env} {h:Heap} {a:Act} {w:World} {ν:Nat→Value} {Qa:Exit→Env→Heap→Prop} {Q:Exit→Act→World→Prop},
 KJ T (am P q.fx) n c σ h Qa→(∀e σ h a w ν,Qa e σ h→St q N0 w0 Nf n ν0 σ h a w ν→Q e a w)→St q N0 w0 Nf n ν0 σ h a w ν→c.wpIn (G ro) 0 P Q a w:=by
 intro c
 induction c with
 |skip=>intro σ h a w ν Qa Q hv hQ s;exact wpIn_skip (hQ _ _ _ _ _ _ hv s)
 |region id ops draw=>
  intro σ h a w ν Qa Q hv hQ s
  cases draw with
  |false=>exact wpIn_region_list (kS (ops:=ops) hT (fun σ h a w ν hk hs=>hQ _ _ _ _ _ _ hk hs) ops.toList s hv)
  |true=>exact fK hT hm (fun σ h a w ν hk hs=>hQ _ _ _ _ _ _ hk hs) s hv
 |seq x y ihx ihy=>
  intro σ h a w ν Qa Q hv hQ s;refine wpIn_seq (ihx hv ?_ s);intro e σ' h' a' w' ν' hk hs
  cases e with
  |normal=>
   cases hk with
   |go hk=>exact ihy hk hQ hs
   |wk hk=>
    obtain ⟨ks,ids,hk⟩:=hk;obtain ⟨hw,hk⟩:=forceN_iff.1 (forceN_iff.1 (forceOs_iff.1 (forceSl_iff.1 hk)));obtain ⟨ν2,s2,_⟩:=hs.weak hw
    exact ihy hk hQ s2
  |exit id=>exact hQ _ _ _ _ _ _ hk hs
  |goto l=>exact hQ _ _ _ _ _ _ hk hs
  |ret=>exact hQ _ _ _ _ _ _ hk hs
  |panic ch=>exact hQ _ _ _ _ _ _ hk hs
  |outgrown=>exact hQ _ _ _ _ _ _ hk hs
 |cond c x y ihx ihy=>
  intro σ h a w ν Qa Q hv hQ s
  replace hv:jW c (KJ T (am P q.fx) n x) (KJ T (am P q.fx) n y) σ h Qa:=hv
  unfold jW at hv;split at hv
  ·rename_i b e
   have hc:=aD s c;rw[e] at hc;refine wpIn_cond (bU hc) ?_
   cases b with
   |true=>exact ihx (hv.1 rfl) hQ s
   |false=>exact ihy (hv.2 rfl) hQ s
  ·rename_i b e
   have hc:=aD s c;rw[e] at hc;refine wpIn_cond (eu hc) ?_
   cases b with
   |true=>exact ihx hv hQ s
   |false=>exact ihy hv hQ s
  ·exact hv.elim
 |block id c ih=>
  intro σ h a w ν Qa Q hv hQ s;refine wpIn_block (ih hv ?_ s);intro e σ' h' a' w' ν' hk hs
  cases e with
  |exit id'=>
   simp only[Exit.inBlock];by_cases e:id'=id
   ·subst e
    rw[if_pos rfl];simp only[kw,ga,cond_true] at hk;exact hQ _ _ _ _ _ _ hk hs
   ·rw[if_neg e]
    simp only[kw,eQ e,cond_false] at hk
    exact hQ _ _ _ _ _ _ hk hs
  |normal=>exact hQ _ _ _ _ _ _ hk hs
  |goto l=>exact hQ _ _ _ _ _ _ hk hs
  |ret=>exact hQ _ _ _ _ _ _ hk hs
  |panic ch=>exact hQ _ _ _ _ _ _ hk hs
  |outgrown=>exact hQ _ _ _ _ _ _ hk hs
 |loop c ih=>
  intro σ h a w ν Qa Q hv hQ s;obtain ⟨I,⟨k,l,h1,hI,hw⟩,hr⟩:=hv;obtain ⟨ν1,s1,_⟩:=s.weak hw;refine nz (fun k a w=>∃l h1 ν1,I k l h1∧St q N0 w0 Nf n ν0 (Env.of l) h1 a w ν1) ?_ k a w ⟨l,h1,ν1,hI,s1⟩;intro k a w ⟨l,h1,ν1,hI,s1⟩;refine ih (hr k l h1 hI) ?_ s1;intro e σ' h' a' w' ν' hk hs
  cases e with
  |normal=>
   obtain ⟨k',l',h'',hI',hlt,hw'⟩:=hk;obtain ⟨ν'',s'',_⟩:=hs.weak hw'
   exact ⟨k',hlt,l',h'',ν'',hI',s''⟩
  |exit id=>exact hQ _ _ _ _ _ _ hk hs
  |goto l=>exact hQ _ _ _ _ _ _ hk hs
  |ret=>exact hQ _ _ _ _ _ _ hk hs
  |panic ch=>exact hQ _ _ _ _ _ _ hk hs
  |outgrown=>exact hQ _ _ _ _ _ _ hk hs
 |exit id=>intro σ h a w ν Qa Q hv hQ s;exact wpIn_exit (hQ _ _ _ _ _ _ hv s)
 |ret=>intro σ h a w ν Qa Q hv hQ s;exact wpIn_ret (hQ _ _ _ _ _ _ hv s)
 |rangeFunc g ps x y ihx ihy=>intro σ h a w ν Qa Q hv;exact hv.elim
 |scope c ih=>
  intro σ h a w ν Qa Q hv hQ s;refine iR (ih hv ?_ s);intro e σ' h' a' w' ν' hk hs
  cases e with
  |goto l=>exact hk.elim
  |normal=>exact hQ _ _ _ _ _ _ hk hs
  |exit id=>exact hQ _ _ _ _ _ _ hk hs
  |ret=>exact hQ _ _ _ _ _ _ hk hs
  |panic ch=>exact hQ _ _ _ _ _ _ hk hs
  |outgrown=>exact hQ _ _ _ _ _ _ hk hs
 |label l=>intro σ h a w ν Qa Q hv hQ s;exact wpIn_label (hQ _ _ _ _ _ _ hv s)
 |goto l=>intro σ h a w ν Qa Q hv;exact hv.elim
 |refuse why=>intro σ h a w ν Qa Q hv;exact hv.elim
end
theorem Bt {P:Program} {T:List (Nat×TI)} (hT:bi P T=true) (hm:P.follows .mixedOrders=true) {f:FuncId} {fn:Func} {c:Code} {args:List AV} {r:AV} (rs:List ResultVar)
 (hf:P.funcs[f]? =some fn) (hn:(fn.name== "runtime.NumGoroutine")=false) (hb:fn.body=some c) (hres:fn.results.toList=rs) (hlen:Qak args.length fn.ntmps=true)
 (hv:dQ args→KJ T (dF P) fn.ntmps c (Env.args args) hp0 (Ln T rs r)):Spec P f args r:=by
 refine ⟨⟨fn,hf,hn,by rw[hb];rfl⟩,fun N w vs hN hlw hargs=>callsIn_wide.1 (callsIn_of_wp_marks (F:=G none) (n:=0) hf hb trivial ?_)⟩;have hl:=hargs.length;have hle:=Qab hlen
 have s:St ⟨false,false,[]⟩ N w (fun _=>False) fn.ntmps (fun _=>undef) (Env.args args) hp0 {tmps:=vs.toArray++Array.replicate (fn.ntmps - vs.toArray.size) undef,defers:=[]} w (fun _=>undef):=by
  have hNe:nN N (fun _=>undef)=N:=by
   funext b
   simp[nN,bG,undef]
  refine ⟨fun k=>?_,⟨?_,?_,?_,fun _ _=>rfl,hN,?_,hlw⟩,Kp.refl _ _,?_,by simp;omega,Dfr.nil _ _ _ _,⟨fun _ _ _=>rfl,fun _ _ _=>rfl⟩,Qad _,fun _ _=>rfl⟩
  ·rw[hNe]
   simp only[Env.args]
   cases hq:args[k]? with
   |none=>exact .any _ .nil
   |some v=>
    obtain ⟨u,h1,h2⟩:=hargs.get hq
    have:(vs.toArray++Array.replicate (fn.ntmps - vs.toArray.size) undef).getD k undef=u:=by
      have hk:k<vs.length:=(List.getElem?_eq_some_iff.1 h1).1;rw[Qae,Qai (by simpa using hk)];simp[h1]
    rw[this];exact h2
  ·intro id o ho;simp[look,hp0] at ho
  all_goals (intro i;simp[bG,undef])
 refine D5 (q:=⟨false,false,[]⟩) hT hm c (hv hargs.ok) ?_ s;intro e σ h a w' ν hk s'
 have fin:EE T rs r σ h→∀w',St ⟨false,false,[]⟩ N w (fun _=>False) fn.ntmps (fun _=>undef) σ h {a with defers:=[]} w' ν→∃v,(results fn a.tmps).run P w'= .ok v w'∧∃v',Ending.returned v=Ending.returned v'∧Kp (fun _=>False) w w'∧Rv w' N (fun _=>undef) [r] [v']:=by
  intro hk w' s';have hview:∀{as:List AV} {us:List Value},Rv w' (nN N ν) ν as us→Rv w' N (fun _=>undef) (aN h.objs as) us:=fun hr=>oV s'.hp hr;unfold EE at hk;split at hk
  ·rename_i x e
   obtain ⟨vs,g1,g2⟩:=dB hT s' e;refine ⟨_,cO hres a.tmps w' g1,_,rfl,s'.kp,?_⟩;obtain ⟨v,us,rfl,g3,g4⟩:=g2.cons_inv;cases g4;rw[←hk];have:=hview g3;simp only[aN] at this;exact this
  ·rename_i as hne e
   obtain ⟨vs,g1,g2⟩:=dB hT s' e;refine ⟨_,cO hres a.tmps w' g1,_,rfl,s'.kp,?_⟩;rw[←hk];have hlen:=g2.length
   have:B7 vs= .tuple vs.toArray:=by
    cases vs with
    |nil=>rfl
    |cons v vs=>cases vs with
     |nil=>cases as with
      |nil=>simp at hlen
      |cons x xs=>cases xs with
       |nil=>exact absurd rfl (hne _)
       |cons y ys=>simp at hlen
     |cons u vs=>rfl
   rw[this];exact .tup _ (hview g2) .nil
  ·exact hk.elim
 cases e with
 |normal=>
  obtain ⟨_,Ds,hd,_⟩:=s'.defers;show LeavesInM (G none) 0 P fn a.tmps _ a.defers .returning w';rw[hd]
  exact cP rfl Ds s' hd (fin hk)
 |ret=>
  obtain ⟨_,Ds,hd,_⟩:=s'.defers;show LeavesInM (G none) 0 P fn a.tmps _ a.defers .returning w';rw[hd]
  exact cP rfl Ds s' hd (fin hk)
 |exit id=>exact hk.elim
 |goto l=>exact hk.elim
 |panic ch=>exact hk.elim
 |outgrown=>exact hk.elim
end Go.Vc
end
section
namespace Go.Vc
theorem ak {p q x:Prop} (k:q) (h:p:=by kernel_rfl):p∧(q∨x):=⟨h,.inl k⟩
theorem Ll {p q r x:Prop} (k:r) (h:p:=by kernel_rfl) (h':q:=by kernel_rfl):p∧(q∧r∨x):=⟨h,.inl ⟨h',k⟩⟩
theorem akp.{u,v} {β:Sort u} {γ:Sort v} {p x:Prop} {A B:β→γ→Prop} (b:β) (t:γ) (k:B b t) (h:p:=by kernel_rfl) (h':A b t:=by kernel_rfl):p∧(x∨∃b t,A b t∧B b t):=⟨h,.inr ⟨b,t,h',k⟩⟩
theorem an {p q A B:Prop} (k:B) (h:¬p:=by simp):(p→A)∧(q→B):=⟨fun x=>absurd x h,fun _=>k⟩
theorem ay {p q A B:Prop} (k:A) (h:¬q:=by simp):(p→A)∧(q→B):=⟨fun _=>k,fun x=>absurd x h⟩
theorem n1 {q A B:Prop} (k:q→B):(true=false→A)∧(q→B):=⟨fun h=>Bool.noConfusion h,k⟩
theorem n2 {q A B:Prop} (k:q→B):(false=true→A)∧(q→B):=⟨fun h=>Bool.noConfusion h,k⟩
theorem n3 {q A B:Prop} (k:q→A):(q→A)∧(true=false→B):=⟨k,fun h=>Bool.noConfusion h⟩
theorem n4 {q A B:Prop} (k:q→A):(q→A)∧(false=true→B):=⟨k,fun h=>Bool.noConfusion h⟩
theorem oc.{u} {α:Sort u} {a:α} {A B:α→Prop} {R:Prop} (h:A a) (k:B a):(∃x,A x∧B x)∨R:= .inl ⟨a,h,k⟩
section
universe u v w x
variable {α:Sort u} {β:Sort v} {γ:Sort w} {ε:Sort x} {e:ε} {a:α} {b:β}
theorem oh {P R:Prop} {A B:α→β→Prop} (h:A a b) (k:B a b):P∨(∃x y,(e=e∧A x y)∧B x y)∨R:= .inr (.inl ⟨a,b,⟨rfl,h⟩,k⟩)
theorem op {P P2 R:Prop} {A B:α→β→Prop} (h:A a b) (k:B a b):P∨P2∨(∃x y,(e=e∧A x y)∧B x y)∨R:= .inr (.inr (.inl ⟨a,b,⟨rfl,h⟩,k⟩))
theorem ol {P P2 P3 R:Prop} {C A B:α→Prop} (h:A a) (k:B a) (c:C a:=by rfl):P∨P2∨P3∨(∃x,C x∧A x∧B x)∨R:= .inr (.inr (.inr (.inl ⟨a,c,h,k⟩)))
theorem oe {P P2 P3 P4 R:Prop} {A B:α→Prop} (h:A a) (k:B a):P∨P2∨P3∨P4∨(∃x,A x∧B x)∨R:= .inr (.inr (.inr (.inr (.inl ⟨a,h,k⟩))))
theorem ow {P P2 P3 P4 P5 R:Prop} {A B:α→β→Prop} (h:A a b) (k:B a b):P∨P2∨P3∨P4∨P5∨(∃x y,e=e∧A x y∧B x y)∨R:= .inr (.inr (.inr (.inr (.inr (.inl ⟨a,b,rfl,h,k⟩)))))
theorem om.{z} {D:α→Prop} {A:α→β→γ→Prop} {ζ:Sort z} {B:α→ζ→β→γ→Prop} {b:β} {c:γ} {P P2 P3 P4 P5 P6 P7 R:Prop} (a:α) (p:ζ) (h:A a b c) (k:B a p b c) (d:D a:=by rfl):P∨P2∨P3∨P4∨P5∨P6∨P7∨(∃x p y z,D x∧A x y z∧B x p y z)∨R:= .inr (.inr (.inr (.inr (.inr (.inr (.inr (.inl ⟨a,p,b,c,d,h,k⟩)))))))
theorem ov {P P2 P3 P4 P5 P6 R:Prop} {C A B:α→β→Prop} (h:A a b) (k:B a b) (c:C a b:=by rfl):P∨P2∨P3∨P4∨P5∨P6∨(∃x y,A x y∧C x y∧B x y)∨R:= .inr (.inr (.inr (.inr (.inr (.inr (.inl ⟨a,b,h,c,k⟩))))))
end
section
variable {α A B C:Type} {σ:Env} {h:Heap} {c:vK} {Q:Exit→Env→Heap→Prop}
def I0 (xs:List α) (J:Nat→Prop) (f:Nat→List (Nat×AV)) (g:Nat→Heap) (m:Nat) (l:List (Nat×AV)) (h:Heap):Prop:=∃i,m=xs.length - i∧i≤xs.length∧J i∧l=f i∧h=g i
def I1 (xs:List α) (J:Nat→A→Prop) (f:Nat→A→List (Nat×AV)) (g:Nat→A→Heap) (m:Nat) (l:List (Nat×AV)) (h:Heap):Prop:=∃i a,m=xs.length - i∧i≤xs.length∧J i a∧l=f i a∧h=g i a
def I2 (xs:List α) (J:Nat→A→B→Prop) (f:Nat→A→B→List (Nat×AV)) (g:Nat→A→B→Heap) (m:Nat) (l:List (Nat×AV)) (h:Heap):Prop:=∃i a b,m=xs.length - i∧i≤xs.length∧J i a b∧l=f i a b∧h=g i a b
def I3 (xs:List α) (J:Nat→A→B→C→Prop) (f:Nat→A→B→C→List (Nat×AV)) (g:Nat→A→B→C→Heap) (m:Nat) (l:List (Nat×AV)) (h:Heap):Prop:=∃i a b c,m=xs.length - i∧i≤xs.length∧J i a b c∧l=f i a b c∧h=g i a b c
theorem d8 (xs:List α) (J:Nat→Prop) (f:Nat→List (Nat×AV)) (g:Nat→Heap) (j:J 0) (H:∀i,i≤xs.length→J i→c (Env.of (f i)) (g i) (sY (I0 xs J f g) (xs.length - i) Q))
 (w:fZ σ h (f 0) (g 0):=by repeat' first|exact rfl|exact trivial|refine aj ?_ ?_):mO c σ h Q:=
 ⟨I0 xs J f g,⟨_,_,_,⟨0,rfl,Qas _,j,rfl,rfl⟩,w⟩,fun _ _ _ ⟨i,e,hi,hj,el,eh⟩=>by subst e el eh;exact H i hi hj⟩
theorem kO (xs:List α) (J:Nat→A→Prop) (f:Nat→A→List (Nat×AV)) (g:Nat→A→Heap) {a:A} (j:J 0 a) (H:∀i a,i≤xs.length→J i a→c (Env.of (f i a)) (g i a) (sY (I1 xs J f g) (xs.length - i) Q))
 (w:fZ σ h (f 0 a) (g 0 a):=by repeat' first|exact rfl|exact trivial|refine aj ?_ ?_):mO c σ h Q:=
 ⟨I1 xs J f g,⟨_,_,_,⟨0,a,rfl,Qas _,j,rfl,rfl⟩,w⟩,fun _ _ _ ⟨i,a,e,hi,hj,el,eh⟩=>by subst e el eh;exact H i a hi hj⟩
theorem LL (xs:List α) (J:Nat→A→B→Prop) (f:Nat→A→B→List (Nat×AV)) (g:Nat→A→B→Heap) {a:A} {b:B} (j:J 0 a b) (H:∀i a b,i≤xs.length→J i a b→c (Env.of (f i a b)) (g i a b) (sY (I2 xs J f g) (xs.length - i) Q))
 (w:fZ σ h (f 0 a b) (g 0 a b):=by repeat' first|exact rfl|exact trivial|refine aj ?_ ?_):mO c σ h Q:=
 ⟨I2 xs J f g,⟨_,_,_,⟨0,a,b,rfl,Qas _,j,rfl,rfl⟩,w⟩,fun _ _ _ ⟨i,a,b,e,hi,hj,el,eh⟩=>by subst e el eh;exact H i a b hi hj⟩
theorem nd {a b:Int} (h:a=b):AV.d (.int .i64 a)=AV.d (.int .i64 b):=by rw[h]
theorem aa {k n:Nat} (h:k<n) (hn:n≤big):IntKind.i64.wrap ((k:Int)+1)=((k+1:Nat):Int):=by
 unfold big at hn;rw[IntKind.wrap_i64];omega
variable {xs:List α} {i n:Nat} {l:List (Nat×AV)}
abbrev Up (i:Nat):Prop:=IntKind.i64.wrap ((i:Int)+1)=((i+1:Nat):Int)
theorem bJ {J:Nat→Prop} {f:Nat→List (Nat×AV)} {g:Nat→Heap} (ht:i<xs.length) (hb:xs.length≤big) (j:J (i+1))
 (w:Up i→fZ σ h (f (i+1)) (g (i+1)):=by intro hw;repeat' first|exact rfl|exact trivial|exact nd hw|refine aj ?_ ?_):∃k' l' h'',I0 xs J f g k' l' h''∧k'<xs.length - i∧fZ σ h l' h'':=
 ⟨_,_,_,⟨i+1,rfl,ht,j,rfl,rfl⟩,by omega,w (aa ht hb)⟩
theorem cH {J:Nat→A→Prop} {f:Nat→A→List (Nat×AV)} {g:Nat→A→Heap} (a:A) (ht:i<xs.length) (hb:xs.length≤big) (j:J (i+1) a)
 (w:Up i→fZ σ h (f (i+1) a) (g (i+1) a):=by intro hw;repeat' first|exact rfl|exact trivial|exact nd hw|refine aj ?_ ?_):∃k' l' h'',I1 xs J f g k' l' h''∧k'<xs.length - i∧fZ σ h l' h'':=
 ⟨_,_,_,⟨i+1,a,rfl,ht,j,rfl,rfl⟩,by omega,w (aa ht hb)⟩
theorem B8 {J:Nat→A→B→Prop} {f:Nat→A→B→List (Nat×AV)} {g:Nat→A→B→Heap} (a:A) (b:B) (ht:i<xs.length) (hb:xs.length≤big) (j:J (i+1) a b)
 (w:Up i→fZ σ h (f (i+1) a b) (g (i+1) a b):=by intro hw;repeat' first|exact rfl|exact trivial|exact nd hw|refine aj ?_ ?_):∃k' l' h'',I2 xs J f g k' l' h''∧k'<xs.length - i∧fZ σ h l' h'':=
 ⟨_,_,_,⟨i+1,a,b,rfl,ht,j,rfl,rfl⟩,by omega,w (aa ht hb)⟩
end
theorem bl:(∀b,(true&&b)=b)∧(∀b,(b&&true)=b)∧(∀b,(false&&b)=false)∧(∀b,(b&&false)=false)∧(∀b,(true||b)=true)∧(∀b,(b||true)=true)∧(∀b,(false||b)=b)∧(∀b,(b||false)=b)∧(!true)=false∧(!false)=true∧∀b,(!!b)=b:=by simp
end Go.Vc
end
section
namespace Go.Vc
mutual
def AV.past:AV→AV
 | .agg cs=> .agg (f9 cs)
 | .tup cs=> .tup (f9 cs)
 | .fn f cs=> .fn f (f9 cs)
 | .bfn f cs=> .bfn f (f9 cs)
 | .iface t x=> .iface t (AV.past x)
 | .any=> .any
 | .d x=> .d x
 | .nils=> .nils
 | .val v=> .val v
 | .at_ ds=> .at_ ds
 | .ptr _ _=> .any
 | .rptr _ _ _ _=> .any
 | .own _=> .any
 | .nest _ _ _ _ _=> .any
 | .mapr _=> .any
termination_by structural x=>x
def f9:List AV→List AV
 |[]=>[]
 |c::cs=>AV.past c::f9 cs
termination_by structural x=>x
end
def lO (ρ:Operand→AV):Op→Option (Nat×List AV)
 | .call c=>match c.callee with
   | .value f=>match ρ f with
     | .val (.func (.yield l) ⟨[]⟩ ⟨[]⟩)=>some (l,c.args.toList.map ρ)
     |_=>none
   |_=>none
 |_=>none
def AV.flat1:AV→AV
 | .d (.list _)=> .any
 | .d x=> .d x
 | .val v=> .val v
 |_=> .any
def xP (ρ:Operand→AV):Op→Option AV
 | .move x=>some (ρ x)
 | .assign x=>some (ρ x)
 | .unOp .not _ x=>match ρ x with
   | .d (.bool b)=>some (.d (.bool (!b)))
   | .val (.bool b)=>some (.val (.bool (!b)))
   |_=>none
 | .pick c a b=>match ρ c with
   | .d (.bool t)=>some (yc t (ρ a) (ρ b))
   | .val (.bool t)=>some (bif t then ρ a else ρ b)
   |_=>none
 |_=>none
def HF (l:Nat) (xs:List (List AV→Prop)) (n:Nat) (d:Option Nat) (l':Nat) (args:List AV) (j:Nat) (σ:Env) (K:Option Nat→Env→Heap→Prop):Prop:=
 l'=l∧(∃X,xs[j]? =some X∧∀x,thinL args x→X x)∧
  K (some (j+1)) (Env.putO (fun i=>(σ i).past) n d (.val (.bool true))) hp0∧K none (Env.putO (fun i=>(σ i).flat1) n d (.val (.bool false))) hp0
noncomputable def zh (T:List (Nat×TI)) (S:bg) (l:Nat) (xs:List (List AV→Prop)) (n:Nat) (o:Oper) (k:Option Nat) (σ:Env) (h:Heap) (K:Option Nat→Env→Heap→Prop):Prop:=match k with
 |some j=>match lO (ev σ) o.op with
  |some (l',args)=>HF l xs n o.dst l' args j σ K
  |none=>bq T S (ev σ) h o.op fun r h' m=>j9 σ m n o.dst r fun σ'=>qL o.op h' fun h''=>K (some j) σ' h''
 |none=>match xP (ev σ) o.op with
  |some r=>j9 σ (.sub []) n o.dst r fun σ'=>K none σ' h
  |none=>False
noncomputable def xd (T:List (Nat×TI)) (S:bg) (l0:Nat) (xs:List (List AV→Prop)) (n:Nat) (ops:Array Oper) (o:Oper) (ih:Option Nat→Env→Heap→(Option Nat→Env→Heap→Prop)→Prop) (k:Option Nat) (σ:Env) (h:Heap) (K:Option Nat→Env→Heap→Prop):Prop:=
 match o.guard with
 |none=>zh T S l0 xs n o k σ h fun k σ h=>ih k σ h K
 |some (g,want)=>match (ops[g]?).bind (·.dst) with
  |none=>False
  |some gd=>match σ gd with
   | .d (.bool b)=>
     br want b (zh T S l0 xs n o k (σ.put gd (.val (.bool want))) h fun k σ h=>ih k σ h K)
        (ih k ((σ.put gd (.val (.bool (!want)))).putO n o.dst (.val undef)) h K)
   | .val (.bool b)=>match b==want with
     |true=>zh T S l0 xs n o k σ h fun k σ h=>ih k σ h K
     |false=>ih k (σ.putO n o.dst (.val undef)) h K
   | .val (.tuple _)=>ih k (σ.putO n o.dst (.val undef)) h K
   |_=>False
noncomputable def xe (T:List (Nat×TI)) (S:bg) (l0:Nat) (xs:List (List AV→Prop)) (n:Nat) (ops:Array Oper) (l:List Oper):Option Nat→Env→Heap→(Option Nat→Env→Heap→Prop)→Prop:=
 List.rec (motive:=fun _=>Option Nat→Env→Heap→(Option Nat→Env→Heap→Prop)→Prop) (fun k σ h K=>K k σ h) (fun o _ ih=>xd T S l0 xs n ops o ih) l
theorem zg {T:List (Nat×TI)} {S:bg} {l0:Nat} {xs:List (List AV→Prop)} {n:Nat} {ops:Array Oper} {o:Oper} {l:List Oper} {k:Option Nat} {σ:Env} {h:Heap} {K:Option Nat→Env→Heap→Prop}:
 xe T S l0 xs n ops (o::l) k σ h K=xd T S l0 xs n ops o (xe T S l0 xs n ops l) k σ h K:=rfl
abbrev KC:=Option Nat→Env→Heap→(Exit→Option Nat→Env→Heap→Prop)→Prop
def J2 (b:KC) (Q:Exit→Option Nat→Env→Heap→Prop) (e:Exit) (k:Option Nat) (σ:Env) (h:Heap):Prop:=match e with
 | .normal=>b k σ h Q
 |e=>Q e k σ h
def CO (id:Nat) (Q:Exit→Option Nat→Env→Heap→Prop) (e:Exit) (k:Option Nat) (σ:Env) (h:Heap):Prop:=match e with
 | .exit id'=>bif QaJ id' id then Q .normal k σ h else Q (.exit id') k σ h
 |e=>Q e k σ h
def IY (Q:Exit→Option Nat→Env→Heap→Prop):Exit→Option Nat→Env→Heap→Prop
 | .goto _,_,_,_=>False
 |e,k,σ,h=>Q e k σ h
def I6 (I:Nat→Nat→List (Nat×AV)→Heap→Prop) (m:Nat) (Q:Exit→Option Nat→Env→Heap→Prop) (e:Exit) (k:Option Nat) (σ:Env) (h:Heap):Prop:=match e with
 | .normal=>∃j m' l' h'',k=some j∧I m' j l' h''∧m'<m∧fZ σ h l' h''
 |e=>Q e k σ h
def xn (c:Operand) (t e:KC) (k:Option Nat) (σ:Env) (h:Heap) (Q:Exit→Option Nat→Env→Heap→Prop):Prop:=match ev σ c with
 | .d (.bool b)=>(b=true→t k σ h Q)∧(b=false→e k σ h Q)
 | .val (.bool b)=>match b with
   |true=>t k σ h Q
   |false=>e k σ h Q
 |_=>False
def HG (c:KC) (k:Option Nat) (σ:Env) (h:Heap) (Q:Exit→Option Nat→Env→Heap→Prop):Prop:=
 ∃I:Nat→Nat→List (Nat×AV)→Heap→Prop,(∃j m l h',k=some j∧I m j l h'∧fZ σ h l h')∧∀m j l h1,I m j l h1→c (some j) (Env.of l) h1 (I6 I m Q)
noncomputable def D8 (T:List (Nat×TI)) (S:bg) (l0:Nat) (xs:List (List AV→Prop)) (n:Nat) (ops:Array Oper) (draw:Bool) (k:Option Nat) (σ:Env) (h:Heap) (Q:Exit→Option Nat→Env→Heap→Prop):Prop:=match draw with
 |false=>xe T S l0 xs n ops ops.toList k σ h (Q .normal)
 |true=>match k with
  |some j=>eX T S n ops true σ h fun e σ h=>Q e (some j) σ h
  |none=>False
noncomputable def KI (T:List (Nat×TI)) (S:bg) (l0:Nat) (xs:List (List AV→Prop)) (n:Nat) (c:Code):KC:=
 Code.rec (motive:=fun _=>KC) (skip:=fun k σ h Q=>Q .normal k σ h) (region:=fun _ ops draw=>D8 T S l0 xs n ops draw)
  (seq:=fun _ _ iha ihb k σ h Q=>iha k σ h (J2 ihb Q)) (cond:=fun c _ _ t e=>xn c t e)
  (block:=fun id _ ih k σ h Q=>ih k σ h (CO id Q)) (loop:=fun _ ih=>HG ih)
  (rangeFunc:=fun _ _ _ _ _ _ _ _ _ _=>False)
  (exit:=fun id k σ h Q=>Q (.exit id) k σ h) (scope:=fun _ ih k σ h Q=>ih k σ h (IY Q)) (label:=fun _ k σ h Q=>Q .normal k σ h) (goto:=fun _ _ _ _ _=>False)
  (ret:=fun k σ h Q=>Q .ret k σ h) (refuse:=fun _ _ _ _ _=>False) c
section
variable {P:Program} {ro:Option Nat} {q:Md} {T:List (Nat×TI)} {N N0 Nf:Nat→Prop} {w0 w w':World} {n:Nat} {σ σ':Env} {h h':Heap} {a:Act} {ν ν' ν0:Nat→Value} {xs:List (List AV→Prop)}
theorem Rv.past (k:CellsKeep N w w'):∀{as:List AV} {vs:List Value},Rv w N ν as vs→Rv w' N ν' (f9 as) vs:=by
 intro as vs h
 induction h with
 |nil=>exact .nil
 |any v _ ih=>exact .any v ih
 |d h1 _ ih=>exact .d (h1.cells k) ih
 |nils _ ih=>exact .nils ih
 |val v _ ih=>exact .val v ih
 |agg ys _ _ ih1 ih2=>exact .agg ys ih1 ih2
 |tup ys _ _ ih1 ih2=>exact .tup ys ih1 ih2
 |ptr off _ _ ih=>exact .any _ ih
 |at_ A cells hne h1 h2 _ ih=>
  refine .at_ A cells hne (h1.cells k) ?_ ih;rcases h2 with h|⟨b,o,e,hb,hc⟩
  ·exact .inl h
  ·exact .inr ⟨b,o,e,hb,fun j v hv=>k.2 _ _ hb (hc j v hv)⟩
 |rptr i off sz _ _ _ ih=>exact .any _ ih
 |own _ _ ih=>exact .any _ ih
 |nest _ _ _ _ _ _ _ _ ih=>exact .any _ ih
 |mapr _ _ ih=>exact .any _ ih
 |fn f ys _ _ ih1 ih2=>exact .fn f ys ih1 ih2
 |bfn f ys _ _ ih1 ih2=>exact .bfn f ys ih1 ih2
 |iface t _ _ ih1 ih2=>
  simp only[f9] at ih1;exact .iface t ih1 ih2
theorem Rv.thinC:∀{as:List AV} {vs:List Value},Rv w N ν as vs→∃x,Vc.thinC as x∧∀w' N' ν',Rv w' N' ν' x vs:=by
 intro as vs h
 induction h with
 |nil=>exact ⟨[],rfl,fun _ _ _=> .nil⟩
 |any v _ ih=>obtain ⟨x,h1,h2⟩:=ih;exact ⟨.any::x,⟨x,rfl,h1⟩,fun _ _ _=> .any v (h2 _ _ _)⟩
 |@d as vs x v h1 _ ih=>
  obtain ⟨y,h3,h2⟩:=ih
  cases x with
  |list rows=>
   obtain ⟨A,cap,sz,cells,rfl,_⟩:=im (ν:=ν) (.d h1 .nil)
   exact ⟨.d (.raw (.slice A rows.length cap))::y,⟨A,cap,y,rfl,h3⟩,fun _ _ _=> .d (.raw _ rfl .nil) (h2 _ _ _)⟩
  |int k m=>cases h1 with|int _ _ _=>exact ⟨.d (.int k m)::y,⟨y,rfl,h3⟩,fun _ _ _=> .d (.int _ _ .nil) (h2 _ _ _)⟩
  |bool b=>cases h1 with|bool _ _=>exact ⟨.d (.bool b)::y,⟨y,rfl,h3⟩,fun _ _ _=> .d (.bool _ .nil) (h2 _ _ _)⟩
  |str s=>cases h1 with|str _ hs _=>exact ⟨.d (.str s)::y,⟨y,rfl,h3⟩,fun _ _ _=> .d (.str _ hs .nil) (h2 _ _ _)⟩
  |fn f=>cases h1 with|fn _ _=>exact ⟨.d (.fn f)::y,⟨y,rfl,h3⟩,fun _ _ _=> .d (.fn _ .nil) (h2 _ _ _)⟩
  |raw v=>cases h1 with|raw _ hv _=>exact ⟨.d (.raw v)::y,⟨y,rfl,h3⟩,fun _ _ _=> .d (.raw _ hv .nil) (h2 _ _ _)⟩
 |nils _ ih=>obtain ⟨x,h1,h2⟩:=ih;exact ⟨.nils::x,⟨x,rfl,h1⟩,fun _ _ _=> .nils (h2 _ _ _)⟩
 |val v _ ih=>obtain ⟨x,h1,h2⟩:=ih;exact ⟨.val v::x,⟨x,rfl,h1⟩,fun _ _ _=> .val v (h2 _ _ _)⟩
 |agg ys _ _ _ ih=>obtain ⟨x,h1,h2⟩:=ih;exact ⟨.any::x,⟨x,rfl,h1⟩,fun _ _ _=> .any _ (h2 _ _ _)⟩
 |tup ys _ _ _ ih=>obtain ⟨x,h1,h2⟩:=ih;exact ⟨.any::x,⟨x,rfl,h1⟩,fun _ _ _=> .any _ (h2 _ _ _)⟩
 |ptr off _ _ ih=>obtain ⟨x,h1,h2⟩:=ih;exact ⟨.any::x,⟨x,rfl,h1⟩,fun _ _ _=> .any _ (h2 _ _ _)⟩
 |at_ A cells _ _ _ _ ih=>obtain ⟨x,h1,h2⟩:=ih;exact ⟨.any::x,⟨x,rfl,h1⟩,fun _ _ _=> .any _ (h2 _ _ _)⟩
 |rptr i off sz _ _ _ ih=>obtain ⟨x,h1,h2⟩:=ih;exact ⟨.any::x,⟨x,rfl,h1⟩,fun _ _ _=> .any _ (h2 _ _ _)⟩
 |nest _ _ _ _ _ _ _ _ ih=>obtain ⟨x,h1,h2⟩:=ih;exact ⟨.any::x,⟨x,rfl,h1⟩,fun _ _ _=> .any _ (h2 _ _ _)⟩
 |own _ _ ih=>obtain ⟨x,h1,h2⟩:=ih;exact ⟨.any::x,⟨x,rfl,h1⟩,fun _ _ _=> .any _ (h2 _ _ _)⟩
 |mapr _ _ ih=>obtain ⟨x,h1,h2⟩:=ih;exact ⟨.any::x,⟨x,rfl,h1⟩,fun _ _ _=> .any _ (h2 _ _ _)⟩
 |fn f ys _ _ _ ih=>obtain ⟨x,h1,h2⟩:=ih;exact ⟨.any::x,⟨x,rfl,h1⟩,fun _ _ _=> .any _ (h2 _ _ _)⟩
 |bfn f ys _ _ _ ih=>obtain ⟨x,h1,h2⟩:=ih;exact ⟨.any::x,⟨x,rfl,h1⟩,fun _ _ _=> .any _ (h2 _ _ _)⟩
 |iface t _ _ _ ih=>obtain ⟨x,h1,h2⟩:=ih;exact ⟨.any::x,⟨x,rfl,h1⟩,fun _ _ _=> .any _ (h2 _ _ _)⟩
theorem Rv.thinL:∀{as:List AV} {vs:List Value},Rv w N ν as vs→∃x,Vc.thinL as x∧∀w' N' ν',Rv w' N' ν' x vs
 |[],vs,h=>by cases h;exact ⟨[],rfl,fun _ _ _=> .nil⟩
 |a::as,vs,h=>by
  obtain ⟨v,r,rfl,h1,h2⟩:=h.cons_inv;obtain ⟨y,g1,g2⟩:=Rv.thinL h2;by_cases ha:∃cs,a= .agg cs
  ·obtain ⟨cs,rfl⟩:=ha
   obtain ⟨ys,rfl,h3⟩:=je h1;obtain ⟨x,g3,g4⟩:=h3.thinC;exact ⟨.agg x::y,⟨x,y,rfl,g3,g1⟩,fun _ _ _=> .agg _ (g4 _ _ _) (g2 _ _ _)⟩
  ·obtain ⟨x,g3,g4⟩:=h1.thinC
   refine ⟨x++y,?_,fun _ _ _=>(g4 _ _ _).append (g2 _ _ _)⟩
   cases a with
   |agg cs=>exact absurd ⟨cs,rfl⟩ ha
   |_=>exact ⟨x,y,rfl,g3,g1⟩
theorem Fx {o:Oper} {l:Nat} {args:Array Value} {R:Ending→World→Prop} {next:Act→World→Prop} {Q:Exit→Act→World→Prop}
 (hr:(execOp a.eval o).run P w=(Instr.yield l args).run P w) (h:YieldAt (G none) 0 P l args w R) (hn:∀e w',R e w'→∃v,e= .returned v∧next (a.put o.dst v) w'):o.wpIn (G none) 0 P a w next Q:=by
 obtain ⟨fn,tmps,assign,body,h1,h2⟩:=h;refine ⟨fun _ _=>trivial,?_⟩;have e:=iw (ro:=none) (fun d h=>by cases h) (hr.trans h1);show o.uponIn (G none) 0 P a next Q ((o.semAt none a.eval).run P w)
 rw[e];refine ⟨fun h=>by simp[G,Fence.wide] at h,h2.mono fun e w'' hR=>?_⟩;obtain ⟨v,rfl,hv⟩:=hn e w'' hR;exact hv
theorem ny {o:Oper} {l:Nat} {args:List AV} (hy:lO (ev σ) o.op=some (l,args)) (s:St q N0 w0 Nf n ν0 σ h a w ν):
 ∃(vs:List Value),Rv w (nN N0 ν) ν args vs∧((execOp a.eval o).run P w=(Instr.yield l vs.toArray).run P w):=by
 unfold lO at hy;split at hy
 ·rename_i c hop
  split at hy
  ·rename_i f hc
   split at hy
   ·rename_i l e
    simp only[Qac,QaA] at hy;obtain ⟨rfl,hy⟩:=hy;have hf:=aD s f;rw[e] at hf;have h1:=eu hf;refine ⟨c.args.toList.map a.eval,by rw[←hy];exact iL s _,?_⟩;have harr: #[]++c.args.map a.eval=(c.args.toList.map a.eval).toArray:=by apply Array.ext';simp
    unfold execOp;rw[hop];simp only[resolve,hc,h1,Deferred.ofValue,Sem.run_bind,Sem.run_pure,Qaz,invoke];rw[show ({toList:=[]}:Array Value)++Array.map a.eval c.args=(c.args.toList.map a.eval).toArray from harr]
   ·cases hy
  ·cases hy
 ·cases hy
theorem A3 {x:AV} {v:Value} (hr:Rv w N ν [x] [v]) (w':World) (N':Nat→Prop) (ν':Nat→Value):Rv w' N' ν' [x.flat1] [v]:=by
 cases x with
 |d x=>
  cases hr with
  |d h1 _=>
   cases x with
   |list rows=>exact .any _ .nil
   |int k m=>cases h1;exact .d (.int _ _ .nil) .nil
   |bool b=>cases h1;exact .d (.bool _ .nil) .nil
   |str s=>cases h1 with|str _ hs _=>exact .d (.str _ hs .nil) .nil
   |fn f=>cases h1;exact .d (.fn _ .nil) .nil
   |raw v=>cases h1 with|raw _ hv _=>exact .d (.raw _ hv .nil) .nil
 |val u=>rw[eu hr];exact .val _ .nil
 |_=>exact .any _ .nil
variable {wc:World} {νc:Nat→Value} {hc:Heap}
def Zs (n:Nat) (σ:Env) (a:Act):Prop:=(∀i w N ν,Rv w N ν [σ i] [a.tmps.getD i undef])∧a.tmps.size=n∧a.defers=[]
def Ys (N0:Nat→Prop) (wc:World) (νc:Nat→Value) (hc:Heap) (n:Nat) (xs:List (List AV→Prop)) (J Jx:List (Elem wc (nN N0 νc) νc xs)→World→Prop) (k:Option Nat) (σ:Env) (h:Heap) (a:Act) (w:World):Prop:=match k with
 |some j=>∃w1 ν,St ⟨true,false,[]⟩ (nN N0 νc) w1 (fun _=>False) n (fun _=>undef) σ h a w ν∧Hp N0 w1 νc hc∧CellsKeep (nN N0 νc) wc w1∧∃pre:List (Elem wc (nN N0 νc) νc xs),pre.map (·.1.1)=List.range j∧j≤xs.length∧J pre w1
 |none=>Zs n σ a∧∃pre,Jx pre w
variable {J Jx:List (Elem wc (nN N0 νc) νc xs)→World→Prop} {k:Option Nat} {l0:Nat}
theorem Zs.ev (s:Zs n σ a) (x:Operand) (w:World) (N:Nat→Prop) (ν:Nat→Value):Rv w N ν [ev σ x] [a.eval x]:=by
 cases x with
 |tmp t=>exact s.1 t w N ν
 |const v=>exact G8 v
 |func f=>exact .fn f [] .nil .nil
 |global g=>exact .any _ .nil
theorem Zs.put (s:Zs n σ a) (d:Option Nat) {r:AV} {v:Value} (hr:∀w N ν,Rv w N ν [r] [v]):Zs n (σ.putO n d r) (a.put d v):=
 ⟨fun i w N ν=>dA (fun i=>s.1 i w N ν) s.2.1 d (hr w N ν) i,by rw[e9,s.2.1],by rw[dq,s.2.2]⟩
theorem Zs.know (s:Zs n σ a) {k:Nat} {x:AV} (hx:∀w N ν,Rv w N ν [x] [a.tmps.getD k undef]):Zs n (σ.put k x) a:=by
 refine ⟨fun j w N ν=>?_,s.2⟩;unfold Env.put;by_cases e:j=k
 ·subst e;rw[ga];exact hx w N ν
 ·rw[eQ e];exact s.1 j w N ν
theorem vY {o:Oper} {r:AV} (hs:xP (ev σ) o.op=some r) (s:Zs n σ a) (w:World):∃v,(execOp a.eval o).run P w= .ok (.value v) w∧∀w N ν,Rv w N ν [r] [v]:=by
 unfold xP at hs;split at hs
 ·rename_i x hop
  cases hs;exact ⟨a.eval x,by unfold execOp;rw[hop];rfl,s.ev x⟩
 ·rename_i x hop
  cases hs;exact ⟨a.eval x,by unfold execOp;rw[hop];rfl,s.ev x⟩
 ·rename_i xt x hop
  have he:execOp a.eval o=(do pure (Next.value (←Op.unary .not (a.eval x)))):=by unfold execOp;rw[hop]
  have hx:=s.ev x w (fun _=>False) (fun _=>undef);split at hs
  ·rename_i b e
   cases hs;rw[e] at hx;rw[bU hx] at he;exact ⟨.bool (!b),aq he rfl,fun _ _ _=> .d (.bool _ .nil) .nil⟩
  ·rename_i b e
   cases hs;rw[e] at hx;rw[eu hx] at he;exact ⟨.bool (!b),aq he rfl,fun _ _ _=> .val _ .nil⟩
  ·cases hs
 ·rename_i c x y hop
  have he:execOp a.eval o=(do pure (Next.value (if←asBool (a.eval c) then a.eval x else a.eval y))):=by unfold execOp;rw[hop]
  have hc:=s.ev c w (fun _=>False) (fun _=>undef);split at hs
  ·rename_i t e
   cases hs;rw[e] at hc;refine ⟨if t=true then a.eval x else a.eval y,?_,fun w N ν=>Dh (s.ev x w N ν) (s.ev y w N ν)⟩;rw[he,bU hc];rfl
  ·rename_i t e
   cases hs;rw[e] at hc;refine ⟨if t=true then a.eval x else a.eval y,?_,fun w N ν=>?_⟩
   ·rw[he,eu hc]
    rfl
   ·cases t
    ·exact s.ev y w N ν
    ·exact s.ev x w N ν
  ·cases hs
 ·cases hs
theorem Ys.slot (s:Ys N0 wc νc hc n xs J Jx k σ h a w) (i:Nat):∃w N ν,Rv w N ν [σ i] [a.tmps.getD i undef]:=by
 cases k with
 |some j=>obtain ⟨w1,ν,s,_⟩:=s;exact ⟨_,_,_,s.slots i⟩
 |none=>exact ⟨w,fun _=>False,fun _=>undef,s.1.1 i _ _ _⟩
theorem Ys.ev (s:Ys N0 wc νc hc n xs J Jx k σ h a w) (x:Operand):∃w N ν,Rv w N ν [ev σ x] [a.eval x]:=by
 cases k with
 |some j=>obtain ⟨w1,ν,s,_⟩:=s;exact ⟨_,_,_,aD s x⟩
 |none=>exact ⟨w,fun _=>False,fun _=>undef,s.1.ev x _ _ _⟩
theorem Ys.know (s:Ys N0 wc νc hc n xs J Jx k σ h a w) {i:Nat} {x:AV} (hx:∀w N ν,Rv w N ν [x] [a.tmps.getD i undef]):Ys N0 wc νc hc n xs J Jx k (σ.put i x) h a w:=by
 cases k with
 |some j=>obtain ⟨w1,ν,s,r⟩:=s;exact ⟨w1,ν,s.know (hx _ _ _),r⟩
 |none=>exact ⟨s.1.know hx,s.2⟩
theorem Ys.skip (s:Ys N0 wc νc hc n xs J Jx k σ h a w) (d:Option Nat):Ys N0 wc νc hc n xs J Jx k (σ.putO n d (.val undef)) h (a.put d undef) w:=by
 cases k with
 |some j=>obtain ⟨w1,ν,s,r⟩:=s;exact ⟨w1,ν,s.skip d,r⟩
 |none=>exact ⟨s.1.put d (fun _ _ _=> .val _ .nil),s.2⟩
theorem Kp.grownBy (k:Kp (fun _=>False) w w'):w.grownBy w' none:=⟨k.os,k.tape,k.output,k.size,fun b hb _=>k.blk b hb (fun g=>g)⟩
theorem Hp.grew (hp:Hp N0 w ν h) (k:Kp (fun _=>False) w w'):Hp N0 w' ν h:=by
 have hb:∀b,b<w.heap.size→w'.heap[b]? =w.heap[b]? :=fun b hb=>k.blk b hb (fun h=>h);have m:Mv w (nN N0 ν) w' (nN N0 ν):=⟨k.size,fun b hlt hN=>⟨hN,hb b hlt⟩⟩
 exact ⟨fun id o hl=>Ro.keep m (fun _ _=>rfl) (fun b g=>hb b (hp.bnd id b g)) (hp.objs id o hl),hp.inj,fun i b g=>Qaf (hp.bnd i b g) k.size,hp.dom,
  fun b hb'=>Qaf (hp.n0 b hb') k.size,hp.dis,hp.lw.mv (fun b _ hlt=>hb b hlt)⟩
theorem CellsKeep.grew (k:Kp (fun _=>False) w w'):CellsKeep N w w':=
 ⟨k.size,fun a v _ hc=>by rw[World.cell?_of_block (k.blk a.block (cell?_lt hc) (fun g=>g))];exact hc⟩
theorem kR (hT:bi P T=true) {l:Nat} {B:Nat} (hAJ:AbidesFrom B J)
 (hY:∀pre x W1,J pre W1→pre.length<xs.length→YieldAt (G none) 0 P l x.1.2 W1 fun e W'=>
   (e= .returned (.bool true)∧J (pre++[x]) W'∧KpI N0 νc hc W1 W')∨(e= .returned (.bool false)∧Jx (pre++[x]) W'))
 {o:Oper} {K:Option Nat→Env→Heap→Prop} {next:Act→World→Prop} {Q:Exit→Act→World→Prop} (hn:∀k σ h a w,K k σ h→Ys N0 wc νc hc n xs J Jx k σ h a w→next a w)
 (s:Ys N0 wc νc hc n xs J Jx k σ h a w) (hv:zh T (dF P) l xs n o k σ h K):o.wpIn (G none) 0 P a w next Q:=by
 unfold zh at hv
 cases k with
 |some j=>
  obtain ⟨w1,ν,s,hp,hck,pre,hpre,hj,hJ⟩:=s;simp only at hv;split at hv
  ·rename_i l' args hy
   obtain ⟨rfl,⟨X,hX,hthin⟩,hk1,hk2⟩:=hv;obtain ⟨vs,hvs,hr⟩:=ny (P:=P) hy s;have hJw:=hAJ pre w1 w none hJ s.kp.grownBy (fun r e=>by cases e);have hjl:j<xs.length:=(List.getElem?_eq_some_iff.1 hX).1;have hlen:pre.length=j:=by have:=congrArg List.length hpre;simpa using this
   obtain ⟨y,hy1,hy2⟩:=hvs.thinL;have hXj:xs[j]=X:=(List.getElem?_eq_some_iff.1 hX).2
   let x:Elem wc (nN N0 νc) νc xs:=⟨(j,vs.toArray),hjl,y,by rw[hXj];exact hthin y hy1,by simpa using hy2 wc (nN N0 νc) νc⟩
   have hpw:=hp.grew s.kp;refine Fx hr (hY pre x w hJw (by rw[hlen];exact hjl)) ?_;rintro e w' (⟨rfl,hJ',hk⟩|⟨rfl,hJx⟩)
   ·refine ⟨_,rfl,hn _ _ _ _ _ hk1 ⟨w',fun _=>undef,?_,hk.1 hpw,(hck.trans (CellsKeep.grew s.kp)).trans hk.2,pre++[x],?_,hjl,hJ'⟩⟩
    ·have hNe:nN (nN N0 νc) (fun _=>undef)=nN N0 νc:=by
      funext b
      simp[nN]
     have hkN:CellsKeep (nN N0 νc) w w':=hk.2
     have hsl:∀i,Rv w' (nN N0 νc) (fun _=>undef) [(σ i).past] [a.tmps.getD i undef]:=fun i=>by
      have h0:=s.slots i;have hck:CellsKeep (nN (nN N0 νc) ν) w w':=⟨hkN.1,fun a v g=>hkN.2 a v (fun g'=>g (.inl g'))⟩;have:=Rv.past (ν':=fun _=>undef) hck h0;simp only[f9] at this;have m:Mv w' (nN (nN N0 νc) ν) w' (nN N0 νc):=⟨Qad _,fun b _ hb=>⟨fun g=>hb (.inl g),rfl⟩⟩;exact this.mv m (fun id g=>absurd rfl g)
     refine ⟨fun i=>?_,⟨?_,?_,?_,fun _ _=>rfl,?_,?_,(hk.1 hpw).lw.nN νc⟩,Kp.refl _ _,?_,by rw[e9,s.size],?_,⟨fun _ g=>absurd rfl g,fun _ _ g=>absurd rfl g⟩,⟨Qad _,fun _ _=>rfl⟩⟩
     ·rw[hNe]
      exact dA hsl s.size o.dst (.val _ .nil) i
     ·intro id o ho;simp[Vc.look,hp0] at ho
     ·intro i j b g;simp at g
     ·intro i b g;simp at g
     ·exact (hk.1 hpw).all
     ·intro i b g;simp at g
     ·intro i b g;simp at g
     ·rw[dq,s.defers.1 rfl];exact Dfr.nil _ _ _ _
    ·rw[List.map_append,hpre,List.range_succ];rfl
   ·refine ⟨_,rfl,hn _ _ _ _ _ hk2 ⟨⟨fun i w N ν'=>dA (fun i=>A3 (s.slots i) w N ν') s.size o.dst (.val _ .nil) i,by rw[e9,s.size],by rw[dq];exact s.defers.1 rfl⟩,_,hJx⟩⟩
  ·exact dK hT s hv fun r h' m a' w' ν' hk hs=>hn _ _ _ _ _ (heapK_iff.1 (putK_iff.1 hk)) ⟨w1,ν',hs,hp,hck,pre,hpre,hj,hJ⟩
 |none=>
  simp only at hv;split at hv
  ·rename_i r hs
   obtain ⟨v,h1,h2⟩:=vY (P:=P) hs s.1 w;exact bD h1 (hn _ _ _ _ _ (putK_iff.1 hv) ⟨s.1.put o.dst h2,s.2⟩)
  ·exact hv.elim
theorem dJ (hT:bi P T=true) {l:Nat} {B:Nat} (hAJ:AbidesFrom B J)
 (hY:∀pre x W1,J pre W1→pre.length<xs.length→YieldAt (G none) 0 P l x.1.2 W1 fun e W'=>
   (e= .returned (.bool true)∧J (pre++[x]) W'∧KpI N0 νc hc W1 W')∨(e= .returned (.bool false)∧Jx (pre++[x]) W'))
 {ops:Array Oper} {K:Option Nat→Env→Heap→Prop} {Q:Exit→Act→World→Prop} (hK:∀k σ h a w,K k σ h→Ys N0 wc νc hc n xs J Jx k σ h a w→Q .normal a w):∀(rest:List Oper) {k:Option Nat} {σ:Env} {h:Heap} {a:Act} {w:World},
 Ys N0 wc νc hc n xs J Jx k σ h a w→xe T (dF P) l xs n ops rest k σ h K→wpListIn (G none) 0 P ops Q rest a w
 |[],k,σ,h,a,w,s,hv=>hK _ _ _ _ _ hv s
 |o::rest,k,σ,h,a,w,s,hv=>by
  rw[zg] at hv;unfold xd at hv;unfold wpListIn;split at hv
  ·rename_i hg
   rw[if_pos (by simp[Region.wanted,hg])];exact kR hT hAJ hY (fun k σ h a w hk hs=>dJ hT hAJ hY hK rest hs hk) s hv
  ·rename_i g want hg
   split at hv
   ·exact hv.elim
   ·rename_i gd hd
    obtain ⟨wx,Nx,νx,hsl⟩:=s.slot gd;split at hv
    ·rename_i b hb
     rw[hb] at hsl;have hw:=dY (ops:=ops) hg hd (iK hsl);have hval:∀c,b=c→∀w N ν,Rv w N ν [.val (.bool c)] [a.tmps.getD gd undef]:=fun c e w N ν=>by rw[bU hsl,e];exact .val _ .nil
     by_cases e:b=want
     ·rw[if_pos (by rw[hw];simp[e])]
      exact kR hT hAJ hY (fun k σ h a w hk hs=>dJ hT hAJ hY hK rest hs hk) (s.know (hval _ e)) (y3 hv e)
     ·have e':b= !want:=by cases b<;>cases want<;>simp_all
      rw[if_neg (by rw[hw];simp[e])];exact ⟨fun _ _=>trivial,dJ hT hAJ hY hK rest ((s.know (hval _ e')).skip o.dst) (DT hv e')⟩
    ·rename_i b hb
     rw[hb] at hsl;have hw:=dY (ops:=ops) hg hd (jL hsl);cases hbw:(b==want)<;>rw[hbw] at hv hw
     ·rw[if_neg (by rw[hw];simp)]
      exact ⟨fun _ _=>trivial,dJ hT hAJ hY hK rest (s.skip o.dst) hv⟩
     ·rw[if_pos hw]
      exact kR hT hAJ hY (fun k σ h a w hk hs=>dJ hT hAJ hY hK rest hs hk) s hv
    ·rename_i ys hb
     rw[hb] at hsl;rw[if_neg (by rw[ig hg hd hsl];simp)];exact ⟨fun _ _=>trivial,dJ hT hAJ hY hK rest (s.skip o.dst) hv⟩
    ·exact hv.elim
theorem Ys.weak {j:Nat} {l:List (Nat×AV)} (hw:fZ σ h l h') (s:Ys N0 wc νc hc n xs J Jx (some j) σ h a w):Ys N0 wc νc hc n xs J Jx (some j) (Env.of l) h' a w:=by
 obtain ⟨w1,ν,s,r⟩:=s;obtain ⟨ν1,s1,_⟩:=s.weak hw;exact ⟨w1,ν1,s1,r⟩
theorem D4 (hT:bi P T=true) (hm:P.follows .mixedOrders=true) {l:Nat} {B:Nat} (hAJ:AbidesFrom B J)
 (hY:∀pre x W1,J pre W1→pre.length<xs.length→YieldAt (G none) 0 P l x.1.2 W1 fun e W'=>
   (e= .returned (.bool true)∧J (pre++[x]) W'∧KpI N0 νc hc W1 W')∨(e= .returned (.bool false)∧Jx (pre++[x]) W')):
 ∀(c:Code) {k:Option Nat} {σ:Env} {h:Heap} {a:Act} {w:World} {Qa:Exit→Option Nat→Env→Heap→Prop} {Q:Exit→Act→World→Prop},
 KI T (dF P) l xs n c k σ h Qa→(∀e k σ h a w,Qa e k σ h→Ys N0 wc νc hc n xs J Jx k σ h a w→Q e a w)→Ys N0 wc νc hc n xs J Jx k σ h a w→c.wpIn (G none) 0 P Q a w:=by
 intro c
 induction c with
 |skip=>intro k σ h a w Qa Q hv hQ s;exact wpIn_skip (hQ _ _ _ _ _ _ hv s)
 |region id ops draw=>
  intro k σ h a w Qa Q hv hQ s
  cases draw with
  |false=>exact wpIn_region_list (dJ hT hAJ hY (fun k σ h a w hk hs=>hQ _ _ _ _ _ _ hk hs) ops.toList s hv)
  |true=>
   cases k with
   |none=>exact hv.elim
   |some j=>
    obtain ⟨w1,ν,s,r⟩:=s
    replace hv:eX T (dF P) n ops true σ h fun e σ h=>Qa e (some j) σ h:=hv
    exact fK hT hm (fun σ h a w ν hk hs=>hQ _ (some j) _ _ _ _ hk (show ∃w1 ν,_ from ⟨w1,ν,hs,r⟩)) s hv
 |seq x y ihx ihy=>
  intro k σ h a w Qa Q hv hQ s;refine wpIn_seq (ihx hv ?_ s);intro e k' σ' h' a' w' hk hs
  cases e with
  |normal=>exact ihy hk hQ hs
  |_=>exact hQ _ _ _ _ _ _ hk hs
 |cond c x y ihx ihy=>
  intro k σ h a w Qa Q hv hQ s
  replace hv:xn c (KI T (dF P) l xs n x) (KI T (dF P) l xs n y) k σ h Qa:=hv
  unfold xn at hv;obtain ⟨wx,Nx,νx,hc⟩:=s.ev c;split at hv
  ·rename_i b e
   rw[e] at hc;refine wpIn_cond (bU hc) ?_
   cases b with
   |true=>exact ihx (hv.1 rfl) hQ s
   |false=>exact ihy (hv.2 rfl) hQ s
  ·rename_i b e
   rw[e] at hc;refine wpIn_cond (eu hc) ?_
   cases b with
   |true=>exact ihx hv hQ s
   |false=>exact ihy hv hQ s
  ·exact hv.elim
 |block id c ih=>
  intro k σ h a w Qa Q hv hQ s;refine wpIn_block (ih hv ?_ s);intro e k' σ' h' a' w' hk hs
  cases e with
  |exit id'=>
   simp only[Exit.inBlock];by_cases e:id'=id
   ·subst e
    rw[if_pos rfl];simp only[CO,ga,cond_true] at hk;exact hQ _ _ _ _ _ _ hk hs
   ·rw[if_neg e]
    simp only[CO,eQ e,cond_false] at hk
    exact hQ _ _ _ _ _ _ hk hs
  |_=>exact hQ _ _ _ _ _ _ hk hs
 |loop c ih=>
  intro k σ h a w Qa Q hv hQ s;obtain ⟨I,⟨j,m,l1,h1,rfl,hI,hw⟩,hr⟩:=hv;refine nz (fun m a w=>∃j l1 h1,I m j l1 h1∧Ys N0 wc νc hc n xs J Jx (some j) (Env.of l1) h1 a w) ?_ m a w ⟨j,l1,h1,hI,s.weak hw⟩;intro m a w ⟨j,l1,h1,hI,s1⟩;refine ih (hr m j l1 h1 hI) ?_ s1;intro e k' σ' h' a' w' hk hs
  cases e with
  |normal=>
   obtain ⟨j',m',l',h'',rfl,hI',hlt,hw'⟩:=hk
   exact ⟨m',hlt,j',l',h'',hI',hs.weak hw'⟩
  |_=>exact hQ _ _ _ _ _ _ hk hs
 |exit id=>intro k σ h a w Qa Q hv hQ s;exact wpIn_exit (hQ _ _ _ _ _ _ hv s)
 |ret=>intro k σ h a w Qa Q hv hQ s;exact wpIn_ret (hQ _ _ _ _ _ _ hv s)
 |rangeFunc g ps x y ihx ihy=>intro k σ h a w Qa Q hv;exact hv.elim
 |scope c ih=>
  intro k σ h a w Qa Q hv hQ s;refine iR (ih hv ?_ s);intro e k' σ' h' a' w' hk hs
  cases e with
  |goto l=>exact hk.elim
  |_=>exact hQ _ _ _ _ _ _ hk hs
 |label l=>intro k σ h a w Qa Q hv hQ s;exact wpIn_label (hQ _ _ _ _ _ _ hv s)
 |goto l=>intro k σ h a w Qa Q hv;exact hv.elim
 |refuse why=>intro k σ h a w Qa Q hv;exact hv.elim
end
def Lm (m:Nat):Exit→Option Nat→Env→Heap→Prop
 | .normal,k,_,_=>k=none∨k=some m
 | .ret,k,_,_=>k=none∨k=some m
 |_,_,_,_=>False
theorem Ck {P:Program} {T:List (Nat×TI)} (hT:bi P T=true) (hm:P.follows .mixedOrders=true) {f:FuncId} {fn:Func} {c:Code} {caps:List AV} {hc:Heap} {xs:List (List AV→Prop)}
 (hf:P.funcs[f]? =some fn) (hn:(fn.name== "runtime.NumGoroutine")=false) (hb:fn.body=some c) (hres:fn.results= #[]) (hlen:Qak (caps.length+1) fn.ntmps=true) (hp:f9 caps=caps)
 (hv:∀l,dQ caps→KI T (dF P) l xs fn.ntmps c (some 0) (Env.args (.val (.func (.yield l) #[] #[])::caps)) hp0 (Lm xs.length)):(dF P).iter f caps hc xs:=by
 refine ⟨⟨fn,hf,hn,by rw[hb];rfl⟩,fun N0 w ν lb hhp hargs=>?_⟩;intro l J Jx W hW hAJ _ hY h0;have hck:CellsKeep (nN N0 ν) w W:=⟨hW.size,fun a v _ hcell=>by rw[World.cell?_of_block (hW.block a.block (cell?_lt hcell))];exact hcell⟩;have hkW:Kp (fun _=>False) w W:=⟨hW.os,hW.tape,hW.output,hW.size,fun b hb _=>hW.block b hb⟩;have hpW:=hhp.grew hkW
 have hargsW:Rv W (nN N0 ν) (fun _=>undef) caps lb:=by
  have:=Rv.past (ν':=fun _=>undef) hck hargs
  rwa [hp] at this
 have hall:Rv W (nN N0 ν) (fun _=>undef) (.val (.func (.yield l) #[] #[])::caps) (.func (.yield l) #[] #[]::lb):= .val _ hargsW;have hle:=Qab hlen;have hl:=hargs.length;refine callsIn_of_wp (F:=G none) hf hb trivial ?_;have earr: #[Value.func (.yield l) #[] #[]]++lb.toArray=(Value.func (.yield l) #[] #[]::lb).toArray:=by apply Array.ext';simp
 rw[earr]
 have hNe:nN (nN N0 ν) (fun _=>undef)=nN N0 ν:=by
  funext b
  simp[nN]
 have s:Ys N0 w ν hc fn.ntmps xs J Jx (some 0) (Env.args (.val (.func (.yield l) #[] #[])::caps)) hp0 {tmps:=(Value.func (.yield l) #[] #[]::lb).toArray++Array.replicate (fn.ntmps - (Value.func (.yield l) #[] #[]::lb).toArray.size) undef,defers:=[]} W:=by
  refine ⟨W,fun _=>undef,⟨fun k=>?_,⟨?_,?_,?_,fun _ _=>rfl,hpW.all,?_,hpW.lw.nN ν⟩,Kp.refl _ _,?_,by simp;omega,Dfr.nil _ _ _ _,⟨fun _ g=>absurd rfl g,fun _ _ g=>absurd rfl g⟩,Qad _,fun _ _=>rfl⟩,hpW,hck,[],rfl,Qas _,h0⟩
  ·rw[hNe]
   simp only[Env.args];generalize (AV.val (.func (.yield l) #[] #[])::caps)=as at*;generalize (Value.func (.yield l) #[] #[]::lb)=vs at*
   cases hq:as[k]? with
   |none=>exact .any _ .nil
   |some v=>
    obtain ⟨u,h1,h2⟩:=hall.get hq
    have:(vs.toArray++Array.replicate (fn.ntmps - vs.toArray.size) undef).getD k undef=u:=by
      have hk:k<vs.length:=(List.getElem?_eq_some_iff.1 h1).1;rw[Qae,Qai (by simpa using hk)];simp[h1]
    rw[this];exact h2
  ·intro id o ho;simp[Vc.look,hp0] at ho
  all_goals (intro i;simp[bG,undef])
 refine D4 hT hm hAJ hY c (hv l hargs.ok) ?_ s;intro e k σ h a w' hk s'
 have fin:(k=none∨k=some xs.length)→a.defers=[]∧∃v,(results fn a.tmps).run P w'= .ok v w'∧(∃v',Ending.returned v=Ending.returned v')∧
  ((∃ys:List (Elem w (nN N0 ν) ν xs),ys.map (fun y=>y.1.1)=List.range xs.length∧J ys w')∨(∃pre,True∧Jx pre w')):=by
  rintro (rfl|rfl)
  ·obtain ⟨s',pre,hJ⟩:=s'
   exact ⟨s'.2.2,_,results_none hres _ _ _,⟨_,rfl⟩,.inr ⟨pre,trivial,hJ⟩⟩
  ·obtain ⟨w1,ν1,s',_,_,pre,g1,_,hJ⟩:=s'
   exact ⟨s'.defers.1 rfl,_,results_none hres _ _ _,⟨_,rfl⟩,.inl ⟨pre,g1,hAJ pre w1 w' none hJ s'.kp.grownBy (fun r e=>by cases e)⟩⟩
 cases e with
 |normal=>exact fin hk
 |ret=>exact fin hk
 |_=>exact hk.elim
end Go.Vc
end
section
namespace Go.Vc
noncomputable def HL (l:List Oper):Option (List Oper×Oper×Call×List Oper):=
 List.rec (motive:=fun _=>Option (List Oper×Oper×Call×List Oper)) none (fun o l ih=>match o.op with
  | .defer c=>some ([],o,c,l)
  |_=>match ih with|some (i,z,c,t)=>some (o::i,z,c,t)|none=>none) l
abbrev KD:=Option (FuncId×List AV)→Exit→Env→Heap→Prop
def Hc:List AV→Bool
 |[]=>true
 | .ptr _ _::r=>Hc r
 |_::_=>false
noncomputable def K1 (T:List (Nat×TI)) (S:bg) (n:Nat) (ops:Array Oper) (draw:Bool) (σ:Env) (h:Heap) (K:KD):Prop:=match draw with
 |true=>eX T S n ops true σ h (K none)
 |false=>match HL ops.toList with
  |none=>hU T S n ops ops.toList σ h (K none .normal)
  |some (i,z,c,t)=>(z.guard.isNone&&c.args.toList.isEmpty)=true∧hU T S n ops i σ h fun σ1 h1=>match c.callee with
   | .value f=>match ev σ1 f with
     | .fn g caps=>(Hc caps&&z.dst.isNone)=true∧hU T S n ops t σ1 ⟨h1.objs,h1.nx,h1.nx⟩ (K (some (g,caps)) .normal)
     |_=>False
   |_=>False
def K5 (b:Env→Heap→KD→Prop) (b':vK) (K:KD):KD
 |none,.normal,σ,h=>b σ h K
 |none,e,σ,h=>K none e σ h
 |some d,.normal,σ,h=>b' σ h (K (some d))
 |some d,e,σ,h=>K (some d) e σ h
noncomputable def Lp (T:List (Nat×TI)) (S:bg) (n:Nat) (c:Code):Env→Heap→KD→Prop:=
 Code.rec (motive:=fun _=>Env→Heap→KD→Prop) (skip:=fun σ h K=>K none .normal σ h) (region:=fun _ ops draw=>K1 T S n ops draw)
  (seq:=fun _ b iha ihb σ h K=>iha σ h (K5 ihb (y9 T S n b true) K)) (cond:=fun c x y _ _ σ h K=>y9 T S n (.cond c x y) true σ h (K none))
  (block:=fun id x _ σ h K=>y9 T S n (.block id x) true σ h (K none)) (loop:=fun x _ σ h K=>y9 T S n (.loop x) true σ h (K none))
  (rangeFunc:=fun _ _ _ _ _ _ _ _ _=>False)
  (exit:=fun id σ h K=>K none (.exit id) σ h) (scope:=fun x _ σ h K=>y9 T S n (.scope x) true σ h (K none)) (label:=fun _ σ h K=>K none .normal σ h) (goto:=fun _ _ _ _=>False)
  (ret:=fun σ h K=>K none .ret σ h) (refuse:=fun _ _ _ _=>False) c
def LT (g:FuncId) (vs:List Value):Deferred:={target:= .fn (.func g) vs.toArray,args:= #[]}
section
variable {P:Program} {ro:Option Nat} {q:Md} {T:List (Nat×TI)} {N0 Nf:Nat→Prop} {w0 w w' w1 w2:World} {n n2:Nat} {σ σ' σ2:Env} {h h' h2:Heap} {a a2:Act} {ν ν' ν0 ν1 ν2:Nat→Value} {fx:Bool}
structure Th (fx:Bool) (N0:Nat→Prop) (w0:World) (Nf:Nat→Prop) (ν0:Nat→Value) (l:List (Nat×AO)) (nx:Nat) (w:World) (ν:Nat→Value):Prop where
 hp:Hp N0 w ν ⟨l,nx,0⟩
 kp:Kp Nf w0 w
 fresh:∀i b,Ow (ν i) b→w0.heap.size≤b∨Nf b
 keep:(∀i,ν0 i≠undef→(∀A m c,ac (ν0 i)≠ .slice A m c)→ν i=ν0 i)∧(fx=true→∀i,ν0 i≠undef→ac (ν i)=ac (ν0 i))
structure LC (N0:Nat→Prop) (w0:World) (Nf:Nat→Prop) (n:Nat) (ν0:Nat→Value) (fx:Bool) (caps:List AV) (w1:World) (ν1:Nat→Value) (vs:List Value):Prop where
 st:∃σ h a,St ⟨true,fx,[]⟩ N0 w0 Nf n ν0 σ h a w1 ν1
 cb:Hc caps=true
 rv:Rv w1 (nN N0 ν1) ν1 caps vs
def IM (K:Exit→Env→Heap→Prop) (σ:Env):Exit→Env→Heap→Prop
 | .normal,_,h=>K .ret (fun k=>AV.noOwn (σ k)) ⟨h.objs,h.nx,0⟩
 | .ret,_,h=>K .ret (fun k=>AV.noOwn (σ k)) ⟨h.objs,h.nx,0⟩
 |_,_,_=>False
def LA (T:List (Nat×TI)) (S:bg) (g:FuncId) (n':Nat) (c':Code) (K:Exit→Env→Heap→Prop):KD
 |none,e,σ,h=>K e σ h
 |some (g',caps),.normal,σ,h=>QaJ g' g=true∧Qak caps.length n'=true∧y9 T S n' c' true (Env.args caps) ⟨h.objs,h.nx,h.nx⟩ (IM K σ)
 |some (g',caps),.ret,σ,h=>QaJ g' g=true∧Qak caps.length n'=true∧y9 T S n' c' true (Env.args caps) ⟨h.objs,h.nx,h.nx⟩ (IM K σ)
 |_,_,_,_=>False
theorem CU {N:Nat→Prop} {args:List AV} {vs:List Value} {k n:Nat} (h:Rv w N ν args vs):Rv w N ν [(Env.args args) k] [(vs.toArray++Array.replicate (n - vs.toArray.size) undef).getD k undef]:=by
 simp only[Env.args]
 cases hq:args[k]? with
 |none=>exact .any _ .nil
 |some v=>
  obtain ⟨u,h1,h2⟩:=h.get hq
  have:(vs.toArray++Array.replicate (n - vs.toArray.size) undef).getD k undef=u:=by
   have hk:k<vs.length:=(List.getElem?_eq_some_iff.1 h1).1;rw[Qae,Qai (by simpa using hk)];simp[h1]
  rw[this];exact h2
end
def LD (N0:Nat→Prop) (w:World) (ν0:Nat→Value) (l1:List (Nat×AO)) (k:Nat) (r:AV) (e:Ending) (w':World):Prop:=∃v' ν',e=Ending.returned v'∧Hp N0 w' ν' ⟨l1,k,0⟩∧Rv w' (nN N0 ν') ν' [r] [v']∧
 Kp (fun b=>∃id,Ow (ν0 id) b) w w'∧(∀id,ν0 id≠undef→(∀A m c,ac (ν0 id)≠ .slice A m c)→ν' id=ν0 id)∧(∀id b,Ow (ν' id) b→(∃j,Ow (ν0 j) b)∨w.heap.size≤b)∧(0:Nat)=hp0.lo∧hp0.nx≤k
end Go.Vc
end
section
namespace Go.Vc
inductive Rg (A B:Prop):Prop
 |go (h:A)
 |pan (h:B)
theorem rg {A B:Prop} (h:A):Rg A B:= .go h
abbrev EP:=AV→Env→Heap→Prop
noncomputable def rZ (S:bg) (f:FuncId) (args:List AV) (σ:Env) (h:Heap) (E:EP):Prop:=
 ∃ids r h',gu ids=true∧(match j4 ids h with|some hc=>S.pan f (aG (ly ids) args) hc r h'|none=>False)∧
  fW (AV.map (iQ ids h.nx) r) fun r=>cq (d9 ids h h') fun h1=>E r (σ.ren (.tsub [])) h1
noncomputable def BA (T:List (Nat×TI)) (S:bg) (σ:Env) (h:Heap) (o:Op) (E:EP):Prop:=match o with
 | .panic x=>match ev σ x with
   | .iface t v=>E (.iface t v) σ h
   |_=>False
 | .call c=>match c.callee with
   | .value f=>match ev σ f with
     | .fn f caps=>rZ S f (c.args.toList.map (ev σ)++caps) σ h E
     | .bfn f first=>rZ S f (first++c.args.toList.map (ev σ)) σ h E
     |_=>False
   | .invoke x name=>match ev σ x with
     | .iface t v=>match look T t with
       |some ti=>match ti.kind with
        | .ptr=>False
        |_=>match ti.meths.lookup name with
         |some f=>rZ S f (v::c.args.toList.map (ev σ)) σ h E
         |none=>False
       |none=>False
     |_=>False
   |_=>False
 |_=>False
noncomputable def FE (T:List (Nat×TI)) (S:bg) (n:Nat) (ops:Array Oper) (σ:Env) (h:Heap) (E:EP):Prop:=∃k,match ops.toList.drop k with
 |o::_=>o.guard.isNone=true∧hU T S n ops (ops.toList.take k) σ h fun σ1 h1=>BA T S σ1 h1 o.op E
 |[]=>False
section
variable {P:Program} {ro:Option Nat} {q:Md} {T:List (Nat×TI)} {N0 Nf:Nat→Prop} {w0 w w':World} {n:Nat} {σ σ':Env} {h h':Heap} {a:Act} {ν ν' ν0:Nat→Value}
theorem Fy {o:Oper} {v:Value} {next:Act→World→Prop} {Q:Exit→Act→World→Prop} (hd:∀c,o.op≠ .defer c) (hr:(execOp a.eval o).run P w= .halt (.panic v) w') (hq:Q (.panic [{v:=v,recovered:=false}]) a w'):o.wpIn (G ro) 0 P a w next Q:=by
 refine ⟨fun _ _=>trivial,?_⟩;have e:(o.semAt (G ro).round a.eval).run P w= .halt (.panic v) w':=by rw[Oper.semAt_eq _ _ _ hd];exact hr
 show o.uponIn (G ro) 0 P a next Q _
 rw[e,Oper.uponIn_panic];exact hq
theorem DY {o:Oper} {f:FuncId} {args:Array Value} {next:Act→World→Prop} {Q:Exit→Act→World→Prop}
 (hr:(execOp a.eval o).run P w= .ok (.enter f args) w') (h:Calls P f args w' fun e w''=>∃v,e=K7 v∧Q (.panic [{v:=v,recovered:=false}]) a w''):o.wpIn (G ro) 0 P a w next Q:=by
 refine ⟨fun _ _=>trivial,?_⟩;have e:=iw (ro:=ro) (fun d h=>by cases h) hr;show o.uponIn (G ro) 0 P a next Q ((o.semAt ro a.eval).run P w)
 rw[e];refine ⟨fun h=>by simp[G,Fence.wide] at h,Hd (h.mono fun e w'' ⟨v,he,hn⟩=>?_)⟩;subst he;exact hn
theorem jT (s:St q N0 w0 Nf n ν0 σ h a w ν) {o:Oper} {f:FuncId} {args:List AV} {vs:List Value} (hargs:Rv w (nN N0 ν) ν args vs) {E:EP} {next:Act→World→Prop} {Q:Exit→Act→World→Prop}
 (hv:rZ (am P q.fx) f args σ h E) (hrun:uI P f→(execOp a.eval o).run P w= .ok (.enter f vs.toArray) w)
 (hE:∀r σ h a w ν v,E r σ h→St q N0 w0 Nf n ν0 σ h a w ν→Rv w (nN N0 ν) ν [r] [v]→Q (.panic [{v:=v,recovered:=false}]) a w):o.wpIn (G ro) 0 P a w next Q:=by
 obtain ⟨ids,r,h',hnd,hc,hk⟩:=hv;split at hc
 ·rename_i hc' hsub
  obtain ⟨he,hcon⟩:=hc;refine DY (hrun he) ((ue K7 s hargs hnd hsub (.inl rfl) hcon).mono fun e w' ⟨v,ν2,he',s2,hr⟩=>⟨v,he',?_⟩);exact hE _ _ _ _ _ _ _ (forceH_iff.1 (forceV_iff.1 hk)) s2 hr
 ·exact hc.elim
theorem xh (hT:bi P T=true) (s:St q N0 w0 Nf n ν0 σ h a w ν) {o:Oper} {E:EP} {next:Act→World→Prop} {Q:Exit→Act→World→Prop}
 (hv:BA T (am P q.fx) σ h o.op E)
 (hE:∀r σ h a w ν v,E r σ h→St q N0 w0 Nf n ν0 σ h a w ν→Rv w (nN N0 ν) ν [r] [v]→Q (.panic [{v:=v,recovered:=false}]) a w):o.wpIn (G ro) 0 P a w next Q:=by
 unfold BA at hv;split at hv
 ·rename_i x hop
  split at hv
  ·rename_i t v e
   have hx:=aD s x;rw[e] at hx;obtain ⟨u,h1,h2⟩:=k8 hx;refine Fy (v:= .iface t u) (fun c hc=>by rw[hop] at hc;cases hc) ?_ (hE _ _ _ _ _ _ _ hv s (h1▸hx));unfold execOp;rw[hop];simp[Instr.panic,h1,goPanic]
  ·exact hv.elim
 ·rename_i c hop
  have harr:∀vs:List Value,(c.args.map a.eval++vs.toArray)=(c.args.toList.map a.eval++vs).toArray:=fun vs=>by apply Array.ext';simp
  split at hv
  ·rename_i f hc
   split at hv
   ·rename_i g caps e
    have hf:=aD s f;rw[e] at hf;obtain ⟨xs,h1,h2⟩:=Iz hf;exact jT s ((iL s c.args.toList).append h2) hv (fun he=>by rw[k9 hop hc h1 he,harr]) hE
   ·rename_i g first e
    have hf:=aD s f;rw[e] at hf;obtain ⟨xs,h1,h2⟩:=FW hf;exact jT s (h2.append (iL s c.args.toList)) hv (fun he=>by rw[og hop hc h1 he,show xs.toArray++c.args.map a.eval=(xs++c.args.toList.map a.eval).toArray from by apply Array.ext';simp]) hE
   ·exact hv.elim
  ·rename_i x name hc
   split at hv
   ·rename_i t v e
    have hf:=aD s x;rw[e] at hf;obtain ⟨u,h1,h2⟩:=k8 hf;split at hv
    ·rename_i ti hti
     have key:ti.kind≠ .ptr→(match ti.meths.lookup name with|some f=>rZ (am P q.fx) f (v::c.args.toList.map (ev σ)) σ h E|none=>False)→o.wpIn (G ro) 0 P a w next Q:=by
      intro hp hv;split at hv
      ·rename_i f hm
       refine jT s (h2.cons (iL s c.args.toList)) hv (fun he=>?_) hE;rw[kD hop hc h1 (ah hT hti) hp hm he]
       congr 2
       apply Array.ext';simp
      ·exact hv.elim
     split at hv
     ·exact hv.elim
     ·rename_i hp;exact key hp hv
    ·exact hv.elim
   ·exact hv.elim
  ·exact hv.elim
 ·exact hv.elim
end
abbrev LE (P:Program) (f:FuncId) (args:List AV) (h:Heap) (r:AV) (h':Heap):Prop:=(dF P).pan f args h r h'
def LQ (r:AV) (h1:Heap):EP:=fun r' σ h=>r'=r∧AV.lt h1.nx r=true∧fZ σ h [] h1
end Go.Vc
end
